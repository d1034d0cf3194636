/- sync.SumOf, sync.Chunks and the reference's SumFor, ChunksOf: contracts. -/
import Derived.Test.YtdgkknjapfdlaaaDoorCutof
namespace Go.Proofs.YtdgkknjapfdlaaaDoor.Cut
open Go.RowKit

theorem cutGo_sizes (s : ByteArray) (low bits high : Nat) (n : Nat) : ∀ i frm, ∀ x ∈ cutGo s low bits high i frm n, x.size ≤ s.size := by
  induction n with
  | zero => intro i frm x hx; simp [cutGo] at hx
  | succ n ih =>
    intro i frm x hx
    rw [cutGo] at hx
    split at hx
    · rcases List.mem_cons.1 hx with rfl | hx
      · rw [ByteArray.size_extract]; omega
      · exact ih _ _ x hx
    · exact ih _ _ x hx
theorem cutGo_len (s : ByteArray) (low bits high : Nat) (n : Nat) : ∀ i frm, (cutGo s low bits high i frm n).length ≤ n := by
  induction n with
  | zero => intro i frm; simp [cutGo]
  | succ n ih =>
    intro i frm
    rw [cutGo]
    split
    · have := ih (i + 1) (i + 1); simp only [List.length_cons]; omega
    · have := ih (i + 1) frm; omega
/-- The sums and lengths of parts. -/
def chunks (l : List ByteArray) : List (ByteArray × Int) := l.map fun p => (Hex.sumB p, (p.size : Int))

theorem sumOf_ok (s : ByteArray) (hs : s.size ≤ 100000) (w : World) (ht : Hex.Tab w) :
    Calls Tryd.prog 8 #[.string s] w fun e w' => e = .returned (.tuple #[.string (Hex.sumB s), .int .i64 0]) ∧ Below w.heap.size w w' := by
  have c1 := Hex.sumOf_any s (by omega) w ht
  go_enter Tryd.func8, Tryd.ntmps8
  go_wp2_with (go_at_call 31; refine c1.mono ?_; rintro e w' ⟨rfl, hb⟩)
  go_ret2
  exact ⟨rfl, hb⟩
theorem sumOf_large (s : ByteArray) (hs : ¬ s.size ≤ 100000) (w : World) :
    Calls Tryd.prog 8 #[.string s] w fun e w' => e = .returned (.tuple #[.string ⟨#[]⟩, .int .i64 2]) ∧ w' = w := by
  have h : 100000 < (s.size : Int) := by omega
  go_enter Tryd.func8, Tryd.ntmps8
  go_wp2
  go_ret2
  exact ⟨rfl, rfl⟩
theorem sumFor_ok (s : ByteArray) (hs : s.size ≤ 100000) (w : World) (ht : Hex.Tab w) :
    Calls Tryd.prog 9 #[.string s] w fun e w' => e = .returned (.tuple #[.string (Hex.sumB s), .int .i64 0]) ∧ Below w.heap.size w w' := by
  have c1 := Hex.sum_any s (by omega) w ht
  go_enter Tryd.func9, Tryd.ntmps9
  go_wp2_with (go_at_call 32; refine c1.mono ?_; rintro e w' ⟨rfl, hb⟩)
  go_ret2
  exact ⟨rfl, hb⟩
theorem sumFor_large (s : ByteArray) (hs : ¬ s.size ≤ 100000) (w : World) :
    Calls Tryd.prog 9 #[.string s] w fun e w' => e = .returned (.tuple #[.string ⟨#[]⟩, .int .i64 2]) ∧ w' = w := by
  have h : 100000 < (s.size : Int) := by omega
  go_enter Tryd.func9, Tryd.ntmps9
  go_wp2
  go_ret2
  exact ⟨rfl, rfl⟩

theorem info_chunk : (Tryd.prog.info? 37).map (fun i => (i.zero, i.size, i.bytes)) = some (some (.agg #[.string ⟨#[]⟩, .int .i64 0]), 2, 24) := by kernel_rfl
theorem chunks_bad (s : ByteArray) (low bits high : Int) (h : cutFault s low bits high ≠ 0) (w : World) :
    Calls Tryd.prog 11 #[.string s, .int .i64 low, .int .i64 bits, .int .i64 high] w fun e w' => e = .returned (.tuple #[.slice none 0 0, .int .i64 (cutFault s low bits high)]) ∧ w' = w := by
  have c1 := cut_bad s low bits high h
  generalize cutFault s low bits high = n at h c1 ⊢
  go_enter Tryd.func11, Tryd.ntmps11
  go_wp2_with (go_at_call 10; refine (c1 _).mono ?_; rintro e w' ⟨rfl, rfl⟩)
  go_ret2
  exact ⟨rfl, rfl⟩
theorem chunks_ok (s : ByteArray) (low bits high : Nat) (hs : s.size ≤ 100000) (h1 : 1 ≤ low) (h2 : low ≤ high) (h3 : high ≤ 100000) (h4 : bits ≤ 16) (w : World) (ht : Hex.Tab w) :
    Calls Tryd.prog 11 #[.string s, .int .i64 low, .int .i64 bits, .int .i64 high] w fun e w' => ∃ v, e = .returned (.tuple #[v, .int .i64 0]) ∧ B.Kd.chunk.S w' v (chunks (cuts s low bits high)) ∧ Below w.heap.size w w' := by
  have c1 := cut_ok s low bits high hs h1 h2 h3 h4 w
  have hln := cutGo_len s low bits high s.size 0 0
  have hsz := Lib.hid (cutGo_sizes s low bits high s.size 0 0)
  change (cuts s low bits high).length ≤ s.size at hln
  change Hid (∀ x ∈ cuts s low bits high, x.size ≤ s.size) at hsz
  generalize cuts s low bits high = l at c1 hln hsz ⊢
  clear h1 h2 h3 h4
  go_enter Tryd.func11, Tryd.ntmps11
  go_wp2_with (go_at_call 10; refine c1.mono ?_; rintro e w1 ⟨v, rfl, ⟨A1, cap1, rfl, S1⟩, HB1⟩)
  have HT := Lib.hid (ht.below HB1)
  clear ht
  go_loopw [12, 28] (fun s12 s28 wr => ∃ (k : Nat), s28 = .int .i64 k ∧ k ≤ l.length ∧ Hid (B.Own wr w1.heap.size 37 2 (fun c => [.string c.1, .int .i64 c.2]) s12 (chunks (l.take k))) ∧ Hid (Below w1.heap.size w1 wr)) (fun _ s28 _ => l.length - (intOf s28).toNat)
  case atStart => exact ⟨0, rfl, by omega, Lib.hid (B.Own.nil _ _ _ _ _), Lib.hid (Below.refl _ _)⟩
  case round =>
    obtain ⟨k, rfl, hk, HO, HB⟩ := hrel
    by_cases hlt : k < l.length
    · obtain ⟨b1, o1, cs1, rfl, K1, e1⟩ := S1.at k hlt
      obtain rfl : cs1 = [.string l[k]] := K1
      have f1 : wr.cell? ⟨b1, o1 + k, none⟩ = some (.string l[k]) := by simpa [B.Kd.str, B.Kd.flat] using B.cell_below HB.out (e1 0 (by simp))
      have hk1 : (k : Int) < l.length := by omega
      have hz := hsz.out _ (List.getElem_mem hlt)
      have c2 := Hex.sumOf_any l[k] (by omega) wr (HT.out.below HB.out)
      clear e1
      go_wp2_with (first | (go_at_call 31; refine c2.mono ?_; rintro e w2 ⟨rfl, HB2⟩) | (at_builtin; (refine B.wpl_append (w0 := w1) w1.heap.size rfl _ _ 28 37 (.agg #[.string ⟨#[]⟩, .int .i64 0]) 2 24 rfl Tryd.underlying28 info_chunk rfl (by decide) (by decide) (fun c => [.string c.1, .int .i64 c.2]) (fun _ => rfl) (by simp [Value.oneCell']) _ (chunks (l.take k)) (Hex.sumB l[k], (l[k].size : Int)) _ rfl (HO.out.below HB2) rfl rfl (B.below_trans HB.out HB2) (by have := HB.out.size; have := HB2.size; omega) (by simp [chunks]; omega) ?_)))
      intro v1 w3 HO3 HB3 _
      have HO4 : Hid (B.Own w3 w1.heap.size 37 2 (fun c => [.string c.1, .int .i64 c.2]) v1 (chunks (l.take (k + 1)))) := Lib.hid (by
        rw [← List.take_append_getElem hlt]
        unfold chunks at HO3 ⊢
        rw [List.map_append, List.map_singleton]
        exact HO3)
      have HB4 := Lib.hid HB3
      clear HO HB HO3 HB3 HB2 c2 hz
      go_wp2
      go_roundw
      case rel => exact ⟨k + 1, by go_num, by omega, HO4, HB4⟩
      case measure => simp [intOf]; omega
    · obtain rfl : k = l.length := by omega
      go_wp2
      go_ret2
      exact ⟨_, rfl, by rw [List.take_length] at HO; exact B.own_chunk HO.out (by simp [chunks]; omega), B.below_trans HB1 HB.out⟩
theorem chunksOf_ok (s : ByteArray) (low bits high : Nat) (hs : s.size ≤ 100000) (h1 : 1 ≤ low) (h2 : low ≤ high) (h3 : high ≤ 100000) (h4 : bits ≤ 16) (w : World) (ht : Hex.Tab w) :
    Calls Tryd.prog 17 #[.string s, .int .i64 low, .int .i64 bits, .int .i64 high] w fun e w' => ∃ v, e = .returned v ∧ B.Kd.chunk.S w' v (chunks (cuts s low bits high)) ∧ Below w.heap.size w w' := by
  have c1 := cutOf_ok s low bits high hs h1 h2 h3 h4 w
  have hln := cutGo_len s low bits high s.size 0 0
  have hsz := Lib.hid (cutGo_sizes s low bits high s.size 0 0)
  change (cuts s low bits high).length ≤ s.size at hln
  change Hid (∀ x ∈ cuts s low bits high, x.size ≤ s.size) at hsz
  generalize cuts s low bits high = l at c1 hln hsz ⊢
  clear h1 h2 h3 h4
  go_enter Tryd.func17, Tryd.ntmps17
  go_wp2_with (go_at_call 15; refine c1.mono ?_; rintro e w1 ⟨v, rfl, ⟨A1, cap1, rfl, S1⟩, HB1⟩)
  have HT := Lib.hid (ht.below HB1)
  clear ht
  go_loopw [9, 18] (fun s9 s18 wr => ∃ (k : Nat), s18 = .int .i64 k ∧ k ≤ l.length ∧ Hid (B.Own wr w1.heap.size 37 2 (fun c => [.string c.1, .int .i64 c.2]) s9 (chunks (l.take k))) ∧ Hid (Below w1.heap.size w1 wr)) (fun _ s18 _ => l.length - (intOf s18).toNat)
  case atStart => exact ⟨0, rfl, by omega, Lib.hid (B.Own.nil _ _ _ _ _), Lib.hid (Below.refl _ _)⟩
  case round =>
    obtain ⟨k, rfl, hk, HO, HB⟩ := hrel
    by_cases hlt : k < l.length
    · obtain ⟨b1, o1, cs1, rfl, K1, e1⟩ := S1.at k hlt
      obtain rfl : cs1 = [.string l[k]] := K1
      have f1 : wr.cell? ⟨b1, o1 + k, none⟩ = some (.string l[k]) := by simpa [B.Kd.str, B.Kd.flat] using B.cell_below HB.out (e1 0 (by simp))
      have hk1 : (k : Int) < l.length := by omega
      have hz := hsz.out _ (List.getElem_mem hlt)
      have c2 := Hex.sum_any l[k] (by omega) wr (HT.out.below HB.out)
      clear e1
      go_wp2_with (first | (go_at_call 32; refine c2.mono ?_; rintro e w2 ⟨rfl, HB2⟩) | (at_builtin; (refine B.wpl_append (w0 := w1) w1.heap.size rfl _ _ 28 37 (.agg #[.string ⟨#[]⟩, .int .i64 0]) 2 24 rfl Tryd.underlying28 info_chunk rfl (by decide) (by decide) (fun c => [.string c.1, .int .i64 c.2]) (fun _ => rfl) (by simp [Value.oneCell']) _ (chunks (l.take k)) (Hex.sumB l[k], (l[k].size : Int)) _ rfl (HO.out.below HB2) rfl rfl (B.below_trans HB.out HB2) (by have := HB.out.size; have := HB2.size; omega) (by simp [chunks]; omega) ?_)))
      intro v1 w3 HO3 HB3 _
      have HO4 : Hid (B.Own w3 w1.heap.size 37 2 (fun c => [.string c.1, .int .i64 c.2]) v1 (chunks (l.take (k + 1)))) := Lib.hid (by
        rw [← List.take_append_getElem hlt]
        unfold chunks at HO3 ⊢
        rw [List.map_append, List.map_singleton]
        exact HO3)
      have HB4 := Lib.hid HB3
      clear HO HB HO3 HB3 HB2 c2 hz
      go_wp2
      go_roundw
      case rel => exact ⟨k + 1, by go_num, by omega, HO4, HB4⟩
      case measure => simp [intOf]; omega
    · obtain rfl : k = l.length := by omega
      go_wp2
      go_ret
      exact ⟨_, rfl, by rw [List.take_length] at HO; exact B.own_chunk HO.out (by simp [chunks]; omega), B.below_trans HB1 HB.out⟩
end Go.Proofs.YtdgkknjapfdlaaaDoor.Cut
