/- The step at a moment (the reference's and the program's). -/
import Derived.Test.YtfillnkebohciaaGreatDoorComeP
import Derived.Test.YtfillnkebohciaaGreatDoorSmall
import Derived.Deep.QuietTactic
import Derived.BigQuiet
namespace Go.Proofs.YtfillnkebohciaaGreatDoor.Come
open Go.RowKit
open T (Step stK steps_at lng results_cell_tmp_row)

/-! ### the reference's StepAt -/
theorem set2 {w : World} {g : Nat} {a b a' b' : Value} {t : TypeId} {fr : Nat × Nat} (h : w.heap[g]? = some (.cells #[a, b] t fr)) :
    ((w.setCell ⟨g, 0, none⟩ a').setCell ⟨g, 1, none⟩ b').heap[g]? = some (.cells #[a', b'] t fr) := by
  simp [World.setCell, Array.getElem?_modify, h]
theorem below2 {B : Nat} {w W : World} (h : Below B w W) {g : Nat} (hg : B ≤ g) (u v : Value) : Below B w ((W.setCell ⟨g, 0, none⟩ u).setCell ⟨g, 1, none⟩ v) := (h.setCell hg u).setCell hg v
/-- A block that the call made first is as it was made. -/
theorem first_row {w W : World} {cs : Array Value} {t : TypeId} (h : Below (w.alloc (.cells cs t)).heap.size (w.alloc (.cells cs t)) W) : W.heap[w.heap.size]? = some (.cells cs t (0, 0)) := by
  rw [h.block _ (by simp), heap_alloc_new]
theorem tot_take {l : List Step} {k : Nat} (hk : k < l.length) : tot (l.take (k + 1)) = tot (l.take k) + l[k].2 := by
  rw [List.take_succ_eq_append_getElem hk, tot_app, tot, tot, Int.add_zero]
theorem ok_take {l : List Step} (h : Ok l) (k : Nat) : Ok (l.take k) := fun s hs => h s (List.mem_of_mem_take hs)
theorem ok_drop {l : List Step} (h : Ok l) (k : Nat) : Ok (l.drop k) := fun s hs => h s (List.mem_of_mem_drop hs)
theorem tot_in {l : List Step} (h : Ok l) (hl : l.length ≤ 5000) (k : Nat) : 0 ≤ tot (l.take k) ∧ tot (l.take k) ≤ 18000000000 := by
  have := tot_le (ok_take h k)
  have h2 := List.length_take_le k l
  have h3 : (l.take k).length ≤ 5000 := by rw [List.length_take]; omega
  omega
theorem stAt_drop {l : List Step} {k : Nat} (hk : k < l.length) (a b : Int) : stAt (l.drop k) a b = if a < b + l[k].2 then (l[k], b) else stAt (l.drop (k + 1)) a (b + l[k].2) := by
  rw [List.drop_eq_getElem_cons hk, stAt]
def StRes (R : Step × Int) (e : Ending) : Prop := e = .returned (.tuple #[.agg #[.string R.1.1, .int .i64 R.1.2], .int .i64 R.2])
set_option maxHeartbeats 4000000 in
set_option maxRecDepth 100000 in
theorem stepAt (A : Option Addr) (c : Nat) (l : List Step) (fr a : Int) (w : World) (h1 : stK.C w A l) (hok : Ok l) (hn : l ≠ []) (hl : l.length ≤ 5000) (h0 : 0 ≤ fr ∧ fr ≤ a ∧ a ≤ 1000000000000) :
    Calls Tryz.prog 24 #[.slice A l.length c, .int .i64 fr, .int .i64 a] w fun e w' => StRes (stAt l a (base l fr a)) e ∧ Below w.heap.size w w' := by
  have H1 := Lib.hid h1
  have HOK := Lib.hid hok
  have HA := Lib.hid ((Below.refl _ w).alloc (Nat.le_refl _) (.cells #[.string ⟨#[]⟩, .int .i64 0] 48))
  have HT1 := Lib.hid (tot_pos hok hn)
  have HT2 : Hid (0 ≤ tot l ∧ tot l ≤ 18000000000) := Lib.hid (by have := tot_in hok hl l.length; rwa [List.take_length] at this)
  obtain ⟨hbi1, hbi2⟩ := base_in hok hn fr a
  have hbi3 := base_ge (fr := fr) (a := a) hok hn h0.2.1
  have HBE : Hid (a - (a - fr) % tot l = base l fr a) := Lib.hid rfl
  have HR : Hid (stAt l a (base l fr a) = stAt l a (base l fr a)) := Lib.hid rfl
  generalize hR : stAt l a (base l fr a) = R at HR ⊢
  generalize base l fr a = BB at *
  have HRR := Lib.hid hR
  clear hR HR
  obtain ⟨h00, h01, h02⟩ := h0
  have HG := Lib.hid (fun (W : World) (hb : Below (w.alloc (.cells #[.string ⟨#[]⟩, .int .i64 0] 48)).heap.size (w.alloc (.cells #[.string ⟨#[]⟩, .int .i64 0] 48)) W) => (⟨B.cell_below hb (by rw [World.cell?_alloc_new]; rfl), B.cell_below hb (by rw [World.cell?_alloc_new]; rfl), Copy.frozen_new hb, first_row hb⟩ : W.cell? ⟨w.heap.size, 0, none⟩ = some (.string ⟨#[]⟩) ∧ W.cell? ⟨w.heap.size, 1, none⟩ = some (.int .i64 0) ∧ (∀ i, W.frozen? ⟨w.heap.size, i, none⟩ = false) ∧ W.heap[w.heap.size]? = some (.cells #[.string ⟨#[]⟩, .int .i64 0] 48 (0, 0))))
  clear h1 hok hn
  go_enter Tryz.func24, Tryz.ntmps24
  go_wp2
  go_loopw [8, 16] (fun s8 s16 wr => ∃ k : Nat, s16 = .int .i64 k ∧ s8 = .int .i64 (tot (l.take k)) ∧ k ≤ l.length ∧ Hid (Below (w.heap.size + 1) (w.alloc (.cells #[.string ⟨#[]⟩, .int .i64 0] 48)) wr)) (fun _ s _ => l.length - (intOf s).toNat)
  case atStart => exact ⟨0, rfl, rfl, Nat.zero_le _, Lib.hid (Below.refl _ _)⟩
  case round =>
    obtain ⟨k, rfl, rfl, hk, HB⟩ := hrel
    by_cases hlt : k < l.length
    · obtain ⟨b1, o1, rfl, f0, f1⟩ := steps_at (H1.out.mono (B.below_trans HA.out (HB.out.mono (by simp)))) k hlt
      have HTT := Lib.hid (tot_take hlt)
      have hb1 := tot_in HOK.out hl k
      have hb2 := HOK.out _ (List.getElem_mem hlt)
      obtain ⟨hb1, hb1'⟩ := hb1
      obtain ⟨hb2, hb2'⟩ := hb2
      have hk1 : (k : Int) < l.length := by omega
      generalize l[k] = s at *
      obtain ⟨s1, s2⟩ := s
      generalize tot (l.take k) = tt at *
      go_wp2
      go_roundw
      case rel => exact ⟨k + 1, by go_num, by rw [HTT.out], by omega, Lib.hid (HB.out.alloc (by have := HB.out.size; simp at this; omega) _)⟩
      case measure => simp [intOf]; omega
    · obtain rfl : k = l.length := by omega
      rw [List.take_length]
      obtain ⟨hT2, hT3⟩ := HT2.out
      have hT1 := HT1.out
      have HT0 := Lib.hid (fun k => tot_in HOK.out hl k)
      generalize tot l = T at *
      have hTn : ¬ T = 0 := by omega
      have hq0 : 0 ≤ a - (a - fr) % T := by rw [HBE.out]; omega
      have hq1 : a - (a - fr) % T ≤ 1000000000000 := by rw [HBE.out]; omega
      go_wp2
      go_loopw [11, 34] (fun s11 s34 wr => ∃ k : Nat, s34 = .int .i64 k ∧ s11 = .int .i64 (BB + tot (l.take k)) ∧ k ≤ l.length ∧ Hid (stAt (l.drop k) a (BB + tot (l.take k)) = R) ∧ Hid (Below (w.heap.size + 1) (w.alloc (.cells #[.string ⟨#[]⟩, .int .i64 0] 48)) wr)) (fun _ s _ => l.length - (intOf s).toNat)
      case atStart => exact ⟨0, rfl, by rw [HBE.out, List.take_zero, tot, Int.add_zero], Nat.zero_le _, Lib.hid (by rw [List.take_zero, tot, Int.add_zero, List.drop_zero]; exact HRR.out), HB⟩
      case round =>
        obtain ⟨k, rfl, rfl, hk, HS, HB2⟩ := hrel
        have HB3 : Hid (Below (w.alloc (.cells #[.string ⟨#[]⟩, .int .i64 0] 48)).heap.size (w.alloc (.cells #[.string ⟨#[]⟩, .int .i64 0] 48)) wr) := Lib.hid (HB2.out.mono (by simp))
        obtain ⟨g0, g1, gz, grow⟩ := HG.out _ HB3.out
        have GR := Lib.hid grow
        have HSZ : w.heap.size < wr.heap.size := by have := HB3.out.size; simp at this; omega
        clear grow
        by_cases hlt : k < l.length
        · obtain ⟨b1, o1, rfl, f0, f1⟩ := steps_at (H1.out.mono (B.below_trans HA.out HB3.out)) k hlt
          have HTT := Lib.hid (tot_take hlt)
          obtain ⟨hb1, hb1'⟩ := HT0.out k
          obtain ⟨hb2, hb2'⟩ := HOK.out _ (List.getElem_mem hlt)
          have hk1 : (k : Int) < l.length := by omega
          have hs := HS.out
          rw [stAt_drop hlt] at hs
          generalize l[k] = s at *
          obtain ⟨s1, s2⟩ := s
          generalize tot (l.take k) = tt at *
          have HQ := Lib.hid hs
          clear hs HS
          by_cases hc : a < BB + tt + s2
          · have HQ2 : Hid (((s1, s2), BB + tt) = R) := Lib.hid (by have := HQ.out; rwa [if_pos hc] at this)
            clear HQ
            go_wp2
            refine bodyPost_ret (results_cell_tmp_row rfl _ _ w.heap.size 48 #[.string s1, .int .i64 s2] (0, 0) _ rfl (by rw [Below.heap_alloc _ _ _ (by simp [World.setCell]; omega)]; exact set2 GR.out) Tryz.underlying48 rfl (by kernel_rfl)) rfl ?_
            exact ⟨by rw [← HQ2.out]; rfl, (below2 (B.below_trans HA.out HB3.out) (Nat.le_refl _) _ _).alloc (by simp [World.setCell]; omega) _⟩
          · have HQ2 : Hid (stAt (l.drop (k + 1)) a (BB + tt + s2) = R) := Lib.hid (by have := HQ.out; rwa [if_neg hc] at this)
            clear HQ
            go_wp2
            go_roundw
            case rel => exact ⟨k + 1, by go_num, by rw [HTT.out, Int.add_assoc], by omega, Lib.hid (by rw [HTT.out, ← Int.add_assoc]; exact HQ2.out), Lib.hid (HB2.out.alloc (by omega) _)⟩
            case measure => simp [intOf]; omega
        · obtain rfl : k = l.length := by omega
          have HQ2 : Hid (((⟨#[]⟩, 0), 0) = R) := Lib.hid (by have := HS.out; rwa [List.drop_length] at this)
          clear HS
          go_wp2
          refine bodyPost_ret (results_cell_tmp_row rfl _ _ w.heap.size 48 #[.string ⟨#[]⟩, .int .i64 0] (0, 0) _ rfl (set2 GR.out) Tryz.underlying48 rfl (by kernel_rfl)) rfl ?_
          exact ⟨by rw [← HQ2.out]; rfl, below2 (B.below_trans HA.out HB3.out) (Nat.le_refl _) _ _⟩

/-! ### the program's at -/
theorem atP_drop {l : List Step} {k : Nat} (hk : k < l.length) (r : Int) (i : Nat) : atP (l.drop k) r i = if r < l[k].2 then (i, r) else atP (l.drop (k + 1)) (r - l[k].2) (i + 1) := by
  rw [List.drop_eq_getElem_cons hk, atP]
def AtRes (R : Nat × Int) (e : Ending) : Prop := e = .returned (.tuple #[.int .i64 R.1, .int .i64 R.2])
set_option maxHeartbeats 4000000 in
set_option maxRecDepth 100000 in
theorem at_any (p : Int) (A : Option Addr) (c : Nat) (l : List Step) (r0 : Int) (w : World) (h1 : stK.C w A l) (hok : Ok l) (hn : l ≠ []) (hl : l.length ≤ 5000) (h0 : 0 ≤ r0 ∧ r0 ≤ 1000000000000) :
    Calls Tryz.prog 50 #[.agg #[.int .i64 p, .slice A l.length c, .int .i64 (tot l)], .int .i64 r0] w fun e w' => AtRes (atP l (r0 % tot l) 0) e ∧ Below w.heap.size w w' := by
  have H1 := Lib.hid h1
  have HOK := Lib.hid hok
  have HA := Lib.hid ((Below.refl _ w).alloc (Nat.le_refl _) (.cells #[.int .i64 p, .slice A l.length c, .int .i64 (tot l)] 82))
  have hT1 := tot_pos hok hn
  have hT2 := (show tot l ≤ 18000000000 by have := (tot_in hok hl l.length).2; rwa [List.take_length] at this)
  have hm0 := Int.emod_nonneg r0 (show tot l ≠ 0 by omega)
  have hm1 := Int.emod_lt_of_pos r0 (show 0 < tot l by omega)
  have HR : Hid (atP l (r0 % tot l) 0 = atP l (r0 % tot l) 0) := Lib.hid rfl
  generalize hR : atP l (r0 % tot l) 0 = R at HR ⊢
  have HRR := Lib.hid hR
  obtain ⟨h00, h01⟩ := h0
  clear hR HR h1 hok hn
  generalize tot l = T at *
  have hTn : ¬ T = 0 := by omega
  go_enter Tryz.func50, Tryz.ntmps50
  go_wp2
  go_loopw [6, 16] (fun s6 s16 wr => ∃ (k : Nat) (r : Int), s16 = .int .i64 k ∧ s6 = .int .i64 r ∧ 0 ≤ r ∧ r ≤ 18000000000 ∧ k ≤ l.length ∧ Hid (atP (l.drop k) r k = R) ∧ Hid (Below (w.heap.size + 1) (w.alloc (.cells #[.int .i64 p, .slice A l.length c, .int .i64 T] 82)) wr)) (fun _ s _ => l.length - (intOf s).toNat)
  case atStart => exact ⟨0, r0 % T, rfl, rfl, hm0, by omega, Nat.zero_le _, Lib.hid (by rw [List.drop_zero]; exact HRR.out), Lib.hid (Below.refl _ _)⟩
  case round =>
    obtain ⟨k, r, rfl, rfl, hr0, hr1, hk, HS, HB⟩ := hrel
    have HB3 : Hid (Below (w.alloc (.cells #[.int .i64 p, .slice A l.length c, .int .i64 T] 82)).heap.size (w.alloc (.cells #[.int .i64 p, .slice A l.length c, .int .i64 T] 82)) wr) := Lib.hid (HB.out.mono (by simp))
    have HSZ : w.heap.size < wr.heap.size := by have := HB3.out.size; simp at this; omega
    by_cases hlt : k < l.length
    · obtain ⟨b1, o1, rfl, f0, f1⟩ := steps_at (H1.out.mono (B.below_trans HA.out HB3.out)) k hlt
      obtain ⟨hb2, hb2'⟩ := HOK.out _ (List.getElem_mem hlt)
      have hk1 : (k : Int) < l.length := by omega
      have hs := HS.out
      rw [atP_drop hlt] at hs
      generalize l[k] = s at *
      obtain ⟨s1, s2⟩ := s
      have HQ := Lib.hid hs
      clear hs HS
      by_cases hc : r < s2
      · have HQ2 : Hid ((k, r) = R) := Lib.hid (by have := HQ.out; rwa [if_pos hc] at this)
        clear HQ
        go_wp2
        go_ret2
        exact ⟨by rw [← HQ2.out]; rfl, (B.below_trans HA.out HB3.out).alloc (by omega) _⟩
      · have HQ2 : Hid (atP (l.drop (k + 1)) (r - s2) (k + 1) = R) := Lib.hid (by have := HQ.out; rwa [if_neg hc] at this)
        clear HQ
        go_wp2
        go_roundw
        case rel => exact ⟨k + 1, r - s2, by go_num, rfl, by omega, by omega, by omega, HQ2, Lib.hid (HB.out.alloc (by omega) _)⟩
        case measure => simp [intOf]; omega
    · obtain rfl : k = l.length := by omega
      have HQ2 : Hid ((0, 0) = R) := Lib.hid (by have := HS.out; rwa [List.drop_length] at this)
      clear HS
      go_wp2
      go_ret2
      exact ⟨by rw [← HQ2.out]; rfl, B.below_trans HA.out HB3.out⟩

/-! ### the items in order -/
theorem dd_mem (xs : List ByteArray) (x : ByteArray) : x ∈ Told.dd xs ↔ x ∈ xs := by
  unfold Told.dd
  rw [List.mem_map]
  constructor
  · rintro ⟨l, hl, rfl⟩
    have h := (compact_mem _ l).1 hl
    rw [List.mem_mergeSort, List.mem_map] at h
    obtain ⟨y, hy, rfl⟩ := h
    exact hy
  · intro h
    refine ⟨x.data.toList, (compact_mem _ _).2 ?_, rfl⟩
    rw [List.mem_mergeSort]
    exact List.mem_map.2 ⟨x, h, rfl⟩
def stE1 (s : ByteArray) : List Value := [.string s]
set_option maxHeartbeats 2000000 in
set_option maxRecDepth 100000 in
theorem itemsOf (A : Option Addr) (c : Nat) (l : List Step) (w : World) (h1 : stK.C w A l) (hl : l.length ≤ 5000) :
    Calls Tryz.prog 45 #[.slice A l.length c] w fun e w' => ∃ v', e = .returned v' ∧ B.Own w' w.heap.size 9 1 (fun s => [.string s]) v' (Told.dd (l.map (·.1))) ∧ Below w.heap.size w w' := by
  have H1 := Lib.hid h1
  clear h1
  go_enter Tryz.func45, Tryz.ntmps45
  go_wp2
  go_loopw [3, 8] (fun s3 s8 wr => ∃ (k : Nat), s8 = .int .i64 k ∧ k ≤ l.length ∧ Hid (B.Own wr w.heap.size 9 1 (fun s => [.string s]) s3 ((l.take k).map (·.1))) ∧ Hid (Below w.heap.size w wr)) (fun _ s _ => l.length - (intOf s).toNat)
  case atStart => exact ⟨0, rfl, Nat.zero_le _, Lib.hid (by rw [List.take_zero]; exact B.Own.nil _ _ _ _ _), Lib.hid (Below.refl _ _)⟩
  case round =>
    obtain ⟨k, rfl, hk, HO, HB⟩ := hrel
    by_cases hlt : k < l.length
    · obtain ⟨b1, o1, rfl, f0, f1⟩ := steps_at (H1.out.mono HB.out) k hlt
      have hk1 : (k : Int) < l.length := by omega
      have HTK : Hid ((l.take (k + 1)).map (·.1) = (l.take k).map (·.1) ++ [l[k].1]) := Lib.hid (by rw [List.take_succ_eq_append_getElem hlt, List.map_append]; rfl)
      have HLT : Hid (((l.take k).map (·.1)).length ≤ 5000) := Lib.hid (by rw [List.length_map, List.length_take]; omega)
      generalize l[k] = s at *
      obtain ⟨s1, s2⟩ := s
      generalize (l.take k).map (·.1) = xs at *
      go_wp2_with (at_builtin; (refine Copy.wpl_append_g (w0 := w) w.heap.size rfl _ _ 87 9 (.string ⟨#[]⟩) 1 16 rfl Tryz.underlying87 Cut.info_str rfl (by decide) (by decide) (fun s => [.string s]) (fun _ => rfl) (by simp [Value.oneCell']) _ xs s1 _ rfl (HO.out.below ((Below.refl _ _).alloc (Nat.le_refl _) _)) rfl _ (by simp) rfl (HB.out.alloc HB.out.size _) (by have := HB.out.size; simp; omega) (by have := HLT.out; omega) ?_); intro v1 w1 HO1 HB1 _; have HP := Lib.hid HO1; have HBP := Lib.hid HB1; clear HO1 HB1)
      go_roundw
      case rel => exact ⟨k + 1, by go_num, by omega, by rw [HTK.out]; exact HP, HBP⟩
      case measure => simp [intOf]; omega
    · obtain rfl : k = l.length := by omega
      have ho := HO.out
      rw [List.take_length] at ho
      obtain ⟨A3, c3, rfl⟩ := Copy.shape ho
      have hc := Told.once_any _ (l.map (·.1)) wr (by rw [List.length_map]; omega) (B.own_str ho (by rw [List.length_map]; omega))
      rw [List.length_map] at hc
      clear ho
      have HC := Lib.hid hc
      clear hc HO
      go_wp2_with (go_at_call 73; refine HC.out.mono ?_; rintro e w5 ⟨v5, rfl, hO5, hB5⟩; have HO5 := Lib.hid hO5; have HB5 := Lib.hid hB5; clear hO5 hB5)
      go_ret
      exact ⟨v5, rfl, Copy.own_mono HO5.out HB.out.size, B.below_trans HB.out HB5.out⟩
end Go.Proofs.YtfillnkebohciaaGreatDoor.Come
