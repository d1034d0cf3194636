/- The reference's SpareSums. -/
import Derived.Test.YtmcbljongeadeaaDoorMissingOf
import Derived.Test.YtmcbljongeadeaaDoorSpare
namespace Go.Proofs.YtmcbljongeadeaaDoor.Told
open Go.RowKit

theorem mem_each (ks : List ByteArray) (cs : List Ck) (s : ByteArray) : s ∈ names (each ks cs) ↔ s ∈ names cs ∧ s ∉ ks := by
  induction cs generalizing ks with
  | nil => simp [each, names]
  | cons c cs ih =>
    unfold each
    by_cases hc : c.1 ∈ ks
    · rw [if_pos hc, ih]
      simp only [names, List.map_cons, List.mem_cons]
      constructor
      · rintro ⟨h1, h2⟩; exact ⟨.inr h1, h2⟩
      · rintro ⟨rfl | h1, h2⟩
        · exact absurd hc h2
        · exact ⟨h1, h2⟩
    · rw [if_neg hc]
      have := ih (c.1 :: ks)
      simp only [names, List.map_cons, List.mem_cons] at this ⊢
      rw [this]
      constructor
      · rintro (rfl | ⟨h1, h2⟩)
        · exact ⟨.inl rfl, hc⟩
        · exact ⟨.inr h1, fun h => h2 (.inr h)⟩
      · rintro ⟨rfl | h1, h2⟩
        · exact .inl rfl
        · by_cases e : s = c.1
          · exact .inl e
          · exact .inr ⟨h1, fun h => h.elim e h2⟩
theorem beqS (a b : ByteArray) : (a.toList == b.toList) = decide (a = b) := by
  by_cases h : a = b
  · subst h; rw [decide_eq_true rfl]; exact beq_self_eq_true _
  · rw [decide_eq_false h, beq_eq_false_iff_ne]; intro e; exact h (ByteArray.ext (Array.toList_inj.1 (by simpa [ByteArray.toList_eq] using e)))
theorem spareQ (s : ByteArray) (b : Nat) (c : Ck) (w : World) (hc : w.cell? ⟨b, 0, none⟩ = some (.string s)) :
    Calls Tryd.prog 44 #[.agg #[.string c.1, .int .i64 c.2], .pointer (some ⟨b, 0, none⟩)] w fun e w' => e = .returned (.bool (decide (c.1 = s))) ∧ Below w.heap.size w w' := by
  have HB := Lib.hid (fun (c : Array Value) (o : TypeId) => (Below.refl _ w).alloc (Nat.le_refl _) (.cells c o))
  have k0 := fun c' o => B.cell_below (HB.out c' o) hc
  go_enter Tryd.func44, Tryd.ntmps44
  go_wp2
  go_ret
  exact ⟨by rw [← beqS]; rfl, HB.out _ _⟩
/-- slices.IndexFunc at chunks, with a predicate that only looks at what was there. -/
theorem indexChunks2 (p : Ck → Bool) (b : Nat) (base : Nat) (v : Value) (xs : List Ck) (w0 w : World) (hb0 : Below base w0 w) (hbs : base ≤ w.heap.size)
    (hp : ∀ W c, Below base w0 W → Calls Tryd.prog 44 #[.agg #[.string c.1, .int .i64 c.2], .pointer (some ⟨b, 0, none⟩)] W fun e w' => e = .returned (.bool (p c)) ∧ Below W.heap.size W w') (h : B.Kd.chunk.S w v xs) :
    Calls Tryd.prog 55 #[v, .func (.func 44) #[] #[.pointer (some ⟨b, 0, none⟩)]] w fun e w' => e = .returned (.int .i64 (idxI p xs)) ∧ Below w.heap.size w w' := by
  obtain ⟨A, c, rfl, C⟩ := h
  have L := C.1
  go_enter Tryd.func55, Tryd.ntmps55
  go_wp2
  go_loopw [8] (fun so wr => ∃ (k : Nat), so = .int .i64 k ∧ k ≤ xs.length ∧ Hid (∀ j (hj : j < xs.length), j < k → p xs[j] = false) ∧ Hid (Below w.heap.size w wr)) (fun so _ => xs.length - (intOf so).toNat)
  case atStart => exact ⟨0, rfl, Nat.zero_le _, Lib.hid (fun j _ h => absurd h (Nat.not_lt_zero _)), Lib.hid (Below.refl _ _)⟩
  case round =>
    obtain ⟨k, rfl, hk, HT, HB⟩ := hrel
    by_cases hlt : k < xs.length
    · obtain ⟨b5, o5, cs5, rfl, K5, e5⟩ := C.at k hlt
      obtain rfl : cs5 = [.string xs[k].1, .int .i64 xs[k].2] := K5
      have q0 : wr.cell? ⟨b5, o5 + k * 2, none⟩ = some (.string xs[k].1) := by simpa [B.Kd.chunk, B.Kd.flat] using B.cell_below HB.out (e5 0 (by simp))
      have q1 : wr.cell? ⟨b5, o5 + k * 2 + 1, none⟩ = some (.int .i64 xs[k].2) := by simpa [B.Kd.chunk, B.Kd.flat] using B.cell_below HB.out (e5 1 (by simp))
      have hk1 : (k : Int) < xs.length := by omega
      have cs := hp wr xs[k] (hb0.trans (HB.out.mono hbs))
      clear e5
      cases hpk : p xs[k] with
      | false =>
        rw [hpk] at cs
        have HT2 : Hid (∀ j (hj : j < xs.length), j < k + 1 → p xs[j] = false) := Lib.hid (fun j hj hjk => by
          rcases Nat.lt_or_eq_of_le (Nat.le_of_lt_succ hjk) with h1 | rfl
          · exact HT.out j hj h1
          · exact hpk)
        clear hpk
        go_wp2_with (go_at_call 44; refine cs.mono ?_; rintro e w5 ⟨rfl, HB5⟩)
        go_roundw
        case rel => exact ⟨k + 1, by go_num, by omega, HT2, Lib.hid (B.below_trans HB.out HB5)⟩
        case measure => simp [intOf]; omega
      | true =>
        rw [hpk] at cs
        have HX : Hid (idxI p xs = k) := Lib.hid (by
          have e : xs.findIdx? p = some k := by
            rw [List.findIdx?_eq_some_iff_getElem]
            exact ⟨hlt, hpk, fun j hj => by rw [HT.out j (by omega) hj]; decide⟩
          unfold idxI; rw [e])
        clear hpk
        go_wp2_with (go_at_call 44; refine cs.mono ?_; rintro e w5 ⟨rfl, HB5⟩)
        go_ret
        exact ⟨by rw [HX.out]; rfl, B.below_trans HB.out HB5⟩
    · obtain rfl : k = xs.length := by omega
      have HX : Hid (idxI p xs = -1) := Lib.hid (by
        have e : xs.findIdx? p = none := by
          rw [List.findIdx?_eq_none_iff]
          intro x hx
          obtain ⟨j, hj, rfl⟩ := List.getElem_of_mem hx
          exact HT.out j hj hj
        unfold idxI; rw [e])
      go_wp2
      go_ret
      exact ⟨by rw [HX.out]; rfl, HB.out⟩
theorem idx_any (p : Ck → Bool) (xs : List Ck) : decide (0 ≤ idxI p xs) = xs.any p := by
  unfold idxI
  split
  · rename_i i e
    rw [List.findIdx?_eq_some_iff_getElem] at e
    obtain ⟨hi, hp, _⟩ := e
    rw [List.any_eq_true.2 ⟨xs[i], List.getElem_mem hi, hp⟩]
    simp
  · rename_i e
    rw [List.findIdx?_eq_none_iff] at e
    rw [List.any_eq_false.2 (fun x hx => by rw [e x hx]; decide)]
    rfl
theorem containsQ (p : Ck → Bool) (b : Nat) (base : Nat) (v : Value) (xs : List Ck) (w0 w : World) (hb0 : Below base w0 w) (hbs : base ≤ w.heap.size)
    (hp : ∀ W c, Below base w0 W → Calls Tryd.prog 44 #[.agg #[.string c.1, .int .i64 c.2], .pointer (some ⟨b, 0, none⟩)] W fun e w' => e = .returned (.bool (p c)) ∧ Below W.heap.size W w') (h : B.Kd.chunk.S w v xs) :
    Calls Tryd.prog 43 #[v, .func (.func 44) #[] #[.pointer (some ⟨b, 0, none⟩)]] w fun e w' => e = .returned (.bool (xs.any p)) ∧ Below w.heap.size w w' := by
  have ci := indexChunks2 p b base v xs w0 w hb0 hbs hp h
  have HX := Lib.hid (idx_any p xs)
  obtain ⟨A, c, rfl, -⟩ := h
  generalize idxI p xs = n at ci HX
  go_enter Tryd.func43, Tryd.ntmps43
  go_wp2_with (go_at_call 55; refine ci.mono ?_; rintro e w1 ⟨rfl, HB⟩)
  go_ret
  exact ⟨by rw [← HX.out]; rfl, HB⟩
theorem any_names (cs : List Ck) (s : ByteArray) : cs.any (fun c => decide (c.1 = s)) = decide (s ∈ names cs) := by
  rw [Bool.eq_iff_iff, List.any_eq_true, decide_eq_true_iff]
  simp only [names, List.mem_map, decide_eq_true_iff]
/-- SpareSums' closure: the captured manifest lies in a cell. -/
theorem spareR (no : Int) (v : Value) (l : List Fl) (hl : l.length ≤ 1048576) (hc : ∀ f ∈ l, f.2.length ≤ 1048576) (b : Nat) (s : ByteArray) (w : World) (h0 : w.cell? ⟨b, 0, none⟩ = some (.int .i64 no)) (h1 : w.cell? ⟨b, 1, none⟩ = some v) (h : B.Kd.file.S w v l) :
    Calls Tryd.prog 42 #[.string s, .pointer (some ⟨b, 0, none⟩)] w fun e w' => e = .returned (.bool (decide (s ∈ names (l.flatMap (·.2))))) ∧ Below w.heap.size w w' := by
  have HB := Lib.hid (fun (c : Array Value) (o : TypeId) => (Below.refl _ w).alloc (Nat.le_refl _) (.cells c o))
  have k0 := fun c' o => B.cell_below (HB.out c' o) h0
  have k1 := fun c' o => B.cell_below (HB.out c' o) h1
  have ce := fun c' o => eachOf no v l hl hc _ (h.mono (HB.out c' o))
  have HN := Lib.hid (fun (o : TypeId) (w2 : World) (hb : Below (w.alloc (.cells #[.string s] o)).heap.size (w.alloc (.cells #[.string s] o)) w2) => (B.cell_below hb (by rw [World.cell?_alloc_new]; rfl) : w2.cell? ⟨w.heap.size, 0, none⟩ = some (.string s)))
  have HX : Hid (decide (s ∈ names (each [] (l.flatMap (·.2)))) = decide (s ∈ names (l.flatMap (·.2)))) := Lib.hid (by
    rw [Bool.eq_iff_iff, decide_eq_true_iff, decide_eq_true_iff, mem_each]; simp)
  obtain ⟨A, c, rfl, -⟩ := h
  go_enter Tryd.func42, Tryd.ntmps42
  go_wp2_with (first
    | (go_at_call 29; refine (ce _ _).mono ?_; rintro e w2 ⟨v2, rfl, HO2, HN2, HB2⟩; obtain ⟨A4, c4, rfl⟩ := Copy.shape HO2)
    | (go_at_call 43; refine (containsQ (fun c => decide (c.1 = s)) _ _ _ _ _ _ HB2 HB2.size (fun W x hb => spareQ s _ x W (HN.out _ W hb)) (B.own_chunk HO2 (by omega))).mono ?_; rintro e w3 ⟨rfl, HB3⟩))
  go_ret
  exact ⟨by rw [any_names, HX.out]; rfl, (HB.out _ _).trans ((HB2.mono (by simp)).trans (HB3.mono (by have := HB2.size; simp at this; omega)))⟩
theorem spareSums (no : Int) (v u : Value) (l : List Fl) (hs : List ByteArray) (hl : l.length ≤ 1048576) (hc : ∀ f ∈ l, f.2.length ≤ 1048576) (w : World) (h : B.Kd.file.S w v l) (h2 : B.Kd.str.S w u hs) (hh : hs.length ≤ 100000) :
    Calls Tryd.prog 21 #[.agg #[.int .i64 no, v], u] w fun e w' => ∃ v', e = .returned v' ∧ B.Own w' w.heap.size 9 1 DelS.stE v' ((dd hs).filter (fun s => !decide (s ∈ names (l.flatMap (·.2))))) ∧ Below w.heap.size w w' := by
  have HB := Lib.hid (fun (c : Array Value) (o : TypeId) => (Below.refl _ w).alloc (Nat.le_refl _) (.cells c o))
  have cr := fun c o => once_any u hs _ hh (h2.mono (HB.out c o))
  have HP := Lib.hid (fun (o : TypeId) (W : World) (x : ByteArray) (hb : Below (w.alloc (.cells #[.int .i64 no, v] o)).heap.size (w.alloc (.cells #[.int .i64 no, v] o)) W) =>
    spareR no v l hl hc w.heap.size x W (B.cell_below hb (by rw [World.cell?_alloc_new]; rfl)) (B.cell_below hb (by rw [World.cell?_alloc_new]; rfl)) ((h.mono (HB.out #[.int .i64 no, v] o)).mono hb))
  obtain ⟨A, c, rfl, -⟩ := h
  obtain ⟨Ah, ch, rfl, -⟩ := h2
  go_enter Tryd.func21, Tryd.ntmps21
  go_wp2_with (first
    | (go_at_call 41; refine (cr _ _).mono ?_; rintro e w2 ⟨v2, rfl, HO2, HB2⟩; obtain ⟨A4, c4, rfl⟩ := Copy.shape HO2)
    | (go_at_call 31; refine (DelS.deleteSRef (fun x => decide (x ∈ names (l.flatMap (·.2)))) _ _ _ _ _ _ HB2 HB2.size (fun W x hb => HP.out _ W x hb) HO2 (by have := dd_length hs; omega)).mono ?_; rintro e w3 ⟨v3, rfl, HO3, HB3⟩))
  go_ret
  exact ⟨_, rfl, Copy.own_mono HO3 (by simp), (HB.out _ _).trans ((HB2.trans HB3).mono (by simp))⟩
end Go.Proofs.YtmcbljongeadeaaDoor.Told
