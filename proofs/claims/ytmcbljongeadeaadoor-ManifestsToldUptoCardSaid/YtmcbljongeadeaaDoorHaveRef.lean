/- The reference's HaveFault. -/
import Derived.Test.YtmcbljongeadeaaDoorMissing
namespace Go.Proofs.YtmcbljongeadeaaDoor.Told
open Go.RowKit

theorem notSum (s : ByteArray) (b : Bool) (hb : Key.sumR s = b) (w : World) : Calls Tryd.prog 35 #[.string s] w fun e w' => e = .returned (.bool (!b)) ∧ Below w.heap.size w w' := by
  have c1 := Key.sumRight s b hb w
  clear hb
  go_enter Tryd.func35, Tryd.ntmps35
  go_wp2_with (go_at_call 36; refine c1.mono ?_; rintro e w1 ⟨rfl, HB⟩)
  go_ret
  exact ⟨rfl, HB⟩
/-- slices.IndexFunc at strings, with that function. -/
theorem indexNot (v : Value) (xs : List ByteArray) (w : World) (h : B.Kd.str.S w v xs) (b : Bool) (hb : xs.all Key.sumR = b) :
    Calls Tryd.prog 48 #[v, .func (.func 35) #[] #[]] w fun e w' => ∃ n : Int, e = .returned (.int .i64 n) ∧ decide (0 ≤ n) = (!b) ∧ Below w.heap.size w w' := by
  obtain ⟨A, c, rfl, C⟩ := h
  have L := C.1
  have HBb := Lib.hid hb
  clear hb
  go_enter Tryd.func48, Tryd.ntmps48
  go_wp2
  go_loopw [8] (fun so wr => ∃ (k : Nat), so = .int .i64 k ∧ k ≤ xs.length ∧ Hid ((xs.take k).all Key.sumR = true) ∧ Hid (Below w.heap.size w wr)) (fun so _ => xs.length - (intOf so).toNat)
  case atStart => exact ⟨0, rfl, Nat.zero_le _, Lib.hid rfl, Lib.hid (Below.refl _ _)⟩
  case round =>
    obtain ⟨k, rfl, hk, HT, HB⟩ := hrel
    by_cases hlt : k < xs.length
    · obtain ⟨b5, o5, cs5, rfl, K5, e5⟩ := C.at k hlt
      obtain rfl : cs5 = [.string xs[k]] := K5
      have q0 : wr.cell? ⟨b5, o5 + k, none⟩ = some (.string xs[k]) := by simpa [B.Kd.str, B.Kd.flat] using B.cell_below HB.out (e5 0 (by simp))
      have hk1 : (k : Int) < xs.length := by omega
      clear e5
      cases hs1 : Key.sumR xs[k] with
      | true =>
        have cs := notSum xs[k] true hs1 wr
        have HT2 : Hid ((xs.take (k + 1)).all Key.sumR = true) := Lib.hid (by rw [← List.take_append_getElem hlt, List.all_append, HT.out]; simp [hs1])
        clear hs1
        go_wp2_with (go_at_call 35; refine cs.mono ?_; rintro e w5 ⟨rfl, HB5⟩)
        go_roundw
        case rel => exact ⟨k + 1, by go_num, by omega, HT2, Lib.hid (B.below_trans HB.out HB5)⟩
        case measure => simp [intOf]; omega
      | false =>
        have cs := notSum xs[k] false hs1 wr
        have HX2 : Hid (b = false) := Lib.hid (by
          rw [← HBb.out, Bool.eq_false_iff]
          intro e
          have := List.all_eq_true.1 e xs[k] (List.getElem_mem hlt)
          rw [hs1] at this
          cases this)
        clear hs1
        go_wp2_with (go_at_call 35; refine cs.mono ?_; rintro e w5 ⟨rfl, HB5⟩)
        go_ret
        exact ⟨k, rfl, by rw [HX2.out]; simp, B.below_trans HB.out HB5⟩
    · obtain rfl : k = xs.length := by omega
      have HX2 : Hid (b = true) := Lib.hid (by have := HT.out; rw [List.take_length] at this; rw [← HBb.out, this])
      go_wp2
      go_ret
      exact ⟨-1, rfl, by rw [HX2.out]; rfl, HB.out⟩
theorem refHave (v : Value) (hs : List ByteArray) (w : World) (h : B.Kd.str.S w v hs) :
    Calls Tryd.prog 17 #[v] w fun e w' => e = .returned (.int .i64 (haveF hs)) ∧ Below w.heap.size w w' := by
  have ci := fun W hW => indexNot v hs W (h.mono hW) _ rfl
  obtain ⟨A, c, rfl, C⟩ := h
  have L := C.1
  clear C
  by_cases hl : 2000 < hs.length
  · have HX := Lib.hid (show haveF hs = 2 by rw [haveF, if_pos hl])
    have hl' : (2000 : Int) < hs.length := by omega
    clear ci
    go_enter Tryd.func17, Tryd.ntmps17
    go_wp2
    go_ret
    exact ⟨by rw [HX.out]; rfl, Below.refl _ _⟩
  · have HX := Lib.hid (show haveF hs = if hs.all Key.sumR = true then 0 else 3 by rw [haveF, if_neg hl, haveBad])
    cases hb : hs.all Key.sumR with
    | true =>
      rw [hb] at ci
      have HX2 : Hid (haveF hs = 0) := Lib.hid (by rw [HX.out, hb]; rfl)
      clear hb
      have cc : ∀ W, Below w.heap.size w W → Calls Tryd.prog 34 #[.slice A hs.length c, .func (.func 35) #[] #[]] W fun e w' => e = .returned (.bool false) ∧ Below W.heap.size W w' := by
        intro W hW
        have ci' := ci W hW
        clear ci
        go_enter Tryd.func34, Tryd.ntmps34
        go_wp2_with (go_at_call 48; refine ci'.mono ?_; rintro e w1 ⟨n, rfl, hn, HB⟩)
        go_ret
        exact ⟨by first | rfl | (simp at hn ⊢; first | exact hn | omega), HB⟩
      clear ci
      go_enter Tryd.func17, Tryd.ntmps17
      go_wp2_with (go_at_call 34; refine (cc _ (Below.refl _ _)).mono ?_; rintro e w1 ⟨rfl, HB⟩)
      go_ret
      exact ⟨by rw [HX2.out]; rfl, HB⟩
    | false =>
      rw [hb] at ci
      have HX2 : Hid (haveF hs = 3) := Lib.hid (by rw [HX.out, hb]; rfl)
      clear hb
      have cc : ∀ W, Below w.heap.size w W → Calls Tryd.prog 34 #[.slice A hs.length c, .func (.func 35) #[] #[]] W fun e w' => e = .returned (.bool true) ∧ Below W.heap.size W w' := by
        intro W hW
        have ci' := ci W hW
        clear ci
        go_enter Tryd.func34, Tryd.ntmps34
        go_wp2_with (go_at_call 48; refine ci'.mono ?_; rintro e w1 ⟨n, rfl, hn, HB⟩)
        go_ret
        exact ⟨by first | rfl | (simp at hn ⊢; first | exact hn | omega), HB⟩
      clear ci
      go_enter Tryd.func17, Tryd.ntmps17
      go_wp2_with (go_at_call 34; refine (cc _ (Below.refl _ _)).mono ?_; rintro e w1 ⟨rfl, HB⟩)
      go_ret
      exact ⟨by rw [HX2.out]; rfl, HB⟩
end Go.Proofs.YtmcbljongeadeaaDoor.Told
