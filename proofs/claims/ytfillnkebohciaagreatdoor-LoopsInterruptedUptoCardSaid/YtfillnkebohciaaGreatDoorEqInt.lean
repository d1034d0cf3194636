/- slices.Equal and its kind at the program's types: printed by wip/gen/eqs.py. -/
import Derived.Test.YtfillnkebohciaaGreatDoorProg
import Derived.Test.YtfillnkebohciaaGreatDoorBase
import Derived.WalkLawsBesides
import Derived.WalkSpells
import Derived.Deep.QuietTactic
import Derived.BigQuiet
import Derived.LoopTactic
namespace Go.Proofs.YtfillnkebohciaaGreatDoor.Eq
open Go.RowKit
theorem eq_int (v1 v2 : Value) (xs ys : List (Int)) (w : World) (h1 : B.Kd.int.S w v1 xs) (h2 : B.Kd.int.S w v2 ys) (b : Bool) (hb : decide (xs = ys) = b) :
    Calls Tryz.prog 55 #[v1, v2] w fun e w' => e = .returned (.bool b) ∧ Below w.heap.size w w' := by
  subst hb
  obtain ⟨A1, c1, rfl, C1⟩ := h1
  obtain ⟨A2, c2, rfl, C2⟩ := h2
  have L1 := C1.1
  have L2 := C2.1
  by_cases hl : xs.length = ys.length
  · go_enter Tryz.func55, Tryz.ntmps55
    go_wp2
    go_loopw [13] (fun s13 wr => ∃ (k : Nat), s13 = .int .i64 k ∧ k ≤ xs.length ∧ Hid (xs.take k = ys.take k) ∧ Hid (Below w.heap.size w wr)) (fun s13 _ => xs.length - (intOf s13).toNat)
    case atStart => exact ⟨0, rfl, by omega, Lib.hid rfl, Lib.hid (Below.refl _ _)⟩
    case round =>
      obtain ⟨k, rfl, hk, HT, HB⟩ := hrel
      by_cases hlt : k < xs.length
      · have hlt2 : k < ys.length := by omega
        obtain ⟨b1, o1, cs1, rfl, K1, e1⟩ := C1.at k hlt
        obtain ⟨b2, o2, cs2, rfl, K2, e2⟩ := C2.at k hlt2
        obtain rfl : cs1 = [.int .i64 xs[k]] := K1
        obtain rfl : cs2 = [.int .i64 ys[k]] := K2
        have f10 : wr.cell? ⟨b1, o1 + k, none⟩ = some (.int .i64 xs[k]) := by simpa [B.Kd.int, B.Kd.flat] using B.cell_below HB.out (e1 0 (by simp))
        have f20 : wr.cell? ⟨b2, o2 + k, none⟩ = some (.int .i64 ys[k]) := by simpa [B.Kd.int, B.Kd.flat] using B.cell_below HB.out (e2 0 (by simp))
        have hk1 : (k : Int) < xs.length := by omega
        have hk2 : (k : Int) < ys.length := by omega
        clear e1 e2
        by_cases q0 : xs[k] = ys[k]
        · have qb0 : (xs[k] == ys[k]) = true := by rw [q0]; exact beq_self_eq_true _
          have HQ : Hid (xs[k] = ys[k]) := Lib.hid (q0)
          clear q0
          go_wp2
          go_quiet (fail)
          go_wp2
          go_roundw
          case rel => exact ⟨k + 1, by go_num, by omega, Lib.hid (by rw [← List.take_append_getElem hlt, ← List.take_append_getElem hlt2, HT.out, HQ.out]), Lib.hid (B.below_drew HB.out _)⟩
          case measure => simp [intOf]; omega
        · have qb0 : (xs[k] == ys[k]) = false := by rw [beq_eq_false_iff_ne]; exact q0
          have HQ : Hid (¬ xs[k] = ys[k]) := Lib.hid (fun e => q0 (by rw [e]))
          clear q0
          go_wp2
          go_quiet (fail)
          go_wp2
          go_ret
          exact ⟨by rw [decide_eq_false (fun e => HQ.out (by subst e; rfl))]; rfl, B.below_drew HB.out _⟩
      · obtain rfl : k = xs.length := by omega
        go_wp2
        go_ret
        have := HT.out
        rw [List.take_length, hl, List.take_length] at this
        exact ⟨by rw [decide_eq_true this]; rfl, HB.out⟩
  · go_enter Tryz.func55, Tryz.ntmps55
    go_wp2
    go_ret
    exact ⟨by rw [decide_eq_false (fun e => hl (by rw [e]))]; rfl, Below.refl _ _⟩
end Go.Proofs.YtfillnkebohciaaGreatDoor.Eq
