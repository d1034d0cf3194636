/- slices.Equal and its kind at the program's types: printed by wip/gen/eqs.py. slices.Equal and its kind at the program's types: printed by wip/gen/eqs.py. slices.Equal and its kind at the program's types: printed by wip/gen/eqs.py. slices.Clone at 34. -/
import Derived.Test.YtfillnkebohciaaGreatDoorProg
import Derived.Test.YtfillnkebohciaaGreatDoorBase
import Derived.Test.YtfillnkebohciaaGreatDoorBrk
import Derived.WalkLawsBesides
import Derived.WalkSpells
import Derived.Deep.QuietTactic
import Derived.BigQuiet
import Derived.LoopTactic
import Derived.Test.YtfillnkebohciaaGreatDoorTl
import Derived.Test.YtfillnkebohciaaGreatDoorOwn
namespace Go.Proofs.YtfillnkebohciaaGreatDoor.Eq
open Go.RowKit
open Rn (bkK Bk bkE plK Pl plE)
theorem eq_bk (v1 v2 : Value) (xs ys : List (Bk)) (w : World) (h1 : bkK.S w v1 xs) (h2 : bkK.S w v2 ys) (b : Bool) (hb : decide (xs = ys) = b) :
    Calls Tryz.prog 10 #[v1, v2] w fun e w' => e = .returned (.bool b) ∧ Below w.heap.size w w' := by
  subst hb
  obtain ⟨A1, c1, rfl, C1⟩ := h1
  obtain ⟨A2, c2, rfl, C2⟩ := h2
  have L1 := C1.1
  have L2 := C2.1
  by_cases hl : xs.length = ys.length
  · go_enter Tryz.func10, Tryz.ntmps10
    go_wp2
    go_loopw [13] (fun s13 wr => ∃ (k : Nat), s13 = .int .i64 k ∧ k ≤ xs.length ∧ Hid (xs.take k = ys.take k) ∧ Hid (Below w.heap.size w wr)) (fun s13 _ => xs.length - (intOf s13).toNat)
    case atStart => exact ⟨0, rfl, by omega, Lib.hid rfl, Lib.hid (Below.refl _ _)⟩
    case round =>
      obtain ⟨k, rfl, hk, HT, HB⟩ := hrel
      by_cases hlt : k < xs.length
      · have hlt2 : k < ys.length := by omega
        obtain ⟨b1, o1, cs1, rfl, K1, e1⟩ := C1.at k hlt
        obtain ⟨b2, o2, cs2, rfl, K2, e2⟩ := C2.at k hlt2
        obtain rfl : cs1 = [.string xs[k].1, .int .i64 xs[k].2.1, .int .i64 xs[k].2.2] := K1
        obtain rfl : cs2 = [.string ys[k].1, .int .i64 ys[k].2.1, .int .i64 ys[k].2.2] := K2
        have f10 : wr.cell? ⟨b1, o1 + k * 3, none⟩ = some (.string xs[k].1) := by simpa [bkK, B.Kd.flat] using B.cell_below HB.out (e1 0 (by simp))
        have f20 : wr.cell? ⟨b2, o2 + k * 3, none⟩ = some (.string ys[k].1) := by simpa [bkK, B.Kd.flat] using B.cell_below HB.out (e2 0 (by simp))
        have f11 : wr.cell? ⟨b1, o1 + k * 3 + 1, none⟩ = some (.int .i64 xs[k].2.1) := by simpa [bkK, B.Kd.flat] using B.cell_below HB.out (e1 1 (by simp))
        have f21 : wr.cell? ⟨b2, o2 + k * 3 + 1, none⟩ = some (.int .i64 ys[k].2.1) := by simpa [bkK, B.Kd.flat] using B.cell_below HB.out (e2 1 (by simp))
        have f12 : wr.cell? ⟨b1, o1 + k * 3 + 2, none⟩ = some (.int .i64 xs[k].2.2) := by simpa [bkK, B.Kd.flat] using B.cell_below HB.out (e1 2 (by simp))
        have f22 : wr.cell? ⟨b2, o2 + k * 3 + 2, none⟩ = some (.int .i64 ys[k].2.2) := by simpa [bkK, B.Kd.flat] using B.cell_below HB.out (e2 2 (by simp))
        have hk1 : (k : Int) < xs.length := by omega
        have hk2 : (k : Int) < ys.length := by omega
        clear e1 e2
        by_cases q0 : xs[k].1 = ys[k].1
        · have qb0 : ((xs[k].1).toList == (ys[k].1).toList) = true := by rw [q0]; exact beq_self_eq_true _
          by_cases q1 : xs[k].2.1 = ys[k].2.1
          · have qb1 : (xs[k].2.1 == ys[k].2.1) = true := by rw [q1]; exact beq_self_eq_true _
            by_cases q2 : xs[k].2.2 = ys[k].2.2
            · have qb2 : (xs[k].2.2 == ys[k].2.2) = true := by rw [q2]; exact beq_self_eq_true _
              have HQ : Hid (xs[k] = ys[k]) := Lib.hid (Prod.ext q0 (Prod.ext q1 (q2)))
              clear q0 q1 q2
              go_wp2
              go_quiet (fail)
              go_wp2
              go_roundw
              case rel => exact ⟨k + 1, by go_num, by omega, Lib.hid (by rw [← List.take_append_getElem hlt, ← List.take_append_getElem hlt2, HT.out, HQ.out]), Lib.hid (B.below_drew HB.out _)⟩
              case measure => simp [intOf]; omega
            · have qb2 : (xs[k].2.2 == ys[k].2.2) = false := by rw [beq_eq_false_iff_ne]; exact q2
              have HQ : Hid (¬ xs[k] = ys[k]) := Lib.hid (fun e => q2 (by rw [e]))
              clear q0 q1 q2
              go_wp2
              go_quiet (fail)
              go_wp2
              go_ret
              exact ⟨by rw [decide_eq_false (fun e => HQ.out (by subst e; rfl))]; rfl, B.below_drew HB.out _⟩
          · have qb1 : (xs[k].2.1 == ys[k].2.1) = false := by rw [beq_eq_false_iff_ne]; exact q1
            have HQ : Hid (¬ xs[k] = ys[k]) := Lib.hid (fun e => q1 (by rw [e]))
            clear q0 q1
            go_wp2
            go_quiet (fail)
            go_wp2
            go_ret
            exact ⟨by rw [decide_eq_false (fun e => HQ.out (by subst e; rfl))]; rfl, B.below_drew HB.out _⟩
        · have qb0 : ((xs[k].1).toList == (ys[k].1).toList) = false := by rw [beq_eq_false_iff_ne]; intro e; exact q0 (ByteArray.ext (Array.toList_inj.1 (by simpa [ByteArray.toList_eq] using e)))
          have HQ : Hid (¬ xs[k] = ys[k]) := Lib.hid (fun e => q0 (by rw [e]))
          clear q0
          go_wp2
          go_quiet (fail)
          go_wp2
          go_ret
          exact ⟨by rw [decide_eq_false (fun e => HQ.out (by subst e; rfl))]; rfl, B.below_drew HB.out _⟩
      · obtain rfl : k = xs.length := by omega
        go_wp2
        go_ret
        have := HT.out
        rw [List.take_length, hl, List.take_length] at this
        exact ⟨by rw [decide_eq_true this]; rfl, HB.out⟩
  · go_enter Tryz.func10, Tryz.ntmps10
    go_wp2
    go_ret
    exact ⟨by rw [decide_eq_false (fun e => hl (by rw [e]))]; rfl, Below.refl _ _⟩
end Go.Proofs.YtfillnkebohciaaGreatDoor.Eq
namespace Go.Proofs.YtfillnkebohciaaGreatDoor.Eq
open Go.RowKit
open Rn (pfK Pf pfE)
theorem eq_pf (v1 v2 : Value) (xs ys : List (Pf)) (w : World) (h1 : pfK.S w v1 xs) (h2 : pfK.S w v2 ys) (b : Bool) (hb : decide (xs = ys) = b) :
    Calls Tryz.prog 35 #[v1, v2] w fun e w' => e = .returned (.bool b) ∧ Below w.heap.size w w' := by
  subst hb
  obtain ⟨A1, c1, rfl, C1⟩ := h1
  obtain ⟨A2, c2, rfl, C2⟩ := h2
  have L1 := C1.1
  have L2 := C2.1
  by_cases hl : xs.length = ys.length
  · go_enter Tryz.func35, Tryz.ntmps35
    go_wp2
    go_loopw [13] (fun s13 wr => ∃ (k : Nat), s13 = .int .i64 k ∧ k ≤ xs.length ∧ Hid (xs.take k = ys.take k) ∧ Hid (Below w.heap.size w wr)) (fun s13 _ => xs.length - (intOf s13).toNat)
    case atStart => exact ⟨0, rfl, by omega, Lib.hid rfl, Lib.hid (Below.refl _ _)⟩
    case round =>
      obtain ⟨k, rfl, hk, HT, HB⟩ := hrel
      by_cases hlt : k < xs.length
      · have hlt2 : k < ys.length := by omega
        obtain ⟨b1, o1, cs1, rfl, K1, e1⟩ := C1.at k hlt
        obtain ⟨b2, o2, cs2, rfl, K2, e2⟩ := C2.at k hlt2
        obtain rfl : cs1 = [.string xs[k].1, .string xs[k].2.1, .int .i64 xs[k].2.2.1, .int .i64 xs[k].2.2.2] := K1
        obtain rfl : cs2 = [.string ys[k].1, .string ys[k].2.1, .int .i64 ys[k].2.2.1, .int .i64 ys[k].2.2.2] := K2
        have f10 : wr.cell? ⟨b1, o1 + k * 4, none⟩ = some (.string xs[k].1) := by simpa [pfK, B.Kd.flat] using B.cell_below HB.out (e1 0 (by simp))
        have f20 : wr.cell? ⟨b2, o2 + k * 4, none⟩ = some (.string ys[k].1) := by simpa [pfK, B.Kd.flat] using B.cell_below HB.out (e2 0 (by simp))
        have f11 : wr.cell? ⟨b1, o1 + k * 4 + 1, none⟩ = some (.string xs[k].2.1) := by simpa [pfK, B.Kd.flat] using B.cell_below HB.out (e1 1 (by simp))
        have f21 : wr.cell? ⟨b2, o2 + k * 4 + 1, none⟩ = some (.string ys[k].2.1) := by simpa [pfK, B.Kd.flat] using B.cell_below HB.out (e2 1 (by simp))
        have f12 : wr.cell? ⟨b1, o1 + k * 4 + 2, none⟩ = some (.int .i64 xs[k].2.2.1) := by simpa [pfK, B.Kd.flat] using B.cell_below HB.out (e1 2 (by simp))
        have f22 : wr.cell? ⟨b2, o2 + k * 4 + 2, none⟩ = some (.int .i64 ys[k].2.2.1) := by simpa [pfK, B.Kd.flat] using B.cell_below HB.out (e2 2 (by simp))
        have f13 : wr.cell? ⟨b1, o1 + k * 4 + 3, none⟩ = some (.int .i64 xs[k].2.2.2) := by simpa [pfK, B.Kd.flat] using B.cell_below HB.out (e1 3 (by simp))
        have f23 : wr.cell? ⟨b2, o2 + k * 4 + 3, none⟩ = some (.int .i64 ys[k].2.2.2) := by simpa [pfK, B.Kd.flat] using B.cell_below HB.out (e2 3 (by simp))
        have hk1 : (k : Int) < xs.length := by omega
        have hk2 : (k : Int) < ys.length := by omega
        clear e1 e2
        by_cases q0 : xs[k].1 = ys[k].1
        · have qb0 : ((xs[k].1).toList == (ys[k].1).toList) = true := by rw [q0]; exact beq_self_eq_true _
          by_cases q1 : xs[k].2.1 = ys[k].2.1
          · have qb1 : ((xs[k].2.1).toList == (ys[k].2.1).toList) = true := by rw [q1]; exact beq_self_eq_true _
            by_cases q2 : xs[k].2.2.1 = ys[k].2.2.1
            · have qb2 : (xs[k].2.2.1 == ys[k].2.2.1) = true := by rw [q2]; exact beq_self_eq_true _
              by_cases q3 : xs[k].2.2.2 = ys[k].2.2.2
              · have qb3 : (xs[k].2.2.2 == ys[k].2.2.2) = true := by rw [q3]; exact beq_self_eq_true _
                have HQ : Hid (xs[k] = ys[k]) := Lib.hid (Prod.ext q0 (Prod.ext q1 (Prod.ext q2 (q3))))
                clear q0 q1 q2 q3
                go_wp2
                go_quiet (fail)
                go_wp2
                go_roundw
                case rel => exact ⟨k + 1, by go_num, by omega, Lib.hid (by rw [← List.take_append_getElem hlt, ← List.take_append_getElem hlt2, HT.out, HQ.out]), Lib.hid (B.below_drew HB.out _)⟩
                case measure => simp [intOf]; omega
              · have qb3 : (xs[k].2.2.2 == ys[k].2.2.2) = false := by rw [beq_eq_false_iff_ne]; exact q3
                have HQ : Hid (¬ xs[k] = ys[k]) := Lib.hid (fun e => q3 (by rw [e]))
                clear q0 q1 q2 q3
                go_wp2
                go_quiet (fail)
                go_wp2
                go_ret
                exact ⟨by rw [decide_eq_false (fun e => HQ.out (by subst e; rfl))]; rfl, B.below_drew HB.out _⟩
            · have qb2 : (xs[k].2.2.1 == ys[k].2.2.1) = false := by rw [beq_eq_false_iff_ne]; exact q2
              have HQ : Hid (¬ xs[k] = ys[k]) := Lib.hid (fun e => q2 (by rw [e]))
              clear q0 q1 q2
              go_wp2
              go_quiet (fail)
              go_wp2
              go_ret
              exact ⟨by rw [decide_eq_false (fun e => HQ.out (by subst e; rfl))]; rfl, B.below_drew HB.out _⟩
          · have qb1 : ((xs[k].2.1).toList == (ys[k].2.1).toList) = false := by rw [beq_eq_false_iff_ne]; intro e; exact q1 (ByteArray.ext (Array.toList_inj.1 (by simpa [ByteArray.toList_eq] using e)))
            have HQ : Hid (¬ xs[k] = ys[k]) := Lib.hid (fun e => q1 (by rw [e]))
            clear q0 q1
            go_wp2
            go_quiet (fail)
            go_wp2
            go_ret
            exact ⟨by rw [decide_eq_false (fun e => HQ.out (by subst e; rfl))]; rfl, B.below_drew HB.out _⟩
        · have qb0 : ((xs[k].1).toList == (ys[k].1).toList) = false := by rw [beq_eq_false_iff_ne]; intro e; exact q0 (ByteArray.ext (Array.toList_inj.1 (by simpa [ByteArray.toList_eq] using e)))
          have HQ : Hid (¬ xs[k] = ys[k]) := Lib.hid (fun e => q0 (by rw [e]))
          clear q0
          go_wp2
          go_quiet (fail)
          go_wp2
          go_ret
          exact ⟨by rw [decide_eq_false (fun e => HQ.out (by subst e; rfl))]; rfl, B.below_drew HB.out _⟩
      · obtain rfl : k = xs.length := by omega
        go_wp2
        go_ret
        have := HT.out
        rw [List.take_length, hl, List.take_length] at this
        exact ⟨by rw [decide_eq_true this]; rfl, HB.out⟩
  · go_enter Tryz.func35, Tryz.ntmps35
    go_wp2
    go_ret
    exact ⟨by rw [decide_eq_false (fun e => hl (by rw [e]))]; rfl, Below.refl _ _⟩
theorem eq_pl (v1 v2 : Value) (xs ys : List Rn.Pl) (w : World) (h1 : Rn.plK.S w v1 xs) (h2 : Rn.plK.S w v2 ys) (b : Bool) (hb : decide (xs = ys) = b) :
    Calls Tryz.prog 35 #[v1, v2] w fun e w' => e = .returned (.bool b) ∧ Below w.heap.size w w' :=
  eq_pf v1 v2 _ _ w (Rn.pl_pf h1) (Rn.pl_pf h2) b (by subst hb; exact decide_eq_decide.2 Rn.pf_inj)
end Go.Proofs.YtfillnkebohciaaGreatDoor.Eq
namespace Go.Proofs.YtfillnkebohciaaGreatDoor.Eq
open Go.RowKit
open Come (Pt ptK ptE)
theorem eq_pt (v1 v2 : Value) (xs ys : List (Pt)) (w : World) (h1 : ptK.S w v1 xs) (h2 : ptK.S w v2 ys) (b : Bool) (hb : decide (xs = ys) = b) :
    Calls Tryz.prog 16 #[v1, v2] w fun e w' => e = .returned (.bool b) ∧ Below w.heap.size w w' := by
  subst hb
  obtain ⟨A1, c1, rfl, C1⟩ := h1
  obtain ⟨A2, c2, rfl, C2⟩ := h2
  have L1 := C1.1
  have L2 := C2.1
  by_cases hl : xs.length = ys.length
  · go_enter Tryz.func16, Tryz.ntmps16
    go_wp2
    go_loopw [13] (fun s13 wr => ∃ (k : Nat), s13 = .int .i64 k ∧ k ≤ xs.length ∧ Hid (xs.take k = ys.take k) ∧ Hid (Below w.heap.size w wr)) (fun s13 _ => xs.length - (intOf s13).toNat)
    case atStart => exact ⟨0, rfl, by omega, Lib.hid rfl, Lib.hid (Below.refl _ _)⟩
    case round =>
      obtain ⟨k, rfl, hk, HT, HB⟩ := hrel
      by_cases hlt : k < xs.length
      · have hlt2 : k < ys.length := by omega
        obtain ⟨b1, o1, cs1, rfl, K1, e1⟩ := C1.at k hlt
        obtain ⟨b2, o2, cs2, rfl, K2, e2⟩ := C2.at k hlt2
        obtain rfl : cs1 = [.string xs[k].1, .int .i64 xs[k].2.1, .int .i64 xs[k].2.2.1, .int .i64 xs[k].2.2.2.1, .int .i64 xs[k].2.2.2.2] := K1
        obtain rfl : cs2 = [.string ys[k].1, .int .i64 ys[k].2.1, .int .i64 ys[k].2.2.1, .int .i64 ys[k].2.2.2.1, .int .i64 ys[k].2.2.2.2] := K2
        have f10 : wr.cell? ⟨b1, o1 + k * 5, none⟩ = some (.string xs[k].1) := by simpa [ptK, B.Kd.flat] using B.cell_below HB.out (e1 0 (by simp))
        have f20 : wr.cell? ⟨b2, o2 + k * 5, none⟩ = some (.string ys[k].1) := by simpa [ptK, B.Kd.flat] using B.cell_below HB.out (e2 0 (by simp))
        have f11 : wr.cell? ⟨b1, o1 + k * 5 + 1, none⟩ = some (.int .i64 xs[k].2.1) := by simpa [ptK, B.Kd.flat] using B.cell_below HB.out (e1 1 (by simp))
        have f21 : wr.cell? ⟨b2, o2 + k * 5 + 1, none⟩ = some (.int .i64 ys[k].2.1) := by simpa [ptK, B.Kd.flat] using B.cell_below HB.out (e2 1 (by simp))
        have f12 : wr.cell? ⟨b1, o1 + k * 5 + 2, none⟩ = some (.int .i64 xs[k].2.2.1) := by simpa [ptK, B.Kd.flat] using B.cell_below HB.out (e1 2 (by simp))
        have f22 : wr.cell? ⟨b2, o2 + k * 5 + 2, none⟩ = some (.int .i64 ys[k].2.2.1) := by simpa [ptK, B.Kd.flat] using B.cell_below HB.out (e2 2 (by simp))
        have f13 : wr.cell? ⟨b1, o1 + k * 5 + 3, none⟩ = some (.int .i64 xs[k].2.2.2.1) := by simpa [ptK, B.Kd.flat] using B.cell_below HB.out (e1 3 (by simp))
        have f23 : wr.cell? ⟨b2, o2 + k * 5 + 3, none⟩ = some (.int .i64 ys[k].2.2.2.1) := by simpa [ptK, B.Kd.flat] using B.cell_below HB.out (e2 3 (by simp))
        have f14 : wr.cell? ⟨b1, o1 + k * 5 + 4, none⟩ = some (.int .i64 xs[k].2.2.2.2) := by simpa [ptK, B.Kd.flat] using B.cell_below HB.out (e1 4 (by simp))
        have f24 : wr.cell? ⟨b2, o2 + k * 5 + 4, none⟩ = some (.int .i64 ys[k].2.2.2.2) := by simpa [ptK, B.Kd.flat] using B.cell_below HB.out (e2 4 (by simp))
        have hk1 : (k : Int) < xs.length := by omega
        have hk2 : (k : Int) < ys.length := by omega
        clear e1 e2
        by_cases q0 : xs[k].1 = ys[k].1
        · have qb0 : ((xs[k].1).toList == (ys[k].1).toList) = true := by rw [q0]; exact beq_self_eq_true _
          by_cases q1 : xs[k].2.1 = ys[k].2.1
          · have qb1 : (xs[k].2.1 == ys[k].2.1) = true := by rw [q1]; exact beq_self_eq_true _
            by_cases q2 : xs[k].2.2.1 = ys[k].2.2.1
            · have qb2 : (xs[k].2.2.1 == ys[k].2.2.1) = true := by rw [q2]; exact beq_self_eq_true _
              by_cases q3 : xs[k].2.2.2.1 = ys[k].2.2.2.1
              · have qb3 : (xs[k].2.2.2.1 == ys[k].2.2.2.1) = true := by rw [q3]; exact beq_self_eq_true _
                by_cases q4 : xs[k].2.2.2.2 = ys[k].2.2.2.2
                · have qb4 : (xs[k].2.2.2.2 == ys[k].2.2.2.2) = true := by rw [q4]; exact beq_self_eq_true _
                  have HQ : Hid (xs[k] = ys[k]) := Lib.hid (Prod.ext q0 (Prod.ext q1 (Prod.ext q2 (Prod.ext q3 (q4)))))
                  clear q0 q1 q2 q3 q4
                  go_wp2
                  go_quiet (fail)
                  go_wp2
                  go_roundw
                  case rel => exact ⟨k + 1, by go_num, by omega, Lib.hid (by rw [← List.take_append_getElem hlt, ← List.take_append_getElem hlt2, HT.out, HQ.out]), Lib.hid (B.below_drew HB.out _)⟩
                  case measure => simp [intOf]; omega
                · have qb4 : (xs[k].2.2.2.2 == ys[k].2.2.2.2) = false := by rw [beq_eq_false_iff_ne]; exact q4
                  have HQ : Hid (¬ xs[k] = ys[k]) := Lib.hid (fun e => q4 (by rw [e]))
                  clear q0 q1 q2 q3 q4
                  go_wp2
                  go_quiet (fail)
                  go_wp2
                  go_ret
                  exact ⟨by rw [decide_eq_false (fun e => HQ.out (by subst e; rfl))]; rfl, B.below_drew HB.out _⟩
              · have qb3 : (xs[k].2.2.2.1 == ys[k].2.2.2.1) = false := by rw [beq_eq_false_iff_ne]; exact q3
                have HQ : Hid (¬ xs[k] = ys[k]) := Lib.hid (fun e => q3 (by rw [e]))
                clear q0 q1 q2 q3
                go_wp2
                go_quiet (fail)
                go_wp2
                go_ret
                exact ⟨by rw [decide_eq_false (fun e => HQ.out (by subst e; rfl))]; rfl, B.below_drew HB.out _⟩
            · have qb2 : (xs[k].2.2.1 == ys[k].2.2.1) = false := by rw [beq_eq_false_iff_ne]; exact q2
              have HQ : Hid (¬ xs[k] = ys[k]) := Lib.hid (fun e => q2 (by rw [e]))
              clear q0 q1 q2
              go_wp2
              go_quiet (fail)
              go_wp2
              go_ret
              exact ⟨by rw [decide_eq_false (fun e => HQ.out (by subst e; rfl))]; rfl, B.below_drew HB.out _⟩
          · have qb1 : (xs[k].2.1 == ys[k].2.1) = false := by rw [beq_eq_false_iff_ne]; exact q1
            have HQ : Hid (¬ xs[k] = ys[k]) := Lib.hid (fun e => q1 (by rw [e]))
            clear q0 q1
            go_wp2
            go_quiet (fail)
            go_wp2
            go_ret
            exact ⟨by rw [decide_eq_false (fun e => HQ.out (by subst e; rfl))]; rfl, B.below_drew HB.out _⟩
        · have qb0 : ((xs[k].1).toList == (ys[k].1).toList) = false := by rw [beq_eq_false_iff_ne]; intro e; exact q0 (ByteArray.ext (Array.toList_inj.1 (by simpa [ByteArray.toList_eq] using e)))
          have HQ : Hid (¬ xs[k] = ys[k]) := Lib.hid (fun e => q0 (by rw [e]))
          clear q0
          go_wp2
          go_quiet (fail)
          go_wp2
          go_ret
          exact ⟨by rw [decide_eq_false (fun e => HQ.out (by subst e; rfl))]; rfl, B.below_drew HB.out _⟩
      · obtain rfl : k = xs.length := by omega
        go_wp2
        go_ret
        have := HT.out
        rw [List.take_length, hl, List.take_length] at this
        exact ⟨by rw [decide_eq_true this]; rfl, HB.out⟩
  · go_enter Tryz.func16, Tryz.ntmps16
    go_wp2
    go_ret
    exact ⟨by rw [decide_eq_false (fun e => hl (by rw [e]))]; rfl, Below.refl _ _⟩
end Go.Proofs.YtfillnkebohciaaGreatDoor.Eq
namespace Go.Proofs.YtfillnkebohciaaGreatDoor.Rn
open Go.RowKit

set_option maxRecDepth 100000 in
theorem clone_bk (v : Value) (xs : List (Bk)) (w : World) (h : bkK.S w v xs) (hb : xs.length ≤ 1048576) :
    Calls Tryz.prog 8 #[v] w fun e w' => ∃ v', e = .returned v' ∧ B.Own w' w.heap.size 34 3 bkE v' xs ∧ Below w.heap.size w w' := by
  obtain ⟨A1, cap, rfl, C⟩ := h
  have HL := Lib.hid hb
  clear hb
  cases A1 with
  | none =>
    obtain rfl : xs = [] := List.eq_nil_of_length_eq_zero (Nat.eq_zero_of_not_pos fun hp => by obtain ⟨_, _, e, _⟩ := C.2 hp; cases e)
    clear HL C
    have hnil := fun w a n c => Lib.run_eql_slice_nil (P := Tryz.prog) w 29 34 a n c 0 0 Tryz.underlying29
    go_enter Tryz.func8, Tryz.ntmps8
    go_wp2
    go_ret
    exact ⟨_, rfl, B.Own.nil _ _ _ _ _, Below.refl _ _⟩
  | some A =>
    have HB := Lib.hid ((Below.refl _ w).alloc (Nat.le_refl _) (.cells #[] 34))
    have HC := Lib.hid (C.mono HB.out)
    have HO := Lib.hid (Copy.lit_own w w.heap.size (Nat.le_refl _) 34 3 bkE)
    clear C
    have hnil := fun w a n c => Lib.run_eql_slice_nil (P := Tryz.prog) w 29 34 a n c 0 0 Tryz.underlying29
    go_enter Tryz.func8, Tryz.ntmps8
    go_wp2_with (at_builtin; (refine B.wpl_append_all (w0 := w) w.heap.size rfl _ _ 29 34 (.agg #[.string ⟨#[]⟩, .int .i64 0, .int .i64 0]) 3 32 rfl Tryz.underlying29 info_bk rfl (by decide) (by decide) bkE (fun _ => rfl) bkE1 _ [] xs HO.out rfl A cap rfl HC.out HB.out (by simp) (by have := HL.out; simp; omega) ?_); intro v1 w1 HO1 HB1 _; rw [List.nil_append] at HO1)
    go_ret
    exact ⟨_, rfl, HO1, HB1⟩
end Go.Proofs.YtfillnkebohciaaGreatDoor.Rn
