/- slices.Equal and its kind at the program's types: printed by wip/gen/eqs.py. -/
import Derived.Test.YtlfobpjefklccaaGreatDoorProg
import Derived.Test.YtlfobpjefklccaaGreatDoorBase
import Derived.Test.YtlfobpjefklccaaGreatDoorPort
import Derived.WalkLawsBesides
import Derived.WalkSpells
import Derived.Deep.QuietTactic
import Derived.BigQuiet
import Derived.LoopTactic
namespace Go.Proofs.YtlfobpjefklccaaGreatDoor.Eq
open Go.RowKit
open Come (Pt ptK ptE)
theorem eq_pt (v1 v2 : Value) (xs ys : List (Pt)) (w : World) (h1 : ptK.S w v1 xs) (h2 : ptK.S w v2 ys) (b : Bool) (hb : decide (xs = ys) = b) :
    Calls Tryz.prog 16 #[v1, v2] w fun e w' => e = .returned (.bool b) ∧ Below w.heap.size w w' := by
  subst hb
  obtain ⟨A1, c1, rfl, C1⟩ := h1
  obtain ⟨A2, c2, rfl, C2⟩ := h2
  have L1 := C1.1
  have L2 := C2.1
  by_cases hl : xs.length = ys.length
  · go_enter Tryz.func16, Tryz.ntmps16
    go_wp2
    go_loopw [13] (fun s13 wr => ∃ (k : Nat), s13 = .int .i64 k ∧ k ≤ xs.length ∧ Hid (xs.take k = ys.take k) ∧ Hid (Below w.heap.size w wr)) (fun s13 _ => xs.length - (intOf s13).toNat)
    case atStart => exact ⟨0, rfl, by omega, Lib.hid rfl, Lib.hid (Below.refl _ _)⟩
    case round =>
      obtain ⟨k, rfl, hk, HT, HB⟩ := hrel
      by_cases hlt : k < xs.length
      · have hlt2 : k < ys.length := by omega
        obtain ⟨b1, o1, cs1, rfl, K1, e1⟩ := C1.at k hlt
        obtain ⟨b2, o2, cs2, rfl, K2, e2⟩ := C2.at k hlt2
        obtain rfl : cs1 = [.string xs[k].1, .int .i64 xs[k].2.1, .int .i64 xs[k].2.2.1, .int .i64 xs[k].2.2.2.1, .int .i64 xs[k].2.2.2.2] := K1
        obtain rfl : cs2 = [.string ys[k].1, .int .i64 ys[k].2.1, .int .i64 ys[k].2.2.1, .int .i64 ys[k].2.2.2.1, .int .i64 ys[k].2.2.2.2] := K2
        have f10 : wr.cell? ⟨b1, o1 + k * 5, none⟩ = some (.string xs[k].1) := by simpa [ptK, B.Kd.flat] using B.cell_below HB.out (e1 0 (by simp))
        have f20 : wr.cell? ⟨b2, o2 + k * 5, none⟩ = some (.string ys[k].1) := by simpa [ptK, B.Kd.flat] using B.cell_below HB.out (e2 0 (by simp))
        have f11 : wr.cell? ⟨b1, o1 + k * 5 + 1, none⟩ = some (.int .i64 xs[k].2.1) := by simpa [ptK, B.Kd.flat] using B.cell_below HB.out (e1 1 (by simp))
        have f21 : wr.cell? ⟨b2, o2 + k * 5 + 1, none⟩ = some (.int .i64 ys[k].2.1) := by simpa [ptK, B.Kd.flat] using B.cell_below HB.out (e2 1 (by simp))
        have f12 : wr.cell? ⟨b1, o1 + k * 5 + 2, none⟩ = some (.int .i64 xs[k].2.2.1) := by simpa [ptK, B.Kd.flat] using B.cell_below HB.out (e1 2 (by simp))
        have f22 : wr.cell? ⟨b2, o2 + k * 5 + 2, none⟩ = some (.int .i64 ys[k].2.2.1) := by simpa [ptK, B.Kd.flat] using B.cell_below HB.out (e2 2 (by simp))
        have f13 : wr.cell? ⟨b1, o1 + k * 5 + 3, none⟩ = some (.int .i64 xs[k].2.2.2.1) := by simpa [ptK, B.Kd.flat] using B.cell_below HB.out (e1 3 (by simp))
        have f23 : wr.cell? ⟨b2, o2 + k * 5 + 3, none⟩ = some (.int .i64 ys[k].2.2.2.1) := by simpa [ptK, B.Kd.flat] using B.cell_below HB.out (e2 3 (by simp))
        have f14 : wr.cell? ⟨b1, o1 + k * 5 + 4, none⟩ = some (.int .i64 xs[k].2.2.2.2) := by simpa [ptK, B.Kd.flat] using B.cell_below HB.out (e1 4 (by simp))
        have f24 : wr.cell? ⟨b2, o2 + k * 5 + 4, none⟩ = some (.int .i64 ys[k].2.2.2.2) := by simpa [ptK, B.Kd.flat] using B.cell_below HB.out (e2 4 (by simp))
        have hk1 : (k : Int) < xs.length := by omega
        have hk2 : (k : Int) < ys.length := by omega
        clear e1 e2
        by_cases q0 : xs[k].1 = ys[k].1
        · have qb0 : ((xs[k].1).toList == (ys[k].1).toList) = true := by rw [q0]; exact beq_self_eq_true _
          by_cases q1 : xs[k].2.1 = ys[k].2.1
          · have qb1 : (xs[k].2.1 == ys[k].2.1) = true := by rw [q1]; exact beq_self_eq_true _
            by_cases q2 : xs[k].2.2.1 = ys[k].2.2.1
            · have qb2 : (xs[k].2.2.1 == ys[k].2.2.1) = true := by rw [q2]; exact beq_self_eq_true _
              by_cases q3 : xs[k].2.2.2.1 = ys[k].2.2.2.1
              · have qb3 : (xs[k].2.2.2.1 == ys[k].2.2.2.1) = true := by rw [q3]; exact beq_self_eq_true _
                by_cases q4 : xs[k].2.2.2.2 = ys[k].2.2.2.2
                · have qb4 : (xs[k].2.2.2.2 == ys[k].2.2.2.2) = true := by rw [q4]; exact beq_self_eq_true _
                  have HQ : Hid (xs[k] = ys[k]) := Lib.hid (Prod.ext q0 (Prod.ext q1 (Prod.ext q2 (Prod.ext q3 (q4)))))
                  clear q0 q1 q2 q3 q4
                  go_wp2
                  go_quiet (fail)
                  go_wp2
                  go_roundw
                  case rel => exact ⟨k + 1, by go_num, by omega, Lib.hid (by rw [← List.take_append_getElem hlt, ← List.take_append_getElem hlt2, HT.out, HQ.out]), Lib.hid (B.below_drew HB.out _)⟩
                  case measure => simp [intOf]; omega
                · have qb4 : (xs[k].2.2.2.2 == ys[k].2.2.2.2) = false := by rw [beq_eq_false_iff_ne]; exact q4
                  have HQ : Hid (¬ xs[k] = ys[k]) := Lib.hid (fun e => q4 (by rw [e]))
                  clear q0 q1 q2 q3 q4
                  go_wp2
                  go_quiet (fail)
                  go_wp2
                  go_ret
                  exact ⟨by rw [decide_eq_false (fun e => HQ.out (by subst e; rfl))]; rfl, B.below_drew HB.out _⟩
              · have qb3 : (xs[k].2.2.2.1 == ys[k].2.2.2.1) = false := by rw [beq_eq_false_iff_ne]; exact q3
                have HQ : Hid (¬ xs[k] = ys[k]) := Lib.hid (fun e => q3 (by rw [e]))
                clear q0 q1 q2 q3
                go_wp2
                go_quiet (fail)
                go_wp2
                go_ret
                exact ⟨by rw [decide_eq_false (fun e => HQ.out (by subst e; rfl))]; rfl, B.below_drew HB.out _⟩
            · have qb2 : (xs[k].2.2.1 == ys[k].2.2.1) = false := by rw [beq_eq_false_iff_ne]; exact q2
              have HQ : Hid (¬ xs[k] = ys[k]) := Lib.hid (fun e => q2 (by rw [e]))
              clear q0 q1 q2
              go_wp2
              go_quiet (fail)
              go_wp2
              go_ret
              exact ⟨by rw [decide_eq_false (fun e => HQ.out (by subst e; rfl))]; rfl, B.below_drew HB.out _⟩
          · have qb1 : (xs[k].2.1 == ys[k].2.1) = false := by rw [beq_eq_false_iff_ne]; exact q1
            have HQ : Hid (¬ xs[k] = ys[k]) := Lib.hid (fun e => q1 (by rw [e]))
            clear q0 q1
            go_wp2
            go_quiet (fail)
            go_wp2
            go_ret
            exact ⟨by rw [decide_eq_false (fun e => HQ.out (by subst e; rfl))]; rfl, B.below_drew HB.out _⟩
        · have qb0 : ((xs[k].1).toList == (ys[k].1).toList) = false := by rw [beq_eq_false_iff_ne]; intro e; exact q0 (ByteArray.ext (Array.toList_inj.1 (by simpa [ByteArray.toList_eq] using e)))
          have HQ : Hid (¬ xs[k] = ys[k]) := Lib.hid (fun e => q0 (by rw [e]))
          clear q0
          go_wp2
          go_quiet (fail)
          go_wp2
          go_ret
          exact ⟨by rw [decide_eq_false (fun e => HQ.out (by subst e; rfl))]; rfl, B.below_drew HB.out _⟩
      · obtain rfl : k = xs.length := by omega
        go_wp2
        go_ret
        have := HT.out
        rw [List.take_length, hl, List.take_length] at this
        exact ⟨by rw [decide_eq_true this]; rfl, HB.out⟩
  · go_enter Tryz.func16, Tryz.ntmps16
    go_wp2
    go_ret
    exact ⟨by rw [decide_eq_false (fun e => hl (by rw [e]))]; rfl, Below.refl _ _⟩
end Go.Proofs.YtlfobpjefklccaaGreatDoor.Eq
