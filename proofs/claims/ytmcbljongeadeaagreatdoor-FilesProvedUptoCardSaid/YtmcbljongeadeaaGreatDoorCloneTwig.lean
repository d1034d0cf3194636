/- slices.Clone at twigs. -/
import Derived.Test.YtmcbljongeadeaaGreatDoorProof
namespace Go.Proofs.YtmcbljongeadeaaGreatDoor.Pf
open Go.RowKit

set_option maxRecDepth 100000 in
theorem clone_twig (v : Value) (xs : List (Bool × ByteArray)) (w : World) (h : B.Kd.twig.S w v xs) (hb : xs.length ≤ 1048576) :
    Calls Tryz.prog 6 #[v] w fun e w' => ∃ v', e = .returned v' ∧ B.Own w' w.heap.size 33 2 twE v' xs ∧ Below w.heap.size w w' := by
  obtain ⟨A1, cap, rfl, C⟩ := h
  have HL := Lib.hid hb
  clear hb
  cases A1 with
  | none =>
    obtain rfl : xs = [] := List.eq_nil_of_length_eq_zero (Nat.eq_zero_of_not_pos fun hp => by obtain ⟨_, _, e, _⟩ := C.2 hp; cases e)
    clear HL C
    have hnil := fun w a n c => Lib.run_eql_slice_nil (P := Tryz.prog) w 28 33 a n c 0 0 Tryz.underlying28
    go_enter Tryz.func6, Tryz.ntmps6
    go_wp2
    go_ret
    exact ⟨_, rfl, B.Own.nil _ _ _ _ _, Below.refl _ _⟩
  | some A =>
    have HB := Lib.hid ((Below.refl _ w).alloc (Nat.le_refl _) (.cells #[] 33))
    have HC := Lib.hid (C.mono HB.out)
    have HO := Lib.hid (Copy.lit_own w w.heap.size (Nat.le_refl _) 33 2 twE)
    clear C
    have hnil := fun w a n c => Lib.run_eql_slice_nil (P := Tryz.prog) w 28 33 a n c 0 0 Tryz.underlying28
    go_enter Tryz.func6, Tryz.ntmps6
    go_wp2_with (at_builtin; (refine B.wpl_append_all (w0 := w) w.heap.size rfl _ _ 28 33 (.agg #[.bool false, .string ⟨#[]⟩]) 2 24 rfl Tryz.underlying28 info_twig rfl (by decide) (by decide) twE (fun _ => rfl) twE1 _ [] xs HO.out rfl A cap rfl HC.out HB.out (by simp) (by have := HL.out; simp; omega) ?_); intro v1 w1 HO1 HB1 _; rw [List.nil_append] at HO1)
    go_ret
    exact ⟨_, rfl, HO1, HB1⟩

end Go.Proofs.YtmcbljongeadeaaGreatDoor.Pf
