/- How an argument that is a loop opens. -/
import Derived.Test.YtfillnkebohciaaGreatDoorLpStay
namespace Go.Proofs.YtfillnkebohciaaGreatDoor.L
open Go.RowKit Go.ChangeShapes
set_option maxRecDepth 100000 in
theorem arg_loop {H : Type} {enc : TypeId × Value → H} {W : World} {base b0 : Nat} {sp : Nat → Bool} {held : Bool} {v : Value} {x : DataW H} {ps : List MemPlace} (hv : Value.okWide Tryz.prog W .any b0 25 v) (h : DataW.Trod enc Tryz.prog W base sp held 25 v x ps) (hb : Rows.uptoBulk x ≤ 1048576) :
    ∃ n y A As c c', v = lv y A As c c' ∧ At n W y A As := by
  obtain ⟨cs, rfl, -⟩ := Go.WideShapes.okWide_struct Tryz.underlying25 hv
  obtain ⟨fuel, hf⟩ := h
  obtain ⟨y, hK⟩ := opens H enc W base sp held fuel _ _ hf hb
  cases fuel with
  | zero => exact hK.elim
  | succ n =>
    obtain ⟨A, As, c, c', e, h1, h2, h3⟩ := hK
    refine ⟨n, y, A, As, c, c', ?_, h1, h2, h3⟩
    have e' : cs.toList = row y A As c c' := e
    obtain ⟨l⟩ := cs
    subst e'
    rfl
end Go.Proofs.YtfillnkebohciaaGreatDoor.L
