/-
  DERIVED. GIVEN WITH THE SEED: THE CARDS: each row of YtlfobpjefklccaaDoorRows.lean that lists a variable, with what it lists TIED to the program's text (the seventh form; the later family's looks); each row that meets fmt, with fmt's text TOLD by the authors' own Lean function (tested against real Go, not proved from fmt's source: count such statements apart). THE CARD IS WHAT COUNTS. Prove the row's statement (the work); the ties are given (YtlfobpjefklccaaDoorTie.lean); close each card by the builder's one call (the guide's Derived/Test/ToyasCard.lean, 'card_holds'). Laid BY PROGRAM, IN A SANDBOX (cutbox-door.mjs). By AI agents, Wed Nov 11 2026. No macro, syntax, notation, axiom, sorry.
-/
import Derived.Test.YtlfobpjefklccaaDoorRows
import GoSem.ClaimSeven
namespace Go.Proofs.YtlfobpjefklccaaDoor
namespace Rows

/-- THE TIED CARD OF 'signlaw1.LoopsShrink'. -/
def loopsShrinkCard : Claim7 := { stood := { row := loopsShrinkRow, standIns := [], harness := (true, "05e56fd33ff7a1744ac553c5f29c8227cdb2d5d9f1e70882d2bfbc22c30ddba4"), looks := false }, kinds := [], alts := [], laidByText := true, laidKinds := [.data, .pinned], laidTests := true, laidLooks := .later }
def LoopsShrinkCardSaid : Prop := Claim7.holds Tryd.pinned (.plain (OpenSpec.ofChange loopsShrinkSpec)) loopsShrinkCard

/-- THE SECOND FORM's CARD OF 'signlaw1.LoopsShrink'. -/
def loopsShrinkUptoCard : Claim7 := { stood := { row := loopsShrinkUptoRow, standIns := [], harness := (true, "05e56fd33ff7a1744ac553c5f29c8227cdb2d5d9f1e70882d2bfbc22c30ddba4"), looks := false }, kinds := [], alts := [], laidByText := true, laidKinds := [.data, .pinned], laidTests := true, laidLooks := .later }
def LoopsShrinkUptoCardSaid : Prop := Claim7.holds Tryd.pinned (.plain (OpenSpec.upto loopsShrinkSpec)) loopsShrinkUptoCard
end Rows
end Go.Proofs.YtlfobpjefklccaaDoor
