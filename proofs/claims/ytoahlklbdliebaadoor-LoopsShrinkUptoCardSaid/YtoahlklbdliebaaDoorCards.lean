/-
  DERIVED. GIVEN WITH THE SEED: THE CARDS: each row of YtoahlklbdliebaaDoorRows.lean that lists a variable, with what it lists TIED to the program's text (the seventh form; the later family's looks); each row that meets fmt, with fmt's text TOLD by the authors' own Lean function (tested against real Go, not proved from fmt's source: count such statements apart). THE CARD IS WHAT COUNTS. Prove the row's statement (the work); the ties are given (YtoahlklbdliebaaDoorTie.lean); close each card by the builder's one call (the guide's Derived/Test/ToyasCard.lean, 'card_holds'). Laid BY PROGRAM, IN A SANDBOX (cutbox-door.mjs). By AI agents, Wed Nov 11 2026. No macro, syntax, notation, axiom, sorry.
-/
import Derived.Test.YtoahlklbdliebaaDoorRows
import GoSem.ClaimSeven
namespace Go.Proofs.YtoahlklbdliebaaDoor
namespace Rows

/-- THE TIED CARD OF 'signlaw1.LoopsPass'. -/
def loopsPassCard : Claim7 := { stood := { row := loopsPassRow, standIns := [], harness := (true, "5c08ba3fc6b4ce45ff3e29696d4cc7cc7e1f9b56c257b4b8f0aeff8e60c343bd"), looks := false }, kinds := [], alts := [], laidByText := true, laidKinds := [.data, .pinned], laidTests := true, laidLooks := .later }
def LoopsPassCardSaid : Prop := Claim7.holds Tryd.pinned (.plain (OpenSpec.ofChange loopsPassSpec)) loopsPassCard

/-- THE TIED CARD OF 'signlaw1.LoopsShrink'. -/
def loopsShrinkCard : Claim7 := { stood := { row := loopsShrinkRow, standIns := [], harness := (true, "5c08ba3fc6b4ce45ff3e29696d4cc7cc7e1f9b56c257b4b8f0aeff8e60c343bd"), looks := false }, kinds := [], alts := [], laidByText := true, laidKinds := [.data, .pinned], laidTests := true, laidLooks := .later }
def LoopsShrinkCardSaid : Prop := Claim7.holds Tryd.pinned (.plain (OpenSpec.ofChange loopsShrinkSpec)) loopsShrinkCard

/-- THE SECOND FORM's CARD OF 'signlaw1.LoopsPass'. -/
def loopsPassUptoCard : Claim7 := { stood := { row := loopsPassUptoRow, standIns := [], harness := (true, "5c08ba3fc6b4ce45ff3e29696d4cc7cc7e1f9b56c257b4b8f0aeff8e60c343bd"), looks := false }, kinds := [], alts := [], laidByText := true, laidKinds := [.data, .pinned], laidTests := true, laidLooks := .later }
def LoopsPassUptoCardSaid : Prop := Claim7.holds Tryd.pinned (.plain (OpenSpec.upto loopsPassSpec)) loopsPassUptoCard

/-- THE SECOND FORM's CARD OF 'signlaw1.LoopsShrink'. -/
def loopsShrinkUptoCard : Claim7 := { stood := { row := loopsShrinkUptoRow, standIns := [], harness := (true, "5c08ba3fc6b4ce45ff3e29696d4cc7cc7e1f9b56c257b4b8f0aeff8e60c343bd"), looks := false }, kinds := [], alts := [], laidByText := true, laidKinds := [.data, .pinned], laidTests := true, laidLooks := .later }
def LoopsShrinkUptoCardSaid : Prop := Claim7.holds Tryd.pinned (.plain (OpenSpec.upto loopsShrinkSpec)) loopsShrinkUptoCard
end Rows
end Go.Proofs.YtoahlklbdliebaaDoor
