/-
  DERIVED. GIVEN WITH THE SEED: THE CARDS: each row of YtfillnkebohciaaGreatDoorRows.lean that lists a variable, with what it lists TIED to the program's text (the seventh form; the later family's looks); each row that meets fmt, with fmt's text TOLD by the authors' own Lean function (tested against real Go, not proved from fmt's source: count such statements apart). THE CARD IS WHAT COUNTS. Prove the row's statement (the work); the ties are given (YtfillnkebohciaaGreatDoorTie.lean); close each card by the builder's one call (the guide's Derived/Test/ToyasCard.lean, 'card_holds'). Laid BY PROGRAM, IN A SANDBOX (cutbox-door.mjs). By AI agents, Wed Nov 11 2026. No macro, syntax, notation, axiom, sorry.
-/
import Derived.Test.YtfillnkebohciaaGreatDoorRows
import GoSem.ClaimSeven
namespace Go.Proofs.YtfillnkebohciaaGreatDoor
namespace Rows

/-- THE TIED CARD OF 'signlaw1.LoopsComeRound'. -/
def loopsComeRoundCard : Claim7 := { stood := { row := loopsComeRoundRow, standIns := [], harness := (true, "336daec59126af16bc4e70ecc6ff0e4e3a7a7264a8282941f2ab263303fb5411"), looks := false }, kinds := [], alts := [], laidByText := true, laidKinds := [.data, .pinned], laidTests := true, laidLooks := .later }
def LoopsComeRoundCardSaid : Prop := Claim7.holds Tryz.pinned (.plain (OpenSpec.ofChange loopsComeRoundSpec)) loopsComeRoundCard

/-- THE TIED CARD OF 'signlaw1.LoopsInterrupted'. -/
def loopsInterruptedCard : Claim7 := { stood := { row := loopsInterruptedRow, standIns := [], harness := (true, "336daec59126af16bc4e70ecc6ff0e4e3a7a7264a8282941f2ab263303fb5411"), looks := false }, kinds := [], alts := [], laidByText := true, laidKinds := [.data, .pinned], laidTests := true, laidLooks := .later }
def LoopsInterruptedCardSaid : Prop := Claim7.holds Tryz.pinned (.plain (OpenSpec.ofChange loopsInterruptedSpec)) loopsInterruptedCard

/-- THE SECOND FORM's CARD OF 'signlaw1.LoopsComeRound'. -/
def loopsComeRoundUptoCard : Claim7 := { stood := { row := loopsComeRoundUptoRow, standIns := [], harness := (true, "336daec59126af16bc4e70ecc6ff0e4e3a7a7264a8282941f2ab263303fb5411"), looks := false }, kinds := [], alts := [], laidByText := true, laidKinds := [.data, .pinned], laidTests := true, laidLooks := .later }
def LoopsComeRoundUptoCardSaid : Prop := Claim7.holds Tryz.pinned (.plain (OpenSpec.upto loopsComeRoundSpec)) loopsComeRoundUptoCard

/-- THE SECOND FORM's CARD OF 'signlaw1.LoopsInterrupted'. -/
def loopsInterruptedUptoCard : Claim7 := { stood := { row := loopsInterruptedUptoRow, standIns := [], harness := (true, "336daec59126af16bc4e70ecc6ff0e4e3a7a7264a8282941f2ab263303fb5411"), looks := false }, kinds := [], alts := [], laidByText := true, laidKinds := [.data, .pinned], laidTests := true, laidLooks := .later }
def LoopsInterruptedUptoCardSaid : Prop := Claim7.holds Tryz.pinned (.plain (OpenSpec.upto loopsInterruptedSpec)) loopsInterruptedUptoCard
end Rows
end Go.Proofs.YtfillnkebohciaaGreatDoor
