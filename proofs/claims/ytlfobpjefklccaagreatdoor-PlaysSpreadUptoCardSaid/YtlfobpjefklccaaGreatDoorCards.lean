/-
  DERIVED. GIVEN WITH THE SEED: THE CARDS: each row of YtlfobpjefklccaaGreatDoorRows.lean that lists a variable, with what it lists TIED to the program's text (the seventh form; the later family's looks); each row that meets fmt, with fmt's text TOLD by the authors' own Lean function (tested against real Go, not proved from fmt's source: count such statements apart). THE CARD IS WHAT COUNTS. Prove the row's statement (the work); the ties are given (YtlfobpjefklccaaGreatDoorTie.lean); close each card by the builder's one call (the guide's Derived/Test/ToyasCard.lean, 'card_holds'). Laid BY PROGRAM, IN A SANDBOX (cutbox-door.mjs). By AI agents, Wed Nov 11 2026. No macro, syntax, notation, axiom, sorry.
-/
import Derived.Test.YtlfobpjefklccaaGreatDoorRows
import GoSem.ClaimSeven
namespace Go.Proofs.YtlfobpjefklccaaGreatDoor
namespace Rows

/-- THE TIED CARD OF 'signlaw1.LoopsComeRound'. -/
def loopsComeRoundCard : Claim7 := { stood := { row := loopsComeRoundRow, standIns := [], harness := (true, "f5a2a9288734621d18a679cfb3891cc946a2acc62ee7f8007e5fa3e41d4d311c"), looks := false }, kinds := [], alts := [], laidByText := true, laidKinds := [.data, .pinned], laidTests := true, laidLooks := .later }
def LoopsComeRoundCardSaid : Prop := Claim7.holds Tryz.pinned (.plain (OpenSpec.ofChange loopsComeRoundSpec)) loopsComeRoundCard

/-- THE TIED CARD OF 'signlaw1.PlaysSpread'. -/
def playsSpreadCard : Claim7 := { stood := { row := playsSpreadRow, standIns := [], harness := (true, "f5a2a9288734621d18a679cfb3891cc946a2acc62ee7f8007e5fa3e41d4d311c"), looks := false }, kinds := [], alts := [], laidByText := true, laidKinds := [.data, .data, .data, .data, .pinned], laidTests := true, laidLooks := .later }
def PlaysSpreadCardSaid : Prop := Claim7.holds Tryz.pinned (.plain (OpenSpec.ofChange playsSpreadSpec)) playsSpreadCard

/-- THE SECOND FORM's CARD OF 'signlaw1.LoopsComeRound'. -/
def loopsComeRoundUptoCard : Claim7 := { stood := { row := loopsComeRoundUptoRow, standIns := [], harness := (true, "f5a2a9288734621d18a679cfb3891cc946a2acc62ee7f8007e5fa3e41d4d311c"), looks := false }, kinds := [], alts := [], laidByText := true, laidKinds := [.data, .pinned], laidTests := true, laidLooks := .later }
def LoopsComeRoundUptoCardSaid : Prop := Claim7.holds Tryz.pinned (.plain (OpenSpec.upto loopsComeRoundSpec)) loopsComeRoundUptoCard

/-- THE SECOND FORM's CARD OF 'signlaw1.PlaysSpread'. -/
def playsSpreadUptoCard : Claim7 := { stood := { row := playsSpreadUptoRow, standIns := [], harness := (true, "f5a2a9288734621d18a679cfb3891cc946a2acc62ee7f8007e5fa3e41d4d311c"), looks := false }, kinds := [], alts := [], laidByText := true, laidKinds := [.data, .data, .data, .data, .pinned], laidTests := true, laidLooks := .later }
def PlaysSpreadUptoCardSaid : Prop := Claim7.holds Tryz.pinned (.plain (OpenSpec.upto playsSpreadSpec)) playsSpreadUptoCard
end Rows
end Go.Proofs.YtlfobpjefklccaaGreatDoor
