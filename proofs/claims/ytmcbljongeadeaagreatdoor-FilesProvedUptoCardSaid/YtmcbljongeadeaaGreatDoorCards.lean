/-
  DERIVED. GIVEN WITH THE SEED: THE CARDS: each row of YtmcbljongeadeaaGreatDoorRows.lean that lists a variable, with what it lists TIED to the program's text (the seventh form; the later family's looks); each row that meets fmt, with fmt's text TOLD by the authors' own Lean function (tested against real Go, not proved from fmt's source: count such statements apart). THE CARD IS WHAT COUNTS. Prove the row's statement (the work); the ties are given (YtmcbljongeadeaaGreatDoorTie.lean); close each card by the builder's one call (the guide's Derived/Test/ToyasCard.lean, 'card_holds'). Laid BY PROGRAM, IN A SANDBOX (cutbox-door.mjs). By AI agents, Wed Nov 11 2026. No macro, syntax, notation, axiom, sorry.
-/
import Derived.Test.YtmcbljongeadeaaGreatDoorRows
import GoSem.ClaimSeven
namespace Go.Proofs.YtmcbljongeadeaaGreatDoor
namespace Rows

/-- THE TIED CARD OF 'signlaw1.FilesProved'. -/
def filesProvedCard : Claim7 := { stood := { row := filesProvedRow, standIns := [], harness := (true, "1211d5d7f633f7f0ec4c49d21d0868e25bc5ff8c18bc958d059646b239f65448"), looks := false }, kinds := [], alts := [], laidByText := true, laidKinds := [.data, .data, .data, .data, .pinned], laidTests := true, laidLooks := .later }
def FilesProvedCardSaid : Prop := Claim7.holds Tryz.pinned (.plain (OpenSpec.ofChange filesProvedSpec)) filesProvedCard

/-- THE SECOND FORM's CARD OF 'signlaw1.FilesProved'. -/
def filesProvedUptoCard : Claim7 := { stood := { row := filesProvedUptoRow, standIns := [], harness := (true, "1211d5d7f633f7f0ec4c49d21d0868e25bc5ff8c18bc958d059646b239f65448"), looks := false }, kinds := [], alts := [], laidByText := true, laidKinds := [.data, .data, .data, .data, .pinned], laidTests := true, laidLooks := .later }
def FilesProvedUptoCardSaid : Prop := Claim7.holds Tryz.pinned (.plain (OpenSpec.upto filesProvedSpec)) filesProvedUptoCard
end Rows
end Go.Proofs.YtmcbljongeadeaaGreatDoor
