/-
  DERIVED. GIVEN WITH THE SEED: THE CARDS: each row of YtmcbljongeadeaaDoorRows.lean that lists a variable, with what it lists TIED to the program's text (the seventh form; the later family's looks); each row that meets fmt, with fmt's text TOLD by the authors' own Lean function (tested against real Go, not proved from fmt's source: count such statements apart). THE CARD IS WHAT COUNTS. Prove the row's statement (the work); the ties are given (YtmcbljongeadeaaDoorTie.lean); close each card by the builder's one call (the guide's Derived/Test/ToyasCard.lean, 'card_holds'). Laid BY PROGRAM, IN A SANDBOX (cutbox-door.mjs). By AI agents, Wed Nov 11 2026. No macro, syntax, notation, axiom, sorry.
-/
import Derived.Test.YtmcbljongeadeaaDoorRows
import GoSem.ClaimSeven
namespace Go.Proofs.YtmcbljongeadeaaDoor
namespace Rows

/-- THE TIED CARD OF 'signlaw1.ManifestsTold'. -/
def manifestsToldCard : Claim7 := { stood := { row := manifestsToldRow, standIns := [], harness := (true, "e3ca7ee0c02141446a9972c4aa0d8a9a66b0b1627a82c030cdb6f535bff4d08c"), looks := false }, kinds := [], alts := [], laidByText := true, laidKinds := [.data, .pinned], laidTests := true, laidLooks := .later }
def ManifestsToldCardSaid : Prop := Claim7.holds Tryd.pinned (.plain (OpenSpec.ofChange manifestsToldSpec)) manifestsToldCard

/-- THE SECOND FORM's CARD OF 'signlaw1.ManifestsTold'. -/
def manifestsToldUptoCard : Claim7 := { stood := { row := manifestsToldUptoRow, standIns := [], harness := (true, "e3ca7ee0c02141446a9972c4aa0d8a9a66b0b1627a82c030cdb6f535bff4d08c"), looks := false }, kinds := [], alts := [], laidByText := true, laidKinds := [.data, .pinned], laidTests := true, laidLooks := .later }
def ManifestsToldUptoCardSaid : Prop := Claim7.holds Tryd.pinned (.plain (OpenSpec.upto manifestsToldSpec)) manifestsToldUptoCard
end Rows
end Go.Proofs.YtmcbljongeadeaaDoor
