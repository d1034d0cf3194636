/-
  DERIVED. GIVEN WITH THE SEED: THE CARDS: each row of YtdgkknjapfdlaaaDoorRows.lean that lists a variable, with what it lists TIED to the program's text (the seventh form; the later family's looks); each row that meets fmt, with fmt's text TOLD by the authors' own Lean function (tested against real Go, not proved from fmt's source: count such statements apart). THE CARD IS WHAT COUNTS. Prove the row's statement (the work); the ties are given (YtdgkknjapfdlaaaDoorTie.lean); close each card by the builder's one call (the guide's Derived/Test/ToyasCard.lean, 'card_holds'). Laid BY PROGRAM, IN A SANDBOX (cutbox-door.mjs). By AI agents, Wed Nov 11 2026. No macro, syntax, notation, axiom, sorry.
-/
import Derived.Test.YtdgkknjapfdlaaaDoorRows
import GoSem.ClaimSeven
namespace Go.Proofs.YtdgkknjapfdlaaaDoor
namespace Rows

/-- THE TIED CARD OF 'signlaw1.ContentCut'. -/
def contentCutCard : Claim7 := { stood := { row := contentCutRow, standIns := [], harness := (true, "81c27f71258807c7c497dffe725e001755bac9e0f3d180d531d0066b090bae6c"), looks := false }, kinds := [], alts := [], laidByText := true, laidKinds := [.data, .data, .data], laidTests := true, laidLooks := .later }
def ContentCutCardSaid : Prop := Claim7.holds Tryd.pinned (.plain (OpenSpec.ofChange contentCutSpec)) contentCutCard

/-- THE TIED CARD OF 'signlaw1.PiecesSpread'. -/
def piecesSpreadCard : Claim7 := { stood := { row := piecesSpreadRow, standIns := [], harness := (true, "81c27f71258807c7c497dffe725e001755bac9e0f3d180d531d0066b090bae6c"), looks := false }, kinds := [], alts := [], laidByText := true, laidKinds := [.data, .pinned], laidTests := true, laidLooks := .later }
def PiecesSpreadCardSaid : Prop := Claim7.holds Tryd.pinned (.plain (OpenSpec.ofChange piecesSpreadSpec)) piecesSpreadCard

/-- THE TIED CARD OF 'signlaw1.ManifestsTold'. -/
def manifestsToldCard : Claim7 := { stood := { row := manifestsToldRow, standIns := [], harness := (true, "81c27f71258807c7c497dffe725e001755bac9e0f3d180d531d0066b090bae6c"), looks := false }, kinds := [], alts := [], laidByText := true, laidKinds := [.data, .pinned], laidTests := true, laidLooks := .later }
def ManifestsToldCardSaid : Prop := Claim7.holds Tryd.pinned (.plain (OpenSpec.ofChange manifestsToldSpec)) manifestsToldCard

/-- THE TIED CARD OF 'signlaw1.LoopsPass'. -/
def loopsPassCard : Claim7 := { stood := { row := loopsPassRow, standIns := [], harness := (true, "81c27f71258807c7c497dffe725e001755bac9e0f3d180d531d0066b090bae6c"), looks := false }, kinds := [], alts := [], laidByText := true, laidKinds := [.data, .pinned], laidTests := true, laidLooks := .later }
def LoopsPassCardSaid : Prop := Claim7.holds Tryd.pinned (.plain (OpenSpec.ofChange loopsPassSpec)) loopsPassCard

/-- THE TIED CARD OF 'signlaw1.LoopsShrink'. -/
def loopsShrinkCard : Claim7 := { stood := { row := loopsShrinkRow, standIns := [], harness := (true, "81c27f71258807c7c497dffe725e001755bac9e0f3d180d531d0066b090bae6c"), looks := false }, kinds := [], alts := [], laidByText := true, laidKinds := [.data, .pinned], laidTests := true, laidLooks := .later }
def LoopsShrinkCardSaid : Prop := Claim7.holds Tryd.pinned (.plain (OpenSpec.ofChange loopsShrinkSpec)) loopsShrinkCard

/-- THE SECOND FORM's CARD OF 'signlaw1.ContentCut'. -/
def contentCutUptoCard : Claim7 := { stood := { row := contentCutUptoRow, standIns := [], harness := (true, "81c27f71258807c7c497dffe725e001755bac9e0f3d180d531d0066b090bae6c"), looks := false }, kinds := [], alts := [], laidByText := true, laidKinds := [.data, .data, .data], laidTests := true, laidLooks := .later }
def ContentCutUptoCardSaid : Prop := Claim7.holds Tryd.pinned (.plain (OpenSpec.upto contentCutSpec)) contentCutUptoCard

/-- THE SECOND FORM's CARD OF 'signlaw1.PiecesSpread'. -/
def piecesSpreadUptoCard : Claim7 := { stood := { row := piecesSpreadUptoRow, standIns := [], harness := (true, "81c27f71258807c7c497dffe725e001755bac9e0f3d180d531d0066b090bae6c"), looks := false }, kinds := [], alts := [], laidByText := true, laidKinds := [.data, .pinned], laidTests := true, laidLooks := .later }
def PiecesSpreadUptoCardSaid : Prop := Claim7.holds Tryd.pinned (.plain (OpenSpec.upto piecesSpreadSpec)) piecesSpreadUptoCard

/-- THE SECOND FORM's CARD OF 'signlaw1.ManifestsTold'. -/
def manifestsToldUptoCard : Claim7 := { stood := { row := manifestsToldUptoRow, standIns := [], harness := (true, "81c27f71258807c7c497dffe725e001755bac9e0f3d180d531d0066b090bae6c"), looks := false }, kinds := [], alts := [], laidByText := true, laidKinds := [.data, .pinned], laidTests := true, laidLooks := .later }
def ManifestsToldUptoCardSaid : Prop := Claim7.holds Tryd.pinned (.plain (OpenSpec.upto manifestsToldSpec)) manifestsToldUptoCard

/-- THE SECOND FORM's CARD OF 'signlaw1.LoopsPass'. -/
def loopsPassUptoCard : Claim7 := { stood := { row := loopsPassUptoRow, standIns := [], harness := (true, "81c27f71258807c7c497dffe725e001755bac9e0f3d180d531d0066b090bae6c"), looks := false }, kinds := [], alts := [], laidByText := true, laidKinds := [.data, .pinned], laidTests := true, laidLooks := .later }
def LoopsPassUptoCardSaid : Prop := Claim7.holds Tryd.pinned (.plain (OpenSpec.upto loopsPassSpec)) loopsPassUptoCard

/-- THE SECOND FORM's CARD OF 'signlaw1.LoopsShrink'. -/
def loopsShrinkUptoCard : Claim7 := { stood := { row := loopsShrinkUptoRow, standIns := [], harness := (true, "81c27f71258807c7c497dffe725e001755bac9e0f3d180d531d0066b090bae6c"), looks := false }, kinds := [], alts := [], laidByText := true, laidKinds := [.data, .pinned], laidTests := true, laidLooks := .later }
def LoopsShrinkUptoCardSaid : Prop := Claim7.holds Tryd.pinned (.plain (OpenSpec.upto loopsShrinkSpec)) loopsShrinkUptoCard
end Rows
end Go.Proofs.YtdgkknjapfdlaaaDoor
