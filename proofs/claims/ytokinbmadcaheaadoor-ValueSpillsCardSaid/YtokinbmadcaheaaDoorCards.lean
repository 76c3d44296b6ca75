/-
  DERIVED. GIVEN WITH THE SEED: THE CARDS: each row of YtokinbmadcaheaaDoorRows.lean that lists a variable, with what it lists TIED to the program's text (the seventh form; the later family's looks); each row that meets fmt, with fmt's text TOLD by the authors' own Lean function (tested against real Go, not proved from fmt's source: count such statements apart). THE CARD IS WHAT COUNTS. Prove the row's statement (the work); the ties are given (YtokinbmadcaheaaDoorTie.lean); close each card by the builder's one call (the guide's Derived/Test/ToyasCard.lean, 'card_holds'). Laid BY PROGRAM, IN A SANDBOX (cutbox-door.mjs). By AI agents, Wed Nov 11 2026. No macro, syntax, notation, axiom, sorry.
-/
import Derived.Test.YtokinbmadcaheaaDoorRows
import GoSem.ClaimSeven
namespace Go.Proofs.YtokinbmadcaheaaDoor
namespace Rows

/-- THE TIED CARD OF 'crossbarlaw23.ValueCells'. -/
def valueCellsCard : Claim7 := { stood := { row := valueCellsRow, standIns := [], harness := (true, "c17c37c4a8a40e033a8ec30f0d20fb8d7a08c20ca55353b90ecc120908b06b24"), looks := true }, kinds := [], alts := [], laidByText := true, laidKinds := [.widerDeep], laidTests := true, laidLooks := .later }
def ValueCellsCardSaid : Prop := Claim7.holds Tryd.pinned (.plain (OpenSpec.ofChange valueCellsSpec)) valueCellsCard

/-- THE TIED CARD OF 'crossbarlaw23.ValueBack'. -/
def valueBackCard : Claim7 := { stood := { row := valueBackRow, standIns := [], harness := (true, "c17c37c4a8a40e033a8ec30f0d20fb8d7a08c20ca55353b90ecc120908b06b24"), looks := true }, kinds := [], alts := [], laidByText := true, laidKinds := [.widerDeep], laidTests := true, laidLooks := .later }
def ValueBackCardSaid : Prop := Claim7.holds Tryd.pinned (.plain (OpenSpec.ofChange valueBackSpec)) valueBackCard

/-- THE TIED CARD OF 'crossbarlaw23.ValueSpills'. -/
def valueSpillsCard : Claim7 := { stood := { row := valueSpillsRow, standIns := [], harness := (true, "c17c37c4a8a40e033a8ec30f0d20fb8d7a08c20ca55353b90ecc120908b06b24"), looks := true }, kinds := [], alts := [], laidByText := true, laidKinds := [.widerDeep], laidTests := true, laidLooks := .later }
def ValueSpillsCardSaid : Prop := Claim7.holds Tryd.pinned (.plain (OpenSpec.ofChange valueSpillsSpec)) valueSpillsCard

/-- THE SECOND FORM's CARD OF 'crossbarlaw23.ValueCells'. -/
def valueCellsUptoCard : Claim7 := { stood := { row := valueCellsUptoRow, standIns := [], harness := (true, "c17c37c4a8a40e033a8ec30f0d20fb8d7a08c20ca55353b90ecc120908b06b24"), looks := true }, kinds := [], alts := [], laidByText := true, laidKinds := [.widerDeep], laidTests := true, laidLooks := .later }
def ValueCellsUptoCardSaid : Prop := Claim7.holds Tryd.pinned (.plain (OpenSpec.upto valueCellsSpec)) valueCellsUptoCard

/-- THE SECOND FORM's CARD OF 'crossbarlaw23.ValueBack'. -/
def valueBackUptoCard : Claim7 := { stood := { row := valueBackUptoRow, standIns := [], harness := (true, "c17c37c4a8a40e033a8ec30f0d20fb8d7a08c20ca55353b90ecc120908b06b24"), looks := true }, kinds := [], alts := [], laidByText := true, laidKinds := [.widerDeep], laidTests := true, laidLooks := .later }
def ValueBackUptoCardSaid : Prop := Claim7.holds Tryd.pinned (.plain (OpenSpec.upto valueBackSpec)) valueBackUptoCard

/-- THE SECOND FORM's CARD OF 'crossbarlaw23.ValueSpills'. -/
def valueSpillsUptoCard : Claim7 := { stood := { row := valueSpillsUptoRow, standIns := [], harness := (true, "c17c37c4a8a40e033a8ec30f0d20fb8d7a08c20ca55353b90ecc120908b06b24"), looks := true }, kinds := [], alts := [], laidByText := true, laidKinds := [.widerDeep], laidTests := true, laidLooks := .later }
def ValueSpillsUptoCardSaid : Prop := Claim7.holds Tryd.pinned (.plain (OpenSpec.upto valueSpillsSpec)) valueSpillsUptoCard
end Rows
end Go.Proofs.YtokinbmadcaheaaDoor
