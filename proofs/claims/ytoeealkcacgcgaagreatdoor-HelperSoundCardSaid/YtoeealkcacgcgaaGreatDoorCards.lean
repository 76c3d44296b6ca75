/-
  DERIVED. GIVEN WITH THE SEED: THE CARDS: each row of YtoeealkcacgcgaaGreatDoorRows.lean that lists a variable, with what it lists TIED to the program's text (the seventh form; the later family's looks); each row that meets fmt, with fmt's text TOLD by the authors' own Lean function (tested against real Go, not proved from fmt's source: count such statements apart). THE CARD IS WHAT COUNTS. Prove the row's statement (the work); the ties are given (YtoeealkcacgcgaaGreatDoorTie.lean); close each card by the builder's one call (the guide's Derived/Test/ToyasCard.lean, 'card_holds'). Laid BY PROGRAM, IN A SANDBOX (cutbox-door.mjs). By AI agents, Wed Nov 11 2026. No macro, syntax, notation, axiom, sorry.
-/
import Derived.Test.YtoeealkcacgcgaaGreatDoorRows
import GoSem.ClaimSeven
namespace Go.Proofs.YtoeealkcacgcgaaGreatDoor
namespace Rows

/-- THE TIED CARD OF 'crossbarlaw24.HelperPlans'. -/
def helperPlansCard : Claim7 := { stood := { row := helperPlansRow, standIns := [], harness := (true, "ea3e066ef2aef5d2d94634e46d13b6e1fd3019122026bfe90c09cba263fe76d4"), looks := true }, kinds := [], alts := [], laidByText := true, laidKinds := [.widerDeep], laidTests := true, laidLooks := .later }
def HelperPlansCardSaid : Prop := Claim7.holds Tryz.pinned (.plain (OpenSpec.ofChange helperPlansSpec)) helperPlansCard

/-- THE TIED CARD OF 'crossbarlaw24.HelperSound'. -/
def helperSoundCard : Claim7 := { stood := { row := helperSoundRow, standIns := [], harness := (true, "ea3e066ef2aef5d2d94634e46d13b6e1fd3019122026bfe90c09cba263fe76d4"), looks := true }, kinds := [], alts := [], laidByText := true, laidKinds := [.widerDeep], laidTests := true, laidLooks := .later }
def HelperSoundCardSaid : Prop := Claim7.holds Tryz.pinned (.plain (OpenSpec.ofChange helperSoundSpec)) helperSoundCard

/-- THE SECOND FORM's CARD OF 'crossbarlaw24.HelperPlans'. -/
def helperPlansUptoCard : Claim7 := { stood := { row := helperPlansUptoRow, standIns := [], harness := (true, "ea3e066ef2aef5d2d94634e46d13b6e1fd3019122026bfe90c09cba263fe76d4"), looks := true }, kinds := [], alts := [], laidByText := true, laidKinds := [.widerDeep], laidTests := true, laidLooks := .later }
def HelperPlansUptoCardSaid : Prop := Claim7.holds Tryz.pinned (.plain (OpenSpec.upto helperPlansSpec)) helperPlansUptoCard

/-- THE SECOND FORM's CARD OF 'crossbarlaw24.HelperSound'. -/
def helperSoundUptoCard : Claim7 := { stood := { row := helperSoundUptoRow, standIns := [], harness := (true, "ea3e066ef2aef5d2d94634e46d13b6e1fd3019122026bfe90c09cba263fe76d4"), looks := true }, kinds := [], alts := [], laidByText := true, laidKinds := [.widerDeep], laidTests := true, laidLooks := .later }
def HelperSoundUptoCardSaid : Prop := Claim7.holds Tryz.pinned (.plain (OpenSpec.upto helperSoundSpec)) helperSoundUptoCard
end Rows
end Go.Proofs.YtoeealkcacgcgaaGreatDoor
