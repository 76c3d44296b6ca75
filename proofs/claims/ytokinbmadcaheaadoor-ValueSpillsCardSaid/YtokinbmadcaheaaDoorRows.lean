/-
  NARROWER THAN 'FOR EVERY INPUT', by the rows' own cells (each row's printed sentence says how): ValueCells: laid · ValueBack: laid · ValueSpills: laid.
  DERIVED. THE GIVEN ROWS OF THIS SEAT. 3 by the template 'for every input the law returns true; each argument reads behind the call as it read before'; 0 by the template 'total and deterministic' (their statements: YtokinbmadcaheaaDoorTotals.lean).
  GIVEN WITH THE SEED: the statements are not yours to turn. If you find one false, say at which input.
  Laid BY PROGRAM, IN A SANDBOX (cutbox-rows.mjs): the forced cells as the released guide's own fill.sh prints them over the translation 2d22c9bd30d1bfa9… (all of the seat's roots in one cut). By AI agents, Wed Nov 11 2026. No macro, syntax, notation, axiom, sorry.
-/
import Derived.Test.YtokinbmadcaheaaDoorChecked
import GoSem.Claim
import GoSem.ClaimJoined
import GoSem.ClaimMapViews
import Derived.JoinedTies
import Derived.KernelRfl
namespace Go.Proofs.YtokinbmadcaheaaDoor
/- THE CELL 'sum', in the pinned program and in every row, IS THE sha256 OF THE DUMP (.gsa) THAT YtokinbmadcaheaaDoorProg.lean LOADS. Nothing in Lean hashes anything: it is a label: what it is worth is what the hold of that sum in a sandbox is worth. -/
noncomputable def Tryd.pinned : Pinned := { name := "ytokinbmadcaheaadoor", sum := "2d22c9bd30d1bfa99b5d6e7ccd618043c8f3a0863bbf87f37b92d2afb811ab9b", checked := Tryd.checked }
namespace Rows
def none {H : Type} : Left H := { results := [], args := [] }

/- WHAT THE LISTED PACKAGE-LEVEL VARIABLES READ AS WHEN THE CALL BEGINS. Each datum BY PROGRAM (the guide's laid-datum.mjs) off the statement by which the dump's own 'gosem.cut.vars' lays the variable. In a bare row this is a premise. The card (YtokinbmadcaheaaDoorCards.lean) ties it to the program's text. -/
def laid_crossbar_insn_atomics {H : Type} : DataW H := .agg [.lit (.int .i64 0), .lit (.int .i64 64), .lit (.int .i64 80), .lit (.int .i64 160), .lit (.int .i64 1), .lit (.int .i64 65), .lit (.int .i64 81), .lit (.int .i64 161), .lit (.int .i64 225), .lit (.int .i64 241)]

/-- 'crossbarlaw23.ValueCells': WHATEVER THE INPUT: true; the input reads as it did. -/
def valueCellsSpec : ChangeSpec := { name := "valueCells", fn := fun _ => fun
  | [d1, d2, d3, d4] => { results := [.lit (.bool true)], args := [d1, d2, d3, d4] }
  | _ => none }
def valueCellsRow : OpenClaim := { program := "ytokinbmadcaheaadoor", sum := "2d22c9bd30d1bfa99b5d6e7ccd618043c8f3a0863bbf87f37b92d2afb811ab9b", func := "crossbar/crossbarlaw23.ValueCells", spec := "valueCells", unfollowed := true, recurses := true, named := ["crossbar/insn.atomics"], apart := false, laid := [("crossbar/insn.atomics", laid_crossbar_insn_atomics)] }
def ValueCellsSaid : Prop := valueCellsRow.holds Tryd.pinned (OpenSpec.ofChange valueCellsSpec)

/-- ITS FALSE NEIGHBOUR: 'it returns false'. Refute it at one input. -/
def valueCellsWrong : ChangeSpec := { name := "valueCells", fn := fun _ => fun
  | [d1, d2, d3, d4] => { results := [.lit (.bool false)], args := [d1, d2, d3, d4] }
  | _ => none }
def ValueCellsWrongFalsely : Prop := valueCellsRow.holds Tryd.pinned (OpenSpec.ofChange valueCellsWrong)

/-- 'crossbarlaw23.ValueBack': WHATEVER THE INPUT: true; the input reads as it did. -/
def valueBackSpec : ChangeSpec := { name := "valueBack", fn := fun _ => fun
  | [d1, d2, d3] => { results := [.lit (.bool true)], args := [d1, d2, d3] }
  | _ => none }
def valueBackRow : OpenClaim := { program := "ytokinbmadcaheaadoor", sum := "2d22c9bd30d1bfa99b5d6e7ccd618043c8f3a0863bbf87f37b92d2afb811ab9b", func := "crossbar/crossbarlaw23.ValueBack", spec := "valueBack", unfollowed := true, recurses := true, named := ["crossbar/insn.atomics"], apart := false, laid := [("crossbar/insn.atomics", laid_crossbar_insn_atomics)] }
def ValueBackSaid : Prop := valueBackRow.holds Tryd.pinned (OpenSpec.ofChange valueBackSpec)

/-- ITS FALSE NEIGHBOUR: 'it returns false'. Refute it at one input. -/
def valueBackWrong : ChangeSpec := { name := "valueBack", fn := fun _ => fun
  | [d1, d2, d3] => { results := [.lit (.bool false)], args := [d1, d2, d3] }
  | _ => none }
def ValueBackWrongFalsely : Prop := valueBackRow.holds Tryd.pinned (OpenSpec.ofChange valueBackWrong)

/-- 'crossbarlaw23.ValueSpills': WHATEVER THE INPUT: true; the input reads as it did. -/
def valueSpillsSpec : ChangeSpec := { name := "valueSpills", fn := fun _ => fun
  | [d1, d2, d3, d4] => { results := [.lit (.bool true)], args := [d1, d2, d3, d4] }
  | _ => none }
def valueSpillsRow : OpenClaim := { program := "ytokinbmadcaheaadoor", sum := "2d22c9bd30d1bfa99b5d6e7ccd618043c8f3a0863bbf87f37b92d2afb811ab9b", func := "crossbar/crossbarlaw23.ValueSpills", spec := "valueSpills", unfollowed := true, recurses := true, named := ["crossbar/insn.atomics"], apart := false, laid := [("crossbar/insn.atomics", laid_crossbar_insn_atomics)] }
def ValueSpillsSaid : Prop := valueSpillsRow.holds Tryd.pinned (OpenSpec.ofChange valueSpillsSpec)

/-- ITS FALSE NEIGHBOUR: 'it returns false'. Refute it at one input. -/
def valueSpillsWrong : ChangeSpec := { name := "valueSpills", fn := fun _ => fun
  | [d1, d2, d3, d4] => { results := [.lit (.bool false)], args := [d1, d2, d3, d4] }
  | _ => none }
def ValueSpillsWrongFalsely : Prop := valueSpillsRow.holds Tryd.pinned (OpenSpec.ofChange valueSpillsWrong)

/- THE SECOND FORM. 'bulk': how many values and letters a reading holds, each counted each time it is reached (what is shared counts as often as it is met; a slice's spare places count too). A statement '..UptoSaid' is the law's where the arguments, and the package variables that the reading takes, are together of bulk at most 1048576: NARROWER than '..Said'. Prove '..Said' where nothing that the law and all that it calls make is longer than what came in: it says more and counts as full. Else prove '..UptoSaid'. A law counts once. -/
mutual
def uptoBulk {H : Type} : DataW H → Nat
  | .lit (.string bytes) => bytes.length + 1
  | .lit _ => 1
  | .nil => 1
  | .ptr d => uptoBulk d + 1
  | .slice elems spare => uptoBulkAll elems + uptoBulkAll spare + 1
  | .agg parts => uptoBulkAll parts + 1
  | .iface _ d => uptoBulk d + 1
  | .map entries => uptoBulkEntries entries + 1
  | .held _ => 1
def uptoBulkAll {H : Type} : List (DataW H) → Nat
  | [] => 0
  | d :: r => uptoBulk d + uptoBulkAll r
def uptoBulkEntries {H : Type} : List (Lit × DataW H) → Nat
  | [] => 0
  | x :: r => uptoBulkEntry x + uptoBulkEntries r
def uptoBulkEntry {H : Type} : Lit × DataW H → Nat
  | (.string bytes, d) => bytes.length + uptoBulk d + 1
  | (_, d) => uptoBulk d + 1
 end
def uptoSmall : (H : Type) → List (DataW H) → Bool := fun _ ds => decide (uptoBulkAll ds ≤ 1048576)
def OpenSpec.upto (s : _root_.Go.ChangeSpec) : _root_.Go.OpenSpec := { _root_.Go.OpenSpec.ofChange s with cond := some uptoSmall }

/-- 'crossbarlaw23.ValueCells', WHERE WHAT IT READS IS OF BULK AT MOST 1048576: true; the input reads as it did. -/
def valueCellsUptoRow : OpenClaim := { program := "ytokinbmadcaheaadoor", sum := "2d22c9bd30d1bfa99b5d6e7ccd618043c8f3a0863bbf87f37b92d2afb811ab9b", func := "crossbar/crossbarlaw23.ValueCells", spec := "valueCells", unfollowed := true, recurses := true, named := ["crossbar/insn.atomics"], apart := false, laid := [("crossbar/insn.atomics", laid_crossbar_insn_atomics)], narrowed := true }
def ValueCellsUptoSaid : Prop := valueCellsUptoRow.holds Tryd.pinned (OpenSpec.upto valueCellsSpec)

/-- 'crossbarlaw23.ValueBack', WHERE WHAT IT READS IS OF BULK AT MOST 1048576: true; the input reads as it did. -/
def valueBackUptoRow : OpenClaim := { program := "ytokinbmadcaheaadoor", sum := "2d22c9bd30d1bfa99b5d6e7ccd618043c8f3a0863bbf87f37b92d2afb811ab9b", func := "crossbar/crossbarlaw23.ValueBack", spec := "valueBack", unfollowed := true, recurses := true, named := ["crossbar/insn.atomics"], apart := false, laid := [("crossbar/insn.atomics", laid_crossbar_insn_atomics)], narrowed := true }
def ValueBackUptoSaid : Prop := valueBackUptoRow.holds Tryd.pinned (OpenSpec.upto valueBackSpec)

/-- 'crossbarlaw23.ValueSpills', WHERE WHAT IT READS IS OF BULK AT MOST 1048576: true; the input reads as it did. -/
def valueSpillsUptoRow : OpenClaim := { program := "ytokinbmadcaheaadoor", sum := "2d22c9bd30d1bfa99b5d6e7ccd618043c8f3a0863bbf87f37b92d2afb811ab9b", func := "crossbar/crossbarlaw23.ValueSpills", spec := "valueSpills", unfollowed := true, recurses := true, named := ["crossbar/insn.atomics"], apart := false, laid := [("crossbar/insn.atomics", laid_crossbar_insn_atomics)], narrowed := true }
def ValueSpillsUptoSaid : Prop := valueSpillsUptoRow.holds Tryd.pinned (OpenSpec.upto valueSpillsSpec)

end Rows
end Go.Proofs.YtokinbmadcaheaaDoor
