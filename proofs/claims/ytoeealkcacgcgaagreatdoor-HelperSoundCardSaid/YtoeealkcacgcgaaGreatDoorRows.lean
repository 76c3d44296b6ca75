/-
  NARROWER THAN 'FOR EVERY INPUT', by the rows' own cells (each row's printed sentence says how): HelperPlans: laid · HelperSound: laid.
  DERIVED. THE GIVEN ROWS OF THIS SEAT. 2 by the template 'for every input the law returns true; each argument reads behind the call as it read before'; 0 by the template 'total and deterministic' (their statements: YtoeealkcacgcgaaGreatDoorTotals.lean).
  GIVEN WITH THE SEED: the statements are not yours to turn. If you find one false, say at which input.
  Laid BY PROGRAM, IN A SANDBOX (cutbox-rows.mjs): the forced cells as the released guide's own fill.sh prints them over the translation ce9ed53c0b2eff06… (all of the seat's roots in one cut). By AI agents, Wed Nov 11 2026. No macro, syntax, notation, axiom, sorry.
-/
import Derived.Test.YtoeealkcacgcgaaGreatDoorChecked
import GoSem.Claim
import GoSem.ClaimJoined
import GoSem.ClaimMapViews
import Derived.JoinedTies
import Derived.KernelRfl
namespace Go.Proofs.YtoeealkcacgcgaaGreatDoor
/- THE CELL 'sum', in the pinned program and in every row, IS THE sha256 OF THE DUMP (.gsa) THAT YtoeealkcacgcgaaGreatDoorProg.lean LOADS. Nothing in Lean hashes anything: it is a label: what it is worth is what the hold of that sum in a sandbox is worth. -/
noncomputable def Tryz.pinned : Pinned := { name := "ytoeealkcacgcgaagreatdoor", sum := "ce9ed53c0b2eff06078ac77c8196dd466afa035fc62b7b1d9428f727aaed28a0", checked := Tryz.checked }
namespace Rows
def none {H : Type} : Left H := { results := [], args := [] }

/- WHAT THE LISTED PACKAGE-LEVEL VARIABLES READ AS WHEN THE CALL BEGINS. Each datum BY PROGRAM (the guide's laid-datum.mjs) off the statement by which the dump's own 'gosem.cut.vars' lays the variable. In a bare row this is a premise. The card (YtoeealkcacgcgaaGreatDoorCards.lean) ties it to the program's text. -/
def laid_crossbar_insn_atomics {H : Type} : DataW H := .agg [.lit (.int .i64 0), .lit (.int .i64 64), .lit (.int .i64 80), .lit (.int .i64 160), .lit (.int .i64 1), .lit (.int .i64 65), .lit (.int .i64 81), .lit (.int .i64 161), .lit (.int .i64 225), .lit (.int .i64 241)]

/-- 'crossbarlaw24.HelperPlans': WHATEVER THE INPUT: true; the input reads as it did. -/
def helperPlansSpec : ChangeSpec := { name := "helperPlans", fn := fun _ => fun
  | [d1, d2, d3] => { results := [.lit (.bool true)], args := [d1, d2, d3] }
  | _ => none }
def helperPlansRow : OpenClaim := { program := "ytoeealkcacgcgaagreatdoor", sum := "ce9ed53c0b2eff06078ac77c8196dd466afa035fc62b7b1d9428f727aaed28a0", func := "crossbar/crossbarlaw24.HelperPlans", spec := "helperPlans", unfollowed := true, recurses := true, named := ["crossbar/insn.atomics", "crossbar/scalar.rows"], apart := false, laid := [("crossbar/insn.atomics", laid_crossbar_insn_atomics)] }
def HelperPlansSaid : Prop := helperPlansRow.holds Tryz.pinned (OpenSpec.ofChange helperPlansSpec)

/-- ITS FALSE NEIGHBOUR: 'it returns false'. Refute it at one input. -/
def helperPlansWrong : ChangeSpec := { name := "helperPlans", fn := fun _ => fun
  | [d1, d2, d3] => { results := [.lit (.bool false)], args := [d1, d2, d3] }
  | _ => none }
def HelperPlansWrongFalsely : Prop := helperPlansRow.holds Tryz.pinned (OpenSpec.ofChange helperPlansWrong)

/-- 'crossbarlaw24.HelperSound': WHATEVER THE INPUT: true; the input reads as it did. -/
def helperSoundSpec : ChangeSpec := { name := "helperSound", fn := fun _ => fun
  | [d1, d2, d3] => { results := [.lit (.bool true)], args := [d1, d2, d3] }
  | _ => none }
def helperSoundRow : OpenClaim := { program := "ytoeealkcacgcgaagreatdoor", sum := "ce9ed53c0b2eff06078ac77c8196dd466afa035fc62b7b1d9428f727aaed28a0", func := "crossbar/crossbarlaw24.HelperSound", spec := "helperSound", unfollowed := true, recurses := true, named := ["crossbar/insn.atomics", "crossbar/scalar.rows"], apart := false, laid := [("crossbar/insn.atomics", laid_crossbar_insn_atomics)] }
def HelperSoundSaid : Prop := helperSoundRow.holds Tryz.pinned (OpenSpec.ofChange helperSoundSpec)

/-- ITS FALSE NEIGHBOUR: 'it returns false'. Refute it at one input. -/
def helperSoundWrong : ChangeSpec := { name := "helperSound", fn := fun _ => fun
  | [d1, d2, d3] => { results := [.lit (.bool false)], args := [d1, d2, d3] }
  | _ => none }
def HelperSoundWrongFalsely : Prop := helperSoundRow.holds Tryz.pinned (OpenSpec.ofChange helperSoundWrong)

/- THE SECOND FORM. 'bulk': how many values and letters a reading holds, each counted each time it is reached (what is shared counts as often as it is met; a slice's spare places count too). A statement '..UptoSaid' is the law's where the arguments, and the package variables that the reading takes, are together of bulk at most 1048576: NARROWER than '..Said'. Prove '..Said' where nothing that the law and all that it calls make is longer than what came in: it says more and counts as full. Else prove '..UptoSaid'. A law counts once. -/
mutual
def uptoBulk {H : Type} : DataW H → Nat
  | .lit (.string bytes) => bytes.length + 1
  | .lit _ => 1
  | .nil => 1
  | .ptr d => uptoBulk d + 1
  | .slice elems spare => uptoBulkAll elems + uptoBulkAll spare + 1
  | .agg parts => uptoBulkAll parts + 1
  | .iface _ d => uptoBulk d + 1
  | .map entries => uptoBulkEntries entries + 1
  | .held _ => 1
def uptoBulkAll {H : Type} : List (DataW H) → Nat
  | [] => 0
  | d :: r => uptoBulk d + uptoBulkAll r
def uptoBulkEntries {H : Type} : List (Lit × DataW H) → Nat
  | [] => 0
  | x :: r => uptoBulkEntry x + uptoBulkEntries r
def uptoBulkEntry {H : Type} : Lit × DataW H → Nat
  | (.string bytes, d) => bytes.length + uptoBulk d + 1
  | (_, d) => uptoBulk d + 1
 end
def uptoSmall : (H : Type) → List (DataW H) → Bool := fun _ ds => decide (uptoBulkAll ds ≤ 1048576)
def OpenSpec.upto (s : _root_.Go.ChangeSpec) : _root_.Go.OpenSpec := { _root_.Go.OpenSpec.ofChange s with cond := some uptoSmall }

/-- 'crossbarlaw24.HelperPlans', WHERE WHAT IT READS IS OF BULK AT MOST 1048576: true; the input reads as it did. -/
def helperPlansUptoRow : OpenClaim := { program := "ytoeealkcacgcgaagreatdoor", sum := "ce9ed53c0b2eff06078ac77c8196dd466afa035fc62b7b1d9428f727aaed28a0", func := "crossbar/crossbarlaw24.HelperPlans", spec := "helperPlans", unfollowed := true, recurses := true, named := ["crossbar/insn.atomics", "crossbar/scalar.rows"], apart := false, laid := [("crossbar/insn.atomics", laid_crossbar_insn_atomics)], narrowed := true }
def HelperPlansUptoSaid : Prop := helperPlansUptoRow.holds Tryz.pinned (OpenSpec.upto helperPlansSpec)

/-- 'crossbarlaw24.HelperSound', WHERE WHAT IT READS IS OF BULK AT MOST 1048576: true; the input reads as it did. -/
def helperSoundUptoRow : OpenClaim := { program := "ytoeealkcacgcgaagreatdoor", sum := "ce9ed53c0b2eff06078ac77c8196dd466afa035fc62b7b1d9428f727aaed28a0", func := "crossbar/crossbarlaw24.HelperSound", spec := "helperSound", unfollowed := true, recurses := true, named := ["crossbar/insn.atomics", "crossbar/scalar.rows"], apart := false, laid := [("crossbar/insn.atomics", laid_crossbar_insn_atomics)], narrowed := true }
def HelperSoundUptoSaid : Prop := helperSoundUptoRow.holds Tryz.pinned (OpenSpec.upto helperSoundSpec)

end Rows
end Go.Proofs.YtoeealkcacgcgaaGreatDoor
