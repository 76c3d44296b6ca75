/-
  No cell of these rows narrows 'for every input' (looked for: loops, veiled, ifaces, maps, wideKeys, modest, calm, conditions, laid).
  DERIVED. THE GIVEN ROWS OF THIS SEAT. 2 by the template 'for every input the law returns true; each argument reads behind the call as it read before'; 0 by the template 'total and deterministic' (their statements: YtbpkkailkalpiaaTotals.lean).
  GIVEN WITH THE SEED: the statements are not yours to turn. If you find one false, say at which input.
  Laid BY PROGRAM, IN A SANDBOX (cutbox-rows.mjs): the forced cells as the released guide's own fill.sh prints them over the translation 035853ee83fb4086… (all of the seat's roots in one cut). By AI agents, Wed Nov 11 2026. No macro, syntax, notation, axiom, sorry.
-/
import Derived.Test.YtbpkkailkalpiaaChecked
import GoSem.Claim
import GoSem.ClaimJoined
import GoSem.ClaimMapViews
import Derived.JoinedTies
import Derived.KernelRfl
namespace Go.Proofs.Ytbpkkailkalpiaa
/- THE CELL 'sum', in the pinned program and in every row, IS THE sha256 OF THE DUMP (.gsa) THAT YtbpkkailkalpiaaProg.lean LOADS. Nothing in Lean hashes anything: it is a label: what it is worth is what the hold of that sum in a sandbox is worth. -/
noncomputable def Try.pinned : Pinned := { name := "ytbpkkailkalpiaa", sum := "035853ee83fb40862e5c947c04a5bb51cad691f1f527bcf594c55adf9fa1a611", checked := Try.checked }
namespace Rows
def none {H : Type} : Left H := { results := [], args := [] }

/-- 'crossbarlaw03.TnumJoins': WHATEVER THE INPUT: true; the input reads as it did. -/
def tnumJoinsSpec : ChangeSpec := { name := "tnumJoins", fn := fun _ => fun
  | [d1, d2, d3, d4] => { results := [.lit (.bool true)], args := [d1, d2, d3, d4] }
  | _ => none }
def tnumJoinsRow : OpenClaim := { program := "ytbpkkailkalpiaa", sum := "035853ee83fb40862e5c947c04a5bb51cad691f1f527bcf594c55adf9fa1a611", func := "crossbar/crossbarlaw03.TnumJoins", spec := "tnumJoins", apart := false }
def TnumJoinsSaid : Prop := tnumJoinsRow.holds Try.pinned (OpenSpec.ofChange tnumJoinsSpec)

/-- ITS FALSE NEIGHBOUR: 'it returns false'. Refute it at one input. -/
def tnumJoinsWrong : ChangeSpec := { name := "tnumJoins", fn := fun _ => fun
  | [d1, d2, d3, d4] => { results := [.lit (.bool false)], args := [d1, d2, d3, d4] }
  | _ => none }
def TnumJoinsWrongFalsely : Prop := tnumJoinsRow.holds Try.pinned (OpenSpec.ofChange tnumJoinsWrong)

/-- 'crossbarlaw03.TnumBits': WHATEVER THE INPUT: true; the input reads as it did. -/
def tnumBitsSpec : ChangeSpec := { name := "tnumBits", fn := fun _ => fun
  | [d1, d2, d3, d4] => { results := [.lit (.bool true)], args := [d1, d2, d3, d4] }
  | _ => none }
def tnumBitsRow : OpenClaim := { program := "ytbpkkailkalpiaa", sum := "035853ee83fb40862e5c947c04a5bb51cad691f1f527bcf594c55adf9fa1a611", func := "crossbar/crossbarlaw03.TnumBits", spec := "tnumBits", apart := false }
def TnumBitsSaid : Prop := tnumBitsRow.holds Try.pinned (OpenSpec.ofChange tnumBitsSpec)

/-- ITS FALSE NEIGHBOUR: 'it returns false'. Refute it at one input. -/
def tnumBitsWrong : ChangeSpec := { name := "tnumBits", fn := fun _ => fun
  | [d1, d2, d3, d4] => { results := [.lit (.bool false)], args := [d1, d2, d3, d4] }
  | _ => none }
def TnumBitsWrongFalsely : Prop := tnumBitsRow.holds Try.pinned (OpenSpec.ofChange tnumBitsWrong)

/- THE SECOND FORM. 'bulk': how many values and letters a reading holds, each counted each time it is reached (what is shared counts as often as it is met; a slice's spare places count too). A statement '..UptoSaid' is the law's where the arguments, and the package variables that the reading takes, are together of bulk at most 1048576: NARROWER than '..Said'. Prove '..Said' where nothing that the law and all that it calls make is longer than what came in: it says more and counts as full. Else prove '..UptoSaid'. A law counts once. -/
mutual
def uptoBulk {H : Type} : DataW H → Nat
  | .lit (.string bytes) => bytes.length + 1
  | .lit _ => 1
  | .nil => 1
  | .ptr d => uptoBulk d + 1
  | .slice elems spare => uptoBulkAll elems + uptoBulkAll spare + 1
  | .agg parts => uptoBulkAll parts + 1
  | .iface _ d => uptoBulk d + 1
  | .map entries => uptoBulkEntries entries + 1
  | .held _ => 1
def uptoBulkAll {H : Type} : List (DataW H) → Nat
  | [] => 0
  | d :: r => uptoBulk d + uptoBulkAll r
def uptoBulkEntries {H : Type} : List (Lit × DataW H) → Nat
  | [] => 0
  | x :: r => uptoBulkEntry x + uptoBulkEntries r
def uptoBulkEntry {H : Type} : Lit × DataW H → Nat
  | (.string bytes, d) => bytes.length + uptoBulk d + 1
  | (_, d) => uptoBulk d + 1
 end
def uptoSmall : (H : Type) → List (DataW H) → Bool := fun _ ds => decide (uptoBulkAll ds ≤ 1048576)
def OpenSpec.upto (s : _root_.Go.ChangeSpec) : _root_.Go.OpenSpec := { _root_.Go.OpenSpec.ofChange s with cond := some uptoSmall }

/-- 'crossbarlaw03.TnumJoins', WHERE WHAT IT READS IS OF BULK AT MOST 1048576: true; the input reads as it did. -/
def tnumJoinsUptoRow : OpenClaim := { program := "ytbpkkailkalpiaa", sum := "035853ee83fb40862e5c947c04a5bb51cad691f1f527bcf594c55adf9fa1a611", func := "crossbar/crossbarlaw03.TnumJoins", spec := "tnumJoins", apart := false, narrowed := true }
def TnumJoinsUptoSaid : Prop := tnumJoinsUptoRow.holds Try.pinned (OpenSpec.upto tnumJoinsSpec)

/-- 'crossbarlaw03.TnumBits', WHERE WHAT IT READS IS OF BULK AT MOST 1048576: true; the input reads as it did. -/
def tnumBitsUptoRow : OpenClaim := { program := "ytbpkkailkalpiaa", sum := "035853ee83fb40862e5c947c04a5bb51cad691f1f527bcf594c55adf9fa1a611", func := "crossbar/crossbarlaw03.TnumBits", spec := "tnumBits", apart := false, narrowed := true }
def TnumBitsUptoSaid : Prop := tnumBitsUptoRow.holds Try.pinned (OpenSpec.upto tnumBitsSpec)

end Rows
end Go.Proofs.Ytbpkkailkalpiaa
