/-
  No cell of these rows narrows 'for every input' (looked for: loops, veiled, ifaces, maps, wideKeys, modest, calm, conditions, laid).
  DERIVED. THE GIVEN ROWS OF THIS SEAT. 8 by the template 'for every input the law returns true; each argument reads behind the call as it read before'; 0 by the template 'total and deterministic' (their statements: YtkkkcocehkfbcaaTotals.lean).
  GIVEN WITH THE SEED: the statements are not yours to turn. If you find one false, say at which input.
  Laid BY PROGRAM, IN A SANDBOX (cutbox-rows.mjs): the forced cells as the released guide's own fill.sh prints them over the translation fff8f06ca34a2857… (all of the seat's roots in one cut). By AI agents, Wed Nov 11 2026. No macro, syntax, notation, axiom, sorry.
-/
import Derived.Test.YtkkkcocehkfbcaaChecked
import GoSem.Claim
import GoSem.ClaimJoined
import GoSem.ClaimMapViews
import Derived.JoinedTies
import Derived.KernelRfl
namespace Go.Proofs.Ytkkkcocehkfbcaa
/- THE CELL 'sum', in the pinned program and in every row, IS THE sha256 OF THE DUMP (.gsa) THAT YtkkkcocehkfbcaaProg.lean LOADS. Nothing in Lean hashes anything: it is a label: what it is worth is what the hold of that sum in a sandbox is worth. -/
noncomputable def Try.pinned : Pinned := { name := "ytkkkcocehkfbcaa", sum := "fff8f06ca34a2857aa43066b286e9c9117cf12eaf264c83d94fc6a990109bbeb", checked := Try.checked }
namespace Rows
def none {H : Type} : Left H := { results := [], args := [] }

/-- 'crossbarlaw04.SpanLeast': WHATEVER THE INPUT: true; the input reads as it did. -/
def spanLeastSpec : ChangeSpec := { name := "spanLeast", fn := fun _ => fun
  | [d1, d2] => { results := [.lit (.bool true)], args := [d1, d2] }
  | _ => none }
def spanLeastRow : OpenClaim := { program := "ytkkkcocehkfbcaa", sum := "fff8f06ca34a2857aa43066b286e9c9117cf12eaf264c83d94fc6a990109bbeb", func := "crossbar/crossbarlaw04.SpanLeast", spec := "spanLeast", inPlace := ["math/bits.Add64"], apart := false }
def SpanLeastSaid : Prop := spanLeastRow.holds Try.pinned (OpenSpec.ofChange spanLeastSpec)

/-- ITS FALSE NEIGHBOUR: 'it returns false'. Refute it at one input. -/
def spanLeastWrong : ChangeSpec := { name := "spanLeast", fn := fun _ => fun
  | [d1, d2] => { results := [.lit (.bool false)], args := [d1, d2] }
  | _ => none }
def SpanLeastWrongFalsely : Prop := spanLeastRow.holds Try.pinned (OpenSpec.ofChange spanLeastWrong)

/-- 'crossbarlaw04.SpanTurns': WHATEVER THE INPUT: true; the input reads as it did. -/
def spanTurnsSpec : ChangeSpec := { name := "spanTurns", fn := fun _ => fun
  | [d1, d2, d3] => { results := [.lit (.bool true)], args := [d1, d2, d3] }
  | _ => none }
def spanTurnsRow : OpenClaim := { program := "ytkkkcocehkfbcaa", sum := "fff8f06ca34a2857aa43066b286e9c9117cf12eaf264c83d94fc6a990109bbeb", func := "crossbar/crossbarlaw04.SpanTurns", spec := "spanTurns", inPlace := ["math/bits.Add64"], apart := false }
def SpanTurnsSaid : Prop := spanTurnsRow.holds Try.pinned (OpenSpec.ofChange spanTurnsSpec)

/-- ITS FALSE NEIGHBOUR: 'it returns false'. Refute it at one input. -/
def spanTurnsWrong : ChangeSpec := { name := "spanTurns", fn := fun _ => fun
  | [d1, d2, d3] => { results := [.lit (.bool false)], args := [d1, d2, d3] }
  | _ => none }
def SpanTurnsWrongFalsely : Prop := spanTurnsRow.holds Try.pinned (OpenSpec.ofChange spanTurnsWrong)

/-- 'crossbarlaw04.SpanSigned': WHATEVER THE INPUT: true; the input reads as it did. -/
def spanSignedSpec : ChangeSpec := { name := "spanSigned", fn := fun _ => fun
  | [d1, d2, d3] => { results := [.lit (.bool true)], args := [d1, d2, d3] }
  | _ => none }
def spanSignedRow : OpenClaim := { program := "ytkkkcocehkfbcaa", sum := "fff8f06ca34a2857aa43066b286e9c9117cf12eaf264c83d94fc6a990109bbeb", func := "crossbar/crossbarlaw04.SpanSigned", spec := "spanSigned", inPlace := ["math/bits.Add64"], apart := false }
def SpanSignedSaid : Prop := spanSignedRow.holds Try.pinned (OpenSpec.ofChange spanSignedSpec)

/-- ITS FALSE NEIGHBOUR: 'it returns false'. Refute it at one input. -/
def spanSignedWrong : ChangeSpec := { name := "spanSigned", fn := fun _ => fun
  | [d1, d2, d3] => { results := [.lit (.bool false)], args := [d1, d2, d3] }
  | _ => none }
def SpanSignedWrongFalsely : Prop := spanSignedRow.holds Try.pinned (OpenSpec.ofChange spanSignedWrong)

/-- 'crossbarlaw04.SpanSignedSound': WHATEVER THE INPUT: true; the input reads as it did. -/
def spanSignedSoundSpec : ChangeSpec := { name := "spanSignedSound", fn := fun _ => fun
  | [d1, d2] => { results := [.lit (.bool true)], args := [d1, d2] }
  | _ => none }
def spanSignedSoundRow : OpenClaim := { program := "ytkkkcocehkfbcaa", sum := "fff8f06ca34a2857aa43066b286e9c9117cf12eaf264c83d94fc6a990109bbeb", func := "crossbar/crossbarlaw04.SpanSignedSound", spec := "spanSignedSound", inPlace := ["math/bits.Add64"], apart := false }
def SpanSignedSoundSaid : Prop := spanSignedSoundRow.holds Try.pinned (OpenSpec.ofChange spanSignedSoundSpec)

/-- ITS FALSE NEIGHBOUR: 'it returns false'. Refute it at one input. -/
def spanSignedSoundWrong : ChangeSpec := { name := "spanSignedSound", fn := fun _ => fun
  | [d1, d2] => { results := [.lit (.bool false)], args := [d1, d2] }
  | _ => none }
def SpanSignedSoundWrongFalsely : Prop := spanSignedSoundRow.holds Try.pinned (OpenSpec.ofChange spanSignedSoundWrong)

/-- 'crossbarlaw04.SpanTells': WHATEVER THE INPUT: true; the input reads as it did. -/
def spanTellsSpec : ChangeSpec := { name := "spanTells", fn := fun _ => fun
  | [d1, d2, d3] => { results := [.lit (.bool true)], args := [d1, d2, d3] }
  | _ => none }
def spanTellsRow : OpenClaim := { program := "ytkkkcocehkfbcaa", sum := "fff8f06ca34a2857aa43066b286e9c9117cf12eaf264c83d94fc6a990109bbeb", func := "crossbar/crossbarlaw04.SpanTells", spec := "spanTells", inPlace := ["math/bits.Add64", "math/bits.Sub64"], apart := false }
def SpanTellsSaid : Prop := spanTellsRow.holds Try.pinned (OpenSpec.ofChange spanTellsSpec)

/-- ITS FALSE NEIGHBOUR: 'it returns false'. Refute it at one input. -/
def spanTellsWrong : ChangeSpec := { name := "spanTells", fn := fun _ => fun
  | [d1, d2, d3] => { results := [.lit (.bool false)], args := [d1, d2, d3] }
  | _ => none }
def SpanTellsWrongFalsely : Prop := spanTellsRow.holds Try.pinned (OpenSpec.ofChange spanTellsWrong)

/-- 'crossbarlaw04.SpanKnown': WHATEVER THE INPUT: true; the input reads as it did. -/
def spanKnownSpec : ChangeSpec := { name := "spanKnown", fn := fun _ => fun
  | [] => { results := [.lit (.bool true)], args := [] }
  | _ => none }
def spanKnownRow : OpenClaim := { program := "ytkkkcocehkfbcaa", sum := "fff8f06ca34a2857aa43066b286e9c9117cf12eaf264c83d94fc6a990109bbeb", func := "crossbar/crossbarlaw04.SpanKnown", spec := "spanKnown", inPlace := ["math/bits.Add64", "math/bits.Sub64"], apart := false }
def SpanKnownSaid : Prop := spanKnownRow.holds Try.pinned (OpenSpec.ofChange spanKnownSpec)

/-- ITS FALSE NEIGHBOUR: 'it returns false'. Refute it at one input. -/
def spanKnownWrong : ChangeSpec := { name := "spanKnown", fn := fun _ => fun
  | [] => { results := [.lit (.bool false)], args := [] }
  | _ => none }
def SpanKnownWrongFalsely : Prop := spanKnownRow.holds Try.pinned (OpenSpec.ofChange spanKnownWrong)

/-- 'crossbarlaw04.SpanAlone': WHATEVER THE INPUT: true; the input reads as it did. -/
def spanAloneSpec : ChangeSpec := { name := "spanAlone", fn := fun _ => fun
  | [d1, d2, d3] => { results := [.lit (.bool true)], args := [d1, d2, d3] }
  | _ => none }
def spanAloneRow : OpenClaim := { program := "ytkkkcocehkfbcaa", sum := "fff8f06ca34a2857aa43066b286e9c9117cf12eaf264c83d94fc6a990109bbeb", func := "crossbar/crossbarlaw04.SpanAlone", spec := "spanAlone", inPlace := ["math/bits.Add64", "math/bits.Sub64"], apart := false }
def SpanAloneSaid : Prop := spanAloneRow.holds Try.pinned (OpenSpec.ofChange spanAloneSpec)

/-- ITS FALSE NEIGHBOUR: 'it returns false'. Refute it at one input. -/
def spanAloneWrong : ChangeSpec := { name := "spanAlone", fn := fun _ => fun
  | [d1, d2, d3] => { results := [.lit (.bool false)], args := [d1, d2, d3] }
  | _ => none }
def SpanAloneWrongFalsely : Prop := spanAloneRow.holds Try.pinned (OpenSpec.ofChange spanAloneWrong)

/-- 'crossbarlaw04.SpanSound': WHATEVER THE INPUT: true; the input reads as it did. -/
def spanSoundSpec : ChangeSpec := { name := "spanSound", fn := fun _ => fun
  | [d] => { results := [.lit (.bool true)], args := [d] }
  | _ => none }
def spanSoundRow : OpenClaim := { program := "ytkkkcocehkfbcaa", sum := "fff8f06ca34a2857aa43066b286e9c9117cf12eaf264c83d94fc6a990109bbeb", func := "crossbar/crossbarlaw04.SpanSound", spec := "spanSound", inPlace := ["math/bits.Add64", "math/bits.Sub64"], apart := false }
def SpanSoundSaid : Prop := spanSoundRow.holds Try.pinned (OpenSpec.ofChange spanSoundSpec)

/-- ITS FALSE NEIGHBOUR: 'it returns false'. Refute it at one input. -/
def spanSoundWrong : ChangeSpec := { name := "spanSound", fn := fun _ => fun
  | [d] => { results := [.lit (.bool false)], args := [d] }
  | _ => none }
def SpanSoundWrongFalsely : Prop := spanSoundRow.holds Try.pinned (OpenSpec.ofChange spanSoundWrong)

/- THE SECOND FORM. 'bulk': how many values and letters a reading holds, each counted each time it is reached (what is shared counts as often as it is met; a slice's spare places count too). A statement '..UptoSaid' is the law's where the arguments, and the package variables that the reading takes, are together of bulk at most 1048576: NARROWER than '..Said'. Prove '..Said' where nothing that the law and all that it calls make is longer than what came in: it says more and counts as full. Else prove '..UptoSaid'. A law counts once. -/
mutual
def uptoBulk {H : Type} : DataW H → Nat
  | .lit (.string bytes) => bytes.length + 1
  | .lit _ => 1
  | .nil => 1
  | .ptr d => uptoBulk d + 1
  | .slice elems spare => uptoBulkAll elems + uptoBulkAll spare + 1
  | .agg parts => uptoBulkAll parts + 1
  | .iface _ d => uptoBulk d + 1
  | .map entries => uptoBulkEntries entries + 1
  | .held _ => 1
def uptoBulkAll {H : Type} : List (DataW H) → Nat
  | [] => 0
  | d :: r => uptoBulk d + uptoBulkAll r
def uptoBulkEntries {H : Type} : List (Lit × DataW H) → Nat
  | [] => 0
  | x :: r => uptoBulkEntry x + uptoBulkEntries r
def uptoBulkEntry {H : Type} : Lit × DataW H → Nat
  | (.string bytes, d) => bytes.length + uptoBulk d + 1
  | (_, d) => uptoBulk d + 1
 end
def uptoSmall : (H : Type) → List (DataW H) → Bool := fun _ ds => decide (uptoBulkAll ds ≤ 1048576)
def OpenSpec.upto (s : _root_.Go.ChangeSpec) : _root_.Go.OpenSpec := { _root_.Go.OpenSpec.ofChange s with cond := some uptoSmall }

/-- 'crossbarlaw04.SpanLeast', WHERE WHAT IT READS IS OF BULK AT MOST 1048576: true; the input reads as it did. -/
def spanLeastUptoRow : OpenClaim := { program := "ytkkkcocehkfbcaa", sum := "fff8f06ca34a2857aa43066b286e9c9117cf12eaf264c83d94fc6a990109bbeb", func := "crossbar/crossbarlaw04.SpanLeast", spec := "spanLeast", inPlace := ["math/bits.Add64"], apart := false, narrowed := true }
def SpanLeastUptoSaid : Prop := spanLeastUptoRow.holds Try.pinned (OpenSpec.upto spanLeastSpec)

/-- 'crossbarlaw04.SpanTurns', WHERE WHAT IT READS IS OF BULK AT MOST 1048576: true; the input reads as it did. -/
def spanTurnsUptoRow : OpenClaim := { program := "ytkkkcocehkfbcaa", sum := "fff8f06ca34a2857aa43066b286e9c9117cf12eaf264c83d94fc6a990109bbeb", func := "crossbar/crossbarlaw04.SpanTurns", spec := "spanTurns", inPlace := ["math/bits.Add64"], apart := false, narrowed := true }
def SpanTurnsUptoSaid : Prop := spanTurnsUptoRow.holds Try.pinned (OpenSpec.upto spanTurnsSpec)

/-- 'crossbarlaw04.SpanSigned', WHERE WHAT IT READS IS OF BULK AT MOST 1048576: true; the input reads as it did. -/
def spanSignedUptoRow : OpenClaim := { program := "ytkkkcocehkfbcaa", sum := "fff8f06ca34a2857aa43066b286e9c9117cf12eaf264c83d94fc6a990109bbeb", func := "crossbar/crossbarlaw04.SpanSigned", spec := "spanSigned", inPlace := ["math/bits.Add64"], apart := false, narrowed := true }
def SpanSignedUptoSaid : Prop := spanSignedUptoRow.holds Try.pinned (OpenSpec.upto spanSignedSpec)

/-- 'crossbarlaw04.SpanSignedSound', WHERE WHAT IT READS IS OF BULK AT MOST 1048576: true; the input reads as it did. -/
def spanSignedSoundUptoRow : OpenClaim := { program := "ytkkkcocehkfbcaa", sum := "fff8f06ca34a2857aa43066b286e9c9117cf12eaf264c83d94fc6a990109bbeb", func := "crossbar/crossbarlaw04.SpanSignedSound", spec := "spanSignedSound", inPlace := ["math/bits.Add64"], apart := false, narrowed := true }
def SpanSignedSoundUptoSaid : Prop := spanSignedSoundUptoRow.holds Try.pinned (OpenSpec.upto spanSignedSoundSpec)

/-- 'crossbarlaw04.SpanTells', WHERE WHAT IT READS IS OF BULK AT MOST 1048576: true; the input reads as it did. -/
def spanTellsUptoRow : OpenClaim := { program := "ytkkkcocehkfbcaa", sum := "fff8f06ca34a2857aa43066b286e9c9117cf12eaf264c83d94fc6a990109bbeb", func := "crossbar/crossbarlaw04.SpanTells", spec := "spanTells", inPlace := ["math/bits.Add64", "math/bits.Sub64"], apart := false, narrowed := true }
def SpanTellsUptoSaid : Prop := spanTellsUptoRow.holds Try.pinned (OpenSpec.upto spanTellsSpec)

/-- 'crossbarlaw04.SpanKnown', WHERE WHAT IT READS IS OF BULK AT MOST 1048576: true; the input reads as it did. -/
def spanKnownUptoRow : OpenClaim := { program := "ytkkkcocehkfbcaa", sum := "fff8f06ca34a2857aa43066b286e9c9117cf12eaf264c83d94fc6a990109bbeb", func := "crossbar/crossbarlaw04.SpanKnown", spec := "spanKnown", inPlace := ["math/bits.Add64", "math/bits.Sub64"], apart := false, narrowed := true }
def SpanKnownUptoSaid : Prop := spanKnownUptoRow.holds Try.pinned (OpenSpec.upto spanKnownSpec)

/-- 'crossbarlaw04.SpanAlone', WHERE WHAT IT READS IS OF BULK AT MOST 1048576: true; the input reads as it did. -/
def spanAloneUptoRow : OpenClaim := { program := "ytkkkcocehkfbcaa", sum := "fff8f06ca34a2857aa43066b286e9c9117cf12eaf264c83d94fc6a990109bbeb", func := "crossbar/crossbarlaw04.SpanAlone", spec := "spanAlone", inPlace := ["math/bits.Add64", "math/bits.Sub64"], apart := false, narrowed := true }
def SpanAloneUptoSaid : Prop := spanAloneUptoRow.holds Try.pinned (OpenSpec.upto spanAloneSpec)

/-- 'crossbarlaw04.SpanSound', WHERE WHAT IT READS IS OF BULK AT MOST 1048576: true; the input reads as it did. -/
def spanSoundUptoRow : OpenClaim := { program := "ytkkkcocehkfbcaa", sum := "fff8f06ca34a2857aa43066b286e9c9117cf12eaf264c83d94fc6a990109bbeb", func := "crossbar/crossbarlaw04.SpanSound", spec := "spanSound", inPlace := ["math/bits.Add64", "math/bits.Sub64"], apart := false, narrowed := true }
def SpanSoundUptoSaid : Prop := spanSoundUptoRow.holds Try.pinned (OpenSpec.upto spanSoundSpec)

end Rows
end Go.Proofs.Ytkkkcocehkfbcaa
