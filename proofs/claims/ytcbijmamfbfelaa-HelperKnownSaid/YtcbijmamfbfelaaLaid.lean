/- What laid gives: a new state, told; words of bytes that are known. -/
import Derived.Test.YtcbijmamfbfelaaCx
import Derived.Test.YtcbijmamfbfelaaNewBlk
namespace Go.WE
set_option linter.unusedVariables false
set_option maxRecDepth 100000
open Go Go.Proofs

def vN (k n m i : Int) : T := .st [.a (.lit .i64 k), .a (.lit .u64 n), .a (.lit .i64 m), .a (.lit .i64 i)]
def byteT (n : Nat) : T := .a (.lit .u8 (Int.ofNat n))
def slot0 : T := .st [vN 0 0 0 0, .lst 1 (List.replicate 8 (byteT 0)), .lst 1 (List.replicate 8 (.a .ff))]
def slotN (k : Nat) : T := .st [vN 0 0 0 0, .lst 1 ((List.range 8).map fun j => byteT (8 * k + j)), .lst 1 (List.replicate 8 (.a .tt))]
/-- What laid leaves. -/
def laidT (m fl : Int) : T := .st [.lst 4 [vN 0 0 0 0, vN 4 0 0 m, vN 3 18446744073709551552 0 0, vN 3 18446744073709551584 0 0, vN 1 fl 0 0, vN 0 0 0 0, vN 0 0 0 0, vN 0 0 0 0, vN 0 0 0 0, vN 0 0 0 0, vN 3 0 0 0],
  .lst 1 (List.replicate 32 (byteT 0)), .lst 20 (List.replicate 8 slot0 ++ (List.range 8).map slotN)]

def R.new1 (r : R) : Option (A × Nat × Blk) := match r.pick with
  | some (ok, .t (.a (.ptr id [])), h) => match h.m.get id with
    | some b => some (ok, id, b)
    | none => none
  | _ => none
theorem laid_ev (m fl : Int) : (evalF cxH noΓ 400 20 4 [.t (.a (.lit .i64 m)), .t (.a (.lit .u64 fl))] H.none).new1 = some (.tt, 0, ⟨true, laidT m fl⟩) := by kernel_rfl
end Go.WE
