/- TnumSays: bits that are moved, as the document says. -/
import Derived.Test.YtbpkkailkalpiaaDoorSaysR
namespace Go.WE
set_option linter.unusedVariables false
set_option maxRecDepth 100000
open Go Go.TL Go.Proofs

def p64 (n : U) : U := cond (BitVec.slt (BitVec.srem n (K 64)) (K 0)) (BitVec.srem n (K 64) + K 64) (BitVec.srem n (K 64))
def fUp (t : U) (i : Nat) : U := K (Int.ofNat i) - t
def fDown (t : U) (i : Nat) : U := K (Int.ofNat i) + t
def fSign (t : U) (i : Nat) : U := cond (cond (BitVec.slt (K 63) (K (Int.ofNat i) + t)) true false) (K 63) (K (Int.ofNat i) + t)
def outC (f : Nat → U) (i : Nat) : Bool := cond (BitVec.slt (f i) (K 0)) true (BitVec.slt (K 63) (f i))
def wr (c : Nat → Bool) (E : Bool) (i : Nat) : Nat → Bool
  | 0 => E
  | m + 1 => cond (c (i + (m + 1))) (wr c E i m) (wr c E i m)
theorem wr_eq (c : Nat → Bool) (E : Bool) (i : Nat) : ∀ m, wr c E i m = E
  | 0 => rfl
  | m + 1 => by
    unfold wr
    rw [wr_eq c E i m]
    cases c (i + (m + 1)) <;> rfl
def okM (f : Nat → U) : Nat → Bool
  | 0 => true
  | n + 1 =>
    let p := (!(BitVec.msb (f n))) && Nat.blt (f n).toNat 64
    let q := Nat.blt (f n).toNat 64
    cond (outC f n) (okM f n) ((((okM f n && p) && q) && p) && q)
def movZ (f : Nat → U) (v m : U) (i : Nat) : Bool := wr (outC f) (cond (outC f i) true (gZ v m (f i).toNat)) i (63 - i)
def movO (f : Nat → U) (v m : U) (i : Nat) : Bool := wr (outC f) (cond (outC f i) false (gO v m (f i).toNat)) i (63 - i)
def sameB : Nat → Bool → Bool → Bool
  | 0, _, x => x
  | _ + 1, b, x => cond b x x
def okS (t : U) : Nat → Bool
  | 0 => true
  | n + 1 =>
    let o := sameB n (cond (BitVec.slt (K 63) (K (Int.ofNat n) + t)) true false) (okS t n)
    let p := (!(BitVec.msb (fSign t n))) && Nat.blt (fSign t n).toNat 64
    let q := Nat.blt (fSign t n).toNat 64
    cond (outC (fSign t) n) o ((((o && p) && q) && p) && q)
noncomputable abbrev evM (u s : A) (av am n : U) : Option (A × V) := (evalF cxT Γ1 400 20 19 [.t (tnT av am), .t (.a (.i .i64 n)), .t (.a u), .t (.a s)] H.none).res
theorem up_ev (av am n : U) : evM .tt .ff av am n = some (.b (okM (fUp (p64 n)) 64), .t (rT (movZ (fUp (p64 n)) av am) (movO (fUp (p64 n)) av am))) := by kernel_rfl
theorem down_ev (av am n : U) : evM .ff .ff av am n = some (.b (okM (fDown (p64 n)) 64), .t (rT (movZ (fDown (p64 n)) av am) (movO (fDown (p64 n)) av am))) := by kernel_rfl
theorem sign_ev (av am n : U) : evM .ff .tt av am n = some (.b (okS (p64 n) 64), .t (rT (movZ (fSign (p64 n)) av am) (movO (fSign (p64 n)) av am))) := by kernel_rfl
end Go.WE
