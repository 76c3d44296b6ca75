/- TnumSays: what the document's functions come to, bit by bit. -/
import Derived.Test.YtbpkkailkalpiaaDoorSaysC
namespace Go.WE
set_option linter.unusedVariables false
set_option maxRecDepth 100000
open Go Go.TL Go.Proofs

noncomputable abbrev ev2 (f : Nat) (av am bv bm : U) : Option (A × V) := (evalF cxT Γ1 400 20 f [.t (tnT av am), .t (tnT bv bm)] H.none).res

def andZ (av am bv bm : U) (i : Nat) : Bool := cond (gZ av am i) true (gZ bv bm i)
def andO (av am bv bm : U) (i : Nat) : Bool := cond (gO av am i) (gO bv bm i) false
def orZ (av am bv bm : U) (i : Nat) : Bool := cond (gZ av am i) (gZ bv bm i) false
def orO (av am bv bm : U) (i : Nat) : Bool := cond (gO av am i) true (gO bv bm i)
def xorZ (av am bv bm : U) (i : Nat) : Bool := cond (cond (gO av am i) (gO bv bm i) false) true (cond (gZ av am i) (gZ bv bm i) false)
def xorO (av am bv bm : U) (i : Nat) : Bool := cond (cond (gO av am i) (gZ bv bm i) false) true (cond (gZ av am i) (gO bv bm i) false)
def rT (z o : Nat → Bool) : T := tnT (tV z o 64) (tM z o 64)

theorem and_ev (av am bv bm : U) : ev2 7 av am bv bm = some (.tt, .t (rT (andZ av am bv bm) (andO av am bv bm))) := by kernel_rfl
theorem or_ev (av am bv bm : U) : ev2 9 av am bv bm = some (.tt, .t (rT (orZ av am bv bm) (orO av am bv bm))) := by kernel_rfl
theorem xor_ev (av am bv bm : U) : ev2 11 av am bv bm = some (.tt, .t (rT (xorZ av am bv bm) (xorO av am bv bm))) := by kernel_rfl
theorem join_ev (av am bv bm : U) : ev2 31 av am bv bm = some (.tt, .t (rT (andZ av am bv bm) (orO av am bv bm))) := by kernel_rfl

def chain {α : Type} (mux : Bool → α → α → α) (c : Nat → Bool) (x y : α) : Nat → Nat → α
  | _, 0 => y
  | i, m + 1 => mux (c i) x (chain mux c x y (i + 1) m)
def muxB (b x y : Bool) : Bool := cond b x y
def muxU (b : Bool) (x y : U) : U := cond b x y

def inC (av am n : U) (i : Nat) : Bool := cond (cond (bitT n i) (!(gO av am i)) false) true (cond (!(bitT n i)) (!(gZ av am i)) false)
def withinC (av am bv bm : U) (i : Nat) : Bool := cond (cond (gZ av am i) (!(gZ bv bm i)) false) true (cond (gO av am i) (!(gO bv bm i)) false)
def meetC (av am bv bm : U) (i : Nat) : Bool := cond (!(orZ av am bv bm i)) (!(andO av am bv bm i)) false
theorem in_ev (av am n : U) : (evalF cxT Γ1 400 20 27 [.t (tnT av am), .t (.a (.i .u64 n))] H.none).res = some (.tt, .t (.a (.b (chain muxB (inC av am n) false true 0 64)))) := by kernel_rfl
theorem within_ev (av am bv bm : U) : ev2 29 av am bv bm = some (.tt, .t (.a (.b (chain muxB (withinC av am bv bm) false true 0 64)))) := by kernel_rfl
theorem meet_ev (av am bv bm : U) : ev2 25 av am bv bm = some (.tt, .tup [tnT (chain muxU (meetC av am bv bm) (K 0) (tV (orZ av am bv bm) (andO av am bv bm) 64) 0 64) (chain muxU (meetC av am bv bm) (K 0) (tM (orZ av am bv bm) (andO av am bv bm) 64) 0 64),
    .a (.b (chain muxB (meetC av am bv bm) false true 0 64))]) := by kernel_rfl

def noT (g : Nat → Bool) : Nat → Nat → U
  | i, 0 => K (Int.ofNat i)
  | i, m + 1 => cond (!(g i)) (noT g (i + 1) m) (K (Int.ofNat i))
theorem no_ev (v m : U) : (evalF cxT Γ1 400 20 47 [.t (tnT v m)] H.none).res = some (.tt, .t (.a (.i .i64 (noT (gO v m) 0 64)))) := by kernel_rfl
end Go.WE
