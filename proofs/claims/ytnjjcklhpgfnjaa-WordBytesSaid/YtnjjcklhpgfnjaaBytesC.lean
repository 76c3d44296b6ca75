/- Words' bytes: contracts for lists of bytes of any length. -/
import Derived.Test.YtnjjcklhpgfnjaaCopy
import Derived.Test.YtnjjcklhpgfnjaaWE34
namespace Go.WE
set_option linter.unusedVariables false
open Go Go.Proofs

/-- Are bytes the same? -/
def sameD (n m : Nat) (g g' : Nat → BitVec 64) : Bool := decide (n = m ∧ ∀ j, j < n → vof .u8 (g j) = vof .u8 (g' j))

def copyΓ (Γ : Gam) : Gam := fun f args h => match Nat.beq f 25 with
  | true => match args with
    | [.t (.a (.sl id [] 1 (.lit 0) (.sym n) _))] => match h.m.get id with
      | some ⟨_, .arr 1 (.sym m) (.int .u8 g)⟩ => some (.leaf (.b (Nat.blt 0 n && (Nat.beq n m && Nat.ble n 140737488351232))) (.t (.a (.sl h.next [] 1 (.lit 0) (.sym n) none))) ((h.see id).new ⟨true, .arr 1 (.sym n) (.int .u8 g)⟩))
      | _ => none
    | _ => none
  | false => Γ f args h

def sameΓ (Γ : Gam) : Gam := fun f args h => match Nat.beq f 26 with
  | true => match args with
    | [.t (.a (.sl id [] 1 st len _)), .t (.a (.sl id' [] 1 st' len' _))] => match h.m.get id, h.m.get id' with
      | some ⟨_, .arr 1 m (.int .u8 g)⟩, some ⟨_, .arr 1 m' (.int .u8 g')⟩ =>
        some (.leaf (.b (Nat.ble (st.val + len.val) m.val && (Nat.ble (st'.val + len'.val) m'.val && (Nat.ble len.val 140737488351232 && Nat.ble len'.val 140737488351232)))) (.t (.a (.b (sameD len.val len'.val (fun j => g (st.val + j)) (fun j => g' (st'.val + j)))))) ((h.see id).see id'))
      | _, _ => none
    | [.t (.a .nils), .t (.a (.sl id [] 1 st len _))] => some (.leaf (.b (Nat.beq len.val 0)) (.t (.a .tt)) h)
    | _ => Γ f args h
  | false => Γ f args h
/-- A list that is empty, copied. -/
def copy0Γ (Γ : Gam) : Gam := fun f args h => match Nat.beq f 25 with
  | true => match args with
    | [.t (.a (.sl id [] 1 (.lit 0) (.sym n) _))] => some (.leaf (.b (Nat.beq n 0)) (.t (.a .nils)) h)
    | _ => none
  | false => Γ f args h

/-- Does a piece lie within? -/
def fitB (n : Nat) (a : BitVec 64) (size : Nat) : Bool := !(BitVec.slt a 0#64) && Nat.ble (a.toNat + size) n
def isSize : Nat → Bool
  | 1 => true
  | 2 => true
  | 4 => true
  | 8 => true
  | _ => false
def KK (n : Int) : BitVec 64 := BitVec.ofInt 64 n
def idxB (s : BitVec 64) : BitVec 64 := cond (s == KK 1) (KK 0) (cond (s == KK 2) (KK 1) (cond (s == KK 4) (KK 2) (cond (s == KK 8) (KK 3) (KK (-1)))))
def pbad (n : Nat) (a s : BitVec 64) : Bool := cond (cond (!(BitVec.sle (KK 0) (idxB s))) true (BitVec.slt a (KK 0))) true (BitVec.slt (BitVec.ofNat 64 n - s) a)
def pieceΓ (fit : Bool) (Γ : Gam) : Gam := fun f args h => match Nat.beq f 42 with
  | true => match args with
    | [.t (.a (.sl id [] 1 (.lit 0) (.sym n) c)), .t (.a (.i .i64 a)), .t (.a sv)] => match fit with
      | true => match sv with
        | .lit .i64 (.ofNat size) => some (.leaf (.b (fitB n a size && (Nat.ble n 140737488351232 && isSize size))) (.t (.a (.sl id [] 1 (.sym a.toNat) (.lit size) none))) h)
        | _ => none
      | false => match sv with
        | .i .i64 s => some (.leaf (.b (pbad n a s && Nat.ble n 140737488351232)) (.t (.a .nils)) h)
        | _ => none
    | _ => none
  | false => Γ f args h
def workS : List V → Option (A × V)
  | [] => some (.tt, .t (.a .tt))
  | _ => none
end Go.WE
