/- Contracts of the spans' seat: shifts, and numbers inside of a span. -/
import Derived.Test.YtkkkcocehkfbcaaC2
import Derived.Test.YtkkkcocehkfbcaaTurnsLaw
namespace Go.Proofs.Ytkkkcocehkfbcaa.Con
open Go Go.VE

def n63 (n : U) : U := n &&& BitVec.ofInt 64 63
theorem evSarsh (a b n : U) : evalF { P := Try.prog, eqT := eqTab eqs } Γ3 300 2 45 [.g [.i .i64 a, .i .i64 b], .a (.i .i64 n)] [] =
    some (.b (!(n63 n).msb && !(n63 n).msb), .g [.i .i64 (a.sshiftRight (n63 n).toNat), .i .i64 (b.sshiftRight (n63 n).toNat)]) := by kernel_rfl
theorem evRefSarsh (a b n : U) : evalF { P := Try.prog, eqT := eqTab eqs } Γ3 300 3 46 [.g [.i .i64 a, .i .i64 b], .a (.i .i64 n)] [] =
    some (.b ((by63 n).ule 64#64 && (by63 n).ule 64#64), .g [.i .i64 (a.sshiftRight (by63 n).toNat), .i .i64 (b.sshiftRight (by63 n).toNat)]) := by kernel_rfl
def insideU (lo hi v : U) : U := cond ((hi - lo + BitVec.ofInt 64 1) == BitVec.ofInt 64 0) v (lo + v % (hi - lo + BitVec.ofInt 64 1))
def insideK (lo hi : U) : Bool := cond ((hi - lo + BitVec.ofInt 64 1) == BitVec.ofInt 64 0) true ((hi - lo + BitVec.ofInt 64 1) != 0#64)
theorem evInside (a b v : U) : evalF { P := Try.prog, eqT := eqTab eqs } Γ3 300 3 49 [.g [.i .u64 a, .i .u64 b], .a (.i .u64 v)] [] =
    some (.b (insideK a b), .a (.i .u64 (insideU a b v))) := by kernel_rfl

def sarshG : List At → Option (A × V)
  | [.n a, .n b, .n n] => some (.tt, .g [.i .i64 (a.sshiftRight (by63 n).toNat), .i .i64 (b.sshiftRight (by63 n).toNat)])
  | _ => none
def insideG : List At → Option (A × V)
  | [.n a, .n b, .n v] => some (.tt, .a (.i .u64 (insideU a b v)))
  | _ => none

theorem n63_eq (n : U) : n63 n = by63 n := by unfold n63 by63; rw [show BitVec.ofInt 64 63 = 63#64 by decide]
theorem by63_msb (n : U) : (by63 n).msb = false := by
  have := by63_lt n
  rw [BitVec.msb_eq_decide]; simp; omega
theorem by63_ule (n : U) : (by63 n).ule 64#64 = true := by
  have := by63_lt n
  simp [BitVec.ule]; omega
theorem insideK_ok (a b : U) : insideK a b = true := by
  unfold insideK
  have e : BitVec.ofInt 64 0 = 0#64 := by decide
  rw [e, bne]
  cases (b - a + BitVec.ofInt 64 1 == 0#64) <;> rfl

def Γ4 : CallE := addΓ 45 (specΓ [.agg [some .i64, some .i64], .one (some .i64)] sarshG) (addΓ 46 (specΓ [.agg [some .i64, some .i64], .one (some .i64)] sarshG)
  (addΓ 49 (specΓ [.agg [some .u64, some .u64], .one (some .u64)] insideG) Γ3))

theorem Γ4ok : CallOK Try.prog gw0 Γ4 := by
  refine addΓ_ok (spec_ok ent (bodied Try.func45 (by kernel_rfl)) ?_) (addΓ_ok (spec_ok ent (bodied Try.func46 (by kernel_rfl)) ?_) (addΓ_ok (spec_ok ent (bodied Try.func49 (by kernel_rfl)) ?_) Γ3ok))
  · intro ys ok v h hok
    match ys, h with
    | [.n a, .n b, .n n], h =>
      simp [sarshG] at h
      obtain ⟨_, rfl⟩ := h
      rw [← n63_eq]
      exact pure_of_eval eqsOk Γ3ok ent rfl (evSarsh a b n) (by rw [n63_eq]; simp [okB, by63_msb])
  · intro ys ok v h hok
    match ys, h with
    | [.n a, .n b, .n n], h =>
      simp [sarshG] at h
      obtain ⟨_, rfl⟩ := h
      exact pure_of_eval eqsOk Γ3ok ent rfl (evRefSarsh a b n) (by simp [okB, by63_ule])
  · intro ys ok v h hok
    match ys, h with
    | [.n a, .n b, .n n], h =>
      simp [insideG] at h
      obtain ⟨_, rfl⟩ := h
      exact pure_of_eval eqsOk Γ3ok ent rfl (evInside a b n) (insideK_ok a b)
end Go.Proofs.Ytkkkcocehkfbcaa.Con
