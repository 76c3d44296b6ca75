/- Contracts of the spans' seat: the document's loops, and Mul64. -/
import Derived.Test.YtkkkcocehkfbcaaC
import Derived.Test.YtkkkcocehkfbcaaMul
namespace Go.Proofs.Ytkkkcocehkfbcaa.Con
open Go Go.VE

theorem evRefOnes (a : U) : evalF { P := Try.prog, eqT := eqTab eqs } Γ2 300 2 98 [.a (.i .u64 a)] [] = some (.b (onesK 66 0 a), .a (.i .u64 (onesA 66 0 a).val)) := by kernel_rfl
theorem evBy (a : U) : evalF { P := Try.prog, eqT := eqTab eqs } Γ2 300 2 89 [.a (.i .i64 a)] [] = some (.b (byK 66 0 (byN a)), .t [.a (.i .i64 (byN a)), .a (.i .u64 (byA 66 0 1 (byN a)).val)]) := by kernel_rfl
theorem evHalved (a b : U) : evalF { P := Try.prog, eqT := eqTab eqs } Γ2 300 2 90 [.a (.i .i64 a), .a (.i .i64 b)] [] = some (.b (halvK 66 0 b), .a (.i .i64 (halvT 66 0 a b))) := by kernel_rfl
theorem evRefBits (a b : U) : evalF { P := Try.prog, eqT := eqTab eqs } Γ2 300 2 22 [.g [.i .u64 a, .i .u64 b]] [] = some (.b (bitsK a b), .g [.i .u64 (bitsLo a b), .i .u64 ((byA 66 0 1 (bitsN a b)).val - BitVec.ofInt 64 1)]) := by kernel_rfl
theorem evMul (a b : U) : evalF { P := Try.prog, eqT := eqTab eqs } Γ2 300 2 96 [.a (.i .u64 a), .a (.i .u64 b)] [] = some (.tt, .t [.a (.i .u64 (mulHiT a b)), .a (.i .u64 (a * b))]) := by kernel_rfl

def refOnesG : List At → Option (A × V)
  | [.n a] => some (.tt, .a (.i .u64 (onesB a)))
  | _ => none
def byG : List At → Option (A × V)
  | [.n a] => some (.tt, .t [.a (.i .i64 (by63 a)), .a (.i .u64 (pow2 a))])
  | _ => none
def halvedG : List At → Option (A × V)
  | [.n a, .n b] => some (.b (b.ule 64#64), .a (.i .i64 (a.sshiftRight b.toNat)))
  | _ => none
def refBitsG : List At → Option (A × V)
  | [.n a, .n b] => some (.tt, .g [.i .u64 (bVal a b), .i .u64 (bMask a b)])
  | _ => none
def mulG : List At → Option (A × V)
  | [.n a, .n b] => some (.tt, .t [.a (.i .u64 (mulHi a b)), .a (.i .u64 (a * b))])
  | _ => none

def Γ3 : CallE := addΓ 98 (specΓ [.one (some .u64)] refOnesG) (addΓ 89 (specΓ [.one (some .i64)] byG) (addΓ 90 (specΓ [.one (some .i64), .one (some .i64)] halvedG)
  (addΓ 22 (specΓ [.agg [some .u64, some .u64]] refBitsG) (addΓ 96 (specΓ [.one (some .u64), .one (some .u64)] mulG) Γ2))))

theorem Γ3ok : CallOK Try.prog gw0 Γ3 := by
  refine addΓ_ok (spec_ok ent (bodied Try.func98 (by kernel_rfl)) ?_) (addΓ_ok (spec_ok ent (bodied Try.func89 (by kernel_rfl)) ?_) (addΓ_ok (spec_ok ent (bodied Try.func90 (by kernel_rfl)) ?_)
    (addΓ_ok (spec_ok ent (bodied Try.func22 (by kernel_rfl)) ?_) (addΓ_ok (spec_ok ent (bodied Try.func96 (by kernel_rfl)) ?_) Γ2ok))))
  · intro ys ok v h hok
    match ys, h with
    | [.n a], h =>
      simp [refOnesG] at h
      obtain ⟨_, rfl⟩ := h
      rw [← (onesT_eq a).1, ← onesA_val]
      exact pure_of_eval eqsOk Γ2ok ent rfl (evRefOnes a) (onesT_eq a).2
  · intro ys ok v h hok
    match ys, h with
    | [.n a], h =>
      simp [byG] at h
      obtain ⟨_, rfl⟩ := h
      rw [← (byT_eq a).1, ← byA_val, show by63 a = byN a from (byN_eq a).symm]
      exact pure_of_eval eqsOk Γ2ok ent rfl (evBy a) (byT_eq a).2
  · intro ys ok v h hok
    match ys, h with
    | [.n a, .n b], h =>
      simp [halvedG] at h
      obtain ⟨rfl, rfl⟩ := h
      have hb : b.toNat ≤ 64 := by simpa [okB, BitVec.ule] using hok
      have hi : b.toInt = (b.toNat : Int) := by rw [BitVec.toInt_eq_toNat_cond]; split <;> omega
      obtain ⟨h1, h2⟩ := halv_loop b hi hb 66 0 a (by omega) (by omega)
      rw [Nat.sub_zero] at h1
      rw [← h1]
      exact pure_of_eval eqsOk Γ2ok ent rfl (evHalved a b) h2
  · intro ys ok v h hok
    match ys, h with
    | [.n a, .n b], h =>
      simp [refBitsG] at h
      obtain ⟨_, rfl⟩ := h
      rw [← (bits_eq a b).1, ← (bits_eq a b).2.1, bitsMask, ← byA_val]
      exact pure_of_eval eqsOk Γ2ok ent rfl (evRefBits a b) (bits_eq a b).2.2
  · intro ys ok v h hok
    match ys, h with
    | [.n a, .n b], h =>
      simp [mulG] at h
      obtain ⟨_, rfl⟩ := h
      rw [← mulHi_eq]
      exact pure_of_eval (ok := .tt) eqsOk Γ2ok ent rfl (evMul a b) rfl
end Go.Proofs.Ytkkkcocehkfbcaa.Con
