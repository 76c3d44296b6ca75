/- Contracts of the spans' seat: products that fit, shifts, quotients. -/
import Derived.Test.YtkkkcocehkfbcaaC3
namespace Go.VE
open Go
def timesU (a b : U) : Bool := cond (a == BitVec.ofInt 64 0) true (b.ule (BitVec.ofInt 64 18446744073709551615 / a))
def lshC (b n : U) : Bool := (BitVec.ofInt 64 64).slt (len64 b + by63 n)
def lshLo (a b n : U) : U := cond (lshC b n) (BitVec.ofInt 64 0) (a <<< (by63 n).toNat)
def lshHi (b n : U) : U := cond (lshC b n) (BitVec.ofInt 64 18446744073709551615) (b <<< (by63 n).toNat)
def divLo (a c d : U) : U := cond (d == BitVec.ofInt 64 0) (BitVec.ofInt 64 0) (cond (c == BitVec.ofInt 64 0) (BitVec.ofInt 64 0) (a / d))
def divHi (b c d : U) : U := cond (d == BitVec.ofInt 64 0) (BitVec.ofInt 64 0) (cond (c == BitVec.ofInt 64 0) b (b / c))
def divK (c d : U) : Bool := cond (d == BitVec.ofInt 64 0) true (cond (c == BitVec.ofInt 64 0) true (d != 0#64 && c != 0#64))

theorem z0 : BitVec.ofInt 64 0 = 0#64 := by decide
theorem divK_ok (c d : U) : divK c d = true := by
  unfold divK
  rw [z0, bne, bne]
  cases (d == 0#64) <;> cases (c == 0#64) <;> rfl

theorem shr_div (a n : U) : a >>> (by63 n).toNat = a / pow2 n := by
  apply BitVec.eq_of_toNat_eq
  rw [BitVec.toNat_ushiftRight, Nat.shiftRight_eq_div_pow, BitVec.toNat_udiv, pow2_toNat]
theorem pow2_ne (n : U) : (pow2 n != 0#64) = true := by
  have h := pow2_toNat n
  have := Nat.two_pow_pos (by63 n).toNat
  rw [bne_iff_ne]
  intro e
  rw [e] at h
  have : (0#64).toNat = 0 := rfl
  omega
end Go.VE
namespace Go.Proofs.Ytkkkcocehkfbcaa.Con
open Go Go.VE

theorem evTimes (a b : U) : evalF { P := Try.prog, eqT := eqTab eqs } Γ4 300 2 97 [.a (.i .u64 a), .a (.i .u64 b)] [] =
    some (.b (!(!(a == BitVec.ofInt 64 0)) || (a != 0#64)), .a (.b (timesU a b))) := by kernel_rfl
theorem evLsh (a b n : U) : evalF { P := Try.prog, eqT := eqTab eqs } Γ4 300 3 75 [.g [.i .u64 a, .i .u64 b], .a (.i .i64 n)] [] =
    some (.b (cond ((BitVec.ofInt 64 64).slt (len64 b + n63 n)) true (!(n63 n).msb && !(n63 n).msb)), .g [.i .u64 (cond ((BitVec.ofInt 64 64).slt (len64 b + n63 n)) (BitVec.ofInt 64 0) (a <<< (n63 n).toNat)),
      .i .u64 (cond ((BitVec.ofInt 64 64).slt (len64 b + n63 n)) (BitVec.ofInt 64 18446744073709551615) (b <<< (n63 n).toNat))]) := by kernel_rfl
theorem evRsh (a b n : U) : evalF { P := Try.prog, eqT := eqTab eqs } Γ4 300 3 77 [.g [.i .u64 a, .i .u64 b], .a (.i .i64 n)] [] =
    some (.b (!(n63 n).msb && !(n63 n).msb), .g [.i .u64 (a >>> (n63 n).toNat), .i .u64 (b >>> (n63 n).toNat)]) := by kernel_rfl
theorem evRefRsh (a b n : U) : evalF { P := Try.prog, eqT := eqTab eqs } Γ4 300 3 78 [.g [.i .u64 a, .i .u64 b], .a (.i .i64 n)] [] =
    some (.b (pow2 n != 0#64 && pow2 n != 0#64), .g [.i .u64 (a / pow2 n), .i .u64 (b / pow2 n)]) := by kernel_rfl
theorem evDiv (a b c d : U) : evalF { P := Try.prog, eqT := eqTab eqs } Γ4 300 3 65 [.g [.i .u64 a, .i .u64 b], .g [.i .u64 c, .i .u64 d]] [] =
    some (.b (divK c d), .g [.i .u64 (divLo a c d), .i .u64 (divHi b c d)]) := by kernel_rfl

def timesG : List At → Option (A × V)
  | [.n a, .n b] => some (.tt, .a (.b (timesU a b)))
  | _ => none
def lshG : List At → Option (A × V)
  | [.n a, .n b, .n n] => some (.tt, .g [.i .u64 (lshLo a b n), .i .u64 (lshHi b n)])
  | _ => none
def rshG : List At → Option (A × V)
  | [.n a, .n b, .n n] => some (.tt, .g [.i .u64 (a >>> (by63 n).toNat), .i .u64 (b >>> (by63 n).toNat)])
  | _ => none
def divG : List At → Option (A × V)
  | [.n a, .n b, .n c, .n d] => some (.tt, .g [.i .u64 (divLo a c d), .i .u64 (divHi b c d)])
  | _ => none

def Γ5 : CallE := addΓ 97 (specΓ [.one (some .u64), .one (some .u64)] timesG) (addΓ 75 (specΓ [.agg [some .u64, some .u64], .one (some .i64)] lshG)
  (addΓ 77 (specΓ [.agg [some .u64, some .u64], .one (some .i64)] rshG) (addΓ 78 (specΓ [.agg [some .u64, some .u64], .one (some .i64)] rshG)
  (addΓ 65 (specΓ [.agg [some .u64, some .u64], .agg [some .u64, some .u64]] divG) Γ4))))

theorem Γ5ok : CallOK Try.prog gw0 Γ5 := by
  refine addΓ_ok (spec_ok ent (bodied Try.func97 (by kernel_rfl)) ?_) (addΓ_ok (spec_ok ent (bodied Try.func75 (by kernel_rfl)) ?_) (addΓ_ok (spec_ok ent (bodied Try.func77 (by kernel_rfl)) ?_)
    (addΓ_ok (spec_ok ent (bodied Try.func78 (by kernel_rfl)) ?_) (addΓ_ok (spec_ok ent (bodied Try.func65 (by kernel_rfl)) ?_) Γ4ok))))
  · intro ys ok v h hok
    match ys, h with
    | [.n a, .n b], h =>
      simp [timesG] at h
      obtain ⟨_, rfl⟩ := h
      exact pure_of_eval eqsOk Γ4ok ent rfl (evTimes a b) (by rw [z0]; simp only [okB, bne]; cases (a == 0#64) <;> rfl)
  · intro ys ok v h hok
    match ys, h with
    | [.n a, .n b, .n n], h =>
      simp [lshG] at h
      obtain ⟨_, rfl⟩ := h
      unfold lshLo lshHi lshC
      rw [← n63_eq]
      exact pure_of_eval eqsOk Γ4ok ent rfl (evLsh a b n) (by simp only [okB]; rw [n63_eq, by63_msb]; cases (BitVec.ofInt 64 64).slt (len64 b + by63 n) <;> rfl)
  · intro ys ok v h hok
    match ys, h with
    | [.n a, .n b, .n n], h =>
      simp [rshG] at h
      obtain ⟨_, rfl⟩ := h
      rw [← n63_eq]
      exact pure_of_eval eqsOk Γ4ok ent rfl (evRsh a b n) (by simp only [okB]; rw [n63_eq, by63_msb]; rfl)
  · intro ys ok v h hok
    match ys, h with
    | [.n a, .n b, .n n], h =>
      simp [rshG] at h
      obtain ⟨_, rfl⟩ := h
      rw [shr_div, shr_div]
      exact pure_of_eval eqsOk Γ4ok ent rfl (evRefRsh a b n) (by simp only [okB]; rw [pow2_ne]; rfl)
  · intro ys ok v h hok
    match ys, h with
    | [.n a, .n b, .n c, .n d], h =>
      simp [divG] at h
      obtain ⟨_, rfl⟩ := h
      exact pure_of_eval eqsOk Γ4ok ent rfl (evDiv a b c d) (divK_ok c d)
end Go.Proofs.Ytkkkcocehkfbcaa.Con
