/- plain law: numbers that stand alone make one alone. -/
import Derived.Test.YtkkkcocehkfbcaaTellsLaw
import Derived.Test.YtkkkcocehkfbcaaSSoundLaw
namespace Go.VE
open Go
def k64 (n : U) : Nat := (n % BitVec.ofInt 64 64).toNat
def sr (x : U) (k : Int) : U := x >>> (BitVec.ofInt 64 k).toNat
def sa (x : U) (k : Int) : U := x.sshiftRight (BitVec.ofInt 64 k).toNat
def an1 (a b : U) : Bool := eq2 (cond (cyc (a + b) a != cyc (a + b) a) zer (a + b)) (cond (cyc (a + b) a != cyc (a + b) a) topU (a + b)) (a + b) (a + b)
def an2 (a b : U) : Bool := eq2 (cond (cyc a b != cyc a b) zer (a - b)) (cond (cyc a b != cyc a b) topU (a - b)) (a - b) (a - b)
def dv (a b : U) : U := cond (b == zer) zer (a / b)
def an3 (a b : U) : Bool := eq2 (divLo a b b) (divHi a b b) (dv a b) (dv a b)
def an4 (a n : U) : Bool := eq2 (a >>> (by63 n).toNat) (a >>> (by63 n).toNat) (a >>> k64 n) (a >>> k64 n)
def an5 (a : U) : Bool := eq2 (cond (cutU a a) (a &&& w32) zer) (cond (cutU a a) (a &&& w32) w32) (a &&& w32) (a &&& w32)
def an6 (a n : U) : Bool := eq2 (a.sshiftRight (by63 n).toNat) (a.sshiftRight (by63 n).toNat) (a.sshiftRight (k64 n)) (a.sshiftRight (k64 n))
def anA (a b : U) : Bool := cond (!an1 a b) true (!an2 a b)
def anBad1 (a b n : U) : Bool := cond (cond (cond (cond (anA a b) true (!an3 a b)) true (!an4 a n)) true (!an5 a)) true (!an6 a n)
def an7 (a b : U) : Bool := eq2 (cond (modC a b b) a zer) (modHi a b b) a a
def an8 (a b : U) : Bool := eq2 (cond (mulC a b) zer (a * b)) (cond (mulC a b) topU (a * b)) (a * b) (a * b)
def an9 (a n : U) : Bool := eq2 (lshLo a a n) (lshHi a n) (a <<< k64 n) (a <<< k64 n)
def anBad2 (a b n : U) : Bool :=
  cond (cond (cond (cond (b == zer) (!an7 a b) false) true (cond (a.ult b) (!an7 a b) false)) true
    (cond (cond (sr a 32 == zer) (sr b 32 == zer) false) (!an8 a b) false)) true
    (cond (a <<< k64 n >>> k64 n == a) (!an9 a n) false)
def anSmall (a b : U) : Bool := cond (sa a 62 == sa a 63) (sa b 62 == sa b 63) false
def an10 (a b : U) : Bool := eq2 (cond (sAddC a a b b) lowS (a + b)) (cond (sAddC a a b b) topS (a + b)) (a + b) (a + b)
def an11 (a b : U) : Bool := eq2 (cond (sSubC a a b b) lowS (a - b)) (cond (sSubC a a b b) topS (a - b)) (a - b) (a - b)
def an12 (a : U) : Bool := eq2 (cond (scC a a) a l31) (cond (scC a a) a h31) a a
def anLast (a b : U) : Bool := cond (cond (cond (!anSmall a b) true (cond (an10 a b) (an11 a b) false)) (cond (a != n32 a) true (an12 a)) false) true false
def spanAlone (a b n : U) : Bool := cond (anBad1 a b n) false (cond (anBad2 a b n) false (anLast a b))
def anK (a b : U) : Bool := (!(!anA a b)) || cond (b == zer) true ((b != 0#64) && (b != 0#64))
def spanAloneK (a b n : U) : Bool := cond (anBad1 a b n) (anK a b) (cond (anBad2 a b n) (anK a b) (anK a b))

theorem k64_eq (n : U) : k64 n = (by63 n).toNat := mod64 n

theorem an1_ok (a b : U) : an1 a b = true := by unfold an1; rw [bne_self_eq_false]; exact eq2_refl _ _
theorem an2_ok (a b : U) : an2 a b = true := by unfold an2; rw [bne_self_eq_false]; exact eq2_refl _ _
theorem an3_ok (a b : U) : an3 a b = true := by
  have hz : BitVec.ofInt 64 0 = zer := rfl
  unfold an3 divLo divHi dv
  rw [hz]
  cases (b == zer) <;> exact eq2_refl _ _
theorem an4_ok (a n : U) : an4 a n = true := by unfold an4; rw [k64_eq]; exact eq2_refl _ _
theorem an5_ok (a : U) : an5 a = true := by
  have h : cutU a a = true := by
    unfold cutU
    have h1 : (a - a).ule w32 = true := by rw [BitVec.sub_self]; simp [BitVec.ule]
    have h2 : (a &&& w32).ule (a &&& w32) = true := by simp [BitVec.ule]
    rw [h1, h2]; rfl
  unfold an5; rw [h]; exact eq2_refl _ _
theorem an6_ok (a n : U) : an6 a n = true := by unfold an6; rw [k64_eq]; exact eq2_refl _ _
theorem an7_ok (a b : U) (h : modC a b b = true) : an7 a b = true := by unfold an7 modHi; rw [h]; exact eq2_refl _ _
theorem an8_ok (a b : U) (ha : a.toNat < 2 ^ 32) (hb : b.toNat < 2 ^ 32) : an8 a b = true := by
  have h : a.toNat * b.toNat < 2 ^ 64 := Nat.lt_of_lt_of_le (Nat.mul_lt_mul'' ha hb) (by omega)
  unfold an8
  rw [mulC_eq, (timesU_iff a b).2 h]; exact eq2_refl _ _
theorem an9_ok (a n : U) (h : a <<< k64 n >>> k64 n = a) : an9 a n = true := by
  have hk := by63_lt n
  have ha : a.toNat * 2 ^ (by63 n).toNat < 2 ^ 64 := by
    have h1 := congrArg BitVec.toNat h
    rw [k64_eq, BitVec.toNat_ushiftRight, BitVec.toNat_shiftLeft, Nat.shiftRight_eq_div_pow, Nat.shiftLeft_eq] at h1
    have h2 := Nat.mod_lt (a.toNat * 2 ^ (by63 n).toNat) (show 0 < 2 ^ 64 by omega)
    have h3 := Nat.div_mul_le_self (a.toNat * 2 ^ (by63 n).toNat % 2 ^ 64) (2 ^ (by63 n).toNat)
    rw [h1] at h3
    omega
  have ht : timesU a (pow2 n) = true := (timesU_iff _ _).2 (by rw [pow2_toNat]; exact ha)
  unfold an9 lshLo lshHi
  rw [lshC_eq, ht, k64_eq]; exact eq2_refl _ _

theorem sr_zer (a : U) (h : (sr a 32 == zer) = true) : a.toNat < 2 ^ 32 := by
  rw [eq_zer, decide_eq_true_eq] at h
  unfold sr at h
  rw [show (BitVec.ofInt 64 32).toNat = 32 by decide, BitVec.toNat_ushiftRight, Nat.shiftRight_eq_div_pow] at h
  omega

theorem sa_small (a : U) (h : (sa a 62 == sa a 63) = true) : -4611686018427387904 ≤ a.toInt ∧ a.toInt < 4611686018427387904 := by
  rw [beq_iff_eq] at h
  have h1 := congrArg BitVec.toInt h
  unfold sa at h1
  rw [show (BitVec.ofInt 64 62).toNat = 62 by decide, show (BitVec.ofInt 64 63).toNat = 63 by decide, BitVec.toInt_sshiftRight, BitVec.toInt_sshiftRight, Int.shiftRight_eq_div_pow, Int.shiftRight_eq_div_pow] at h1
  have e62 : ((2 ^ 62 : Nat) : Int) = 4611686018427387904 := by decide
  have e63 : ((2 ^ 63 : Nat) : Int) = 9223372036854775808 := by decide
  rw [e62, e63] at h1
  have := rng a
  omega

theorem an10_ok (a b : U) (h : -9223372036854775808 ≤ a.toInt + b.toInt ∧ a.toInt + b.toInt < 9223372036854775808) : an10 a b = true := by
  have hf := (fits_add_iff a b).2 h
  have hc : sAddC a a b b = false := by unfold sAddC; rw [hf]; rfl
  unfold an10; rw [hc]; exact eq2_refl _ _
theorem an11_ok (a b : U) (h : -9223372036854775808 ≤ a.toInt - b.toInt ∧ a.toInt - b.toInt < 9223372036854775808) : an11 a b = true := by
  have hf := (fits_sub_iff a b).2 h
  have hc : sSubC a a b b = false := by unfold sSubC; rw [hf]; rfl
  unfold an11; rw [hc]; exact eq2_refl _ _
theorem an12_ok (a : U) (h : a = n32 a) : an12 a = true := by
  have h1 := congrArg BitVec.toInt h
  rw [n32_int, Int.bmod_def] at h1
  have hc : scC a a = true := by
    unfold scC
    rw [sle_iff, sle_iff, l31_int, h31_int]
    have h2 : -2147483648 ≤ a.toInt := by split at h1 <;> omega
    have h3 : a.toInt ≤ 2147483647 := by split at h1 <;> omega
    simp [h2, h3]
  unfold an12; rw [hc]; exact eq2_refl _ _

theorem anA_ok (a b : U) : anA a b = false := by unfold anA; rw [an1_ok, an2_ok]; rfl
theorem anBad1_ok (a b n : U) : anBad1 a b n = false := by
  unfold anBad1; rw [anA_ok, an3_ok, an4_ok, an5_ok, an6_ok]; rfl

theorem anBad2_ok (a b n : U) : anBad2 a b n = false := by
  have h1 : cond (b == zer) (!an7 a b) false = false := by
    cases h : (b == zer)
    · rfl
    · rw [an7_ok a b (by unfold modC; rw [h]; rfl)]; rfl
  have h2 : cond (a.ult b) (!an7 a b) false = false := by
    cases h : a.ult b
    · rfl
    · rw [an7_ok a b (by unfold modC; rw [h]; cases (b == zer) <;> rfl)]; rfl
  have h3 : cond (cond (sr a 32 == zer) (sr b 32 == zer) false) (!an8 a b) false = false := by
    cases ha : (sr a 32 == zer)
    · rfl
    · cases hb : (sr b 32 == zer)
      · rfl
      · rw [an8_ok a b (sr_zer a ha) (sr_zer b hb)]; rfl
  have h4 : cond (a <<< k64 n >>> k64 n == a) (!an9 a n) false = false := by
    cases h : (a <<< k64 n >>> k64 n == a)
    · rfl
    · rw [an9_ok a n (by simpa using h)]; rfl
  unfold anBad2; rw [h1, h2, h3, h4]; rfl

theorem anLast_ok (a b : U) : anLast a b = true := by
  have h1 : cond (!anSmall a b) true (cond (an10 a b) (an11 a b) false) = true := by
    cases h : anSmall a b
    · rfl
    · unfold anSmall at h
      cases ha : (sa a 62 == sa a 63)
      · rw [ha] at h; cases h
      · rw [ha] at h
        have h1 := sa_small a ha
        have h2 := sa_small b h
        rw [an10_ok a b (by omega), an11_ok a b (by omega)]; rfl
  have h2 : cond (a != n32 a) true (an12 a) = true := by
    cases h : (a != n32 a)
    · rw [an12_ok a (by simpa using h)]; rfl
    · rfl
  unfold anLast; rw [h1, h2]; rfl

theorem spanAlone_true (a b n : U) : spanAlone a b n = true := by
  unfold spanAlone; rw [anBad1_ok, anBad2_ok, anLast_ok]; rfl

theorem spanAloneK_true (a b n : U) : spanAloneK a b n = true := by
  have h : anK a b = true := by
    unfold anK
    rw [anA_ok, ← zer_eq, bne]
    cases (b == zer) <;> rfl
  unfold spanAloneK; rw [h]
  cases anBad1 a b n <;> cases anBad2 a b n <;> rfl
end Go.VE
