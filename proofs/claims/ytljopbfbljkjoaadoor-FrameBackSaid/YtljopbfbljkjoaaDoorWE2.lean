/- WE2: what the evaluator's numbers mean. -/
import Derived.Test.YtljopbfbljkjoaaDoorWE1
namespace Go.WE
open Go

theorem wrap_emod (k : IntKind) (n : Int) : (k.wrap n) % 2 ^ k.bits = n % 2 ^ k.bits := by
  cases k <;> simp [IntKind.wrap, IntKind.bits, IntKind.signed] <;> (try split) <;> omega

theorem wrap_congr (k : IntKind) {n m : Int} (h : n % 2 ^ k.bits = m % 2 ^ k.bits) : k.wrap n = k.wrap m := by
  unfold IntKind.wrap; simp only [h]

theorem wrap_wrap (k : IntKind) (n : Int) : k.wrap (k.wrap n) = k.wrap n := wrap_congr k (wrap_emod k n)

/-- The number that a term stands for. -/
def vof (k : IntKind) (x : BitVec 64) : Int := k.wrap (x.toNat : Int)

theorem bits_le (k : IntKind) : k.bits ≤ 64 := by cases k <;> decide

theorem emod64 (k : IntKind) (n : Int) : (n % 18446744073709551616) % 2 ^ k.bits = n % 2 ^ k.bits := by
  cases k <;> simp [IntKind.bits] <;> omega

theorem vof_emod (k : IntKind) (x : BitVec 64) : (vof k x) % 2 ^ k.bits = (x.toNat : Int) % 2 ^ k.bits := wrap_emod k _

theorem vof_ofInt {k : IntKind} {n : Int} (h : k.wrap n = n) : vof k (BitVec.ofInt 64 n) = n := by
  unfold vof
  rw [BitVec.toNat_ofInt]
  have e : ((n % ((2 ^ 64 : Nat) : Int)).toNat : Int) = n % 18446744073709551616 := by
    rw [Int.toNat_of_nonneg (Int.emod_nonneg _ (by decide))]; rfl
  rw [e]
  exact (wrap_congr k (emod64 k n)).trans h

theorem vof_add (k : IntKind) (x y : BitVec 64) : k.wrap (vof k x + vof k y) = vof k (x + y) := by
  refine wrap_congr k ?_
  rw [BitVec.toNat_add, Int.add_emod, vof_emod, vof_emod, ← Int.add_emod]
  exact (emod64 k _).symm

theorem vof_mul (k : IntKind) (x y : BitVec 64) : k.wrap (vof k x * vof k y) = vof k (x * y) := by
  refine wrap_congr k ?_
  rw [BitVec.toNat_mul, Int.mul_emod, vof_emod, vof_emod, ← Int.mul_emod]
  exact (emod64 k _).symm

theorem vof_sub (k : IntKind) (x y : BitVec 64) : k.wrap (vof k x - vof k y) = vof k (x - y) := by
  refine wrap_congr k ?_
  rw [BitVec.toNat_sub, Int.sub_emod, vof_emod, vof_emod, ← Int.sub_emod]
  have hy := y.isLt
  have e : (((2 ^ 64 - y.toNat + x.toNat) % 2 ^ 64 : Nat) : Int) = ((x.toNat : Int) - y.toNat) % 18446744073709551616 := by omega
  rw [e]
  exact (emod64 k _).symm

theorem vof_neg (k : IntKind) (x : BitVec 64) : k.wrap (0 - vof k x) = vof k (0#64 - x) := by
  have h := vof_sub k 0#64 x
  have z : vof k 0#64 = 0 := by cases k <;> decide
  rw [z] at h; exact h

theorem ofInt_vof (k : IntKind) (x : BitVec 64) : BitVec.ofInt k.bits (vof k x) = x.setWidth k.bits := by
  apply BitVec.eq_of_toNat_eq
  rw [BitVec.toNat_ofInt, BitVec.toNat_setWidth]
  have h := vof_emod k x
  have e : vof k x % ((2 ^ k.bits : Nat) : Int) = ((x.toNat % 2 ^ k.bits : Nat) : Int) := by
    have : ((2 ^ k.bits : Nat) : Int) = 2 ^ k.bits := by simp
    rw [this, h]; simp
  rw [e, Int.toNat_natCast]

theorem vof_setWidth (k : IntKind) (z : BitVec 64) : k.wrap ((z.setWidth k.bits).toNat : Int) = vof k z := by
  refine wrap_congr k ?_
  rw [BitVec.toNat_setWidth]
  simp

theorem vof_and (k : IntKind) (x y : BitVec 64) : k.wrap ((BitVec.ofInt k.bits (vof k x) &&& BitVec.ofInt k.bits (vof k y)).toNat : Int) = vof k (x &&& y) := by
  rw [ofInt_vof, ofInt_vof, ← BitVec.setWidth_and, vof_setWidth]
theorem vof_or (k : IntKind) (x y : BitVec 64) : k.wrap ((BitVec.ofInt k.bits (vof k x) ||| BitVec.ofInt k.bits (vof k y)).toNat : Int) = vof k (x ||| y) := by
  rw [ofInt_vof, ofInt_vof, ← BitVec.setWidth_or, vof_setWidth]
theorem vof_xor (k : IntKind) (x y : BitVec 64) : k.wrap ((BitVec.ofInt k.bits (vof k x) ^^^ BitVec.ofInt k.bits (vof k y)).toNat : Int) = vof k (x ^^^ y) := by
  rw [ofInt_vof, ofInt_vof, ← BitVec.setWidth_xor, vof_setWidth]
theorem setWidth_not' (k : IntKind) (y : BitVec 64) : ~~~ (y.setWidth k.bits) = (~~~ y).setWidth k.bits := by
  rw [BitVec.setWidth_not (bits_le k)]
theorem vof_andNot (k : IntKind) (x y : BitVec 64) : k.wrap ((BitVec.ofInt k.bits (vof k x) &&& ~~~ BitVec.ofInt k.bits (vof k y)).toNat : Int) = vof k (x &&& ~~~ y) := by
  rw [ofInt_vof, ofInt_vof, setWidth_not', ← BitVec.setWidth_and, vof_setWidth]
theorem vof_not (k : IntKind) (x : BitVec 64) : k.wrap ((BitVec.ofInt k.bits (if k.signed then -1 else k.max) ^^^ BitVec.ofInt k.bits (vof k x)).toNat : Int) = vof k (~~~ x) := by
  have e : BitVec.ofInt k.bits (if k.signed then -1 else k.max) = BitVec.allOnes k.bits := by cases k <;> decide
  rw [e, ofInt_vof, BitVec.allOnes_xor, setWidth_not', vof_setWidth]

/-! ### the number itself -/

theorem vof_nrm (k : IntKind) (x : BitVec 64) : vof k x = if k.signed then (nrm k x).toInt else ((nrm k x).toNat : Int) := by
  have hx := x.isLt
  cases k <;> simp [vof, nrm, IntKind.wrap, IntKind.bits, IntKind.signed, BitVec.toInt_eq_toNat_cond, BitVec.toNat_signExtend, BitVec.msb_eq_decide] <;> (try split) <;> (try split) <;> (try omega)

theorem nrm_lt (k : IntKind) (x : BitVec 64) (h : k.signed = false) : (nrm k x).toNat < 2 ^ k.bits := by
  have hx := x.isLt
  cases k <;> simp [IntKind.signed] at h <;> simp [nrm, IntKind.bits] <;> omega

theorem nrm_lo (k : IntKind) (x : BitVec 64) (h : k.signed = true) : -(2 : Int) ^ (k.bits - 1) ≤ (nrm k x).toInt ∧ (nrm k x).toInt < 2 ^ (k.bits - 1) := by
  have hx := x.isLt
  cases k <;> simp [IntKind.signed] at h <;> simp [nrm, IntKind.bits, BitVec.toInt_eq_toNat_cond, BitVec.toNat_signExtend, BitVec.msb_eq_decide] <;> (try split) <;> (try split) <;> omega

theorem wrap_toInt (k : IntKind) (z : BitVec 64) : k.wrap z.toInt = vof k z := by
  refine wrap_congr k ?_
  have e : z.toInt % 18446744073709551616 = (z.toNat : Int) % 18446744073709551616 := by
    rw [BitVec.toInt_eq_toNat_cond]; split <;> omega
  rw [← emod64 k z.toInt, e, emod64]

theorem vof_signed (k : IntKind) (x : BitVec 64) (h : k.signed = true) : vof k x = (nrm k x).toInt := by rw [vof_nrm, if_pos h]
theorem vof_unsigned (k : IntKind) (x : BitVec 64) (h : k.signed = false) : vof k x = ((nrm k x).toNat : Int) := by
  rw [vof_nrm, if_neg (by simp [h])]

theorem vof_eq_iff (k : IntKind) (x y : BitVec 64) : vof k x = vof k y ↔ nrm k x = nrm k y := by
  cases h : k.signed
  · rw [vof_unsigned k x h, vof_unsigned k y h]; constructor
    · intro e; exact BitVec.eq_of_toNat_eq (by exact_mod_cast e)
    · intro e; rw [e]
  · rw [vof_signed k x h, vof_signed k y h]; constructor
    · intro e; exact BitVec.eq_of_toInt_eq e
    · intro e; rw [e]

theorem vof_beq (k : IntKind) (x y : BitVec 64) : (vof k x == vof k y) = (nrm k x == nrm k y) := by
  rw [Bool.eq_iff_iff, beq_iff_eq, beq_iff_eq]; exact vof_eq_iff k x y
theorem vof_bne (k : IntKind) (x y : BitVec 64) : (vof k x != vof k y) = (nrm k x != nrm k y) := by
  simp only [bne, vof_beq]

def sltB (k : IntKind) (x y : BitVec 64) : Bool := match k.signed with | true => (nrm k x).slt (nrm k y) | false => (nrm k x).ult (nrm k y)
def sleB (k : IntKind) (x y : BitVec 64) : Bool := match k.signed with | true => (nrm k x).sle (nrm k y) | false => (nrm k x).ule (nrm k y)

theorem vof_lt (k : IntKind) (x y : BitVec 64) : decide (vof k x < vof k y) = sltB k x y := by
  unfold sltB
  cases h : k.signed
  · rw [vof_unsigned k x h, vof_unsigned k y h]; simp [BitVec.ult]
  · rw [vof_signed k x h, vof_signed k y h]; simp [BitVec.slt]
theorem vof_le (k : IntKind) (x y : BitVec 64) : decide (vof k x ≤ vof k y) = sleB k x y := by
  unfold sleB
  cases h : k.signed
  · rw [vof_unsigned k x h, vof_unsigned k y h]; simp [BitVec.ule]
  · rw [vof_signed k x h, vof_signed k y h]; simp [BitVec.sle]

/-! ### division -/

def quoB (k : IntKind) (x y : BitVec 64) : BitVec 64 := match k.signed with | true => (nrm k x).sdiv (nrm k y) | false => nrm k x / nrm k y
def remB (k : IntKind) (x y : BitVec 64) : BitVec 64 := match k.signed with | true => (nrm k x).srem (nrm k y) | false => nrm k x % nrm k y

theorem vof_quo (k : IntKind) (x y : BitVec 64) : k.wrap ((vof k x).tdiv (vof k y)) = vof k (quoB k x y) := by
  unfold quoB
  cases h : k.signed
  · rw [vof_unsigned k x h, vof_unsigned k y h]
    simp only
    unfold vof
    rw [BitVec.toNat_udiv, Int.natCast_ediv]; rfl
  · rw [vof_signed k x h, vof_signed k y h]
    simp only
    rw [← wrap_toInt, BitVec.toInt_sdiv]
    refine wrap_congr k ?_
    have e : ∀ n : Int, (n.bmod (2 ^ 64)) % 18446744073709551616 = n % 18446744073709551616 := fun n => by
      rw [Int.bmod_def]; split <;> omega
    rw [← emod64 k ((nrm k x).toInt.tdiv (nrm k y).toInt), ← e, emod64]

theorem vof_rem (k : IntKind) (x y : BitVec 64) : (vof k x).tmod (vof k y) = vof k (remB k x y) := by
  unfold remB
  cases h : k.signed
  · have hx := nrm_lt k x h
    rw [vof_unsigned k x h, vof_unsigned k y h]
    simp only
    unfold vof
    rw [BitVec.toNat_umod]
    have hle : (nrm k x).toNat % (nrm k y).toNat ≤ (nrm k x).toNat := Nat.mod_le _ _
    rw [← Int.ofNat_tmod]
    symm
    have : k.wrap (((nrm k x).toNat % (nrm k y).toNat : Nat) : Int) = (((nrm k x).toNat % (nrm k y).toNat : Nat) : Int) := by
      generalize (nrm k x).toNat % (nrm k y).toNat = m at *
      have hm : m < 2 ^ k.bits := Nat.lt_of_le_of_lt hle hx
      clear hle hx
      cases k <;> simp [IntKind.signed] at h <;> simp [IntKind.bits] at hm <;> simp [IntKind.wrap, IntKind.bits, IntKind.signed] <;> omega
    exact this
  · have hx := nrm_lo k x h
    rw [vof_signed k x h, vof_signed k y h]
    simp only
    rw [← wrap_toInt, BitVec.toInt_srem]
    symm
    have h1 : ((nrm k x).toInt.tmod (nrm k y).toInt).natAbs ≤ (nrm k x).toInt.natAbs := by
      rw [Int.natAbs_tmod]; exact Nat.mod_le _ _
    have h2 : 0 ≤ (nrm k x).toInt → 0 ≤ (nrm k x).toInt.tmod (nrm k y).toInt := fun hh => Int.tmod_nonneg _ hh
    have h3 : (nrm k x).toInt ≤ 0 → (nrm k x).toInt.tmod (nrm k y).toInt ≤ 0 := fun hh => by
      have := Int.tmod_nonneg (nrm k y).toInt (show 0 ≤ -(nrm k x).toInt by omega)
      rw [Int.neg_tmod] at this; omega
    generalize (nrm k x).toInt.tmod (nrm k y).toInt = m at *
    generalize (nrm k x).toInt = n at *
    have hm : -(2 : Int) ^ (k.bits - 1) ≤ m ∧ m < 2 ^ (k.bits - 1) := by omega
    clear h1 h2 h3 hx
    cases k <;> simp [IntKind.signed] at h <;> simp [IntKind.bits] at hm <;> simp [IntKind.wrap, IntKind.bits, IntKind.signed] <;> (try split) <;> omega

theorem vof_zero_iff (k : IntKind) (y : BitVec 64) : vof k y = 0 ↔ nrm k y = 0#64 := by
  have z : vof k 0#64 = 0 := by cases k <;> decide
  have n : nrm k 0#64 = 0#64 := by cases k <;> decide
  rw [← z, vof_eq_iff, n]

/-! ### shifts -/

theorem vof_neg_iff (k : IntKind) (y : BitVec 64) : vof k y < 0 ↔ k.signed = true ∧ (nrm k y).msb = true := by
  cases h : k.signed
  · rw [vof_unsigned k y h]; simp
  · rw [vof_signed k y h, BitVec.msb_eq_toInt]; simp

theorem vof_toNat (k : IntKind) (y : BitVec 64) (h : 0 ≤ vof k y) : (vof k y).toNat = (nrm k y).toNat := by
  cases hs : k.signed
  · rw [vof_unsigned k y hs]; simp
  · rw [vof_signed k y hs] at h ⊢
    rw [BitVec.toInt_eq_toNat_cond] at h ⊢
    have := (nrm k y).isLt
    split at h <;> simp_all <;> (try omega)

def shrB (k : IntKind) (x : BitVec 64) (n : Nat) : BitVec 64 := match k.signed with | true => (nrm k x).sshiftRight n | false => nrm k x >>> n

theorem pow_dvd_emod (b n : Nat) (hn : b ≤ n) (x : Int) : (x * 2 ^ n) % 2 ^ b = 0 := by
  obtain ⟨m, rfl⟩ := Nat.exists_eq_add_of_le hn
  rw [Int.pow_add, ← Int.mul_assoc, Int.mul_comm x, Int.mul_assoc]
  exact Int.mul_emod_right _ _

theorem vof_shl (k : IntKind) (x : BitVec 64) (n : Nat) : k.wrap (vof k x * 2 ^ (min n k.bits)) = vof k (x <<< n) := by
  refine wrap_congr k ?_
  rw [BitVec.toNat_shiftLeft, Nat.shiftLeft_eq]
  have e1 : ((x.toNat * 2 ^ n % 2 ^ 64 : Nat) : Int) % 2 ^ k.bits = ((x.toNat : Int) * 2 ^ n) % 2 ^ k.bits := by
    have e0 : ((x.toNat * 2 ^ n % 2 ^ 64 : Nat) : Int) = ((x.toNat : Int) * 2 ^ n) % 18446744073709551616 := by
      rw [Int.natCast_emod, Int.natCast_mul, Int.natCast_pow]; rfl
    rw [e0, emod64]
  rw [e1]
  by_cases h : n ≤ k.bits
  · rw [Nat.min_eq_left h, Int.mul_emod, vof_emod, ← Int.mul_emod]
  · rw [Nat.min_eq_right (by omega), pow_dvd_emod _ _ (Nat.le_refl _), pow_dvd_emod _ _ (by omega)]

theorem fdiv_small (x : Int) (b n : Nat) (h1 : -(2 : Int) ^ b ≤ x) (h2 : x < 2 ^ b) (hn : b ≤ n) : x.fdiv (2 ^ n) = if x < 0 then -1 else 0 := by
  have hp : (2 : Int) ^ b ≤ 2 ^ n := by
    have := Nat.pow_le_pow_right (show 0 < 2 by decide) hn
    exact_mod_cast this
  have hpos : (0 : Int) < 2 ^ n := Int.pow_pos (by decide)
  rw [Int.fdiv_eq_ediv_of_nonneg _ (Int.le_of_lt hpos)]
  split
  · rename_i hx
    have : x / 2 ^ n = -1 := by
      rw [Int.ediv_eq_iff_of_pos hpos]; omega
    exact this
  · exact Int.ediv_eq_zero_of_lt (by omega) (by omega)

theorem vof_shr (k : IntKind) (x : BitVec 64) (n : Nat) : (vof k x).fdiv (2 ^ (min n k.bits)) = vof k (shrB k x n) := by
  unfold shrB
  have hpos : ∀ m : Nat, (0 : Int) < 2 ^ m := fun m => Int.pow_pos (by decide)
  cases h : k.signed
  · have hx := nrm_lt k x h
    rw [vof_unsigned k x h]
    simp only
    unfold vof
    rw [BitVec.toNat_ushiftRight, Nat.shiftRight_eq_div_pow]
    have e : ((nrm k x).toNat : Int).fdiv (2 ^ (min n k.bits)) = (((nrm k x).toNat / 2 ^ n : Nat) : Int) := by
      rw [Int.fdiv_eq_ediv_of_nonneg _ (Int.le_of_lt (hpos _))]
      by_cases hn : n ≤ k.bits
      · rw [Nat.min_eq_left hn]; rw [Int.natCast_ediv, Int.natCast_pow]; rfl
      · rw [Nat.min_eq_right (by omega)]
        have a1 : (nrm k x).toNat / 2 ^ n = 0 := Nat.div_eq_of_lt (Nat.lt_of_lt_of_le hx (Nat.pow_le_pow_right (by decide) (by omega)))
        rw [a1]
        exact Int.ediv_eq_zero_of_lt (by omega) (by exact_mod_cast hx)
    rw [e]
    have hm : (nrm k x).toNat / 2 ^ n < 2 ^ k.bits := Nat.lt_of_le_of_lt (Nat.div_le_self _ _) hx
    generalize (nrm k x).toNat / 2 ^ n = m at *
    clear hx e
    symm
    cases k <;> simp [IntKind.signed] at h <;> simp [IntKind.bits] at hm <;> simp [IntKind.wrap, IntKind.bits, IntKind.signed] <;> omega
  · have hx := nrm_lo k x h
    rw [vof_signed k x h]
    simp only
    rw [← wrap_toInt, BitVec.toInt_sshiftRight, Int.shiftRight_eq_div_pow]
    have e : (nrm k x).toInt.fdiv (2 ^ (min n k.bits)) = (nrm k x).toInt / ((2 ^ n : Nat) : Int) := by
      rw [Int.natCast_pow]
      by_cases hn : n ≤ k.bits
      · rw [Nat.min_eq_left hn]; exact Int.fdiv_eq_ediv_of_nonneg _ (Int.le_of_lt (hpos _))
      · rw [Nat.min_eq_right (by omega), fdiv_small _ (k.bits - 1) _ hx.1 hx.2 (by omega)]
        have := fdiv_small _ (k.bits - 1) n hx.1 hx.2 (by omega)
        rw [Int.fdiv_eq_ediv_of_nonneg _ (Int.le_of_lt (hpos _))] at this
        exact this.symm
    rw [e]
    have hm : -(2 : Int) ^ (k.bits - 1) ≤ (nrm k x).toInt / ((2 ^ n : Nat) : Int) ∧ (nrm k x).toInt / ((2 ^ n : Nat) : Int) < 2 ^ (k.bits - 1) := by
      have hp : (1 : Int) ≤ ((2 ^ n : Nat) : Int) := by exact_mod_cast Nat.one_le_two_pow
      constructor
      · exact (Int.le_ediv_iff_mul_le (by omega)).2 (by
          have : -(2 : Int) ^ (k.bits - 1) * ((2 ^ n : Nat) : Int) ≤ -(2 : Int) ^ (k.bits - 1) * 1 := Int.mul_le_mul_of_nonpos_left (by have := hpos (k.bits - 1); omega) hp
          omega)
      · refine Int.ediv_lt_of_lt_mul (by omega) (Int.lt_of_lt_of_le hx.2 ?_)
        have := Int.mul_le_mul_of_nonneg_left hp (Int.le_of_lt (hpos (k.bits - 1)))
        omega
    generalize (nrm k x).toInt / ((2 ^ n : Nat) : Int) = m at *
    clear hx e
    symm
    cases k <;> simp [IntKind.signed] at h <;> simp [IntKind.bits] at hm <;> simp [IntKind.wrap, IntKind.bits, IntKind.signed] <;> (try split) <;> omega
end Go.WE
