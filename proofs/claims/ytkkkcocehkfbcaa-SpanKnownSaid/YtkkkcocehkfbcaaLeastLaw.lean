/- plain law: bounds, joins and bits of spans are the least ones. -/
import Derived.Test.YtkkkcocehkfbcaaLen
namespace Go.VE
open Go

def mn (a b : U) : U := cond (b.ult a) b a
def mx (a b : U) : U := cond (a.ult b) b a
def zer : U := BitVec.ofInt 64 0
def one' : U := BitVec.ofInt 64 1
def sgn : U := BitVec.ofInt 64 9223372036854775808
def isIn (lo hi v : U) : Bool := cond (lo.ule v) (v.ule hi) false
def isWithin (al ah bl bh : U) : Bool := cond (isIn bl bh al) (isIn bl bh ah) false
def bMask (lo hi : U) : U := onesB (lo ^^^ hi)
def bVal (lo hi : U) : U := lo &&& ~~~(bMask lo hi)

def half' (x : U) : U := x >>> (BitVec.ofInt 64 1).toNat
def lTop (lo hi : U) : U := bMask lo hi - half' (bMask lo hi)
def lMid (lo hi : U) : U := bVal lo hi ||| lTop lo hi
def lInner (lo hi : U) : Bool :=
  cond (cond (!isIn lo hi (lMid lo hi)) true (!isIn lo hi (lMid lo hi - one'))) true ((bMask lo hi &&& (bMask lo hi + one')) != zer)
def lFinal (al ah bl bh : U) : Bool :=
  cond (cond (cond (cond (cond (cond (cond (mn al bl == al) true (mn al bl == bl)) (cond (mx ah bh == ah) true (mx ah bh == bh)) false)
    ((bVal al ah &&& bMask al ah) == zer) false) (cond (bMask al ah != zer) true (al == ah)) false)
    (isWithin al ah (mn al bl) (mx ah bh)) false) (isWithin bl bh (mn al bl) (mx ah bh)) false) true false
def lRest (al ah bl bh : U) : Bool := cond (cond (bMask al ah != zer) (!lInner al ah && true) true) (lFinal al ah bl bh) false
def spanLeast (a b c d v m : U) : Bool :=
  cond ((v &&& ~~~m) &&& ~~~m != v &&& ~~~m) false (cond ((v &&& ~~~m ||| m) &&& ~~~m != v &&& ~~~m) false
    (cond ((v &&& ~~~m ||| m &&& sgn) &&& ~~~m != v &&& ~~~m) false (cond ((v &&& ~~~m ||| m) &&& ~~~(m &&& sgn) &&& ~~~m != v &&& ~~~m) false
      (lRest (mn a b) (mx a b) (mn c d) (mx c d)))))

/-! ### the law -/

theorem cutA (v m : U) : (v &&& ~~~m) &&& ~~~m = v &&& ~~~m := by
  refine BitVec.eq_of_getLsbD_eq (fun i hi => ?_)
  simp only [BitVec.getLsbD_and, BitVec.getLsbD_not, hi, decide_true, Bool.true_and]
  generalize v.getLsbD i = p; generalize m.getLsbD i = q
  revert p q; decide
theorem cutB (v m : U) : (v &&& ~~~m ||| m) &&& ~~~m = v &&& ~~~m := by
  refine BitVec.eq_of_getLsbD_eq (fun i hi => ?_)
  simp only [BitVec.getLsbD_and, BitVec.getLsbD_or, BitVec.getLsbD_not, hi, decide_true, Bool.true_and]
  generalize v.getLsbD i = p; generalize m.getLsbD i = q
  revert p q; decide
theorem cutC (v m x : U) : (v &&& ~~~m ||| m &&& x) &&& ~~~m = v &&& ~~~m := by
  refine BitVec.eq_of_getLsbD_eq (fun i hi => ?_)
  simp only [BitVec.getLsbD_and, BitVec.getLsbD_or, BitVec.getLsbD_not, hi, decide_true, Bool.true_and]
  generalize v.getLsbD i = p; generalize m.getLsbD i = q; generalize x.getLsbD i = r
  revert p q r; decide
theorem cutD (v m y : U) : (v &&& ~~~m ||| m) &&& ~~~(m &&& y) &&& ~~~m = v &&& ~~~m := by
  refine BitVec.eq_of_getLsbD_eq (fun i hi => ?_)
  simp only [BitVec.getLsbD_and, BitVec.getLsbD_or, BitVec.getLsbD_not, hi, decide_true, Bool.true_and]
  generalize v.getLsbD i = p; generalize m.getLsbD i = q; generalize y.getLsbD i = r
  revert p q r; decide

theorem xor_zero {x y : Nat} : x ^^^ y = 0 ↔ x = y := by
  constructor
  · intro h
    apply Nat.eq_of_testBit_eq
    intro i
    have : (x ^^^ y).testBit i = false := by rw [h]; simp
    rw [Nat.testBit_xor] at this
    revert this
    generalize x.testBit i = p; generalize y.testBit i = q
    revert p q; decide
  · intro h; subst h; simp

theorem onesB_bit (x : U) (i : Nat) (hi : i < 64) : (onesB x).getLsbD i = decide (i < bl x.toNat) := by
  unfold onesB
  rw [BitVec.getLsbD_ofNat]
  simp [hi, Nat.testBit_two_pow_sub_one]

theorem onesB_toNat (x : U) : (onesB x).toNat = 2 ^ bl x.toNat - 1 := by
  unfold onesB
  rw [BitVec.toNat_ofNat]
  have := Nat.pow_le_pow_right (n := 2) (by omega) (bl_64 x)
  have := Nat.two_pow_pos (bl x.toNat)
  exact Nat.mod_eq_of_lt (by omega)

theorem cut_shift (x y : U) : x &&& ~~~(onesB y) = x >>> bl y.toNat <<< bl y.toNat := by
  refine BitVec.eq_of_getLsbD_eq (fun i hi => ?_)
  rw [BitVec.getLsbD_and, BitVec.getLsbD_not, onesB_bit y i hi, BitVec.getLsbD_shiftLeft, BitVec.getLsbD_ushiftRight]
  by_cases h : i < bl y.toNat
  · simp [h]
  · have e : bl y.toNat + (i - bl y.toNat) = i := by omega
    simp [h, hi, e]

theorem cut_toNat (x y : U) : (x &&& ~~~(onesB y)).toNat = x.toNat / 2 ^ bl y.toNat * 2 ^ bl y.toNat := by
  rw [cut_shift, BitVec.toNat_shiftLeft, BitVec.toNat_ushiftRight, Nat.shiftRight_eq_div_pow, Nat.shiftLeft_eq]
  have h := x.isLt
  have := Nat.div_mul_le_self x.toNat (2 ^ bl y.toNat)
  exact Nat.mod_eq_of_lt (by omega)

theorem xor_div (x y k : Nat) : (x ^^^ y) / 2 ^ k = (x / 2 ^ k) ^^^ (y / 2 ^ k) := by
  rw [← Nat.shiftRight_eq_div_pow, Nat.shiftRight_xor_distrib, Nat.shiftRight_eq_div_pow, Nat.shiftRight_eq_div_pow]

/-- Two numbers, and where they part. -/
theorem part (x y : U) (hne : x ≠ y) (hle : x.toNat ≤ y.toNat) : ∃ k P, bl (x ^^^ y).toNat = k + 1 ∧ x.toNat / 2 ^ (k + 1) = P ∧ y.toNat / 2 ^ (k + 1) = P ∧ x.toNat / 2 ^ k = 2 * P ∧ y.toNat / 2 ^ k = 2 * P + 1 ∧ k < 64 := by
  have h0 : (x ^^^ y).toNat ≠ 0 := by
    intro h
    rw [BitVec.toNat_xor, xor_zero] at h
    exact hne (BitVec.eq_of_toNat_eq h)
  have hb : bl (x ^^^ y).toNat ≠ 0 := by
    intro h
    have := (bl_le (x ^^^ y).toNat 0).1 (by omega)
    omega
  obtain ⟨k, hk⟩ : ∃ k, bl (x ^^^ y).toNat = k + 1 := ⟨bl (x ^^^ y).toNat - 1, by omega⟩
  have h1 : (x ^^^ y).toNat < 2 ^ (k + 1) := (bl_le _ _).1 (by omega)
  have h2 : ¬ (x ^^^ y).toNat < 2 ^ k := fun h => by have := (bl_le _ _).2 h; omega
  have e1 : x.toNat / 2 ^ (k + 1) = y.toNat / 2 ^ (k + 1) := by
    have := xor_div x.toNat y.toNat (k + 1)
    rw [← BitVec.toNat_xor, Nat.div_eq_of_lt h1] at this
    exact xor_zero.1 this.symm
  have e2 : x.toNat / 2 ^ k ≠ y.toNat / 2 ^ k := by
    intro h
    have := xor_div x.toNat y.toNat k
    rw [← BitVec.toNat_xor, xor_zero.2 h, Nat.div_eq_zero_iff] at this
    have := Nat.two_pow_pos k
    omega
  have e3 : x.toNat / 2 ^ k ≤ y.toNat / 2 ^ k := Nat.div_le_div_right hle
  have ex : x.toNat / 2 ^ (k + 1) = x.toNat / 2 ^ k / 2 := by rw [Nat.pow_succ, Nat.div_div_eq_div_mul]
  have ey : y.toNat / 2 ^ (k + 1) = y.toNat / 2 ^ k / 2 := by rw [Nat.pow_succ, Nat.div_div_eq_div_mul]
  have hk64 := bl_64 (x ^^^ y)
  refine ⟨k, x.toNat / 2 ^ (k + 1), hk, rfl, e1.symm, ?_, ?_, ?_⟩ <;> omega

theorem mn_toNat (a b : U) : (mn a b).toNat = min a.toNat b.toNat := by
  unfold mn
  cases h : b.ult a
  · simp [BitVec.ult] at h; simp; omega
  · simp [BitVec.ult] at h; simp; omega
theorem mx_toNat (a b : U) : (mx a b).toNat = max a.toNat b.toNat := by
  unfold mx
  cases h : a.ult b
  · simp [BitVec.ult] at h; simp; omega
  · simp [BitVec.ult] at h; simp; omega

theorem isIn_iff (lo hi v : U) : isIn lo hi v = true ↔ lo.toNat ≤ v.toNat ∧ v.toNat ≤ hi.toNat := by
  unfold isIn
  cases h : lo.ule v <;> simp [BitVec.ule] at h ⊢ <;> omega

theorem isWithin_iff (a b c d : U) : isWithin a b c d = true ↔ (c.toNat ≤ a.toNat ∧ a.toNat ≤ d.toNat) ∧ c.toNat ≤ b.toNat ∧ b.toNat ≤ d.toNat := by
  unfold isWithin
  rw [← isIn_iff, ← isIn_iff]
  cases isIn c d a <;> simp

theorem bMask_zero (lo hi : U) : bMask lo hi = zer ↔ lo = hi := by
  have hz : zer = 0#64 := by decide
  rw [hz]
  constructor
  · intro h
    have h1 := onesB_toNat (lo ^^^ hi)
    unfold bMask at h
    rw [h] at h1
    have hb : bl (lo ^^^ hi).toNat = 0 := by
      refine Classical.byContradiction fun hne => ?_
      have : 2 ^ 1 ≤ 2 ^ bl (lo ^^^ hi).toNat := Nat.pow_le_pow_right (by omega) (by omega)
      have e0 : (0#64).toNat = 0 := rfl
      rw [e0] at h1
      omega
    have h2 := (bl_le (lo ^^^ hi).toNat 0).1 (by omega)
    have h3 : (lo ^^^ hi).toNat = 0 := by simpa using h2
    rw [BitVec.toNat_xor, xor_zero] at h3
    exact BitVec.eq_of_toNat_eq h3
  · intro h
    subst h
    simp [bMask, onesB, bl]

theorem lInner_ok (lo hi : U) (hne : lo ≠ hi) (hle : lo.toNat ≤ hi.toNat) : lInner lo hi = false := by
  obtain ⟨k, P, hb, x1, y1, x0, y0, hk⟩ := part lo hi hne hle
  have hp := Nat.two_pow_pos k
  have hpp : 2 ^ (k + 1) = 2 ^ k * 2 := Nat.pow_succ 2 k
  have hmask : (bMask lo hi).toNat = 2 ^ (k + 1) - 1 := by unfold bMask; rw [onesB_toNat, hb]
  have h64 : 2 ^ (k + 1) ≤ 2 ^ 64 := Nat.pow_le_pow_right (by omega) (by omega)
  have o1 : (BitVec.ofInt 64 1).toNat = 1 := by decide
  have o2 : one'.toNat = 1 := by decide
  have htop : (lTop lo hi).toNat = 2 ^ k := by
    unfold lTop half'
    rw [BitVec.toNat_sub, BitVec.toNat_ushiftRight, o1, hmask, Nat.shiftRight_eq_div_pow]
    generalize 2 ^ k = q at *
    omega
  have hval : (bVal lo hi).toNat = P * 2 ^ (k + 1) := by
    unfold bVal bMask; rw [cut_toNat, hb, x1]
  have hlo := Nat.div_add_mod lo.toNat (2 ^ k)
  have hhi := Nat.div_add_mod hi.toNat (2 ^ k)
  have hlm := Nat.mod_lt lo.toNat hp
  have hmid : (lMid lo hi).toNat = P * 2 ^ (k + 1) + 2 ^ k := by
    unfold lMid
    have hand : bVal lo hi &&& lTop lo hi = 0#64 := by
      have et : lTop lo hi = BitVec.ofNat 64 (2 ^ k) := BitVec.eq_of_toNat_eq (by rw [htop, BitVec.toNat_ofNat]; generalize 2 ^ k = q at *; omega)
      refine BitVec.eq_of_getLsbD_eq (fun i hi' => ?_)
      rw [BitVec.getLsbD_and, et, bVal, bMask, BitVec.getLsbD_and, BitVec.getLsbD_not, onesB_bit _ i hi', hb, BitVec.getLsbD_ofNat, Nat.testBit_two_pow]
      by_cases e : k = i
      · subst e; simp
      · simp [e]
    rw [← BitVec.add_eq_or_of_and_eq_zero _ _ hand, BitVec.toNat_add, hval, htop]
    have := hi.isLt
    rw [hpp]
    have e : P * (2 ^ k * 2) = 2 ^ k * (2 * P) := by rw [← Nat.mul_assoc, Nat.mul_comm P, Nat.mul_assoc, Nat.mul_comm P]
    rw [y0, Nat.mul_add] at hhi
    rw [e]
    omega
  have e : P * (2 ^ k * 2) = 2 ^ k * (2 * P) := by rw [← Nat.mul_assoc, Nat.mul_comm P, Nat.mul_assoc, Nat.mul_comm P]
  rw [hpp, e] at hmid
  rw [y0, Nat.mul_add] at hhi
  rw [x0] at hlo
  have i1 : isIn lo hi (lMid lo hi) = true := by
    rw [isIn_iff, hmid]; omega
  have i2 : isIn lo hi (lMid lo hi - one') = true := by
    rw [isIn_iff, BitVec.toNat_sub, hmid, o2]
    have := hi.isLt
    omega
  have i3 : bMask lo hi &&& (bMask lo hi + one') = zer := by
    have hz : zer = 0#64 := by decide
    rw [hz]
    apply BitVec.eq_of_toNat_eq
    rw [BitVec.toNat_and, BitVec.toNat_add, hmask, o2, show 2 ^ (k + 1) - 1 + 1 = 2 ^ (k + 1) by omega]
    rcases Nat.lt_or_eq_of_le h64 with h | h
    · rw [Nat.mod_eq_of_lt h]
      apply Nat.eq_of_testBit_eq
      intro i
      rw [Nat.testBit_and, Nat.testBit_two_pow_sub_one, Nat.testBit_two_pow]
      by_cases e : k + 1 = i
      · subst e; simp
      · simp [e]
    · rw [h]; simp
  unfold lInner
  rw [i1, i2, i3]
  simp

theorem lFinal_ok (al ah bl' bh : U) (ha : al.toNat ≤ ah.toNat) (hb : bl'.toNat ≤ bh.toNat) : lFinal al ah bl' bh = true := by
  have p1 : cond (mn al bl' == al) true (mn al bl' == bl') = true := by unfold mn; cases bl'.ult al <;> simp
  have p2 : cond (mx ah bh == ah) true (mx ah bh == bh) = true := by unfold mx; cases ah.ult bh <;> simp
  have p3 : ((bVal al ah &&& bMask al ah) == zer) = true := by
    have hz : zer = 0#64 := by decide
    rw [hz, beq_iff_eq]
    refine BitVec.eq_of_getLsbD_eq (fun i hi => ?_)
    simp only [bVal, BitVec.getLsbD_and, BitVec.getLsbD_not, BitVec.getLsbD_zero, hi, decide_true, Bool.true_and]
    generalize al.getLsbD i = p; generalize (bMask al ah).getLsbD i = q
    revert p q; decide
  have p4 : cond (bMask al ah != zer) true (al == ah) = true := by
    by_cases h : bMask al ah = zer
    · rw [(bMask_zero _ _).1 h]; simp
    · have : (bMask al ah != zer) = true := by simpa using h
      rw [this]; rfl
  have p5 : isWithin al ah (mn al bl') (mx ah bh) = true := by rw [isWithin_iff, mn_toNat, mx_toNat]; omega
  have p6 : isWithin bl' bh (mn al bl') (mx ah bh) = true := by rw [isWithin_iff, mn_toNat, mx_toNat]; omega
  unfold lFinal
  rw [p1, p2, p3, p4, p5, p6]
  rfl

theorem spanLeast_true (a b c d v m : U) : spanLeast a b c d v m = true := by
  unfold spanLeast
  rw [cutA, cutB, cutC, cutD, bne_self_eq_false]
  simp only [cond_false]
  have h1 : (mn a b).toNat ≤ (mx a b).toNat := by rw [mn_toNat, mx_toNat]; omega
  have h2 : (mn c d).toNat ≤ (mx c d).toNat := by rw [mn_toNat, mx_toNat]; omega
  unfold lRest
  rw [lFinal_ok _ _ _ _ h1 h2]
  by_cases h : mn a b = mx a b
  · rw [(bMask_zero _ _).2 h]; simp
  · rw [lInner_ok _ _ h h1]; simp
end Go.VE
