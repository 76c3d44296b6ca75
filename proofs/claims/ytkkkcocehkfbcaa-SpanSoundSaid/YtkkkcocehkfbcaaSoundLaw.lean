/- plain law: what any numbers of two spans make is had. -/
import Derived.Test.YtkkkcocehkfbcaaAloneLaw
namespace Go.VE
open Go
def so1 (al ah bl bh v w : U) : Bool := isIn (cond (addC al ah bl bh) zer (al + bl)) (cond (addC al ah bl bh) topU (ah + bh)) (v + w)
def so2 (al ah bl bh v w : U) : Bool := isIn (cond (subC al ah bl bh) zer (al - bh)) (cond (subC al ah bl bh) topU (ah - bl)) (v - w)
def so3 (al ah bl bh v w : U) : Bool := isIn (cond (mulC ah bh) zer (al * bl)) (cond (mulC ah bh) topU (ah * bh)) (v * w)
def so4 (al ah bl bh v w : U) : Bool := isIn (divLo al bl bh) (divHi ah bl bh) (dv v w)
def so5 (al ah bl bh v w : U) : Bool := isIn (cond (modC ah bl bh) al zer) (modHi ah bl bh) (cond (w == zer) v (v % w))
def so6 (ah bh v w : U) : Bool := isIn zer (mn ah bh) (v &&& w)
def so7 (al ah bl bh v w : U) : Bool := isIn (mx al bl) (onesB (mx ah bh)) (v ||| w)
def so8 (ah bh v w : U) : Bool := isIn zer (onesB (mx ah bh)) (v ^^^ w)
def so9 (al ah v n : U) : Bool := isIn (lshLo al ah n) (lshHi ah n) (v <<< k64 n)
def so10 (al ah v n : U) : Bool := isIn (al >>> (by63 n).toNat) (ah >>> (by63 n).toNat) (v >>> k64 n)
def so11 (al ah v : U) : Bool := isIn (cond (cutU al ah) (al &&& w32) zer) (cond (cutU al ah) (ah &&& w32) w32) (v &&& w32)
def soA (al ah bl bh v w : U) : Bool := cond (cond (cond (!isIn al ah v) true (!so1 al ah bl bh v w)) true (!so2 al ah bl bh v w)) true (!so3 al ah bl bh v w)
def soB (al ah bl bh v w : U) : Bool := cond (soA al ah bl bh v w) true (!so4 al ah bl bh v w)
def soC (al ah bl bh v w : U) : Bool := cond (soB al ah bl bh v w) true (!so5 al ah bl bh v w)
def soD (al ah bl bh v w n : U) : Bool :=
  cond (cond (cond (cond (cond (!so6 ah bh v w) true (!so7 al ah bl bh v w)) true (!so8 ah bh v w)) true (!so9 al ah v n)) true (!so10 al ah v n)) true (!so11 al ah v)
def soE (al ah bl bh v w : U) : Bool :=
  cond (cond (cond (cond (cond (cond (cond (isIn (mn al bl) (mx ah bh) v) (isIn (mn al bl) (mx ah bh) w) false)
    (cond (mMC al ah bl bh) false true == cond (al.ule bh) (bl.ule ah) false) false)
    (cond (!isIn bl bh v) true (cond (cond (mMC al ah bl bh) false true) (isIn (cond (mMC al ah bl bh) zer (mx al bl)) (cond (mMC al ah bl bh) zer (mn ah bh)) v) false)) false)
    ((v &&& ~~~(onesB (al ^^^ ah))) == (al &&& ~~~(onesB (al ^^^ ah)))) false)
    (isIn (al &&& ~~~(onesB (al ^^^ ah))) (al &&& ~~~(onesB (al ^^^ ah)) ||| onesB (al ^^^ ah)) v) false)
    (isS (cond (tsC al ah) lowS al) (cond (tsC al ah) topS ah) v) false) true false
def soLaw (al ah bl bh v w n : U) : Bool := cond (soC al ah bl bh v w) false (cond (soD al ah bl bh v w n) false (soE al ah bl bh v w))
def spanSound (a b c d v w n : U) : Bool :=
  soLaw (mn a b) (mx a b) (mn c d) (mx c d) (insideU (mn a b) (mx a b) v) (insideU (mn c d) (mx c d) w) n
def soQ (w : U) : Bool := cond (w == zer) true ((w != 0#64) && (w != 0#64))
def soK (al ah bl bh v w : U) : Bool := ((!(!soA al ah bl bh v w)) || soQ w) && ((!(!soB al ah bl bh v w)) || soQ w)
def soLawK (al ah bl bh v w n : U) : Bool := cond (soC al ah bl bh v w) (soK al ah bl bh v w) (cond (soD al ah bl bh v w n) (soK al ah bl bh v w) (soK al ah bl bh v w))
def spanSoundK (a b c d v w n : U) : Bool :=
  soLawK (mn a b) (mx a b) (mn c d) (mx c d) (insideU (mn a b) (mx a b) v) (insideU (mn c d) (mx c d) w) n

theorem inside_in (al ah v : U) (h : al.toNat ≤ ah.toNat) : isIn al ah (insideU al ah v) = true := by
  have h1 := al.isLt; have h2 := ah.isLt
  have hz : (BitVec.ofInt 64 0 : U) = 0#64 := by decide
  have ho : (BitVec.ofInt 64 1 : U) = 1#64 := by decide
  have hd : (ah - al).toNat = ah.toNat - al.toNat := BitVec.toNat_sub_of_le (by rw [BitVec.le_def]; exact h)
  rw [isIn_iff]
  unfold insideU
  rw [hz, ho]
  cases hc : (ah - al + 1#64 == 0#64)
  · simp only [cond_false]
    have hne : ah - al + 1#64 ≠ 0#64 := by simpa using hc
    have hn : (ah - al + 1#64).toNat = ah.toNat - al.toNat + 1 := by
      rw [BitVec.toNat_add, hd, show (1#64).toNat = 1 by rfl]
      rcases Nat.lt_or_ge (ah.toNat - al.toNat + 1) (2 ^ 64) with h3 | h3
      · exact Nat.mod_eq_of_lt h3
      · exfalso; apply hne
        apply BitVec.eq_of_toNat_eq
        rw [BitVec.toNat_add, hd, show (1#64).toNat = 1 by rfl, show (0#64).toNat = 0 by rfl]
        omega
    have hlt := Nat.mod_lt v.toNat (show 0 < ah.toNat - al.toNat + 1 by omega)
    rw [BitVec.toNat_add, BitVec.toNat_umod, hn]
    generalize v.toNat % (ah.toNat - al.toNat + 1) = r at *
    rw [Nat.mod_eq_of_lt (by omega)]
    omega
  · simp only [cond_true]
    have hn : ah - al + 1#64 = 0#64 := by simpa using hc
    have := congrArg BitVec.toNat hn
    rw [BitVec.toNat_add, hd, show (1#64).toNat = 1 by rfl, show (0#64).toNat = 0 by rfl] at this
    have := v.isLt
    omega

theorem all_inU (v : U) : isIn zer topU v = true := by
  rw [isIn_iff, zer_nat, topU_nat]; have := v.isLt; omega

theorem add_nat (x y : U) : (x + y).toNat = if 18446744073709551616 ≤ x.toNat + y.toNat then x.toNat + y.toNat - 18446744073709551616 else x.toNat + y.toNat := by
  have := x.isLt; have := y.isLt
  rw [BitVec.toNat_add]
  split <;> omega
theorem sub_nat (x y : U) : (x - y).toNat = if x.toNat < y.toNat then x.toNat + 18446744073709551616 - y.toNat else x.toNat - y.toNat := by
  have := x.isLt; have := y.isLt
  rw [BitVec.toNat_sub]
  split <;> omega

theorem carry_iff (a c : U) : (a + c).ult a = decide (18446744073709551616 ≤ a.toNat + c.toNat) := by
  have := a.isLt; have := c.isLt
  unfold BitVec.ult
  rw [add_nat]
  by_cases h : 18446744073709551616 ≤ a.toNat + c.toNat
  · simp only [h, if_true, decide_true, decide_eq_true_eq]; omega
  · simp only [h, if_false, decide_false, decide_eq_false_iff_not]; omega

section
variable {al ah bl bh v w : U} (hv : al.toNat ≤ v.toNat ∧ v.toNat ≤ ah.toNat) (hw : bl.toNat ≤ w.toNat ∧ w.toNat ≤ bh.toNat)
include hv hw
theorem so1_ok : so1 al ah bl bh v w = true := by
  unfold so1
  cases hc : addC al ah bl bh
  · simp only [cond_false]
    unfold addC at hc
    rw [cyc_ne, carry_iff, carry_iff] at hc
    have hc : (18446744073709551616 ≤ al.toNat + bl.toNat) ↔ (18446744073709551616 ≤ ah.toNat + bh.toNat) := by
      have hc : (decide (18446744073709551616 ≤ al.toNat + bl.toNat) == decide (18446744073709551616 ≤ ah.toNat + bh.toNat)) = true := by
        revert hc
        cases (decide (18446744073709551616 ≤ al.toNat + bl.toNat) == decide (18446744073709551616 ≤ ah.toNat + bh.toNat)) <;> simp
      rw [beq_iff_eq, decide_eq_decide] at hc
      exact hc
    have := ah.isLt; have := bh.isLt
    rw [isIn_iff, add_nat, add_nat, add_nat]
    by_cases h : 18446744073709551616 ≤ al.toNat + bl.toNat
    · have h' := hc.1 h
      have h'' : 18446744073709551616 ≤ v.toNat + w.toNat := by omega
      simp only [h, h', h'', if_true]; omega
    · have h' : ¬ 18446744073709551616 ≤ ah.toNat + bh.toNat := fun h2 => h (hc.2 h2)
      have h'' : ¬ 18446744073709551616 ≤ v.toNat + w.toNat := by omega
      simp only [h, h', h'', if_false]; omega
  · exact all_inU _
theorem so2_ok : so2 al ah bl bh v w = true := by
  unfold so2
  cases hc : subC al ah bl bh
  · simp only [cond_false]
    unfold subC at hc
    rw [cyc_ne] at hc
    have hc : (al.toNat < bh.toNat) ↔ (ah.toNat < bl.toNat) := by
      have hc : (al.ult bh == ah.ult bl) = true := by
        revert hc
        cases (al.ult bh == ah.ult bl) <;> simp
      rw [beq_iff_eq] at hc
      unfold BitVec.ult at hc
      rw [decide_eq_decide] at hc
      exact hc
    have := ah.isLt; have := bh.isLt
    rw [isIn_iff, sub_nat, sub_nat, sub_nat]
    by_cases h : al.toNat < bh.toNat
    · have h' := hc.1 h
      have h'' : v.toNat < w.toNat := by omega
      simp only [h, h', h'', if_true]; omega
    · have h' : ¬ ah.toNat < bl.toNat := fun h2 => h (hc.2 h2)
      have h'' : ¬ v.toNat < w.toNat := by omega
      simp only [h, h', h'', if_false]; omega
  · exact all_inU _
theorem so3_ok : so3 al ah bl bh v w = true := by
  unfold so3
  rw [mulC_eq]
  cases hc : timesU ah bh
  · exact all_inU _
  · have h := (timesU_iff _ _).1 hc
    have h1 : al.toNat * bl.toNat ≤ v.toNat * w.toNat := Nat.mul_le_mul hv.1 hw.1
    have h2 : v.toNat * w.toNat ≤ ah.toNat * bh.toNat := Nat.mul_le_mul hv.2 hw.2
    simp only [Bool.not_true, cond_false]
    rw [isIn_iff, BitVec.toNat_mul, BitVec.toNat_mul, BitVec.toNat_mul, Nat.mod_eq_of_lt (a := al.toNat * bl.toNat) (by omega), Nat.mod_eq_of_lt (a := v.toNat * w.toNat) (by omega), Nat.mod_eq_of_lt h]
    exact ⟨h1, h2⟩
omit hv hw in
theorem dv_nat (x y : U) : (dv x y).toNat = x.toNat / y.toNat := by
  unfold dv
  rw [eq_zer]
  by_cases h : y.toNat = 0
  · simp [h, zer_nat]
  · simp [h]
theorem so4_ok : so4 al ah bl bh v w = true := by
  have hz : BitVec.ofInt 64 0 = zer := rfl
  unfold so4 divLo divHi
  rw [hz, eq_zer, eq_zer, isIn_iff, dv_nat]
  by_cases h1 : bh.toNat = 0
  · have : w.toNat = 0 := by omega
    simp [h1, this, zer_nat]
  · by_cases h2 : bl.toNat = 0
    · have := Nat.div_le_self v.toNat w.toNat
      simp [h1, h2, zer_nat]; omega
    · simp only [h1, h2, decide_false, cond_false, BitVec.toNat_udiv]
      exact ⟨Nat.div_le_div hv.1 hw.2 (by omega), Nat.div_le_div hv.2 hw.1 h2⟩
theorem so5_ok : so5 al ah bl bh v w = true := by
  have hr : (cond (w == zer) v (v % w)).toNat = v.toNat % w.toNat := by
    rw [eq_zer]
    by_cases h : w.toNat = 0
    · simp [h]
    · simp [h]
  unfold so5 modHi modC
  rw [isIn_iff, hr, eq_zer, eq_zer]
  by_cases h1 : bh.toNat = 0
  · have : w.toNat = 0 := by omega
    simp [h1, this]; exact hv
  · by_cases h2 : ah.toNat < bl.toNat
    · have : v.toNat % w.toNat = v.toNat := Nat.mod_eq_of_lt (by omega)
      simp [h1, BitVec.ult, h2, this]; exact hv
    · have h3 := Nat.mod_le v.toNat w.toNat
      by_cases h4 : bl.toNat = 0
      · simp [h1, BitVec.ult, h4, zer_nat]; omega
      · have h5 := Nat.mod_lt v.toNat (show 0 < w.toNat by omega)
        have h6 : (bh - one').toNat = bh.toNat - 1 := by
          rw [sub_nat, one_nat, if_neg (by omega)]
        have hm := mn_toNat ah (bh - one')
        rw [h6] at hm
        simp only [h1, BitVec.ult, h2, h4, zer_nat, decide_false, cond_false, hm]
        omega
theorem so6_ok : so6 ah bh v w = true := by
  unfold so6
  rw [isIn_iff, zer_nat, mn_toNat, BitVec.toNat_and]
  have h1 : v.toNat &&& w.toNat ≤ v.toNat := Nat.and_le_left
  have h2 : v.toNat &&& w.toNat ≤ w.toNat := Nat.and_le_right
  omega
theorem so7_ok : so7 al ah bl bh v w = true := by
  unfold so7
  have hm := mx_toNat ah bh
  have hb : (mx ah bh).toNat < 2 ^ Go.VE.bl (mx ah bh).toNat := (bl_le _ _).1 (Nat.le_refl _)
  rw [isIn_iff, mx_toNat, onesB_toNat, BitVec.toNat_or]
  have h1 : v.toNat ≤ v.toNat ||| w.toNat := Nat.left_le_or
  have h2 : w.toNat ≤ v.toNat ||| w.toNat := Nat.right_le_or
  have h3 : v.toNat ||| w.toNat < 2 ^ Go.VE.bl (mx ah bh).toNat := Nat.or_lt_two_pow (by omega) (by omega)
  omega
theorem so8_ok : so8 ah bh v w = true := by
  unfold so8
  have hm := mx_toNat ah bh
  have hb : (mx ah bh).toNat < 2 ^ Go.VE.bl (mx ah bh).toNat := (bl_le _ _).1 (Nat.le_refl _)
  rw [isIn_iff, zer_nat, onesB_toNat, BitVec.toNat_xor]
  have h3 : v.toNat ^^^ w.toNat < 2 ^ Go.VE.bl (mx ah bh).toNat := Nat.xor_lt_two_pow (by omega) (by omega)
  omega
end

section
variable {al ah v : U} (hv : al.toNat ≤ v.toNat ∧ v.toNat ≤ ah.toNat)
include hv
theorem so9_ok (n : U) : so9 al ah v n = true := by
  unfold so9 lshLo lshHi
  rw [lshC_eq, k64_eq]
  cases hc : timesU ah (pow2 n)
  · exact all_inU _
  · have h := (timesU_iff _ _).1 hc
    rw [pow2_toNat] at h
    have h1 : al.toNat * 2 ^ (by63 n).toNat ≤ v.toNat * 2 ^ (by63 n).toNat := Nat.mul_le_mul_right _ hv.1
    have h2 : v.toNat * 2 ^ (by63 n).toNat ≤ ah.toNat * 2 ^ (by63 n).toNat := Nat.mul_le_mul_right _ hv.2
    simp only [Bool.not_true, cond_false]
    rw [isIn_iff, BitVec.toNat_shiftLeft, BitVec.toNat_shiftLeft, BitVec.toNat_shiftLeft, Nat.shiftLeft_eq, Nat.shiftLeft_eq, Nat.shiftLeft_eq, Nat.mod_eq_of_lt (a := al.toNat * 2 ^ (by63 n).toNat) (by omega),
      Nat.mod_eq_of_lt (a := v.toNat * 2 ^ (by63 n).toNat) (by omega), Nat.mod_eq_of_lt h]
    exact ⟨h1, h2⟩
theorem so10_ok (n : U) : so10 al ah v n = true := by
  unfold so10
  rw [k64_eq, isIn_iff, BitVec.toNat_ushiftRight, BitVec.toNat_ushiftRight, BitVec.toNat_ushiftRight, Nat.shiftRight_eq_div_pow, Nat.shiftRight_eq_div_pow, Nat.shiftRight_eq_div_pow]
  exact ⟨Nat.div_le_div_right hv.1, Nat.div_le_div_right hv.2⟩
theorem so11_ok : so11 al ah v = true := by
  have hw : w32.toNat = 4294967295 := by decide
  have hp : p32.toNat = 4294967296 := by decide
  have hm : ∀ x : U, (x &&& w32).toNat = x.toNat % 4294967296 := by intro x; rw [w32_mod, BitVec.toNat_umod, hp]
  unfold so11
  rw [isIn_iff]
  cases hc : cutU al ah
  · simp only [cond_false, hm, zer_nat, hw]; omega
  · simp only [cond_true, hm]
    unfold cutU at hc
    have h1 : (ah - al).toNat ≤ 4294967295 ∧ al.toNat % 4294967296 ≤ ah.toNat % 4294967296 := by
      cases h1 : (ah - al).ule w32
      · rw [h1] at hc; cases hc
      · rw [h1] at hc
        simp only [cond_true, BitVec.ule, decide_eq_true_eq, hm] at hc
        simp only [BitVec.ule, decide_eq_true_eq, hw] at h1
        exact ⟨h1, hc⟩
    have hd : (ah - al).toNat = ah.toNat - al.toNat := BitVec.toNat_sub_of_le (by rw [BitVec.le_def]; omega)
    rw [hd] at h1
    have := al.isLt; have := ah.isLt
    omega
theorem cut_same : (v &&& ~~~(onesB (al ^^^ ah))) = (al &&& ~~~(onesB (al ^^^ ah))) := by
  have hlt : (al ^^^ ah).toNat < 2 ^ bl (al ^^^ ah).toNat := (bl_le _ _).1 (Nat.le_refl _)
  have e : al.toNat / 2 ^ bl (al ^^^ ah).toNat = ah.toNat / 2 ^ bl (al ^^^ ah).toNat := by
    have := xor_div al.toNat ah.toNat (bl (al ^^^ ah).toNat)
    rw [← BitVec.toNat_xor, Nat.div_eq_of_lt hlt] at this
    exact xor_zero.1 this.symm
  have h1 : al.toNat / 2 ^ bl (al ^^^ ah).toNat ≤ v.toNat / 2 ^ bl (al ^^^ ah).toNat := Nat.div_le_div_right hv.1
  have h2 : v.toNat / 2 ^ bl (al ^^^ ah).toNat ≤ ah.toNat / 2 ^ bl (al ^^^ ah).toNat := Nat.div_le_div_right hv.2
  apply BitVec.eq_of_toNat_eq
  rw [cut_toNat, cut_toNat]
  congr 1
  omega
theorem bits_in : isIn (al &&& ~~~(onesB (al ^^^ ah))) (al &&& ~~~(onesB (al ^^^ ah)) ||| onesB (al ^^^ ah)) v = true := by
  rw [← cut_same hv, isIn_iff]
  constructor
  · refine sub_le (fun i => ?_)
    rw [BitVec.getLsbD_and]
    intro h
    simp only [Bool.and_eq_true] at h
    exact h.1
  · refine sub_le (fun i h => ?_)
    have hi := BitVec.lt_of_getLsbD h
    simp only [BitVec.getLsbD_or, BitVec.getLsbD_and, BitVec.getLsbD_not, hi, decide_true, Bool.true_and, h]
    generalize (onesB (al ^^^ ah)).getLsbD i = q
    revert q; decide
theorem signed_in : isS (cond (tsC al ah) lowS al) (cond (tsC al ah) topS ah) v = true := by
  cases hc : tsC al ah
  · rw [tsC_eq] at hc
    unfold rsC at hc
    rw [ule_sgn, ule_sgn, BitVec.msb_eq_toInt, BitVec.msb_eq_toInt] at hc
    have hs : al.toInt < 0 ↔ ah.toInt < 0 := by
      by_cases x : al.toInt < 0 <;> by_cases y : ah.toInt < 0 <;> simp [x, y] at hc ⊢
    simp only [cond_false]
    rw [isS_iff]
    have h1 := toInt_nat al; have h2 := toInt_nat ah; have h3 := toInt_nat v
    have := rng v; have := al.isLt; have := ah.isLt; have := v.isLt
    have := rng al; have := rng ah
    split at h1 <;> split at h2 <;> split at h3 <;> omega
  · exact all_in _
end

theorem mMC_iff (a b c d : U) : mMC a b c d = decide (min b.toNat d.toNat < max a.toNat c.toNat) := by
  unfold mMC BitVec.ult
  rw [mn_toNat, mx_toNat]

theorem soE_ok {al ah bl bh v w : U} (hv : al.toNat ≤ v.toNat ∧ v.toNat ≤ ah.toNat) (hw : bl.toNat ≤ w.toNat ∧ w.toNat ≤ bh.toNat) : soE al ah bl bh v w = true := by
  have e1 : isIn (mn al bl) (mx ah bh) v = true := by rw [isIn_iff, mn_toNat, mx_toNat]; omega
  have e2 : isIn (mn al bl) (mx ah bh) w = true := by rw [isIn_iff, mn_toNat, mx_toNat]; omega
  have e3 : cond (mMC al ah bl bh) false true = cond (al.ule bh) (bl.ule ah) false := by
    rw [mMC_iff]
    unfold BitVec.ule
    by_cases h : min ah.toNat bh.toNat < max al.toNat bl.toNat
    · by_cases x : al.toNat ≤ bh.toNat
      · have y : ¬ bl.toNat ≤ ah.toNat := by omega
        simp [h, x, y]
      · simp [h, x]
    · have x : al.toNat ≤ bh.toNat := by omega
      have y : bl.toNat ≤ ah.toNat := by omega
      simp [h, x, y]
  have e4 : cond (!isIn bl bh v) true (cond (cond (mMC al ah bl bh) false true) (isIn (cond (mMC al ah bl bh) zer (mx al bl)) (cond (mMC al ah bl bh) zer (mn ah bh)) v) false) = true := by
    by_cases h : isIn bl bh v = true
    · have h' := (isIn_iff _ _ _).1 h
      have hc : mMC al ah bl bh = false := by rw [mMC_iff]; simp; omega
      rw [h, hc]
      simp only [Bool.not_true, cond_false, cond_true]
      rw [isIn_iff, mn_toNat, mx_toNat]; omega
    · have : isIn bl bh v = false := by simpa using h
      rw [this]; rfl
  unfold soE
  rw [e4, e1, e2, e3, cut_same hv, bits_in hv, signed_in hv]
  simp

theorem soAll {al ah bl bh v w : U} (n : U) (hv : isIn al ah v = true) (hw : isIn bl bh w = true) :
    soA al ah bl bh v w = false ∧ soB al ah bl bh v w = false ∧ soLaw al ah bl bh v w n = true ∧ soC al ah bl bh v w = false ∧ soD al ah bl bh v w n = false := by
  have hv' := (isIn_iff _ _ _).1 hv
  have hw' := (isIn_iff _ _ _).1 hw
  have a : soA al ah bl bh v w = false := by unfold soA; rw [hv, so1_ok hv' hw', so2_ok hv' hw', so3_ok hv' hw']; rfl
  have b : soB al ah bl bh v w = false := by unfold soB; rw [a, so4_ok hv' hw']; rfl
  have c : soC al ah bl bh v w = false := by unfold soC; rw [b, so5_ok hv' hw']; rfl
  have d : soD al ah bl bh v w n = false := by
    unfold soD; rw [so6_ok hv' hw', so7_ok hv' hw', so8_ok hv' hw', so9_ok hv', so10_ok hv', so11_ok hv']; rfl
  refine ⟨a, b, ?_, c, d⟩
  unfold soLaw; rw [c, d, soE_ok hv' hw']; rfl

theorem mn_mx (a b : U) : (mn a b).toNat ≤ (mx a b).toNat := by rw [mn_toNat, mx_toNat]; omega

theorem spanSound_true (a b c d v w n : U) : spanSound a b c d v w n = true :=
  (soAll n (inside_in _ _ _ (mn_mx a b)) (inside_in _ _ _ (mn_mx c d))).2.2.1

theorem soQ_ok (w : U) : soQ w = true := by
  unfold soQ
  rw [← zer_eq, bne]
  cases (w == zer) <;> rfl

theorem spanSoundK_true (a b c d v w n : U) : spanSoundK a b c d v w n = true := by
  have h : ∀ al ah bl bh v w, soK al ah bl bh v w = true := by
    intro al ah bl bh v w
    unfold soK
    rw [soQ_ok]; simp
  unfold spanSoundK soLawK
  rw [h]
  generalize soC _ _ _ _ _ _ = p
  generalize soD _ _ _ _ _ _ _ = q
  cases p <;> cases q <;> rfl
end Go.VE
