/- plain law: what numbers of signed spans make is had. -/
import Derived.Test.YtkkkcocehkfbcaaSignedLaw
namespace Go.VE
open Go
def insideU (lo hi v : U) : U := cond ((hi - lo + BitVec.ofInt 64 1) == BitVec.ofInt 64 0) v (lo + v % (hi - lo + BitVec.ofInt 64 1))
def pick1 (al ah v : U) : U := al + insideU zer (ah - al) v
def n32 (x : U) : U := nrm .i32 x

def ssBad (al ah bl bh v w n : U) : Bool :=
  cond (cond (cond (cond (cond (cond (!isS al ah v) true (!isS bl bh w)) true
    (!isS (cond (sAddC al ah bl bh) lowS (al + bl)) (cond (sAddC al ah bl bh) topS (ah + bh)) (v + w))) true
    (!isS (cond (sSubC al ah bl bh) lowS (al - bh)) (cond (sSubC al ah bl bh) topS (ah - bl)) (v - w))) true
    (!isS (al.sshiftRight (by63 n).toNat) (ah.sshiftRight (by63 n).toNat) (v.sshiftRight (n % BitVec.ofInt 64 64).toNat))) true
    (!isS (cond (scC al ah) al l31) (cond (scC al ah) ah h31) (n32 v))) true
    (!isIn (cond (tuC al ah) zer al) (cond (tuC al ah) topU ah) v)
def ssGood (al ah bl bh v x m y : U) : Bool :=
  cond (cond (cond (cond (isS (mnS al bl) (mxS ah bh) v)
    (cond (!isS bl bh v) true (cond (cond (smC al ah bl bh) false true) (isS (cond (smC al ah bl bh) zer (mxS al bl)) (cond (smC al ah bl bh) zer (mnS ah bh)) v) false)) false)
    (isIn (x &&& ~~~m) (x &&& ~~~m ||| m) (x &&& ~~~m ||| y &&& m)) false)
    (isS (x &&& ~~~m ||| m &&& sgn) ((x &&& ~~~m ||| m) &&& ~~~(m &&& sgn)) (x &&& ~~~m ||| y &&& m)) false) true false
def ssLaw (al ah bl bh v w n x m y : U) : Bool := cond (ssBad al ah bl bh v w n) false (ssGood al ah bl bh v x m y)
def spanSignedSound (a b c d v w n m : U) : Bool :=
  ssLaw (mnS a b) (mxS a b) (mnS c d) (mxS c d) (pick1 (mnS a b) (mxS a b) v) (pick1 (mnS c d) (mxS c d) w) n v m w

theorem mnS_int (a b : U) : (mnS a b).toInt = min a.toInt b.toInt := by
  unfold mnS
  cases h : b.slt a
  · simp [BitVec.slt] at h; simp; omega
  · simp [BitVec.slt] at h; simp; omega
theorem mxS_int (a b : U) : (mxS a b).toInt = max a.toInt b.toInt := by
  unfold mxS
  cases h : a.slt b
  · simp [BitVec.slt] at h; simp; omega
  · simp [BitVec.slt] at h; simp; omega

theorem isS_iff (lo hi v : U) : isS lo hi v = true ↔ lo.toInt ≤ v.toInt ∧ v.toInt ≤ hi.toInt := by
  unfold isS
  simp only [sle_iff]
  by_cases h : lo.toInt ≤ v.toInt <;> simp [h]

theorem toInt_nat (x : U) : x.toInt = if x.toInt < 0 then (x.toNat : Int) - 18446744073709551616 else (x.toNat : Int) := by
  have h := BitVec.toInt_eq_toNat_cond x
  have := x.isLt
  split at h <;> split <;> omega

theorem pick1_in (al ah v : U) (h : al.toInt ≤ ah.toInt) : isS al ah (pick1 al ah v) = true := by
  have h1 := rng al; have h2 := rng ah
  have hz : (BitVec.ofInt 64 0 : U) = 0#64 := by decide
  have ho : (BitVec.ofInt 64 1 : U) = 1#64 := by decide
  have e0 : ah - al - zer + 1#64 = ah - al + 1#64 := by rw [zer_eq, BitVec.sub_zero]
  have hd : ((ah - al).toNat : Int) = ah.toInt - al.toInt := by
    rw [BitVec.toNat_sub]
    have := toInt_nat al; have := toInt_nat ah
    have := al.isLt; have := ah.isLt
    split at * <;> split at * <;> omega
  rw [isS_iff]
  unfold pick1 insideU
  rw [hz, ho, e0]
  cases hc : (ah - al + 1#64 == 0#64)
  · simp only [cond_false]
    have hne : ah - al + 1#64 ≠ 0#64 := by simpa using hc
    have hn : (ah - al + 1#64).toNat = (ah - al).toNat + 1 := by
      rw [BitVec.toNat_add, show (1#64).toNat = 1 by rfl]
      have := (ah - al).isLt
      rcases Nat.lt_or_ge ((ah - al).toNat + 1) (2 ^ 64) with h3 | h3
      · exact Nat.mod_eq_of_lt h3
      · exfalso; apply hne
        apply BitVec.eq_of_toNat_eq
        rw [BitVec.toNat_add, show (1#64).toNat = 1 by rfl, show (0#64).toNat = 0 by rfl]
        omega
    have hr : (zer + v % (ah - al + 1#64)).toNat = v.toNat % ((ah - al).toNat + 1) := by
      rw [zer_eq, BitVec.zero_add, BitVec.toNat_umod, hn]
    have hlt := Nat.mod_lt v.toNat (show 0 < (ah - al).toNat + 1 by omega)
    rw [← hr] at hlt
    generalize zer + v % (ah - al + 1#64) = r at *
    have hs := add_toInt al r
    have h3 := toInt_nat r; have h4 := rng r; have := r.isLt
    split at h3 <;> split at hs <;> (try split at hs) <;> omega
  · have hn : ah - al + 1#64 = 0#64 := by simpa using hc
    have hf : (ah - al).toNat = 18446744073709551615 := by
      have := congrArg BitVec.toNat hn
      rw [BitVec.toNat_add, show (1#64).toNat = 1 by rfl, show (0#64).toNat = 0 by rfl] at this
      have := (ah - al).isLt
      omega
    have := rng (al + cond true v (zer + v % (ah - al + 1#64)))
    omega

theorem all_in (v : U) : isS lowS topS v = true := by
  rw [isS_iff, lowS_int, topS_int]; have := rng v; omega

theorem fits_add_iff (a c : U) : fitsS a c (a + c) = true ↔ -9223372036854775808 ≤ a.toInt + c.toInt ∧ a.toInt + c.toInt < 9223372036854775808 := by
  rw [fits_iff]; exact arith_add _ _ _ (rng a) (rng c) (add_toInt a c)
theorem fits_sub_iff (a d : U) : fitsS a (~~~d) (a - d) = true ↔ -9223372036854775808 ≤ a.toInt - d.toInt ∧ a.toInt - d.toInt < 9223372036854775808 := by
  rw [fits_iff, not_neg]; exact arith_sub _ _ _ (rng a) (rng d) (sub_toInt a d)

theorem add_exact (a c : U) (h : -9223372036854775808 ≤ a.toInt + c.toInt ∧ a.toInt + c.toInt < 9223372036854775808) : (a + c).toInt = a.toInt + c.toInt := by
  rw [add_toInt, if_neg (by omega), if_neg (by omega)]
theorem sub_exact (a c : U) (h : -9223372036854775808 ≤ a.toInt - c.toInt ∧ a.toInt - c.toInt < 9223372036854775808) : (a - c).toInt = a.toInt - c.toInt := by
  rw [sub_toInt, if_neg (by omega), if_neg (by omega)]

section
variable {al ah bl bh v w : U} (hv : al.toInt ≤ v.toInt ∧ v.toInt ≤ ah.toInt) (hw : bl.toInt ≤ w.toInt ∧ w.toInt ≤ bh.toInt)
include hv hw
theorem add_in' : isS (cond (sAddC al ah bl bh) lowS (al + bl)) (cond (sAddC al ah bl bh) topS (ah + bh)) (v + w) = true := by
  cases hc : sAddC al ah bl bh
  · simp only [cond_false]
    have h1 : fitsS al bl (al + bl) = true ∧ fitsS ah bh (ah + bh) = true := by
      unfold sAddC at hc
      cases h1 : fitsS al bl (al + bl) <;> cases h2 : fitsS ah bh (ah + bh) <;> simp [h1, h2] at hc ⊢
    rw [fits_add_iff, fits_add_iff] at h1
    rw [isS_iff, add_exact al bl h1.1, add_exact ah bh h1.2, add_exact v w (by omega)]
    omega
  · exact all_in _
theorem sub_in' : isS (cond (sSubC al ah bl bh) lowS (al - bh)) (cond (sSubC al ah bl bh) topS (ah - bl)) (v - w) = true := by
  cases hc : sSubC al ah bl bh
  · simp only [cond_false]
    have h1 : fitsS al (~~~bh) (al - bh) = true ∧ fitsS ah (~~~bl) (ah - bl) = true := by
      unfold sSubC at hc
      cases h1 : fitsS al (~~~bh) (al - bh) <;> cases h2 : fitsS ah (~~~bl) (ah - bl) <;> simp [h1, h2] at hc ⊢
    rw [fits_sub_iff, fits_sub_iff] at h1
    rw [isS_iff, sub_exact al bh h1.1, sub_exact ah bl h1.2, sub_exact v w (by omega)]
    omega
  · exact all_in _
end

theorem mod64 (n : U) : (n % BitVec.ofInt 64 64).toNat = (by63 n).toNat := by
  rw [by63_toNat, BitVec.toNat_umod, show (BitVec.ofInt 64 64).toNat = 64 by decide]

theorem sar_mono (x y : U) (k : Nat) (h : x.toInt ≤ y.toInt) : (x.sshiftRight k).toInt ≤ (y.sshiftRight k).toInt := by
  rw [BitVec.toInt_sshiftRight, BitVec.toInt_sshiftRight, Int.shiftRight_eq_div_pow, Int.shiftRight_eq_div_pow]
  exact Int.ediv_le_ediv (by exact_mod_cast Nat.two_pow_pos k) h

theorem l31_int : l31.toInt = -2147483648 := by decide +kernel
theorem h31_int : h31.toInt = 2147483647 := by decide +kernel

theorem n32_int (x : U) : (n32 x).toInt = x.toInt.bmod 4294967296 := by
  have e : n32 x = (x.setWidth 32).signExtend 64 := rfl
  rw [e, BitVec.toInt_signExtend_of_le (by omega), BitVec.toInt_setWidth]
  have h := BitVec.toInt_eq_toNat_cond x
  have := x.isLt
  simp only [Int.bmod_def]
  split at h <;> split <;> split <;> omega

theorem cut_in (al ah v : U) (hv : al.toInt ≤ v.toInt ∧ v.toInt ≤ ah.toInt) : isS (cond (scC al ah) al l31) (cond (scC al ah) ah h31) (n32 v) = true := by
  rw [isS_iff]
  have hb : (n32 v).toInt = v.toInt.bmod 4294967296 := n32_int v
  rw [Int.bmod_def] at hb
  cases hc : scC al ah
  · simp only [cond_false, l31_int, h31_int]
    split at hb <;> omega
  · simp only [cond_true]
    unfold scC at hc
    rw [sle_iff, sle_iff, l31_int, h31_int] at hc
    have h1 : -2147483648 ≤ al.toInt ∧ ah.toInt ≤ 2147483647 := by
      by_cases h1 : -2147483648 ≤ al.toInt
      · simp [h1] at hc; exact ⟨h1, hc⟩
      · simp [h1] at hc
    split at hb <;> omega

theorem tuC_iff (c d : U) : tuC c d = true ↔ ¬ (c.toInt < 0 ↔ d.toInt < 0) := by
  rw [tuC_eq]
  unfold ruC
  rw [slt_zer, slt_zer, BitVec.msb_eq_toInt, BitVec.msb_eq_toInt]
  by_cases h1 : c.toInt < 0 <;> by_cases h2 : d.toInt < 0 <;> simp [h1, h2]

theorem span_in (al ah v : U) (hv : al.toInt ≤ v.toInt ∧ v.toInt ≤ ah.toInt) : isIn (cond (tuC al ah) zer al) (cond (tuC al ah) topU ah) v = true := by
  rw [isIn_iff]
  cases hc : tuC al ah
  · simp only [cond_false]
    have h : ¬ tuC al ah = true := by simp [hc]
    rw [tuC_iff] at h
    have h1 := toInt_nat al; have h2 := toInt_nat ah; have h3 := toInt_nat v
    split at h1 <;> split at h2 <;> split at h3 <;> omega
  · simp only [cond_true]
    have h1 : zer.toNat = 0 := by decide
    have h2 : topU.toNat = 18446744073709551615 := by decide
    have := v.isLt
    rw [h1, h2]; omega

theorem join_in (al ah bl bh v : U) (hv : al.toInt ≤ v.toInt ∧ v.toInt ≤ ah.toInt) : isS (mnS al bl) (mxS ah bh) v = true := by
  rw [isS_iff, mnS_int, mxS_int]; omega

theorem smC_iff (a b c d : U) : smC a b c d = true ↔ min b.toInt d.toInt < max a.toInt c.toInt := by
  unfold smC
  rw [← mnS_int, ← mxS_int]
  simp [BitVec.slt]

theorem meet_in (al ah bl bh v : U) (hv : al.toInt ≤ v.toInt ∧ v.toInt ≤ ah.toInt) :
    cond (!isS bl bh v) true (cond (cond (smC al ah bl bh) false true) (isS (cond (smC al ah bl bh) zer (mxS al bl)) (cond (smC al ah bl bh) zer (mnS ah bh)) v) false) = true := by
  by_cases h : isS bl bh v = true
  · have h' := (isS_iff _ _ _).1 h
    have hc : smC al ah bl bh = false := by
      cases hc : smC al ah bl bh
      · rfl
      · rw [smC_iff] at hc; omega
    rw [h, hc]
    simp only [Bool.not_true, cond_false, cond_true]
    rw [isS_iff, mnS_int, mxS_int]; omega
  · have : isS bl bh v = false := by simpa using h
    rw [this]; rfl

theorem sub_le {x y : U} (h : ∀ i, x.getLsbD i = true → y.getLsbD i = true) : x.toNat ≤ y.toNat := by
  have e : x = x &&& y := by
    refine BitVec.eq_of_getLsbD_eq (fun i hi => ?_)
    rw [BitVec.getLsbD_and]
    have := h i
    revert this
    generalize x.getLsbD i = p; generalize y.getLsbD i = q
    revert p q; decide
  rw [e, BitVec.toNat_and]
  exact Nat.and_le_right

theorem bounds_in (x m y : U) : isIn (x &&& ~~~m) (x &&& ~~~m ||| m) (x &&& ~~~m ||| y &&& m) = true := by
  rw [isIn_iff]
  constructor
  · refine sub_le (fun i => ?_)
    simp only [BitVec.getLsbD_or]
    intro h; rw [h]; rfl
  · refine sub_le (fun i => ?_)
    simp only [BitVec.getLsbD_or, BitVec.getLsbD_and]
    generalize x.getLsbD i = p; generalize (~~~m).getLsbD i = q; generalize m.getLsbD i = r; generalize y.getLsbD i = s
    revert p q r s; decide

theorem le_of_sub {x y : U} (h : ∀ i, x.getLsbD i = true → y.getLsbD i = true) (hm : x.msb = y.msb) : x.toInt ≤ y.toInt := by
  have h1 := sub_le h
  rw [BitVec.msb_eq_toInt, BitVec.msb_eq_toInt] at hm
  have h2 := toInt_nat x; have h3 := toInt_nat y
  have hm : x.toInt < 0 ↔ y.toInt < 0 := by
    by_cases a : x.toInt < 0 <;> by_cases b : y.toInt < 0 <;> simp [a, b] at hm ⊢
  split at h2 <;> split at h3 <;> omega

theorem le_of_msb {x y : U} (hx : x.msb = true) (hy : y.msb = false) : x.toInt ≤ y.toInt := by
  rw [BitVec.msb_eq_toInt, decide_eq_true_eq] at hx
  rw [BitVec.msb_eq_toInt, decide_eq_false_iff_not] at hy
  omega

theorem sgn_msb : sgn.msb = true := by decide

theorem sbounds_in (x m y : U) : isS (x &&& ~~~m ||| m &&& sgn) ((x &&& ~~~m ||| m) &&& ~~~(m &&& sgn)) (x &&& ~~~m ||| y &&& m) = true := by
  rw [isS_iff]
  have l : ∀ i, i ≠ 63 → (x &&& ~~~m ||| m &&& sgn).getLsbD i = true → (x &&& ~~~m ||| y &&& m).getLsbD i = true := by
    intro i h
    simp only [BitVec.getLsbD_or, BitVec.getLsbD_and, sgn_bit, h, decide_false, Bool.and_false, Bool.or_false]
    intro h; rw [h]; rfl
  have u : ∀ i, i ≠ 63 → (x &&& ~~~m ||| y &&& m).getLsbD i = true → ((x &&& ~~~m ||| m) &&& ~~~(m &&& sgn)).getLsbD i = true := by
    intro i h
    by_cases hi : i < 64
    · simp only [BitVec.getLsbD_or, BitVec.getLsbD_and, BitVec.getLsbD_not, sgn_bit, h, decide_false, Bool.and_false, Bool.not_false, Bool.and_true, hi, decide_true, Bool.true_and]
      generalize x.getLsbD i = p; generalize m.getLsbD i = r; generalize y.getLsbD i = s
      revert p r s; decide
    · intro h2; exact absurd (BitVec.lt_of_getLsbD h2) hi
  have m1 : (x &&& ~~~m ||| m &&& sgn).msb = (x.msb && !m.msb || m.msb) := by
    rw [BitVec.msb_or, BitVec.msb_and, BitVec.msb_and, BitVec.msb_not, sgn_msb]; simp
  have m2 : ((x &&& ~~~m ||| m) &&& ~~~(m &&& sgn)).msb = (x.msb && !m.msb) := by
    rw [BitVec.msb_and, BitVec.msb_or, BitVec.msb_and, BitVec.msb_not, BitVec.msb_not, BitVec.msb_and, sgn_msb]
    cases x.msb <;> cases m.msb <;> rfl
  have m3 : (x &&& ~~~m ||| y &&& m).msb = (x.msb && !m.msb || y.msb && m.msb) := by
    rw [BitVec.msb_or, BitVec.msb_and, BitVec.msb_and, BitVec.msb_not]; simp
  have ext : ∀ {a b : U}, (∀ i, i ≠ 63 → a.getLsbD i = true → b.getLsbD i = true) → a.msb = b.msb → ∀ i, a.getLsbD i = true → b.getLsbD i = true := by
    intro a b h hm i ha
    by_cases e : i = 63
    · subst e
      rw [BitVec.msb_eq_getLsbD_last, BitVec.msb_eq_getLsbD_last] at hm
      have hm : a.getLsbD 63 = b.getLsbD 63 := hm
      rw [← hm]; exact ha
    · exact h i e ha
  constructor
  · by_cases e : (x &&& ~~~m ||| m &&& sgn).msb = (x &&& ~~~m ||| y &&& m).msb
    · exact le_of_sub (ext l e) e
    · refine le_of_msb ?_ ?_
      · rw [m1, m3] at e; rw [m1]; revert e; cases x.msb <;> cases m.msb <;> cases y.msb <;> simp
      · rw [m1, m3] at e; rw [m3]; revert e; cases x.msb <;> cases m.msb <;> cases y.msb <;> simp
  · by_cases e : (x &&& ~~~m ||| y &&& m).msb = ((x &&& ~~~m ||| m) &&& ~~~(m &&& sgn)).msb
    · exact le_of_sub (ext u e) e
    · refine le_of_msb ?_ ?_
      · rw [m2, m3] at e; rw [m3]; revert e; cases x.msb <;> cases m.msb <;> cases y.msb <;> simp
      · rw [m2, m3] at e; rw [m2]; revert e; cases x.msb <;> cases m.msb <;> cases y.msb <;> simp

theorem ssLaw_true (al ah bl bh v w n x m y : U) (hv : isS al ah v = true) (hw : isS bl bh w = true) : ssLaw al ah bl bh v w n x m y = true := by
  have hv' := (isS_iff _ _ _).1 hv
  have hw' := (isS_iff _ _ _).1 hw
  have hs : isS (al.sshiftRight (by63 n).toNat) (ah.sshiftRight (by63 n).toNat) (v.sshiftRight (n % BitVec.ofInt 64 64).toNat) = true := by
    rw [mod64, isS_iff]
    exact ⟨sar_mono _ _ _ hv'.1, sar_mono _ _ _ hv'.2⟩
  have hb : ssBad al ah bl bh v w n = false := by
    unfold ssBad
    rw [hv, hw, add_in' hv' hw', sub_in' hv' hw', hs, cut_in _ _ _ hv', span_in _ _ _ hv']
    rfl
  have hg : ssGood al ah bl bh v x m y = true := by
    unfold ssGood
    rw [join_in _ _ _ _ _ hv', meet_in _ _ _ _ _ hv', bounds_in, sbounds_in]
    rfl
  unfold ssLaw
  rw [hb, hg]; rfl

theorem spanSignedSound_true (a b c d v w n m : U) : spanSignedSound a b c d v w n m = true := by
  unfold spanSignedSound
  refine ssLaw_true _ _ _ _ _ _ _ _ _ _ (pick1_in _ _ _ ?_) (pick1_in _ _ _ ?_)
  · rw [mnS_int, mxS_int]; omega
  · rw [mnS_int, mxS_int]; omega
end Go.VE
