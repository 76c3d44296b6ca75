/- plain law: any two spans, signed. -/
import Derived.Test.YtkkkcocehkfbcaaTurnsLaw
import Derived.Test.YtkkkcocehkfbcaaLoops
namespace Go.VE
open Go
def mnS (a b : U) : U := cond (b.slt a) b a
def mxS (a b : U) : U := cond (a.slt b) b a
def isS (lo hi v : U) : Bool := cond (lo.sle v) (v.sle hi) false
def fitsS (a b s : U) : Bool := zer.sle ((a ^^^ s) &&& (b ^^^ s))
def sAddC (a b c d : U) : Bool := cond (!fitsS a c (a + c)) true (!fitsS b d (b + d))
def ssum (a b : U) : Bool := cond (zer.sle b) (a.sle (topS - b)) ((lowS - b).sle a)
def rAddC (a b c d : U) : Bool := cond (!ssum a c) true (!ssum b d)
def sSubC (a b c d : U) : Bool := cond (!fitsS a (~~~d) (a - d)) true (!fitsS b (~~~c) (b - c))
def sles (a b : U) : Bool := cond (zer.sle b) ((lowS + b).sle a) (a.sle (topS + b))
def rSubC (a b c d : U) : Bool := cond (!sles a d) true (!sles b c)
def l31 : U := BitVec.ofInt 64 (-2147483648)
def h31 : U := BitVec.ofInt 64 2147483647
def scC (a b : U) : Bool := cond (l31.sle a) (b.sle h31) false
def smC (a b c d : U) : Bool := (mnS b d).slt (mxS a c)

def sgFirst (a b c d : U) : Bool :=
  cond (cond (cond (cond (cond (cond (!eq2 c c c c) true false) true (!(isS a b c == isS a b c))) true
    (!(cond (isS c d a) (isS c d b) false == cond (c.sle a) (b.sle d) false))) true (!eq2 (mnS a c) (mxS b d) (mnS a c) (mxS b d))) true
    (!eq2 (cond (smC a b c d) zer (mxS a c)) (cond (smC a b c d) zer (mnS b d)) (cond (smC a b c d) zer (mxS a c)) (cond (smC a b c d) zer (mnS b d)))) true
    (!(cond (smC a b c d) false true == cond (smC a b c d) false true))
def sgLast (a b c d n : U) : Bool :=
  cond (cond (cond (cond
    (eq2 (cond (sAddC a b c d) lowS (a + c)) (cond (sAddC a b c d) topS (b + d)) (cond (rAddC a b c d) lowS (a + c)) (cond (rAddC a b c d) topS (b + d)))
    (eq2 (cond (sSubC a b c d) lowS (a - d)) (cond (sSubC a b c d) topS (b - c)) (cond (rSubC a b c d) lowS (a - d)) (cond (rSubC a b c d) topS (b - c))) false)
    (eq2 (a.sshiftRight n.toNat) (b.sshiftRight n.toNat) (a.sshiftRight n.toNat) (b.sshiftRight n.toNat)) false)
    (eq2 (cond (scC a b) a l31) (cond (scC a b) b h31) (cond (scC a b) a l31) (cond (scC a b) b h31)) false) true false
def spanSigned (a b c d n : U) : Bool :=
  cond (cond (!a.sle b) true (!c.sle d)) true (cond (sgFirst a b c d) false (sgLast a b c d (by63 n)))

theorem sle_zer (x : U) : zer.sle x = !x.msb := by
  rw [BitVec.msb_eq_toInt, zer_eq]
  have h0 : (0#64).toInt = 0 := by decide
  unfold BitVec.sle
  rw [h0]
  by_cases h : x.toInt < 0
  · have h' : ¬ 0 ≤ x.toInt := by omega
    simp [h, h']
  · have h' : 0 ≤ x.toInt := by omega
    simp [h, h']

theorem bmod64 (x : Int) (h1 : -18446744073709551616 ≤ x) (h2 : x < 18446744073709551616) :
    x.bmod (2 ^ 64) = if x < -9223372036854775808 then x + 18446744073709551616 else if 9223372036854775808 ≤ x then x - 18446744073709551616 else x := by
  rw [Int.bmod_def]
  split <;> split <;> (try split) <;> omega

theorem rng (x : U) : -9223372036854775808 ≤ x.toInt ∧ x.toInt < 9223372036854775808 := by
  have h1 := BitVec.toInt_lt (x := x)
  have h2 := BitVec.le_toInt x
  constructor <;> omega

theorem add_toInt (x y : U) : (x + y).toInt = if x.toInt + y.toInt < -9223372036854775808 then x.toInt + y.toInt + 18446744073709551616 else if 9223372036854775808 ≤ x.toInt + y.toInt then x.toInt + y.toInt - 18446744073709551616 else x.toInt + y.toInt := by
  have := rng x; have := rng y
  rw [BitVec.toInt_add, bmod64] <;> omega
theorem sub_toInt (x y : U) : (x - y).toInt = if x.toInt - y.toInt < -9223372036854775808 then x.toInt - y.toInt + 18446744073709551616 else if 9223372036854775808 ≤ x.toInt - y.toInt then x.toInt - y.toInt - 18446744073709551616 else x.toInt - y.toInt := by
  have := rng x; have := rng y
  rw [BitVec.toInt_sub, bmod64] <;> omega

theorem topS_int : topS.toInt = 9223372036854775807 := by decide +kernel
theorem lowS_int : lowS.toInt = -9223372036854775808 := by decide +kernel

theorem fits_msb (a b s : U) : fitsS a b s = !((a.msb ^^ s.msb) && (b.msb ^^ s.msb)) := by
  unfold fitsS
  rw [sle_zer, BitVec.msb_and, BitVec.msb_xor, BitVec.msb_xor]

theorem fits_iff (a b s : U) : fitsS a b s = true ↔ ¬ ((a.toInt < 0 ↔ ¬ s.toInt < 0) ∧ (b.toInt < 0 ↔ ¬ s.toInt < 0)) := by
  rw [fits_msb, BitVec.msb_eq_toInt, BitVec.msb_eq_toInt, BitVec.msb_eq_toInt]
  by_cases x1 : a.toInt < 0 <;> by_cases x2 : b.toInt < 0 <;> by_cases x3 : s.toInt < 0 <;> simp [x1, x2, x3]

theorem top_sub (c : U) (h : 0 ≤ c.toInt) : (topS - c).toInt = 9223372036854775807 - c.toInt := by
  have hc := rng c
  rw [sub_toInt, topS_int, if_neg (by omega), if_neg (by omega)]
theorem low_sub (c : U) (h : c.toInt < 0) : (lowS - c).toInt = -9223372036854775808 - c.toInt := by
  have hc := rng c
  rw [sub_toInt, lowS_int, if_neg (by omega), if_neg (by omega)]
theorem top_add (c : U) (h : c.toInt < 0) : (topS + c).toInt = 9223372036854775807 + c.toInt := by
  have hc := rng c
  rw [add_toInt, topS_int, if_neg (by omega), if_neg (by omega)]
theorem low_add (c : U) (h : 0 ≤ c.toInt) : (lowS + c).toInt = -9223372036854775808 + c.toInt := by
  have hc := rng c
  rw [add_toInt, lowS_int, if_neg (by omega), if_neg (by omega)]

theorem arith_add (A C S : Int) (ha : -9223372036854775808 ≤ A ∧ A < 9223372036854775808) (hc : -9223372036854775808 ≤ C ∧ C < 9223372036854775808)
    (hs : S = if A + C < -9223372036854775808 then A + C + 18446744073709551616 else if 9223372036854775808 ≤ A + C then A + C - 18446744073709551616 else A + C) :
    ¬ ((A < 0 ↔ ¬ S < 0) ∧ (C < 0 ↔ ¬ S < 0)) ↔ -9223372036854775808 ≤ A + C ∧ A + C < 9223372036854775808 := by
  split at hs
  · omega
  · split at hs <;> omega

theorem arith_sub (A D S : Int) (ha : -9223372036854775808 ≤ A ∧ A < 9223372036854775808) (hc : -9223372036854775808 ≤ D ∧ D < 9223372036854775808)
    (hs : S = if A - D < -9223372036854775808 then A - D + 18446744073709551616 else if 9223372036854775808 ≤ A - D then A - D - 18446744073709551616 else A - D) :
    ¬ ((A < 0 ↔ ¬ S < 0) ∧ (¬ D < 0 ↔ ¬ S < 0)) ↔ -9223372036854775808 ≤ A - D ∧ A - D < 9223372036854775808 := by
  split at hs
  · omega
  · split at hs <;> omega

theorem not_neg (d : U) : (~~~d).toInt < 0 ↔ ¬ d.toInt < 0 := by
  have h : (~~~d).msb = !d.msb := by simp
  rw [BitVec.msb_eq_toInt, BitVec.msb_eq_toInt] at h
  generalize (~~~d).toInt = e at *
  by_cases x : d.toInt < 0 <;> by_cases y : e < 0 <;> simp [x, y] at h ⊢

theorem fits_add (a c : U) : fitsS a c (a + c) = ssum a c := by
  have ha := rng a; have hc := rng c
  rw [Bool.eq_iff_iff, fits_iff, arith_add _ _ _ ha hc (add_toInt a c), ssum, sle_zer, BitVec.msb_eq_toInt]
  unfold BitVec.sle
  by_cases x : c.toInt < 0
  · rw [low_sub c x]; simp only [x, decide_true, Bool.not_true, cond_false, decide_eq_true_eq]; omega
  · rw [top_sub c (by omega)]; simp only [x, decide_false, Bool.not_false, cond_true, decide_eq_true_eq]; omega

theorem fits_sub (a d : U) : fitsS a (~~~d) (a - d) = sles a d := by
  have ha := rng a; have hc := rng d
  rw [Bool.eq_iff_iff, fits_iff, not_neg, arith_sub _ _ _ ha hc (sub_toInt a d), sles, sle_zer, BitVec.msb_eq_toInt]
  unfold BitVec.sle
  by_cases x : d.toInt < 0
  · rw [top_add d x]; simp only [x, decide_true, Bool.not_true, cond_false, decide_eq_true_eq]; omega
  · rw [low_add d (by omega)]; simp only [x, decide_false, Bool.not_false, cond_true, decide_eq_true_eq]; omega

theorem sle_iff (x y : U) : x.sle y = decide (x.toInt ≤ y.toInt) := rfl

theorem sWithin_eq (a b c d : U) (h1 : a.sle b = true) : (cond (isS c d a) (isS c d b) false) = cond (c.sle a) (b.sle d) false := by
  rw [sle_iff, decide_eq_true_eq] at h1
  unfold isS
  simp only [sle_iff]
  rw [Bool.eq_iff_iff]
  by_cases x1 : c.toInt ≤ a.toInt
  · have x2 : c.toInt ≤ b.toInt := by omega
    by_cases x3 : b.toInt ≤ d.toInt
    · have x4 : a.toInt ≤ d.toInt := by omega
      simp [x1, x2, x3, x4]
    · simp [x1, x2, x3]
  · simp [x1]

theorem spanSigned_true (a b c d n : U) : spanSigned a b c d n = true := by
  unfold spanSigned
  cases h1 : a.sle b
  · rfl
  · cases h2 : c.sle d
    · rfl
    · have e1 : sAddC a b c d = rAddC a b c d := by unfold sAddC rAddC; rw [fits_add, fits_add]
      have e2 : sSubC a b c d = rSubC a b c d := by unfold sSubC rSubC; rw [fits_sub, fits_sub]
      have f : sgFirst a b c d = false := by
        unfold sgFirst
        rw [sWithin_eq a b c d h1]
        simp only [eq2_refl, beq_self_eq_true, Bool.not_true, cond_false]
      have l : sgLast a b c d (by63 n) = true := by
        unfold sgLast
        rw [e1, e2]
        simp only [eq2_refl, cond_true]
      rw [f, l]; rfl
end Go.VE
