/- plain law: any two spans, not signed. -/
import Derived.Test.YtkkkcocehkfbcaaC4
namespace Go.VE
open Go
def cyc (x y : U) : U := cond (x.ult y) 1#64 0#64
def addC (a b c d : U) : Bool := cyc (a + c) a != cyc (b + d) b
def raddC (a b c d : U) : Bool := !((a.ule (topU - c)) == (b.ule (topU - d)))
def subC (a b c d : U) : Bool := cyc a d != cyc b c
def rsubC (a b c d : U) : Bool := !((d.ule a) == (c.ule b))
def mulC (b d : U) : Bool := zer != mn (mulHi b d) one'
def e0 (c d : U) : Bool := (c == zer) && (d == zer)
def e1 (c d : U) : Bool := cond (c.ule zer) (zer.ule d) false
def modC (b c d : U) : Bool := cond (d == zer) true (b.ult c)
def rmodC (b c d : U) : Bool := cond (e0 c d) true (b.ult c)
def modHi (b c d : U) : U := cond (modC b c d) b (cond (c == zer) b (mn b (d - one')))
def rmodHi (b c d : U) : U := cond (rmodC b c d) b (cond (cond (e1 c d) true (b.ult (d - one'))) b (d - one'))
def w32 : U := BitVec.ofInt 64 4294967295
def p32 : U := BitVec.ofInt 64 4294967296
def cutU (a b : U) : Bool := cond ((b - a).ule w32) ((a &&& w32).ule (b &&& w32)) false
def rcutU (a b : U) : Bool := cond (p32.ule (b - a)) true (!(a % p32).ule (b % p32))
def mMC (a b c d : U) : Bool := (mn b d).ult (mx a c)

def te1 (a b c d : U) : Bool := eq2 (cond (addC a b c d) zer (a + c)) (cond (addC a b c d) topU (b + d)) (cond (raddC a b c d) zer (a + c)) (cond (raddC a b c d) topU (b + d))
def te2 (a b c d : U) : Bool := eq2 (cond (subC a b c d) zer (a - d)) (cond (subC a b c d) topU (b - c)) (cond (rsubC a b c d) zer (a - d)) (cond (rsubC a b c d) topU (b - c))
def te3 (a b c d : U) : Bool := eq2 (cond (mulC b d) zer (a * c)) (cond (mulC b d) topU (b * d)) (cond (!timesU b d) zer (a * c)) (cond (!timesU b d) topU (b * d))
def te4 (a b c d : U) : Bool := eq2 (divLo a c d) (divHi b c d) (cond (e0 c d) zer (cond (e1 c d) zer (a / d))) (cond (e0 c d) zer (cond (e1 c d) b (b / c)))
def te5 (a b c d : U) : Bool := eq2 (cond (modC b c d) a zer) (modHi b c d) (cond (rmodC b c d) a zer) (rmodHi b c d)
def te6 (a b n : U) : Bool := eq2 (lshLo a b n) (lshHi b n) (cond (!timesU b (pow2 n)) zer (a * pow2 n)) (cond (!timesU b (pow2 n)) topU (b * pow2 n))
def te7 (a b : U) : Bool := eq2 (cond (cutU a b) (a &&& w32) zer) (cond (cutU a b) (b &&& w32) w32) (cond (rcutU a b) zer (a % p32)) (cond (rcutU a b) w32 (b % p32))

def tl0 (a b c d : U) : Bool := cond (!a.ule b) true (!c.ule d)
def tl1 (a b c d : U) : Bool :=
  cond (cond (cond (cond (cond (cond (!eq2 c c c c) true false) true (!(isIn a b c == isIn a b c))) true
    (!(isWithin a b c d == cond (c.ule a) (b.ule d) false))) true (!eq2 (mn a c) (mx b d) (mn a c) (mx b d))) true
    (!eq2 (cond (mMC a b c d) zer (mx a c)) (cond (mMC a b c d) zer (mn b d)) (cond (mMC a b c d) zer (mx a c)) (cond (mMC a b c d) zer (mn b d)))) true
    (!(cond (mMC a b c d) false true == cond (mMC a b c d) false true))
def tl2a (a b c d : U) : Bool := cond (cond (!te1 a b c d) true (!te2 a b c d)) true (!te3 a b c d)
def tl2 (a b c d : U) : Bool := cond (cond (tl2a a b c d) true (!te4 a b c d)) true (!te5 a b c d)
def tl3 (a b c d n : U) : Bool :=
  cond (cond (cond (cond (cond (cond (mn b d == mn b d) (eq2 (mx a c) (onesB (mx b d)) (mx a c) (onesB (mx b d))) false) (onesB (mx b d) == onesB (mx b d)) false)
    (te6 a b n) false) (eq2 (a >>> (by63 n).toNat) (b >>> (by63 n).toNat) (a >>> (by63 n).toNat) (b >>> (by63 n).toNat)) false) (te7 a b) false) true false
def spanTells (a b c d n : U) : Bool := cond (tl0 a b c d) true (cond (tl1 a b c d) false (cond (tl2 a b c d) false (tl3 a b c d n)))
def tlK (a b c d : U) : Bool := (!(!tl2a a b c d)) || cond (e0 c d) true (cond (e1 c d) true ((d != 0#64) && (c != 0#64)))
def spanTellsK (a b c d : U) : Bool := cond (tl0 a b c d) true (cond (tl1 a b c d) true (cond (tl2 a b c d) (tlK a b c d) (tlK a b c d)))

/-! ### the law -/

theorem topU_nat : topU.toNat = 18446744073709551615 := by decide
theorem zer_nat : zer.toNat = 0 := by decide
theorem one_nat : one'.toNat = 1 := by decide

theorem cyc_ne (x y u v : U) : (cyc x y != cyc u v) = !(x.ult y == u.ult v) := by
  unfold cyc
  cases x.ult y <;> cases u.ult v <;> decide

theorem top_sub_nat (c : U) : (topU - c).toNat = 18446744073709551615 - c.toNat := by
  have := c.isLt
  rw [BitVec.toNat_sub_of_le (by rw [BitVec.le_def, topU_nat]; omega), topU_nat]

theorem carry_eq (a c : U) : (a + c).ult a = !(a.ule (topU - c)) := by
  have ha := a.isLt
  have hc := c.isLt
  have e1 : (a + c).ult a = decide (18446744073709551616 ≤ a.toNat + c.toNat) := by
    unfold BitVec.ult
    rw [BitVec.toNat_add]
    by_cases h : 18446744073709551616 ≤ a.toNat + c.toNat
    · have e : (a.toNat + c.toNat) % 2 ^ 64 = a.toNat + c.toNat - 18446744073709551616 := by omega
      rw [e]; simp only [h, decide_true, decide_eq_true_eq]; omega
    · have e : (a.toNat + c.toNat) % 2 ^ 64 = a.toNat + c.toNat := Nat.mod_eq_of_lt (by omega)
      rw [e]; simp only [h, decide_false, decide_eq_false_iff_not]; omega
  have e2 : a.ule (topU - c) = decide (a.toNat + c.toNat ≤ 18446744073709551615) := by
    unfold BitVec.ule
    rw [top_sub_nat]
    congr 1
    apply propext; omega
  rw [e1, e2]
  by_cases h : a.toNat + c.toNat ≤ 18446744073709551615
  · have h' : ¬ 18446744073709551616 ≤ a.toNat + c.toNat := by omega
    simp only [h, h', decide_true, decide_false, Bool.not_true]
  · have h' : 18446744073709551616 ≤ a.toNat + c.toNat := by omega
    simp only [h, h', decide_true, decide_false, Bool.not_false]

theorem addC_eq (a b c d : U) : addC a b c d = raddC a b c d := by
  unfold addC raddC
  rw [cyc_ne, carry_eq, carry_eq]
  cases a.ule (topU - c) <;> cases b.ule (topU - d) <;> rfl

theorem ult_ule (a d : U) : a.ult d = !(d.ule a) := by
  simp only [BitVec.ult, BitVec.ule]
  rw [Bool.eq_iff_iff, Bool.not_eq_true', decide_eq_true_eq, decide_eq_false_iff_not]
  omega

theorem subC_eq (a b c d : U) : subC a b c d = rsubC a b c d := by
  unfold subC rsubC
  rw [cyc_ne, ult_ule, ult_ule]
  cases d.ule a <;> cases c.ule b <;> rfl

theorem eq_zer (x : U) : (x == zer) = decide (x.toNat = 0) := by
  rw [Bool.eq_iff_iff, beq_iff_eq, decide_eq_true_eq, zer_eq]
  constructor
  · intro h; rw [h]; rfl
  · intro h; exact BitVec.eq_of_toNat_eq h

theorem timesU_iff (a b : U) : timesU a b = true ↔ a.toNat * b.toNat < 2 ^ 64 := by
  have hz : BitVec.ofInt 64 0 = zer := rfl
  have ht : (BitVec.ofInt 64 18446744073709551615).toNat = 18446744073709551615 := by decide
  unfold timesU
  rw [hz, eq_zer]
  by_cases h : a.toNat = 0
  · simp [h]
  · simp only [h, decide_false, cond_false, BitVec.ule, BitVec.toNat_udiv, ht, decide_eq_true_eq]
    rw [Nat.le_div_iff_mul_le (by omega), Nat.mul_comm]
    omega

theorem mulC_eq (b d : U) : mulC b d = !timesU b d := by
  have hb := b.isLt; have hd := d.isLt
  have hp : b.toNat * d.toNat < 2 ^ 64 * 2 ^ 64 := Nat.mul_lt_mul'' hb hd
  have hh : (mulHi b d).toNat = b.toNat * d.toNat / 2 ^ 64 := by
    unfold mulHi
    rw [BitVec.toNat_ofNat]
    exact Nat.mod_eq_of_lt (Nat.div_lt_of_lt_mul hp)
  have e : (zer == mn (mulHi b d) one') = decide ((mulHi b d).toNat = 0) := by
    rw [Bool.eq_iff_iff, beq_iff_eq, decide_eq_true_eq]
    have hm := mn_toNat (mulHi b d) one'
    rw [one_nat] at hm
    constructor
    · intro h; rw [← h, zer_nat] at hm; omega
    · intro h; apply BitVec.eq_of_toNat_eq; rw [hm, zer_nat]; omega
  unfold mulC
  rw [bne, e, hh]
  have h1 := timesU_iff b d
  cases ht : timesU b d
  · have : ¬ b.toNat * d.toNat < 2 ^ 64 := fun h => by rw [h1.2 h] at ht; cases ht
    have : b.toNat * d.toNat / 2 ^ 64 ≠ 0 := by
      intro h; rw [Nat.div_eq_zero_iff] at h; omega
    simp only [this, decide_false, Bool.not_false]
  · have : b.toNat * d.toNat < 2 ^ 64 := h1.1 ht
    rw [Nat.div_eq_of_lt this]; rfl

theorem e0_eq (c d : U) (h : c.ule d = true) : e0 c d = (d == zer) := by
  have h : c.toNat ≤ d.toNat := by simpa [BitVec.ule] using h
  unfold e0
  rw [eq_zer, eq_zer]
  by_cases hd : d.toNat = 0
  · have : c.toNat = 0 := by omega
    simp [hd, this]
  · simp [hd]

theorem e1_eq (c d : U) : e1 c d = (c == zer) := by
  unfold e1
  rw [eq_zer]
  by_cases h : c.toNat = 0
  · have h1 : c.ule zer = true := by simp [BitVec.ule, zer_nat, h]
    have h2 : zer.ule d = true := by simp [BitVec.ule, zer_nat]
    rw [h1, h2]; simp [h]
  · have h1 : c.ule zer = false := by simp [BitVec.ule, zer_nat]; omega
    rw [h1]; simp [h]

theorem te4_ok (a b c d : U) (h : c.ule d = true) : te4 a b c d = true := by
  have hz : BitVec.ofInt 64 0 = zer := rfl
  unfold te4 divLo divHi
  rw [e0_eq c d h, e1_eq, hz]
  exact eq2_refl _ _

theorem te5_ok (a b c d : U) (h : c.ule d = true) : te5 a b c d = true := by
  have hm : modC b c d = rmodC b c d := by unfold modC rmodC; rw [e0_eq c d h]
  have hh : modHi b c d = rmodHi b c d := by
    unfold modHi rmodHi
    rw [hm, e1_eq]
    cases rmodC b c d
    · simp only [cond_false]
      cases (c == zer)
      · simp only [cond_false]
        unfold mn
        cases h1 : (d - one').ult b <;> cases h2 : b.ult (d - one') <;> simp only [cond_true, cond_false]
        · apply BitVec.eq_of_toNat_eq
          simp only [BitVec.ult, decide_eq_false_iff_not] at h1 h2
          omega
        · simp only [BitVec.ult, decide_eq_true_eq] at h1 h2
          omega
      · rfl
    · rfl
  unfold te5
  rw [hm, hh]
  exact eq2_refl _ _

theorem lshC_eq (b n : U) : lshC b n = !timesU b (pow2 n) := by
  have hb := bl_64 b
  have hn := by63_lt n
  have hl := len64_toNat b
  have hs : (len64 b + by63 n).toNat = bl b.toNat + (by63 n).toNat := by rw [BitVec.toNat_add, hl]; omega
  have hi : (len64 b + by63 n).toInt = ((bl b.toNat + (by63 n).toNat : Nat) : Int) := by
    rw [BitVec.toInt_eq_toNat_cond, hs]; split <;> omega
  have h64 : (BitVec.ofInt 64 64).toInt = 64 := by decide
  have h1 := timesU_iff b (pow2 n)
  rw [pow2_toNat] at h1
  have e : lshC b n = decide (64 < bl b.toNat + (by63 n).toNat) := by
    unfold lshC BitVec.slt
    rw [hi, h64]
    congr 1
    apply propext; omega
  have key : b.toNat * 2 ^ (by63 n).toNat < 2 ^ 64 ↔ bl b.toNat + (by63 n).toNat ≤ 64 := by
    have e64 : (2 : Nat) ^ 64 = 2 ^ (64 - (by63 n).toNat) * 2 ^ (by63 n).toNat := by rw [← Nat.pow_add]; congr 1; omega
    rw [e64, Nat.mul_lt_mul_right (Nat.two_pow_pos _), ← bl_le]
    omega
  rw [e]
  cases ht : timesU b (pow2 n)
  · have : ¬ b.toNat * 2 ^ (by63 n).toNat < 2 ^ 64 := fun h => by rw [h1.2 h] at ht; cases ht
    rw [key] at this
    simp; omega
  · have := key.1 (h1.1 ht)
    simp; omega

theorem shl_mul (a n : U) : a <<< (by63 n).toNat = a * pow2 n := by
  apply BitVec.eq_of_toNat_eq
  rw [BitVec.toNat_shiftLeft, BitVec.toNat_mul, pow2_toNat, Nat.shiftLeft_eq]

theorem te6_ok (a b n : U) : te6 a b n = true := by
  unfold te6 lshLo lshHi
  rw [lshC_eq, shl_mul, shl_mul]
  exact eq2_refl _ _

theorem w32_mod (a : U) : a &&& w32 = a % p32 := by
  apply BitVec.eq_of_toNat_eq
  rw [BitVec.toNat_and, BitVec.toNat_umod, show w32.toNat = 2 ^ 32 - 1 by decide, show p32.toNat = 2 ^ 32 by decide, Nat.and_two_pow_sub_one_eq_mod]

theorem te7_ok (a b : U) : te7 a b = true := by
  have h : cutU a b = !rcutU a b := by
    unfold cutU rcutU
    rw [w32_mod, w32_mod]
    have h1 : (b - a).ule w32 = !(p32.ule (b - a)) := by
      simp only [BitVec.ule, show w32.toNat = 4294967295 by decide, show p32.toNat = 4294967296 by decide]
      rw [Bool.eq_iff_iff, Bool.not_eq_true', decide_eq_true_eq, decide_eq_false_iff_not]
      omega
    rw [h1]
    cases p32.ule (b - a) <;> cases (a % p32).ule (b % p32) <;> rfl
  unfold te7
  rw [h, w32_mod, w32_mod]
  cases rcutU a b <;> exact eq2_refl _ _

theorem within_eq (a b c d : U) (h : a.ule b = true) : isWithin a b c d = cond (c.ule a) (b.ule d) false := by
  have h : a.toNat ≤ b.toNat := by simpa [BitVec.ule] using h
  rw [Bool.eq_iff_iff, isWithin_iff]
  by_cases x : c.toNat ≤ a.toNat
  · simp [BitVec.ule, x]; omega
  · simp [BitVec.ule, x]

theorem tl1_ok (a b c d : U) (h : a.ule b = true) : tl1 a b c d = false := by
  unfold tl1
  rw [within_eq a b c d h]
  simp only [eq2_refl, beq_self_eq_true, Bool.not_true, cond_false]

theorem tl2a_ok (a b c d : U) : tl2a a b c d = false := by
  unfold tl2a te1 te2 te3
  rw [addC_eq, subC_eq, mulC_eq]
  simp only [eq2_refl, Bool.not_true, cond_false]

theorem tl2_ok (a b c d : U) (h : c.ule d = true) : tl2 a b c d = false := by
  unfold tl2
  rw [tl2a_ok, te4_ok a b c d h, te5_ok a b c d h]; rfl

theorem spanTells_true (a b c d n : U) : spanTells a b c d n = true := by
  unfold spanTells tl0
  cases h1 : a.ule b
  · rfl
  · cases h2 : c.ule d
    · rfl
    · rw [tl1_ok a b c d h1, tl2_ok a b c d h2]
      unfold tl3
      rw [te6_ok, te7_ok]
      simp only [eq2_refl, beq_self_eq_true, cond_true, cond_false, Bool.not_true]

theorem spanTellsK_true (a b c d : U) : spanTellsK a b c d = true := by
  unfold spanTellsK tl0 tlK
  cases h1 : a.ule b
  · rfl
  · cases h2 : c.ule d
    · rfl
    · rw [tl1_ok a b c d h1, tl2_ok a b c d h2, tl2a_ok, e0_eq c d h2, e1_eq, ← zer_eq, bne, bne]
      cases (d == zer) <;> cases (c == zer) <;> rfl
end Go.VE
