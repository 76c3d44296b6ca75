/- The document's loops: ones, bits, powers, halves: as they are written, and what they are. -/
import Derived.Test.YtkkkcocehkfbcaaLeastLaw
namespace Go.VE
open Go

theorem bl_zero : bl 0 = 0 := by simp [bl]
theorem bl_half (n : Nat) (h : n ≠ 0) : bl n = bl (n / 2) + 1 := by
  refine bl_le_iff_eq (fun j => ?_)
  cases j with
  | zero => simp; omega
  | succ j =>
    have := bl_le (n / 2) j
    rw [Nat.pow_succ]
    omega
theorem bl_pos (n : Nat) (h : n ≠ 0) : 0 < bl n := by rw [bl_half n h]; omega

/-! ### crossbarref04.Ones -/

def onesT : Nat → Int → U → U
  | 0, n, _ => BitVec.ofInt 64 n
  | k + 1, n, v => cond ((BitVec.ofInt 64 n).ult v) (onesT k (IntKind.u64.wrap (IntKind.u64.wrap (2 * n) + 1)) v) (BitVec.ofInt 64 n)
def onesK : Nat → Int → U → Bool
  | 0, _, _ => false
  | k + 1, n, v => cond ((BitVec.ofInt 64 n).ult v) (onesK k (IntKind.u64.wrap (IntKind.u64.wrap (2 * n) + 1)) v) true

theorem wrap_u64 (n : Nat) (h : n < 2 ^ 64) : IntKind.u64.wrap (n : Int) = n := by
  simp [IntKind.wrap, IntKind.bits, IntKind.signed]; omega

theorem ofInt_toNat (n : Nat) (h : n < 2 ^ 64) : (BitVec.ofInt 64 (n : Int)).toNat = n := by
  rw [BitVec.ofInt_natCast, BitVec.toNat_ofNat]; omega

theorem ones_loop (v : U) : ∀ (k j : Nat), j ≤ bl v.toNat → bl v.toNat < j + k → onesT k ((2 ^ j - 1 : Nat) : Int) v = onesB v ∧ onesK k ((2 ^ j - 1 : Nat) : Int) v = true := by
  intro k
  induction k with
  | zero => intro j h1 h2; omega
  | succ k ih =>
    intro j h1 h2
    have hv := bl_64 v
    have hp := Nat.two_pow_pos j
    have h64 : 2 ^ j ≤ 2 ^ 64 := Nat.pow_le_pow_right (by omega) (by omega)
    have hc : (BitVec.ofInt 64 ((2 ^ j - 1 : Nat) : Int)).ult v = decide (2 ^ j ≤ v.toNat) := by
      simp only [BitVec.ult, ofInt_toNat (2 ^ j - 1) (by omega)]
      congr 1
      apply propext; omega
    have hb := bl_le v.toNat j
    unfold onesT onesK
    rw [hc]
    by_cases h : 2 ^ j ≤ v.toNat
    · simp only [h, decide_true, cond_true]
      have hj : j < bl v.toNat := by omega
      have h64' : 2 ^ (j + 1) ≤ 2 ^ 64 := Nat.pow_le_pow_right (by omega) (by omega)
      have hs : 2 ^ (j + 1) = 2 ^ j * 2 := Nat.pow_succ 2 j
      have e1 : IntKind.u64.wrap (2 * ((2 ^ j - 1 : Nat) : Int)) = ((2 ^ (j + 1) - 2 : Nat) : Int) := by
        rw [show (2 * ((2 ^ j - 1 : Nat) : Int)) = ((2 ^ (j + 1) - 2 : Nat) : Int) by omega]
        exact wrap_u64 _ (by omega)
      have e2 : IntKind.u64.wrap (((2 ^ (j + 1) - 2 : Nat) : Int) + 1) = ((2 ^ (j + 1) - 1 : Nat) : Int) := by
        rw [show (((2 ^ (j + 1) - 2 : Nat) : Int) + 1) = ((2 ^ (j + 1) - 1 : Nat) : Int) by omega]
        exact wrap_u64 _ (by omega)
      rw [e1, e2]
      exact ih (j + 1) (by omega) (by omega)
    · simp only [h, decide_false, cond_false, and_true]
      have : bl v.toNat = j := by omega
      unfold onesB
      rw [this, BitVec.ofInt_natCast]

theorem onesT_eq (v : U) : onesT 66 0 v = onesB v ∧ onesK 66 0 v = true := ones_loop v 66 0 (by omega) (by have := bl_64 v; omega)

/-! ### crossbarref04.by -/

def byN (n : U) : U := ((n.srem (BitVec.ofInt 64 64)) + BitVec.ofInt 64 64).srem (BitVec.ofInt 64 64)
def byT : Nat → Int → Int → U → U
  | 0, _, p, _ => BitVec.ofInt 64 p
  | k + 1, i, p, n => cond ((BitVec.ofInt 64 i).slt n) (byT k (IntKind.i64.wrap (i + 1)) (IntKind.u64.wrap (2 * p)) n) (BitVec.ofInt 64 p)
def byK : Nat → Int → U → Bool
  | 0, _, _ => false
  | k + 1, i, n => cond ((BitVec.ofInt 64 i).slt n) (byK k (IntKind.i64.wrap (i + 1)) n) true

theorem ofInt_toInt (n : Nat) (h : n < 2 ^ 63) : (BitVec.ofInt 64 (n : Int)).toInt = n := by
  rw [BitVec.toInt_eq_toNat_cond, ofInt_toNat n (by omega)]
  split <;> omega

theorem byN_eq (n : U) : byN n = n &&& 63#64 := by
  have e64 : BitVec.ofInt 64 64 = 64#64 := by decide
  unfold byN
  rw [e64]
  apply BitVec.eq_of_toInt_eq
  have h1 : (64#64).toInt = 64 := by decide
  have hm : (n &&& 63#64).toNat = n.toNat % 64 := by
    rw [BitVec.toNat_and, show (63#64).toNat = 2 ^ 6 - 1 by decide, Nat.and_two_pow_sub_one_eq_mod]
  have hm' : (n &&& 63#64).toInt = (n.toNat % 64 : Nat) := by
    rw [BitVec.toInt_eq_toNat_cond, hm]
    split <;> omega
  rw [hm', BitVec.toInt_srem, BitVec.toInt_add, BitVec.toInt_srem, h1]
  have hn := BitVec.toInt_eq_toNat_cond n
  have hlt := n.isLt
  have hr : n.toInt.tmod 64 = n.toInt - 64 * (n.toInt.tdiv 64) := by rw [Int.tmod_def]
  have hb : (n.toInt.tmod 64 + 64).bmod (2 ^ 64) = n.toInt.tmod 64 + 64 := by
    rw [Int.bmod_def]
    have h1 := Int.tmod_lt_of_pos n.toInt (show (0 : Int) < 64 by omega)
    have h2 : -64 < n.toInt.tmod 64 := by
      by_cases h : 0 ≤ n.toInt
      · have := Int.tmod_nonneg 64 h; omega
      · rw [← Int.neg_neg n.toInt, Int.neg_tmod]
        have := Int.tmod_lt_of_pos (-n.toInt) (show (0 : Int) < 64 by omega)
        omega
    split <;> omega
  rw [hb]
  have h2 : 0 ≤ n.toInt.tmod 64 + 64 := by
    by_cases h : 0 ≤ n.toInt
    · have := Int.tmod_nonneg 64 h; omega
    · rw [← Int.neg_neg n.toInt, Int.neg_tmod]
      have := Int.tmod_lt_of_pos (-n.toInt) (show (0 : Int) < 64 by omega)
      omega
  rw [Int.tmod_eq_emod_of_nonneg h2]
  rw [hr]
  generalize n.toInt.tdiv 64 = q
  split at hn <;> omega

def by63 (n : U) : U := n &&& 63#64
def pow2 (n : U) : U := 1#64 <<< (n &&& 63#64).toNat

theorem by63_toNat (n : U) : (by63 n).toNat = n.toNat % 64 := by
  unfold by63
  rw [BitVec.toNat_and, show (63#64).toNat = 2 ^ 6 - 1 by decide, Nat.and_two_pow_sub_one_eq_mod]
theorem by63_lt (n : U) : (by63 n).toNat < 64 := by rw [by63_toNat]; omega
theorem by63_toInt (n : U) : (by63 n).toInt = ((by63 n).toNat : Int) := by
  have := by63_lt n
  rw [BitVec.toInt_eq_toNat_cond]; split <;> omega
theorem pow2_toNat (n : U) : (pow2 n).toNat = 2 ^ (by63 n).toNat := by
  have := by63_lt n
  show (1#64 <<< (by63 n).toNat).toNat = _
  rw [BitVec.toNat_shiftLeft, Nat.shiftLeft_eq, show (1#64).toNat = 1 by rfl, Nat.one_mul]
  exact Nat.mod_eq_of_lt (Nat.pow_lt_pow_right (by omega) (by omega))

theorem slt_lit (i : Nat) (n : U) (hi : i < 2 ^ 63) (hn : n.toInt = (n.toNat : Int)) : (BitVec.ofInt 64 (i : Int)).slt n = decide (i < n.toNat) := by
  simp only [BitVec.slt, ofInt_toInt i hi, hn]
  congr 1
  apply propext; omega

theorem wrap_i64 (n : Nat) (h : n < 2 ^ 63) : IntKind.i64.wrap (n : Int) = n := by
  simp [IntKind.wrap, IntKind.bits, IntKind.signed]; omega

theorem wrap2 (a : Nat) : IntKind.u64.wrap (2 * ((a % 2 ^ 64 : Nat) : Int)) = ((2 * a % 2 ^ 64 : Nat) : Int) := by
  simp [IntKind.wrap, IntKind.bits, IntKind.signed]; omega

theorem by_loop (n : U) (hn : n.toInt = (n.toNat : Int)) (hlt : n.toNat ≤ 64) : ∀ (k i : Nat), i ≤ n.toNat → n.toNat < i + k → byT k (i : Int) ((2 ^ i % 2 ^ 64 : Nat) : Int) n = BitVec.ofNat 64 (2 ^ n.toNat) ∧ byK k (i : Int) n = true := by
  intro k
  induction k with
  | zero => intro i h1 h2; omega
  | succ k ih =>
    intro i h1 h2
    unfold byT byK
    rw [slt_lit i n (by omega) hn]
    by_cases h : i < n.toNat
    · simp only [h, decide_true, cond_true]
      have e1 : IntKind.i64.wrap ((i : Int) + 1) = ((i + 1 : Nat) : Int) := wrap_i64 (i + 1) (by omega)
      rw [e1, wrap2, show 2 * 2 ^ i = 2 ^ (i + 1) by rw [Nat.pow_succ, Nat.mul_comm]]
      exact ih (i + 1) (by omega) (by omega)
    · simp only [h, decide_false, cond_false, and_true]
      have : n.toNat = i := by omega
      rw [this, BitVec.ofInt_natCast]
      apply BitVec.eq_of_toNat_eq
      rw [BitVec.toNat_ofNat, BitVec.toNat_ofNat, Nat.mod_mod]

theorem byT_eq (n : U) : byT 66 0 1 (byN n) = pow2 n ∧ byK 66 0 (byN n) = true := by
  have h := by_loop (by63 n) (by63_toInt n) (Nat.le_of_lt (by63_lt n)) 66 0 (by omega) (by have := by63_lt n; omega)
  rw [byN_eq]
  refine ⟨h.1.trans ?_, h.2⟩
  apply BitVec.eq_of_toNat_eq
  rw [pow2_toNat, BitVec.toNat_ofNat]
  exact Nat.mod_eq_of_lt (Nat.pow_lt_pow_right (by omega) (by63_lt n))

/-! ### crossbarref04.halved -/

def hlf (v : U) : U := (cond (v.srem (BitVec.ofInt 64 2) != BitVec.ofInt 64 0) (v - BitVec.ofInt 64 1) v).sdiv (BitVec.ofInt 64 2)
def halvT : Nat → Int → U → U → U
  | 0, _, v, _ => v
  | k + 1, i, v, n => cond ((BitVec.ofInt 64 i).slt n) (halvT k (IntKind.i64.wrap (i + 1)) (hlf v) n) v
def halvK : Nat → Int → U → Bool
  | 0, _, _ => false
  | k + 1, i, n => cond ((BitVec.ofInt 64 i).slt n) (halvK k (IntKind.i64.wrap (i + 1)) n) true

/-! ### crossbarref04.Bits -/

def hf (v : U) : U := v / BitVec.ofInt 64 2
def bitLo : Nat → U → U → U
  | 0, lo, _ => lo
  | k + 1, lo, hi => cond (lo != hi) (bitLo k (hf lo) (hf hi)) lo
def bitN : Nat → Int → U → U → U
  | 0, n, _, _ => BitVec.ofInt 64 n
  | k + 1, n, lo, hi => cond (lo != hi) (bitN k (IntKind.i64.wrap (n + 1)) (hf lo) (hf hi)) (BitVec.ofInt 64 n)
def bitK : Nat → U → U → Bool
  | 0, _, _ => false
  | k + 1, lo, hi => cond (lo != hi) (bitK k (hf lo) (hf hi)) true
def dbl : Nat → Int → U → U → U
  | 0, _, lo, _ => lo
  | k + 1, i, lo, n => cond ((BitVec.ofInt 64 i).slt n) (dbl k (IntKind.i64.wrap (i + 1)) (BitVec.ofInt 64 2 * lo) n) lo
def dblK : Nat → Int → U → Bool → Bool
  | 0, _, _, _ => false
  | k + 1, i, n, q => cond ((BitVec.ofInt 64 i).slt n) (dblK k (IntKind.i64.wrap (i + 1)) n q) q

theorem hf_toNat (v : U) : (hf v).toNat = v.toNat / 2 := by
  unfold hf
  rw [BitVec.toNat_udiv, show (BitVec.ofInt 64 2).toNat = 2 by decide]

theorem bits_loop : ∀ (k : Nat) (lo hi : U), bl (lo ^^^ hi).toNat < k →
    bitLo k lo hi = lo >>> bl (lo ^^^ hi).toNat ∧ bitK k lo hi = true ∧ ∀ n : Nat, n + bl (lo ^^^ hi).toNat < 2 ^ 63 → bitN k (n : Int) lo hi = BitVec.ofNat 64 (n + bl (lo ^^^ hi).toNat) := by
  intro k
  induction k with
  | zero => intro lo hi h; omega
  | succ k ih =>
    intro lo hi h
    by_cases e : lo = hi
    · subst e
      have hz : bl (lo ^^^ lo).toNat = 0 := by simp [bl]
      refine ⟨?_, ?_, fun n _ => ?_⟩
      · rw [hz]; simp [bitLo]
      · simp [bitK]
      · rw [hz]; simp only [bitN, bne_self_eq_false, cond_false, Nat.add_zero]; rw [BitVec.ofInt_natCast]
    · have hne : (lo ^^^ hi).toNat ≠ 0 := by
        intro h0
        rw [BitVec.toNat_xor, xor_zero] at h0
        exact e (BitVec.eq_of_toNat_eq h0)
      have hx : (hf lo ^^^ hf hi).toNat = (lo ^^^ hi).toNat / 2 := by
        rw [BitVec.toNat_xor, hf_toNat, hf_toNat, BitVec.toNat_xor]
        have := xor_div lo.toNat hi.toNat 1
        rw [Nat.pow_one] at this
        exact this.symm
      have hb := bl_half _ hne
      rw [← hx] at hb
      have hc : (lo != hi) = true := by simpa using e
      obtain ⟨i1, i2, i3⟩ := ih (hf lo) (hf hi) (by omega)
      refine ⟨?_, ?_, fun n hn => ?_⟩
      · simp only [bitLo, hc, cond_true]
        rw [i1, hb]
        apply BitVec.eq_of_toNat_eq
        rw [BitVec.toNat_ushiftRight, BitVec.toNat_ushiftRight, hf_toNat, Nat.shiftRight_eq_div_pow, Nat.shiftRight_eq_div_pow, Nat.div_div_eq_div_mul, Nat.pow_succ, Nat.mul_comm 2]
      · simp only [bitK, hc, cond_true]
        exact i2
      · simp only [bitN, hc, cond_true]
        have e1 : IntKind.i64.wrap ((n : Int) + 1) = ((n + 1 : Nat) : Int) := wrap_i64 (n + 1) (by omega)
        rw [e1, i3 (n + 1) (by omega), hb]
        congr 1
        omega

theorem dbl_loop (n : U) (hn : n.toInt = (n.toNat : Int)) (hlt : n.toNat ≤ 64) (q : Bool) : ∀ (k i : Nat) (lo : U), i ≤ n.toNat → n.toNat < i + k → dbl k (i : Int) lo n = lo <<< (n.toNat - i) ∧ dblK k (i : Int) n q = q := by
  intro k
  induction k with
  | zero => intro i lo h1 h2; omega
  | succ k ih =>
    intro i lo h1 h2
    unfold dbl dblK
    rw [slt_lit i n (by omega) hn]
    by_cases h : i < n.toNat
    · simp only [h, decide_true, cond_true]
      have e1 : IntKind.i64.wrap ((i : Int) + 1) = ((i + 1 : Nat) : Int) := wrap_i64 (i + 1) (by omega)
      rw [e1]
      obtain ⟨h3, h4⟩ := ih (i + 1) (BitVec.ofInt 64 2 * lo) (by omega) (by omega)
      refine ⟨h3.trans ?_, h4⟩
      apply BitVec.eq_of_toNat_eq
      obtain ⟨j, hj⟩ : ∃ j, n.toNat - i = j + 1 := ⟨n.toNat - i - 1, by omega⟩
      rw [hj, show n.toNat - (i + 1) = j by omega, BitVec.toNat_shiftLeft, BitVec.toNat_shiftLeft, BitVec.toNat_mul, show (BitVec.ofInt 64 2).toNat = 2 by decide, Nat.shiftLeft_eq, Nat.shiftLeft_eq, Nat.mod_mul_mod]
      congr 1
      rw [Nat.pow_succ, Nat.mul_comm 2, Nat.mul_assoc, Nat.mul_comm 2]
    · simp only [h, decide_false, cond_false, and_true]
      have : n.toNat - i = 0 := by omega
      rw [this]; simp

def bitsN (lo hi : U) : U := bitN 66 0 lo hi
def bitsLo (lo hi : U) : U := dbl 66 0 (bitLo 66 lo hi) (bitsN lo hi)
def bitsMask (lo hi : U) : U := byT 66 0 1 (bitsN lo hi) - BitVec.ofInt 64 1
def bitsK (lo hi : U) : Bool := dblK 66 0 (bitsN lo hi) (bitK 66 lo hi)

theorem bits_eq (lo hi : U) : bitsLo lo hi = bVal lo hi ∧ bitsMask lo hi = bMask lo hi ∧ bitsK lo hi = true := by
  have h64 := bl_64 (lo ^^^ hi)
  obtain ⟨h1, h2, h3⟩ := bits_loop 66 lo hi (by omega)
  have hN : bitsN lo hi = BitVec.ofNat 64 (bl (lo ^^^ hi).toNat) := by
    have := h3 0 (by omega)
    rw [Nat.zero_add] at this
    exact this
  have hNn : (bitsN lo hi).toNat = bl (lo ^^^ hi).toNat := by rw [hN, BitVec.toNat_ofNat]; omega
  have hNi : (bitsN lo hi).toInt = ((bitsN lo hi).toNat : Int) := by rw [BitVec.toInt_eq_toNat_cond]; split <;> omega
  obtain ⟨d1, d2⟩ := dbl_loop (bitsN lo hi) hNi (by omega) (bitK 66 lo hi) 66 0 (bitLo 66 lo hi) (by omega) (by omega)
  obtain ⟨p1, _⟩ := by_loop (bitsN lo hi) hNi (by omega) 66 0 (by omega) (by omega)
  refine ⟨?_, ?_, ?_⟩
  · refine d1.trans ?_
    rw [h1, hNn, Nat.sub_zero]
    exact (cut_shift lo (lo ^^^ hi)).symm
  · unfold bitsMask bMask onesB
    have e : byT 66 0 1 (bitsN lo hi) = BitVec.ofNat 64 (2 ^ (bitsN lo hi).toNat) := p1
    rw [e, hNn]
    have hp := Nat.two_pow_pos (bl (lo ^^^ hi).toNat)
    apply BitVec.eq_of_toNat_eq
    rw [BitVec.toNat_sub, BitVec.toNat_ofNat, BitVec.toNat_ofNat, show (BitVec.ofInt 64 1).toNat = 1 by decide]
    generalize 2 ^ bl (lo ^^^ hi).toNat = q at *
    omega
  · exact d2.trans h2

theorem hlf_toInt (v : U) : (hlf v).toInt = v.toInt / 2 := by
  have h2 : (BitVec.ofInt 64 2).toInt = 2 := by decide
  have hv1 := BitVec.toInt_lt (x := v)
  have hv2 := BitVec.le_toInt v
  have hdiv : ∀ x : U, (x.sdiv (BitVec.ofInt 64 2)).toInt = x.toInt.tdiv 2 := by
    intro x
    have hx1 := BitVec.toInt_lt (x := x)
    have hx2 := BitVec.le_toInt x
    rw [BitVec.toInt_sdiv, h2, Int.bmod_def]
    by_cases h : 0 ≤ x.toInt
    · rw [Int.tdiv_eq_ediv_of_nonneg h]; split <;> omega
    · have e : x.toInt.tdiv 2 = -((-x.toInt) / 2) := by
        have h3 : x.toInt = -(-x.toInt) := by omega
        rw [h3, Int.neg_tdiv, Int.tdiv_eq_ediv_of_nonneg (by omega)]; simp
      rw [e]; split <;> omega
  have hrem : (v.srem (BitVec.ofInt 64 2)).toInt = v.toInt.tmod 2 := by rw [BitVec.toInt_srem, h2]
  have hz : (v.srem (BitVec.ofInt 64 2) != BitVec.ofInt 64 0) = decide (v.toInt.tmod 2 ≠ 0) := by
    have hzz : (BitVec.ofInt 64 0 : U).toInt = 0 := by decide
    rw [Bool.eq_iff_iff]
    simp only [bne_iff_ne, ne_eq, decide_eq_true_eq]
    rw [← hrem]
    refine not_congr ⟨fun h => by rw [h, hzz], fun h => BitVec.eq_of_toInt_eq (by rw [h, hzz])⟩
  have htm : v.toInt.tmod 2 = if 0 ≤ v.toInt then v.toInt % 2 else -((-v.toInt) % 2) := by
    split
    · rename_i h; exact Int.tmod_eq_emod_of_nonneg h
    · have h3 : v.toInt = -(-v.toInt) := by omega
      rw [h3, Int.neg_tmod, Int.tmod_eq_emod_of_nonneg (by omega)]; simp
  unfold hlf
  rw [hz]
  by_cases h : v.toInt.tmod 2 = 0
  · have hd : decide (v.toInt.tmod 2 ≠ 0) = false := by simp [h]
    rw [hd, cond_false, hdiv]
    rw [htm] at h
    by_cases h0 : 0 ≤ v.toInt
    · rw [Int.tdiv_eq_ediv_of_nonneg h0]
    · have e : v.toInt.tdiv 2 = -((-v.toInt) / 2) := by
        have h3 : v.toInt = -(-v.toInt) := by omega
        rw [h3, Int.neg_tdiv, Int.tdiv_eq_ediv_of_nonneg (by omega)]; simp
      rw [e]
      split at h <;> omega
  · have hd : decide (v.toInt.tmod 2 ≠ 0) = true := by simp [h]
    rw [hd, cond_true, hdiv]
    have h1 : (BitVec.ofInt 64 1 : U).toInt = 1 := by decide
    rw [htm] at h
    have hs : (v - BitVec.ofInt 64 1).toInt = v.toInt - 1 := by
      rw [BitVec.toInt_sub, h1, Int.bmod_def]
      split at h <;> split <;> omega
    rw [hs]
    by_cases h0 : 0 ≤ v.toInt - 1
    · rw [Int.tdiv_eq_ediv_of_nonneg h0]
      split at h <;> omega
    · have e : (v.toInt - 1).tdiv 2 = -((-(v.toInt - 1)) / 2) := by
        have h3 : v.toInt - 1 = -(-(v.toInt - 1)) := by omega
        rw [h3, Int.neg_tdiv, Int.tdiv_eq_ediv_of_nonneg (by omega)]; simp
      rw [e]
      split at h <;> omega

theorem halv_loop (n : U) (hn : n.toInt = (n.toNat : Int)) (hlt : n.toNat ≤ 64) : ∀ (k i : Nat) (v : U), i ≤ n.toNat → n.toNat < i + k → halvT k (i : Int) v n = v.sshiftRight (n.toNat - i) ∧ halvK k (i : Int) n = true := by
  intro k
  induction k with
  | zero => intro i lo h1 h2; omega
  | succ k ih =>
    intro i v h1 h2
    unfold halvT halvK
    rw [slt_lit i n (by omega) hn]
    by_cases h : i < n.toNat
    · simp only [h, decide_true, cond_true]
      have e1 : IntKind.i64.wrap ((i : Int) + 1) = ((i + 1 : Nat) : Int) := wrap_i64 (i + 1) (by omega)
      rw [e1]
      obtain ⟨h3, h4⟩ := ih (i + 1) (hlf v) (by omega) (by omega)
      refine ⟨h3.trans ?_, h4⟩
      obtain ⟨j, hj⟩ : ∃ j, n.toNat - i = j + 1 := ⟨n.toNat - i - 1, by omega⟩
      apply BitVec.eq_of_toInt_eq
      rw [hj, show n.toNat - (i + 1) = j by omega, BitVec.toInt_sshiftRight, BitVec.toInt_sshiftRight, hlf_toInt, Int.shiftRight_eq_div_pow, Int.shiftRight_eq_div_pow, Int.ediv_ediv_of_nonneg (by omega)]
      congr 1
      rw [Nat.pow_succ, Nat.mul_comm]
      simp
    · simp only [h, decide_false, cond_false, and_true]
      have : n.toNat - i = 0 := by omega
      rw [this]; simp

end Go.VE
