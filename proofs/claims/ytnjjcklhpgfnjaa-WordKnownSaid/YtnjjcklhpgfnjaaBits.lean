/- Numbers, bit by bit: sums of powers, and what they are. -/
import Derived.Test.YtnjjcklhpgfnjaaVE12
namespace Go.VE
open Go
abbrev U := BitVec 64
abbrev K (n : Int) : U := BitVec.ofInt 64 n

/-- The bit `i` of a number, as the document asks for it. -/
def bitT (a : U) (i : Nat) : Bool := (a >>> (K (Int.ofNat i)).toNat) % K 2 == K 1
/-- The number whose bits below `n` are these. -/
def bsum (f : Nat → Bool) : Nat → U
  | 0 => K 0
  | n + 1 => cond (f n) (bsum f n + K (Int.ofNat (2 ^ n))) (bsum f n)

theorem K_nat (n : Nat) (h : n < 2 ^ 64) : (K (Int.ofNat n)).toNat = n := by
  show (BitVec.ofInt 64 (n : Int)).toNat = n
  rw [BitVec.ofInt_natCast, BitVec.toNat_ofNat]; exact Nat.mod_eq_of_lt h
theorem K_two (n : Nat) : K (Int.ofNat (2 ^ n)) = BitVec.twoPow 64 n := by
  show BitVec.ofInt 64 ((2 ^ n : Nat) : Int) = _
  rw [BitVec.ofInt_natCast]
  apply BitVec.eq_of_toNat_eq
  rw [BitVec.toNat_ofNat, BitVec.toNat_twoPow]
theorem K1 : K 1 = 1#64 := by decide
theorem K2 : K 2 = 2#64 := by decide
theorem K0 : K 0 = 0#64 := by decide

theorem bitT_eq (a : U) (i : Nat) (h : i < 64) : bitT a i = a.getLsbD i := by
  unfold bitT
  rw [K_nat i (by omega), K1, K2]
  rw [Bool.eq_iff_iff, beq_iff_eq]
  rw [← BitVec.toNat_inj, BitVec.toNat_umod, BitVec.toNat_ushiftRight, Nat.shiftRight_eq_div_pow]
  rw [BitVec.getLsbD, Nat.testBit_eq_decide_div_mod_eq, decide_eq_true_iff]
  rfl

theorem bsum_getLsbD (f : Nat → Bool) : ∀ (n : Nat), n ≤ 64 → ∀ j, (bsum f n).getLsbD j = (decide (j < n) && f j)
  | 0, _, j => by simp [bsum]
  | n + 1, h, j => by
    have ih := bsum_getLsbD f n (by omega)
    unfold bsum
    cases hf : f n
    · rw [cond_false, ih]
      by_cases e : j = n
      · subst e; simp [hf]
      · have : decide (j < n) = decide (j < n + 1) := by congr 1; exact propext ⟨fun h => by omega, fun h => by omega⟩
        rw [this]
    · rw [cond_true, K_two]
      have hz : bsum f n &&& BitVec.twoPow 64 n = 0#64 := by
        apply BitVec.eq_of_getLsbD_eq
        intro i hi
        rw [BitVec.getLsbD_and, ih, BitVec.getLsbD_twoPow]
        by_cases e : n = i
        · subst e; simp
        · simp [e]
      rw [BitVec.add_eq_or_of_and_eq_zero _ _ hz, BitVec.getLsbD_or, ih, BitVec.getLsbD_twoPow]
      by_cases e : j = n
      · subst e
        have hj : j < 64 := by omega
        simp [hj, hf]
      · have e1 : decide (j < n) = decide (j < n + 1) := by congr 1; exact propext ⟨fun h => by omega, fun h => by omega⟩
        have e2 : ¬ n = j := fun h => e h.symm
        rw [e1]; simp [e2]

/-- Two numbers of the same bits. -/
theorem bsum_eq (f : Nat → Bool) (n : Nat) (hn : n ≤ 64) (x : U) (h : ∀ j, j < 64 → x.getLsbD j = (decide (j < n) && f j)) : bsum f n = x :=
  BitVec.eq_of_getLsbD_eq fun j hj => by rw [bsum_getLsbD f n hn, h j hj]

theorem nrm_u32_bit (a : U) (j : Nat) : (nrm .u32 a).getLsbD j = (decide (j < 32) && a.getLsbD j) := by
  unfold nrm
  simp only [BitVec.getLsbD_setWidth]
  by_cases h : j < 32
  · have : j < 64 := by omega
    simp [h, this]
  · simp [h]

theorem cut64 (a : U) : bsum (bitT a) 64 = a := bsum_eq _ _ (by omega) _ fun j hj => by rw [bitT_eq a j hj]; simp [hj]
theorem cut32 (a : U) : bsum (bitT a) 32 = nrm .u32 a := bsum_eq _ _ (by omega) _ fun j hj => by rw [bitT_eq a j hj, nrm_u32_bit]
def cut16 (a : U) : U := (a.setWidth 16).setWidth 64
theorem cut16_eq (a : U) : bsum (bitT a) 16 = cut16 a := bsum_eq _ _ (by omega) _ fun j hj => by
  rw [bitT_eq a j hj]; unfold cut16
  simp only [BitVec.getLsbD_setWidth]
  by_cases h : j < 16
  · have : j < 64 := by omega
    simp [h, this]
  · simp [h]

/-! ### Or, And, Xor -/
def bwF (op a b : U) (i : Nat) : Bool :=
  cond (cond (cond (op == K 64) (cond (bitT a i) true (bitT b i)) false) true (cond (cond (op == K 80) (bitT a i) false) (bitT b i) false)) true
    (cond (op == K 160) (!(bitT a i == bitT b i)) false)
def bw (op a b : U) : U := cond (op == K 64) (a ||| b) (cond (op == K 80) (a &&& b) (cond (op == K 160) (a ^^^ b) (K 0)))

theorem k64_80 : (K 64 == K 80) = false := by decide
theorem k64_160 : (K 64 == K 160) = false := by decide
theorem k80_64 : (K 80 == K 64) = false := by decide
theorem k80_160 : (K 80 == K 160) = false := by decide
theorem k160_64 : (K 160 == K 64) = false := by decide
theorem k160_80 : (K 160 == K 80) = false := by decide

theorem bw_eq (op a b : U) : bsum (bwF op a b) 64 = bw op a b := by
  refine bsum_eq _ _ (by omega) _ fun j hj => ?_
  unfold bwF
  rw [bitT_eq a j hj, bitT_eq b j hj]
  have hd : decide (j < 64) = true := by simpa using hj
  rw [hd, Bool.true_and]
  unfold bw
  cases h1 : op == K 64
  · cases h2 : op == K 80
    · cases h3 : op == K 160
      · simp
      · simp only [cond_false, cond_true, BitVec.getLsbD_xor]
        cases a.getLsbD j <;> cases b.getLsbD j <;> rfl
    · have e : op = K 80 := by simpa using h2
      subst e
      rw [k80_160]
      simp only [cond_false, cond_true, BitVec.getLsbD_and]
      cases a.getLsbD j <;> cases b.getLsbD j <;> rfl
  · have e : op = K 64 := by simpa using h1
    subst e
    rw [k64_80, k64_160]
    simp only [cond_false, cond_true, BitVec.getLsbD_or]
    cases a.getLsbD j <;> cases b.getLsbD j <;> rfl
end Go.VE
