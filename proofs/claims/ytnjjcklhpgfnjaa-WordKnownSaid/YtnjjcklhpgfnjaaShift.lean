/- Shifts, bit by bit. -/
import Derived.Test.YtnjjcklhpgfnjaaBits
namespace Go.VE
open Go

theorem K_toInt (m : Int) (h1 : -4611686018427387904 ≤ m) (h2 : m ≤ 4611686018427387904) : (K m).toInt = m := by
  show (BitVec.ofInt 64 m).toInt = m
  rw [BitVec.toInt_ofInt]
  exact Int.bmod_eq_of_le (by omega) (by omega)
theorem K_sle (x y : Int) (h1 : -4611686018427387904 ≤ x) (h2 : x ≤ 4611686018427387904) (h3 : -4611686018427387904 ≤ y) (h4 : y ≤ 4611686018427387904) : (K x).sle (K y) = decide (x ≤ y) := by
  rw [BitVec.sle, K_toInt x h1 h2, K_toInt y h3 h4]
theorem K_slt (x y : Int) (h1 : -4611686018427387904 ≤ x) (h2 : x ≤ 4611686018427387904) (h3 : -4611686018427387904 ≤ y) (h4 : y ≤ 4611686018427387904) : (K x).slt (K y) = decide (x < y) := by
  rw [BitVec.slt, K_toInt x h1 h2, K_toInt y h3 h4]
theorem K_of (y : U) : y = K (y.toNat : Int) := by
  show y = BitVec.ofInt 64 (y.toNat : Int)
  rw [BitVec.ofInt_natCast]; simp
theorem K_sub (x y : Int) : K x - K y = K (x - y) := by
  show BitVec.ofInt 64 x - BitVec.ofInt 64 y = BitVec.ofInt 64 (x - y)
  apply BitVec.eq_of_toInt_eq
  rw [BitVec.toInt_sub]
  simp only [BitVec.toInt_ofInt]
  rw [Int.bmod_sub_bmod, Int.sub_bmod_bmod]
theorem K_add (x y : Int) : K x + K y = K (x + y) := by
  show BitVec.ofInt 64 x + BitVec.ofInt 64 y = BitVec.ofInt 64 (x + y)
  exact (BitVec.ofInt_add ..).symm

/-- What the document's shift asks at a bit. -/
def shF (n : Nat) (op a b : U) (i : Nat) : Bool :=
  let from_ := cond (op == K 96) (K (Int.ofNat i) - b % K (Int.ofNat n)) (K (Int.ofNat i) + b % K (Int.ofNat n))
  cond (cond (op == K 192) ((K (Int.ofNat n)).sle from_) false) (bitT a (n - 1))
    (cond (cond ((K 0).sle from_) (from_.slt (K (Int.ofNat n))) false) (cond (from_.slt (K 64)) ((a >>> from_.toNat) % K 2 == K 1) false) false)

theorem bitT_nat (a : U) (m : Nat) (h : m < 64) : ((a >>> m) % K 2 == K 1) = a.getLsbD m := by
  rw [← bitT_eq a m h, bitT, K_nat m (by omega)]

theorem mod_K (b : U) (n : Nat) (h : n = 32 ∨ n = 64) : b % K (Int.ofNat n) = K (Int.ofNat (b.toNat % n)) := by
  apply BitVec.eq_of_toNat_eq
  have : b.toNat % n < 64 := by rcases h with rfl | rfl <;> omega
  rw [K_nat _ (by omega), BitVec.toNat_umod, K_nat _ (by rcases h with rfl | rfl <;> omega)]

theorem shF_lsh (n : Nat) (h : n = 32 ∨ n = 64) (a b : U) (j : Nat) (hj : j < n) : shF n (K 96) a b j = (decide (b.toNat % n ≤ j) && a.getLsbD (j - b.toNat % n)) := by
  have hs : b.toNat % n < n := Nat.mod_lt _ (by omega)
  have hn : n ≤ 64 := by omega
  generalize hk : b.toNat % n = s at hs ⊢
  unfold shF
  have e1 : (K 96 == K 96) = true := by decide
  have e2 : (K 96 == K 192) = false := by decide
  rw [mod_K b n h, hk, e1, e2]
  simp only [cond_true, cond_false]
  rw [K_sub]
  by_cases hle : s ≤ j
  · have e : (Int.ofNat j - Int.ofNat s) = Int.ofNat (j - s) := by simp; omega
    rw [e]
    rw [K_sle 0 _ (by omega) (by omega) (by first | omega | (simp; done) | (simp; omega)) (by first | omega | (simp; done) | (simp; omega)), K_slt _ _ (by first | omega | (simp; done) | (simp; omega)) (by first | omega | (simp; done) | (simp; omega)) (by first | omega | (simp; done) | (simp; omega)) (by first | omega | (simp; done) | (simp; omega)), K_slt _ 64 (by first | omega | (simp; done) | (simp; omega)) (by first | omega | (simp; done) | (simp; omega)) (by omega) (by omega), K_nat _ (by omega)]
    have d1 : decide ((0 : Int) ≤ Int.ofNat (j - s)) = true := by simp
    have d2 : decide (Int.ofNat (j - s) < Int.ofNat n) = true := by simp; omega
    have d3 : decide (Int.ofNat (j - s) < 64) = true := by simp; omega
    rw [d1, d2, d3]
    simp only [cond_true]
    rw [bitT_nat a _ (by omega)]
    simp [hle]
  · rw [K_sle 0 _ (by omega) (by omega) (by first | omega | (simp; done) | (simp; omega)) (by first | omega | (simp; done) | (simp; omega))]
    have d1 : decide ((0 : Int) ≤ Int.ofNat j - Int.ofNat s) = false := by simp; omega
    rw [d1]
    simp [hle]

theorem shF_rsh (n : Nat) (h : n = 32 ∨ n = 64) (op a b : U) (ho : (op == K 96) = false) (j : Nat) (hj : j < n) : shF n op a b j =
    cond ((op == K 192) && decide (n ≤ j + b.toNat % n)) (a.getLsbD (n - 1)) (decide (j + b.toNat % n < n) && a.getLsbD (j + b.toNat % n)) := by
  have hs : b.toNat % n < n := Nat.mod_lt _ (by omega)
  have hn : n ≤ 64 := by omega
  generalize hk : b.toNat % n = s at hs ⊢
  unfold shF
  rw [mod_K b n h, hk, ho]
  simp only [cond_false]
  rw [K_add, bitT_eq a (n - 1) (by omega)]
  have e : (Int.ofNat j + Int.ofNat s) = Int.ofNat (j + s) := by simp
  rw [e]
  rw [K_sle 0 _ (by omega) (by omega) (by first | omega | (simp; done) | (simp; omega)) (by first | omega | (simp; done) | (simp; omega)), K_slt _ _ (by first | omega | (simp; done) | (simp; omega)) (by first | omega | (simp; done) | (simp; omega)) (by first | omega | (simp; done) | (simp; omega)) (by first | omega | (simp; done) | (simp; omega)), K_slt _ 64 (by first | omega | (simp; done) | (simp; omega)) (by first | omega | (simp; done) | (simp; omega)) (by omega) (by omega), K_nat _ (by omega),
    K_sle _ _ (by first | omega | (simp; done) | (simp; omega)) (by first | omega | (simp; done) | (simp; omega)) (by first | omega | (simp; done) | (simp; omega)) (by first | omega | (simp; done) | (simp; omega))]
  have d1 : decide ((0 : Int) ≤ Int.ofNat (j + s)) = true := by simp; omega
  have d4 : decide (Int.ofNat n ≤ Int.ofNat (j + s)) = decide (n ≤ j + s) := by congr 1; exact propext ⟨fun h => by have := Int.ofNat_le.1 h; omega, fun h => Int.ofNat_le.2 h⟩
  have d2 : decide (Int.ofNat (j + s) < Int.ofNat n) = decide (j + s < n) := by congr 1; exact propext ⟨fun h => by have := Int.ofNat_lt.1 h; omega, fun h => Int.ofNat_lt.2 h⟩
  rw [d1, d4, d2]
  simp only [cond_true]
  by_cases hlt : j + s < n
  · have d3 : decide (Int.ofNat (j + s) < 64) = true := by simp; omega
    have d5 : ¬ n ≤ j + s := by omega
    rw [d3, bitT_nat a _ (by omega)]
    simp [hlt, d5]
  · have d5 : n ≤ j + s := by omega
    simp [hlt, d5]

theorem toNat_mod_K (b : U) (n : Nat) (h : n = 32 ∨ n = 64) : (b % K (Int.ofNat n)).toNat = b.toNat % n := by
  rw [mod_K b n h, K_nat _ (by have : b.toNat % n < 64 := by rcases h with rfl | rfl <;> omega
                               omega)]

theorem sh_lsh64 (a b : U) : bsum (shF 64 (K 96) a b) 64 = a <<< (b % K 64).toNat := bsum_eq _ _ (by omega) _ fun j hj => by
  rw [shF_lsh 64 (.inr rfl) a b j hj, show (b % K 64).toNat = b.toNat % 64 from toNat_mod_K b 64 (.inr rfl), BitVec.getLsbD_shiftLeft]
  by_cases h : b.toNat % 64 ≤ j
  · have : ¬ j < b.toNat % 64 := by omega
    simp [h, this]
  · have : j < b.toNat % 64 := by omega
    simp [h, this]
theorem sh_rsh64 (a b : U) : bsum (shF 64 (K 112) a b) 64 = a >>> (b % K 64).toNat := bsum_eq _ _ (by omega) _ fun j hj => by
  rw [shF_rsh 64 (.inr rfl) (K 112) a b (by decide) j hj, show (b % K 64).toNat = b.toNat % 64 from toNat_mod_K b 64 (.inr rfl), BitVec.getLsbD_ushiftRight]
  have e : (K 112 == K 192) = false := by decide
  rw [e]
  simp only [Bool.false_and, cond_false]
  generalize b.toNat % 64 = s
  rw [Nat.add_comm s j]
  by_cases h : j + s < 64
  · simp [h, hj]
  · rw [BitVec.getLsbD_of_ge _ _ (by omega)]; simp [h]
theorem sh_arsh64 (a b : U) : bsum (shF 64 (K 192) a b) 64 = a.sshiftRight (b % K 64).toNat := bsum_eq _ _ (by omega) _ fun j hj => by
  rw [shF_rsh 64 (.inr rfl) (K 192) a b (by decide) j hj, show (b % K 64).toNat = b.toNat % 64 from toNat_mod_K b 64 (.inr rfl), BitVec.getLsbD_sshiftRight]
  have e : (K 192 == K 192) = true := by decide
  rw [e]
  generalize b.toNat % 64 = s
  rw [Nat.add_comm s j]
  have hj6 : ¬ 64 ≤ j := by omega
  by_cases h : j + s < 64
  · have h' : ¬ 64 ≤ j + s := by omega
    simp [h, hj, h', hj6]
  · have h' : 64 ≤ j + s := by omega
    simp [h, hj, h', hj6, BitVec.msb_eq_getLsbD_last]
theorem nrm_i32_bit (a : U) (j : Nat) (hj : j < 64) : (nrm .i32 a).getLsbD j = a.getLsbD (if j < 32 then j else 31) := by
  unfold nrm
  simp only
  rw [BitVec.getLsbD_signExtend, BitVec.msb_eq_getLsbD_last]
  by_cases h : j < 32
  · simp [h, hj]
  · simp [h, hj]
theorem sh_lsh32 (a b : U) : bsum (shF 32 (K 96) (nrm .u32 a) (nrm .u32 b)) 32 = nrm .u32 (a <<< (nrm .u32 b % K 32).toNat) := bsum_eq _ _ (by omega) _ fun j hj => by
  rw [nrm_u32_bit]
  by_cases hj3 : j < 32
  · rw [shF_lsh 32 (.inl rfl) _ _ j hj3, show (nrm .u32 b % K 32).toNat = (nrm .u32 b).toNat % 32 from toNat_mod_K _ 32 (.inl rfl), BitVec.getLsbD_shiftLeft, nrm_u32_bit]
    generalize (nrm .u32 b).toNat % 32 = s
    by_cases h : s ≤ j
    · have h1 : ¬ j < s := by omega
      have h2 : j - s < 32 := by omega
      simp [h, h1, h2, hj, hj3]
    · have h1 : j < s := by omega
      simp [h, h1]
  · simp [hj3]
theorem sh_rsh32 (a b : U) : bsum (shF 32 (K 112) (nrm .u32 a) (nrm .u32 b)) 32 = nrm .u32 (nrm .u32 a >>> (nrm .u32 b % K 32).toNat) := bsum_eq _ _ (by omega) _ fun j hj => by
  rw [nrm_u32_bit]
  by_cases hj3 : j < 32
  · rw [shF_rsh 32 (.inl rfl) (K 112) _ _ (by decide) j hj3, show (nrm .u32 b % K 32).toNat = (nrm .u32 b).toNat % 32 from toNat_mod_K _ 32 (.inl rfl), BitVec.getLsbD_ushiftRight, nrm_u32_bit]
    generalize (nrm .u32 b).toNat % 32 = s
    have e : (K 112 == K 192) = false := by decide
    rw [e, Nat.add_comm s j]
    by_cases h : j + s < 32 <;> simp [h, hj3, nrm_u32_bit]
  · simp [hj3]
theorem sh_arsh32 (a b : U) : bsum (shF 32 (K 192) (nrm .u32 a) (nrm .u32 b)) 32 = nrm .u32 (nrm .i32 ((nrm .i32 a).sshiftRight (b % K 32).toNat)) := bsum_eq _ _ (by omega) _ fun j hj => by
  rw [nrm_u32_bit]
  by_cases hj3 : j < 32
  · have hb : (nrm .u32 b).toNat % 32 = b.toNat % 32 := by
      unfold nrm
      simp only [BitVec.toNat_setWidth]
      omega
    rw [shF_rsh 32 (.inl rfl) (K 192) _ _ (by decide) j hj3, hb, nrm_i32_bit _ _ hj, if_pos hj3, show (b % K 32).toNat = b.toNat % 32 from toNat_mod_K _ 32 (.inl rfl), BitVec.getLsbD_sshiftRight, nrm_u32_bit, nrm_u32_bit]
    have hs : b.toNat % 32 < 32 := Nat.mod_lt _ (by omega)
    generalize b.toNat % 32 = s at hs
    have e : (K 192 == K 192) = true := by decide
    have hlt : s + j < 64 := by omega
    rw [e, Nat.add_comm j s, nrm_i32_bit _ _ hlt]
    have h64 : ¬ 64 ≤ j := by omega
    by_cases h : s + j < 32
    · have h' : ¬ 32 ≤ s + j := by omega
      simp [h, h', hj3, h64, hlt]
    · have h' : 32 ≤ s + j := by omega
      simp [h, h', hj3, h64, hlt]
  · simp [hj3]
end Go.VE
