/- The law WordBytes is true. -/
import Derived.Test.YtnjjcklhpgfnjaaBytLaw
namespace Go.WE
set_option linter.unusedVariables false
open Go Go.Proofs

theorem ofn_nat {n : Nat} (hn : n ≤ CC) : (BitVec.ofNat 64 n).toNat = n := by
  rw [BitVec.toNat_ofNat, Nat.mod_eq_of_lt (by unfold CC at hn; omega)]
theorem cutO_yes {n m : Nat} (hn : n ≤ CC) (h : n ≤ m) : cutO n m = true := by
  have e := ofn_nat hn
  unfold cutO
  rw [small_msb (by rw [e]; exact hn), e, ble_yes (Nat.zero_le n), ble_yes h]
  rfl
theorem keptO_yes {n : Nat} (hn : n ≤ CC) : keptO n = true := by
  unfold keptO
  rw [Nat.beq_refl, ble_yes (Nat.le_refl _), ble_yes (Nat.le_refl _), ble_yes hn]
  rfl
theorem newO_yes {n : Nat} (h0 : 0 < n) (hn : n ≤ CC) : newO n = true := by
  unfold newO
  rw [Nat.beq_refl, blt_yes h0, ble_yes hn]
  rfl
theorem small_yes {n : Nat} (hn : n ≤ CC) : Nat.blt n (2 ^ 63) = true := blt_yes (by unfold CC at hn; omega)
theorem pObl_yes {n s : Nat} {a : UU} (hs : isSize s = true) (hf : fitB n a s = true) (hn : n ≤ CC) : ∀ k, k ≤ s → pObl n s a k = true
  | 0, _ => by
    unfold pObl
    rw [ofn_nat hn, Nat.sub_zero, hf, ble_yes hn, hs]; rfl
  | k + 1, h => by
    have := fit_le hf
    unfold pObl
    rw [pObl_yes hs hf hn k (by omega), blt_yes (by omega)]
    rfl
theorem digit_nat {n s i : Nat} {a : UU} (hs : isSize s = true) (hf : fitB n a s = true) (hn : n ≤ CC) (hi : i < s) : (a + KK (Int.ofNat i)).toNat = a.toNat + i := by
  have h8 := (size_le hs).2
  have h := fit_le hf
  rw [BitVec.toNat_add, KK_nat (by omega), Nat.mod_eq_of_lt (by unfold CC at hn; omega)]
theorem rObl_yes {n s : Nat} {a : UU} (hs : isSize s = true) (hf : fitB n a s = true) (hn : n ≤ CC) : ∀ k, k ≤ s → rObl n s a k = true
  | 0, _ => by unfold rObl; rw [hf, ble_yes hn, hs]; rfl
  | k + 1, h => by
    have hle := fit_le hf
    have e := digit_nat hs hf hn (i := s - 1 - k) (by omega)
    unfold rObl
    rw [rObl_yes hs hf hn k (by omega), small_msb (by rw [e]; omega), e, blt_yes (by omega), blt_yes (by omega)]
    rfl

/-! ### what is kept -/

theorem lentB_mark (g : Nat → UU) (n j : Nat) (hj : j < 5) : vof .u8 (lentB g n (n + j)) = Ytnjjcklhpgfnjaa.Cop.markG j := by
  rw [lentB_vof g n (n + j) (by omega)]
  unfold Ytnjjcklhpgfnjaa.Cop.lentG Ytnjjcklhpgfnjaa.Cop.markG
  rw [if_neg (by omega), Nat.add_sub_cancel_left]
theorem lentB_low (g : Nat → UU) {n j : Nat} (hj : j < n) : lentB g n j = g j := by
  unfold lentB
  rw [blt_yes hj]
  rfl
theorem kept_same (g : Nat → UU) (n : Nat) : keptD n (lentB g n) g = true :=
  decide_eq_true ⟨fun j hj => by show vof .u8 (lentB g n j) = _; rw [lentB_low g hj], fun j hj => lentB_mark g n j hj⟩
theorem kept_put {g : Nat → UU} {n s p : Nat} {v : UU} (h8 : s ≤ 8) (hf : p + s ≤ n) : keptD n (xB (lentB g n) p v s) (putB g p s v) = true := by
  refine decide_eq_true ⟨fun j hj => ?_, fun j hj => ?_⟩
  · show vof .u8 (xB (lentB g n) p v s j) = vof .u8 (putB g p s v j)
    unfold putB
    by_cases h : p ≤ j ∧ j < p + s
    · obtain ⟨k, rfl⟩ : ∃ k, j = p + k := ⟨j - p, by omega⟩
      rw [xB_at _ p v s k (by omega) h8, ble_yes h.1, blt_yes h.2, Nat.add_sub_cancel_left]
      rfl
    · have hb : (Nat.ble p j && Nat.blt j (p + s)) = false := by
        cases e : (Nat.ble p j && Nat.blt j (p + s))
        · rfl
        · simp only [Bool.and_eq_true] at e
          exact absurd ⟨Nat.le_of_ble_eq_true e.1, Nat.le_of_ble_eq_true e.2⟩ h
      rw [xB_out _ p v s j (by omega), hb, lentB_low g hj]
      rfl
  · show vof .u8 (xB (lentB g n) p v s (n + j)) = _
    rw [xB_out _ p v s (n + j) (by omega)]
    exact lentB_mark g n j hj

/-! ### what is got -/

/-- A byte. -/
def byt (g : Nat → UU) (p i : Nat) : Nat := (nrm .u8 (g (p + i))).toNat
theorem byt_lt (g : Nat → UU) (p i : Nat) : byt g p i < 256 := by
  unfold byt
  simp [nrm]
  omega
def sumL (g : Nat → UU) (p : Nat) : Nat → Nat
  | 0 => 0
  | k + 1 => sumL g p k + byt g p k * 2 ^ (8 * k)
theorem sumL_lt (g : Nat → UU) (p : Nat) : ∀ k, sumL g p k < 2 ^ (8 * k)
  | 0 => Nat.one_pos
  | k + 1 => by
    have h1 := sumL_lt g p k
    have h2 := byt_lt g p k
    have e : 2 ^ (8 * (k + 1)) = 256 * 2 ^ (8 * k) := by rw [Nat.mul_add, Nat.pow_add, Nat.mul_comm]
    have h3 : byt g p k * 2 ^ (8 * k) ≤ 255 * 2 ^ (8 * k) := Nat.mul_le_mul_right _ (by omega)
    show sumL g p k + byt g p k * 2 ^ (8 * k) < _
    omega
theorem pow_small {k : Nat} (h : k ≤ 8) : 2 ^ (8 * k) ≤ 2 ^ 64 := Nat.pow_le_pow_right (by decide) (by omega)
theorem getB_sum (g : Nat → UU) (p : Nat) : ∀ k, k ≤ 8 → (getB g p k).toNat = sumL g p k
  | 0, _ => rfl
  | k + 1, h => by
    have h1 := sumL_lt g p k
    have h2 := sumL_lt g p (k + 1)
    have h3 := pow_small h
    unfold getB
    have h2 : sumL g p k + byt g p k * 2 ^ (8 * k) < 2 ^ (8 * (k + 1)) := h2
    rw [BitVec.toNat_or, getB_sum g p k (by omega), KK_nat' (by omega), BitVec.toNat_shiftLeft, Nat.shiftLeft_eq]
    show sumL g p k ||| byt g p k * 2 ^ (8 * k) % 2 ^ 64 = sumL g p k + byt g p k * 2 ^ (8 * k)
    rw [Nat.mod_eq_of_lt (by omega), Nat.or_comm, Nat.mul_comm, ← Nat.two_pow_add_eq_or_of_lt h1, Nat.add_comm]
def sumR (g : Nat → UU) (p : Nat) : Nat → Nat → Nat
  | _, 0 => 0
  | i, m + 1 => byt g p i + 256 * sumR g p (i + 1) m
theorem sumR_top (g : Nat → UU) (p : Nat) : ∀ m i, sumR g p i (m + 1) = sumR g p i m + byt g p (i + m) * 2 ^ (8 * m)
  | 0, i => by simp [sumR]
  | m + 1, i => by
    show byt g p i + 256 * sumR g p (i + 1) (m + 1) = byt g p i + 256 * sumR g p (i + 1) m + byt g p (i + (m + 1)) * 2 ^ (8 * (m + 1))
    have e : 2 ^ (8 * (m + 1)) = 256 * 2 ^ (8 * m) := by rw [Nat.mul_add, Nat.pow_add, Nat.mul_comm]
    rw [sumR_top g p m (i + 1), Nat.mul_add, e, Nat.add_right_comm i 1 m, Nat.add_assoc i m 1, Nat.mul_left_comm]
    omega
theorem sumR_sumL (g : Nat → UU) (p : Nat) : ∀ k, sumR g p 0 k = sumL g p k
  | 0 => rfl
  | k + 1 => by
    rw [sumR_top g p k 0, sumR_sumL g p k, Nat.zero_add]
    rfl
theorem sumR_lt (g : Nat → UU) (p : Nat) : ∀ m i, sumR g p i m < 2 ^ (8 * m)
  | 0, i => Nat.one_pos
  | m + 1, i => by
    have h1 := sumR_lt g p m (i + 1)
    have h2 := byt_lt g p i
    have e : 2 ^ (8 * (m + 1)) = 256 * 2 ^ (8 * m) := by rw [Nat.mul_add, Nat.pow_add, Nat.mul_comm]
    show byt g p i + 256 * sumR g p (i + 1) m < _
    omega
theorem digW_nat {n s i : Nat} {a : UU} (g : Nat → UU) (hs : isSize s = true) (hf : fitB n a s = true) (hn : n ≤ CC) (hi : i < s) : (digW g a i).toNat = byt g a.toNat i := by
  unfold digW byt
  rw [digit_nat hs hf hn hi, Nat.zero_add]
theorem refW_nat {n s : Nat} {a : UU} (g : Nat → UU) (hs : isSize s = true) (hf : fitB n a s = true) (hn : n ≤ CC) : ∀ m i, i + m ≤ s → (refW g a i m).toNat = sumR g a.toNat i m
  | 0, i, _ => rfl
  | 1, i, h => by
    have hb := byt_lt g a.toNat i
    show (KK 0 + digW g a i).toNat = byt g a.toNat i + 256 * 0
    rw [BitVec.toNat_add, digW_nat g hs hf hn (by omega), show (KK 0).toNat = 0 from rfl, Nat.zero_add, Nat.mod_eq_of_lt (by omega), Nat.mul_zero, Nat.add_zero]
  | m + 2, i, h => by
    have h8 := (size_le hs).2
    have h1 := sumR_lt g a.toNat (m + 2) i
    have h2 := pow_small (k := m + 2) (by omega)
    have h1 : byt g a.toNat i + 256 * sumR g a.toNat (i + 1) (m + 1) < 2 ^ (8 * (m + 2)) := h1
    show (KK 256 * refW g a (i + 1) (m + 1) + digW g a i).toNat = byt g a.toNat i + 256 * sumR g a.toNat (i + 1) (m + 1)
    rw [BitVec.toNat_add, BitVec.toNat_mul, refW_nat g hs hf hn (m + 1) (i + 1) (by omega), digW_nat g hs hf hn (by omega), show (KK 256).toNat = 256 from rfl, Nat.mod_add_mod, Nat.mod_eq_of_lt (by omega), Nat.add_comm]
theorem sumL_congr {g g' : Nat → UU} {p : Nat} : ∀ k, (∀ i, i < k → g (p + i) = g' (p + i)) → sumL g p k = sumL g' p k
  | 0, _ => rfl
  | k + 1, h => by
    unfold sumL byt
    rw [sumL_congr k (fun i hi => h i (by omega)), h k (by omega)]
theorem get_ref {n s : Nat} {a : UU} (g : Nat → UU) (hs : isSize s = true) (hf : fitB n a s = true) (hn : n ≤ CC) : getB (lentB g n) a.toNat s = refW g a 0 s := by
  have h8 := (size_le hs).2
  have hle := fit_le hf
  apply BitVec.eq_of_toNat_eq
  rw [getB_sum _ _ s h8, refW_nat g hs hf hn s 0 (by omega), sumR_sumL]
  exact sumL_congr s fun i hi => lentB_low g (by omega)

/-! ### where it does not fit -/

theorem there_bad {n : Nat} {a s : UU} (hn : n ≤ CC) (hb : pbad n a s = true) : thereD n a s = false := by
  cases h : thereD n a s
  · rfl
  · exfalso
    have h : Ytnjjcklhpgfnjaa.Cop.thereP n (vof .i64 a) (vof .i64 s) := of_decide_eq_true h
    rw [vof_int, vof_int] at h
    obtain ⟨h1, h2, h3, h4⟩ := h
    have hk : ∃ k, isSize k = true ∧ s = KK (Int.ofNat k) ∧ (k : Int) = s.toInt := by
      have e : ∀ k : Int, s.toInt = k → s = BitVec.ofInt 64 k := fun k e => by rw [← e, BitVec.ofInt_toInt]
      rcases h1 with h1 | h1 | h1 | h1
      · exact ⟨1, rfl, e 1 h1, h1.symm⟩
      · exact ⟨2, rfl, e 2 h1, h1.symm⟩
      · exact ⟨4, rfl, e 4 h1, h1.symm⟩
      · exact ⟨8, rfl, e 8 h1, h1.symm⟩
    obtain ⟨k, hk, rfl, hs⟩ := hk
    have ha : a.toInt = (a.toNat : Int) := by
      rw [BitVec.toInt_eq_toNat_cond] at h2 ⊢
      have := a.isLt
      split at h2 <;> split <;> omega
    have h8 := size_le hk
    have hslt : BitVec.slt a (KK 0) = false := by
      rw [BitVec.slt, show (KK 0).toInt = 0 from rfl]
      exact decide_eq_false (by omega)
    have hf : fitB n a k = true := by
      unfold fitB
      rw [show (0#64 : UU) = KK 0 from rfl, hslt, ble_yes (by omega)]
      rfl
    have hz : sizeOK (KK (Int.ofNat k)) = true := by rcases size_cases hk with rfl | rfl | rfl | rfl <;> decide
    have hp := pbadL_no h8.2 hf hn
    unfold pbadL at hp
    unfold pbad at hb
    rw [idx_yes hz] at hb
    rw [show cond (!true) true (BitVec.slt a (KK 0)) = BitVec.slt a (KK 0) from rfl, hp] at hb
    cases hb

theorem bytF_true {s n : Nat} {g : Nat → UU} {a v : UU} (hs : isSize s = true) (h0 : 0 < n) (hn : n ≤ CC) (hf : fitB n a s = true) : bytF s n g a v = (true, true) := by
  have h1 := newO_yes h0 hn
  have h2 := small_yes hn
  have h3 := cutO_yes (m := n + 5) hn (by omega)
  have h4 := pObl_yes hs hf hn s (Nat.le_refl _)
  have h5 := rObl_yes hs hf hn s (Nat.le_refl _)
  have h6 := keptO_yes hn
  have h7 : Nat.ble n CC = true := ble_yes hn
  have h8 : Nat.beq n n = true := Nat.beq_refl n
  have d1 := kept_same g n
  have d2 := kept_put (g := g) (n := n) (v := v) (size_le hs).2 (fit_le hf)
  unfold bytF
  simp only [get_ref g hs hf hn, h1, h2, h3, h4, h5, h6, h7, h8, d1, d2, hf, hs, bne_self_eq_false, beq_self_eq_true, Bool.not_true, cond_true, cond_false, Bool.and_self]
theorem bytN_true {n : Nat} {g : Nat → UU} {a s v : UU} (h0 : 0 < n) (hn : n ≤ CC) (hb : pbad n a s = true) : bytN n g a s v = (true, true) := by
  have h1 := newO_yes h0 hn
  have h2 := small_yes hn
  have h3 := cutO_yes (m := n + 5) hn (by omega)
  have h6 := keptO_yes hn
  have h7 : Nat.ble n CC = true := ble_yes hn
  have h8 : Nat.beq n n = true := Nat.beq_refl n
  have h9 : Nat.blt 0 n = true := blt_yes h0
  have d1 := kept_same g n
  have ht := there_bad hn hb
  unfold bytN
  simp only [ofn_nat hn, Nat.sub_zero, h1, h2, h3, h6, h7, h8, h9, d1, hb, ht, Bool.not_true, Bool.not_false, cond_true, cond_false, Bool.and_self]
theorem pbad_zero (a s : UU) : pbad 0 a s = true := pbad0_true a s
theorem bytE_true (a s : UU) : bytE 0 a s = true := by
  have hn : 0 ≤ CC := by unfold CC; omega
  have hb := pbad_zero a s
  have ht := there_bad hn hb
  have h3 := cutO_yes (m := 5) hn (by omega)
  have h2 := small_yes hn
  have h7 : Nat.ble 0 CC = true := ble_yes hn
  unfold bytE
  simp only [ofn_nat hn, Nat.sub_zero, h2, h3, h7, hb, ht]
  rfl
theorem bytZ_true (a s : UU) : bytZ a s = true := by
  have hn : 0 ≤ CC := by unfold CC; omega
  have hb := pbad_zero a s
  have ht := there_bad hn hb
  have h7 : Nat.ble 0 CC = true := ble_yes hn
  unfold bytZ
  simp only [h7, hb, ht]
  rfl
end Go.WE
