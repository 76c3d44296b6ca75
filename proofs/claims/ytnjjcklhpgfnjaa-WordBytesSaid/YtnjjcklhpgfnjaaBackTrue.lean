/- The law WordBack is true. -/
import Derived.Test.YtnjjcklhpgfnjaaBackLaw
namespace Go.WE
set_option linter.unusedVariables false
open Go Go.Proofs

theorem sle_not (x y : UU) : BitVec.sle x y = !(BitVec.slt y x) := by
  rw [BitVec.sle, BitVec.slt, Bool.eq_iff_iff]
  simp
theorem size_of {s : UU} (h : sizeOK s = true) : ∃ k, isSize k = true ∧ s = KK (Int.ofNat k) := by
  unfold sizeOK at h
  by_cases h1 : s = KK 1
  · exact ⟨1, rfl, h1⟩
  by_cases h2 : s = KK 2
  · exact ⟨2, rfl, h2⟩
  by_cases h4 : s = KK 4
  · exact ⟨4, rfl, h4⟩
  by_cases h8 : s = KK 8
  · exact ⟨8, rfl, h8⟩
  have e1 : (s == KK 1) = false := by simpa using h1
  have e2 : (s == KK 2) = false := by simpa using h2
  have e4 : (s == KK 4) = false := by simpa using h4
  have e8 : (s == KK 8) = false := by simpa using h8
  rw [e1, e2, e4, e8] at h
  cases h
theorem idx_yes {s : UU} (h : sizeOK s = true) : BitVec.sle (KK 0) (idxB s) = true := by
  obtain ⟨k, hk, rfl⟩ := size_of h
  rcases size_cases hk with rfl | rfl | rfl | rfl <;> decide
theorem idx_no {s : UU} (h : sizeOK s = false) : BitVec.sle (KK 0) (idxB s) = false := by
  unfold sizeOK at h
  have e1 : (s == KK 1) = false := by cases hh : s == KK 1 <;> simp_all
  have e2 : (s == KK 2) = false := by cases hh : s == KK 2 <;> simp_all
  have e4 : (s == KK 4) = false := by cases hh : s == KK 4 <;> simp_all
  have e8 : (s == KK 8) = false := by cases hh : s == KK 8 <;> simp_all
  unfold idxB
  rw [e1, e2, e4, e8]
  decide
def badG (d a s : UU) : Bool := cond (cond (!(BitVec.sle (KK 0) (idxB s))) true (BitVec.slt a (KK 0))) true (BitVec.slt d a)
theorem fits_no {sl : Bool} {d a s : UU} (h : badG d a s = true) : fits4 sl d a s = false := by
  unfold fits4
  cases hs : sizeOK s
  · rfl
  · unfold badG at h
    rw [idx_yes hs] at h
    rw [sle_not, sle_not]
    cases h1 : BitVec.slt a (KK 0)
    · rw [h1] at h
      have h : BitVec.slt d a = true := h
      rw [h]
      cases sl <;> rfl
    · rfl
theorem bad_no {n : Nat} {a s : UU} (hn : n ≤ CC) (h : badG (BitVec.ofNat 64 n - s) a s = false) : ∃ k, isSize k = true ∧ s = KK (Int.ofNat k) ∧ fitB n a k = true := by
  unfold badG at h
  cases hs : sizeOK s
  · rw [idx_no hs] at h; cases h
  · rw [idx_yes hs] at h
    cases h1 : BitVec.slt a (KK 0)
    · rw [h1] at h
      have h : BitVec.slt (BitVec.ofNat 64 n - s) a = false := h
      obtain ⟨k, hk, rfl⟩ := size_of hs
      refine ⟨k, hk, rfl, ?_⟩
      have k8 := size_le hk
      have ha : 0 ≤ a.toInt := by
        rw [BitVec.slt, decide_eq_false_iff_not] at h1
        have : (KK 0).toInt = 0 := rfl
        omega
      have hq : (KK (Int.ofNat k)).toInt = (k : Int) := by rw [small_int (by rw [KK_nat k8.2]; unfold CC; omega), KK_nat k8.2]
      have hN : (BitVec.ofNat 64 n).toInt = (n : Int) := by
        have e : (BitVec.ofNat 64 n).toNat = n := by rw [BitVec.toNat_ofNat, Nat.mod_eq_of_lt (by unfold CC at hn; omega)]
        rw [small_int (by rw [e]; exact hn), e]
      rw [BitVec.slt, decide_eq_false_iff_not, BitVec.toInt_sub, hq, hN] at h
      have hb : ((n : Int) - k).bmod (2 ^ 64) = (n : Int) - k := by
        unfold CC at hn
        rw [Int.bmod_def]
        split <;> omega
      rw [hb] at h
      have e : a.toInt = (a.toNat : Int) := by
        rw [BitVec.toInt_eq_toNat_cond] at ha ⊢
        have := a.isLt
        split at ha <;> split <;> omega
      unfold fitB
      rw [show (0#64 : UU) = KK 0 from rfl, h1, Nat.ble_eq_true_of_le (by omega)]
      rfl
    · rw [h1] at h; cases h

theorem sameD_yes {n : Nat} {x g : Nat → UU} (h : ∀ j, j < n → x j = g j) : sameD n n x g = true := decide_eq_true ⟨rfl, fun j hj => by rw [h j hj]⟩
theorem ble_yes {a b : Nat} (h : a ≤ b) : Nat.ble a b = true := Nat.ble_eq_true_of_le h
theorem blt_yes {a b : Nat} (h : a < b) : Nat.blt a b = true := Nat.ble_eq_true_of_le h
theorem okIn_yes {st len n : Nat} (h : st + len ≤ n) (hn : n ≤ CC) : okIn st len n = true := by
  unfold okIn sz
  rw [ble_yes h, ble_yes (show len ≤ CC by omega)]
  rfl

theorem backN_true {n : Nat} {g : Nat → UU} {a s v : UU} (h0 : 0 < n) (hn : n ≤ CC) (hb : pbad n a s = true) : backN n g a s v = (true, true) := by
  have h9 : cond (cond (sizeOK s) (BitVec.sle (KK 0) a) false) (cond (BitVec.sle s (BitVec.ofNat 64 n)) (BitVec.sle a (BitVec.ofNat 64 n - s)) false) false = false := fits_no (sl := BitVec.sle s (BitVec.ofNat 64 n)) hb
  have hs : sameD n n (fun j => g (0 + j)) (fun j => g (0 + j)) = true := sameD_yes fun _ _ => rfl
  have h1 : Nat.blt 0 n = true := blt_yes h0
  have h2 : Nat.beq n n = true := Nat.beq_refl n
  have h3 : Nat.ble n CC = true := ble_yes hn
  have h4 : Nat.blt n (2 ^ 63) = true := blt_yes (by unfold CC at hn; omega)
  have h5 : okIn 0 n n = true := okIn_yes (by omega) hn
  unfold backN
  simp only [h9, hs, h1, h2, h3, h4, h5, hb, bne_self_eq_false, beq_self_eq_true, Bool.not_true, Bool.not_false, cond_true, cond_false, Bool.and_true, Bool.and_self]
  cases BitVec.sle s (BitVec.ofNat 64 n) <;> cases (cond (sizeOK s) (BitVec.sle (KK 0) a) false) <;> rfl

theorem pbad0_true (a s : UU) : pbad0 a s = true := by
  show badG (KK 0 - s) a s = true
  cases h : badG (KK 0 - s) a s
  · obtain ⟨k, hk, rfl, hf⟩ := bad_no (n := 0) (by unfold CC; omega) h
    have := fit_le hf
    have := (size_le hk).1
    omega
  · rfl
theorem v3B_true {a s : UU} : c3B 0 a s = true ∧ v3B 0 a s = (true, true) := by
  have hb := pbad0_true a s
  have h9 : fits4 (BitVec.sle s (BitVec.ofNat 64 0)) (BitVec.ofNat 64 0 - s) a s = false := fits_no (d := KK 0 - s) hb
  have hz : (KK 0 != BitVec.ofNat 64 0) = false := by decide
  have h2 : Nat.beq 0 0 = true := rfl
  have h4 : Nat.blt 0 (2 ^ 63) = true := by decide
  constructor
  · unfold c3B t13B
    simp only [h9, hz]
    rfl
  · unfold v3B t13B
    simp only [h9, hz, hb, h2, h4, Bool.and_self]
    cases BitVec.sle s (BitVec.ofNat 64 0) <;> cases (cond (sizeOK s) (BitVec.sle (KK 0) a) false) <;> rfl
theorem v4B_true {a s : UU} : c4B a s = true ∧ v4B a s = (true, true) := by
  have hb := pbad0_true a s
  have h9 : fits4 (BitVec.sle s (KK 0)) (KK 0 - s) a s = false := fits_no hb
  constructor
  · unfold c4B t13B
    simp only [h9]
    rfl
  · unfold v4B t13B
    simp only [h9, hb]
    cases BitVec.sle s (KK 0) <;> cases (cond (sizeOK s) (BitVec.sle (KK 0) a) false) <;> rfl

/-! ### what is put -/

theorem KK_nat' {k : Nat} (h : k ≤ 64) : (KK (Int.ofNat k)).toNat = k := by
  have : KK (Int.ofNat k) = BitVec.ofNat 64 k := BitVec.ofInt_natCast 64 k
  rw [this, BitVec.toNat_ofNat, Nat.mod_eq_of_lt (by omega)]
theorem xB_at (g : Nat → UU) (p : Nat) (v : UU) : ∀ s k, k < s → s ≤ 8 → xB g p v s (p + k) = v >>> (8 * k)
  | s + 1, k, hk, hs => by
    unfold xB
    rw [KK_nat' (by omega)]
    by_cases e : k = s
    · subst e
      rw [Nat.beq_refl]
      rfl
    · have hb : Nat.beq (p + k) (p + s) = false := by
        cases h : Nat.beq (p + k) (p + s)
        · rfl
        · have := Nat.eq_of_beq_eq_true h
          omega
      rw [hb]
      exact xB_at g p v s k (by omega) (by omega)
theorem xB_out (g : Nat → UU) (p : Nat) (v : UU) : ∀ s j, (j < p ∨ p + s ≤ j) → xB g p v s j = g j
  | 0, j, _ => rfl
  | s + 1, j, h => by
    unfold xB
    have hb : Nat.beq j (p + s) = false := by
      cases h' : Nat.beq j (p + s)
      · rfl
      · have := Nat.eq_of_beq_eq_true h'
        omega
    rw [hb]
    exact xB_out g p v s j (by omega)

theorem byte_bit (v : UU) (n i : Nat) : (nrm .u8 (v >>> n)).getLsbD i = (decide (i < 8) && v.getLsbD (n + i)) := by
  simp [nrm, BitVec.getLsbD_setWidth]
  intro h
  omega
theorem or_bytes {v x : UU} {n : Nat} (hx : ∀ i, x.getLsbD i = (decide (i < n) && v.getLsbD i)) (hn : n ≤ 56) (i : Nat) : (x ||| (nrm .u8 (v >>> n)) <<< n).getLsbD i = (decide (i < n + 8) && v.getLsbD i) := by
  rw [BitVec.getLsbD_or, BitVec.getLsbD_shiftLeft, byte_bit, hx]
  by_cases h1 : i < n
  · simp [h1]; omega
  · by_cases h2 : i < n + 8
    · have e : n + (i - n) = i := by omega
      have : i < 64 := by omega
      have : i - n < 8 := by omega
      simp [*]
    · have : ¬ i - n < 8 := by omega
      simp [*]
theorem getB_bit (g : Nat → UU) (p : Nat) (v : UU) (s : Nat) (hs : s ≤ 8) : ∀ k, k ≤ s → ∀ i, (getB (xB g p v s) p k).getLsbD i = (decide (i < 8 * k) && v.getLsbD i)
  | 0, _, i => by simp [getB, KK]
  | k + 1, hk, i => by
    unfold getB
    rw [xB_at g p v s k (by omega) hs, KK_nat' (by omega)]
    exact or_bytes (getB_bit g p v s hs k (by omega)) (by omega) i
theorem getB_nat (g : Nat → UU) (p : Nat) (v : UU) (s : Nat) (hs : s ≤ 8) : (getB (xB g p v s) p s).toNat = v.toNat % 2 ^ (8 * s) := by
  apply Nat.eq_of_testBit_eq
  intro i
  rw [Nat.testBit_mod_two_pow]
  exact getB_bit g p v s hs s (Nat.le_refl _) i
def wantOf (s : Nat) (v : UU) : UU := match s with
  | 1 => v % KK 256
  | 2 => v % KK 65536
  | 4 => v % KK 4294967296
  | _ => v
theorem get_want (g : Nat → UU) (p : Nat) (v : UU) {s : Nat} (hs : isSize s = true) : getB (xB g p v s) p s = wantOf s v := by
  apply BitVec.eq_of_toNat_eq
  rw [getB_nat g p v s (size_le hs).2]
  rcases size_cases hs with rfl | rfl | rfl | rfl
  · show _ = (v % KK 256).toNat
    rw [BitVec.toNat_umod]; rfl
  · show _ = (v % KK 65536).toNat
    rw [BitVec.toNat_umod]; rfl
  · show _ = (v % KK 4294967296).toNat
    rw [BitVec.toNat_umod]; rfl
  · exact Nat.mod_eq_of_lt v.isLt

theorem okP_yes {n s : Nat} {a : UU} (hs : isSize s = true) (hf : fitB n a s = true) (hn : n ≤ CC) : ∀ k, k ≤ s → okP n s a k = true
  | 0, _ => by unfold okP; rw [hf, ble_yes hn, hs]; rfl
  | k + 1, h => by
    have := fit_le hf
    unfold okP
    rw [okP_yes hs hf hn k (by omega), blt_yes (by omega)]
    rfl
theorem backF_true {s n : Nat} {g : Nat → UU} {a v : UU} (hs : isSize s = true) (h0 : 0 < n) (hn : n ≤ CC) (hf : fitB n a s = true) : backF s (wantOf s v) n g a v = (true, true) := by
  have h8 := (size_le hs).2
  have hle := fit_le hf
  have e := add_nat h8 hf hn
  have k0 : BitVec.sle (KK 0) a = true := by rw [sle_not, fit_slt hf]; rfl
  have k1 : BitVec.sle (KK (Int.ofNat s)) (BitVec.ofNat 64 n) = true := by
    have e1 : (BitVec.ofNat 64 n).toNat = n := by rw [BitVec.toNat_ofNat, Nat.mod_eq_of_lt (by unfold CC at hn; omega)]
    rw [BitVec.sle, small_int (by rw [KK_nat h8]; unfold CC; omega), small_int (by rw [e1]; exact hn), KK_nat h8, e1]
    exact decide_eq_true (by omega)
  have k2 : BitVec.sle a (BitVec.ofNat 64 n - KK (Int.ofNat s)) = true := by
    have := pbadL_no h8 hf hn
    unfold pbadL at this
    rw [fit_slt hf, cond_false] at this
    rw [sle_not, this]; rfl
  have h1 : Nat.blt 0 n = true := blt_yes h0
  have h2 : Nat.beq n n = true := Nat.beq_refl n
  have h3 : Nat.ble n CC = true := ble_yes hn
  have h4 : Nat.blt n (2 ^ 63) = true := blt_yes (by unfold CC at hn; omega)
  have h5 := okP_yes hs hf hn s (Nat.le_refl _)
  have h6 : (getB (xB g a.toNat v s) a.toNat s == wantOf s v) = true := by rw [get_want g a.toNat v hs]; simp
  have h7 : sameD (a.toNat - 0) (a.toNat - 0) (fun j => xB g a.toNat v s (0 + j)) (fun j => g (0 + j)) = true := sameD_yes fun j hj => xB_out g _ v s _ (.inl (by omega))
  have h9 : sameD (n - (a + KK (Int.ofNat s)).toNat) (n - (a + KK (Int.ofNat s)).toNat) (fun j => xB g a.toNat v s (0 + (a + KK (Int.ofNat s)).toNat + j)) (fun j => g (0 + (a + KK (Int.ofNat s)).toNat + j)) = true :=
    sameD_yes fun j hj => xB_out g _ v s _ (.inr (by rw [e]; omega))
  have m1 : BitVec.msb a = false := small_msb (by omega)
  have m2 : BitVec.msb (a + KK (Int.ofNat s)) = false := small_msb (by rw [e]; omega)
  have o1 : okIn 0 n n = true := okIn_yes (by omega) hn
  have o2 : okIn 0 (a.toNat - 0) n = true := okIn_yes (by omega) hn
  have o3 : okIn (0 + (a + KK (Int.ofNat s)).toNat) (n - (a + KK (Int.ofNat s)).toNat) n = true := okIn_yes (by rw [e]; omega) hn
  have b1 : Nat.ble 0 a.toNat = true := ble_yes (Nat.zero_le _)
  have b2 : Nat.ble a.toNat n = true := ble_yes (by omega)
  have b3 : Nat.ble (a + KK (Int.ofNat s)).toNat n = true := ble_yes (by rw [e]; omega)
  have b4 : Nat.ble n n = true := ble_yes (Nat.le_refl _)
  unfold backF
  simp only [k0, k1, k2, h1, h2, h3, h4, h5, h6, h7, h9, m1, m2, o1, o2, o3, b1, b2, b3, b4, bne_self_eq_false, beq_self_eq_true, Bool.not_true, Bool.not_false, cond_true, cond_false, Bool.and_self, Bool.or_true]
end Go.WE
