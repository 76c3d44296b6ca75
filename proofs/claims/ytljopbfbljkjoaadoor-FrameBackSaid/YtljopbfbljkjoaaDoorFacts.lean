/- FrameBack: why it holds, in numbers alone. -/
import Derived.Test.YtljopbfbljkjoaaDoorEv
namespace Go.WE
set_option linter.unusedVariables false
set_option maxRecDepth 100000
open Go Go.Proofs

theorem K_toInt {n : Int} (h : -1000000 < n ∧ n < 1000000) : (K n).toInt = n := by
  rw [BitVec.toInt_ofInt]
  simp only [Int.bmod_def]
  split <;> omega
theorem pick_cases (n : Nat) (hn : 0 < n) (hb : n < 1000000) (x : U) : ∃ j : Nat, j < n ∧ pickT n x = K j := by
  have hr : (BitVec.srem x (K n)).toInt = x.toInt.tmod n := by rw [BitVec.toInt_srem, K_toInt (by omega)]
  have h1 : x.toInt.tmod n < n := Int.tmod_lt_of_pos _ (by omega)
  have h2 : -(n : Int) < x.toInt.tmod n := by
    have := Int.lt_tmod_of_pos x.toInt (b := n) (by omega)
    omega
  unfold pickT
  have hs : BitVec.slt (BitVec.srem x (K n)) (K 0) = decide (x.toInt.tmod n < 0) := by
    rw [BitVec.slt, hr, K_toInt (by omega)]
  rw [hs]
  by_cases h : x.toInt.tmod n < 0
  · refine ⟨(x.toInt.tmod n + n).toNat, by omega, ?_⟩
    simp only [h, decide_true, cond_true]
    apply BitVec.eq_of_toInt_eq
    rw [BitVec.toInt_add, hr, K_toInt (n := (n : Int)) (by omega), K_toInt (by omega)]
    simp only [Int.bmod_def]
    split <;> omega
  · refine ⟨(x.toInt.tmod n).toNat, by omega, ?_⟩
    simp only [h, decide_false, cond_false]
    apply BitVec.eq_of_toInt_eq
    rw [hr, K_toInt (by omega)]
    omega
abbrev kk (k : Nat) : U := BitVec.ofNat 64 k
theorem kk_one (k : Nat) : kk k + K 1 = kk (k + 1) := by
  rw [show K 1 = 1#64 from rfl, kk, kk, BitVec.ofNat_add]
theorem kk_nat {k : Nat} (h : k < 2 ^ 64) : (kk k).toNat = k := by rw [kk, BitVec.toNat_ofNat, Nat.mod_eq_of_lt h]

/-! ### slots -/
theorem slotE_all : ∀ j : Fin 16, K (-8) * (K 1 + K j.val) = K (sP (15 - j.val)) := by decide +kernel
theorem slotE_is (x : U) : ∃ j, j < 16 ∧ slotE x = K (sP j) := by
  obtain ⟨j, hj, e⟩ := pick_cases 16 (by omega) (by omega) x
  have e : pickT 16 x = K j := e
  refine ⟨15 - j, by omega, ?_⟩
  unfold slotE
  rw [e]
  exact slotE_all ⟨j, hj⟩
theorem slot_all : ∀ j : Fin 16, isSlot (K (sP j.val)) = true ∧ slotN (K (sP j.val)) = j.val ∧ posN (K (sP j.val)) = 8 * j.val := by decide +kernel
theorem one_all : ∀ j : Fin 16, ∀ i : Fin 8, thereB (K (sP j.val) + K i.val) (K 1) = true ∧ posN (K (sP j.val) + K i.val) = 8 * j.val + i.val := by decide +kernel
theorem ne_all : ∀ j : Fin 16, ∀ i m : Fin 8, (K (sP j.val) + K m.val == K (sP j.val) + K i.val) = Nat.beq m.val i.val := by decide +kernel

theorem putN_same {n : Nat} {v : U} {g : Nat → U} : putN n v g n = v := by
  unfold putN
  rw [Nat.beq_refl]
  rfl
theorem putN_ne {n j : Nat} {v : U} {g : Nat → U} (h : j ≠ n) : putN n v g j = g j := by
  unfold putN
  rw [beq_eq_decide, decide_eq_false h]
  rfl
theorem ctxE_some (r : RW) : (ctxE r).k ≠ K 0 := by
  show cond (r.k == K 0) (K 2) r.k ≠ K 0
  cases h : r.k == K 0
  · rw [cond_false]
    intro e
    rw [e] at h
    exact absurd h (by decide)
  · rw [cond_true]
    decide
theorem eq10_refl (r : RW) : eq10 r r = true := by simp [eq10]
theorem ldC_sto {s : FSt} {k : Nat} {r : RW} (hr : r.k ≠ K 0) : ldC (stoK s k r) k = true := by
  show (putN k r.k s.kept.k k != K 0) = true
  rw [putN_same]
  simpa using hr
theorem ldW_sto {s : FSt} {k : Nat} {r : RW} (hr : r.k ≠ K 0) : ldW (stoK s k r) k = r := by
  unfold ldW
  rw [ldC_sto hr]
  simp only [cond_true]
  show RW.mk (putN k r.k s.kept.k k) (putN k r.o s.kept.o k) (putN k r.m s.kept.m k) (putN k r.i s.kept.i k) (putN k r.tv s.kept.tv k) (putN k r.tm s.kept.tm k) (putN k r.ul s.kept.ul k) (putN k r.uh s.kept.uh k) (putN k r.sl s.kept.sl k) (putN k r.sh s.kept.sh k) = r
  simp only [putN_same]
theorem ldE_sto {s : FSt} {k : Nat} {r : RW} (hr : r.k ≠ K 0) : ldE (stoK s k r) k = K 0 := by
  unfold ldE
  rw [ldC_sto hr]
  rfl
theorem back_no {s : FSt} {k : Nat} {r : RW} (hr : r.k ≠ K 0) : cond (ldE (stoK s k r) k != K 0) true (!(eq10 (ldW (stoK s k r) k) r)) = false := by
  rw [ldE_sto hr, ldW_sto hr, eq10_refl]
  rfl
theorem regs_no {s : FSt} {k : Nat} {r : RW} (i : U) : (!(eq10 (regW (stoK s k r) i) (regW s i))) = false := by
  show (!(eq10 (regW s i) (regW s i))) = false
  rw [eq10_refl]
  rfl
theorem okReg_all : ∀ k : Fin 11, okReg (kk k.val) = true ∧ BitVec.slt (kk k.val) (K 11) = true := by decide +kernel

theorem readN_same {g g' : Nat → U} {b : Nat} : ∀ n, (∀ i, i < n → g (b + i) = g' (b + i)) → readN g b n = readN g' b n
  | 0, _ => rfl
  | n + 1, h => by
    unfold readN
    rw [readN_same n fun i hi => h i (by omega), h n (by omega)]
theorem stoK_g_ne {s : FSt} {j k i : Nat} {r : RW} (hne : k ≠ j) (hi : i < 8) : (stoK s j r).g (8 * k + i) = s.g (8 * k + i) := by
  unfold stoK
  simp only
  rw [putN_ne (by omega), putN_ne (by omega), putN_ne (by omega), putN_ne (by omega), putN_ne (by omega), putN_ne (by omega), putN_ne (by omega), putN_ne (by omega)]
theorem stoK_g {s : FSt} {j i : Nat} {r : RW} (hi : i < 8) : (stoK s j r).g (8 * j + i) = whatR r := by
  unfold stoK
  simp only
  unfold putN
  simp only [beq_eq_decide]
  match i, hi with
  | 0, _ | 1, _ | 2, _ | 3, _ | 4, _ | 5, _ | 6, _ | 7, _ => simp
theorem ldR_ne {s : FSt} {j k : Nat} {r : RW} (hk : k < 16) (hne : k ≠ j) : ldR (stoK s j r) k = ldR s k := by
  unfold ldR readR
  rw [(slot_all ⟨k, hk⟩).2.2]
  have e : (K 8).toNat = 8 := rfl
  rw [e, readN_same (g' := s.g) 8 fun i hi => stoK_g_ne hne hi]
theorem ldC_ne {s : FSt} {j k : Nat} {r : RW} (hne : k ≠ j) : ldC (stoK s j r) k = ldC s k := by
  show (putN j r.k s.kept.k k != K 0) = (s.kept.k k != K 0)
  rw [putN_ne hne]
theorem ldZ_ne {s : FSt} {j k : Nat} {r : RW} (hk : k < 16) (hne : k ≠ j) : ldZ (stoK s j r) k = ldZ s k := by
  unfold ldZ
  rw [ldR_ne hk hne]
theorem ldE_ne {s : FSt} {j k : Nat} {r : RW} (hk : k < 16) (hne : k ≠ j) : ldE (stoK s j r) k = ldE s k := by
  unfold ldE
  rw [ldC_ne hne, ldZ_ne hk hne, ldR_ne hk hne]
theorem ldW_ne {s : FSt} {j k : Nat} {r : RW} (hk : k < 16) (hne : k ≠ j) : ldW (stoK s j r) k = ldW s k := by
  unfold ldW
  rw [ldC_ne hne, ldZ_ne hk hne]
  unfold stoK RF.setR
  simp only [putN_ne hne]
theorem dif_no {s : FSt} {j k : Nat} {r : RW} (hk : k < 16) : difS (stoK s j r) s (K (sP j)) (K (sP k)) = false := by
  unfold difS
  rw [(slot_all ⟨k, hk⟩).2.1]
  by_cases e : k = j
  · subst e
    simp
  · rw [ldW_ne hk e, ldE_ne hk e, eq10_refl]
    simp

/-! ### a byte is laid -/
theorem lay_read {s : FSt} {j i m : Nat} {r : RW} (hr : r.k ≠ K 0) (hj : j < 16) (hi : i < 8) (hm : m < 8) :
    (!(readR (layR (stoK s j r) (K (sP j) + K i) (K 1)).g (K (sP j) + K m) (K 1) == cond (cond (r.k != K 1) (K (sP j) + K m != K (sP j) + K i) false) (K 15) (K 0))) = false := by
  obtain ⟨h1, h2⟩ := one_all ⟨j, hj⟩ ⟨i, hi⟩
  obtain ⟨h3, h4⟩ := one_all ⟨j, hj⟩ ⟨m, hm⟩
  have h5 := ne_all ⟨j, hj⟩ ⟨i, hi⟩ ⟨m, hm⟩
  simp only at h1 h2 h3 h4 h5
  have e1 : (K 1).toNat = 1 := rfl
  have e2 : layR (stoK s j r) (K (sP j) + K i) (K 1) = layB (stoK s j r) (8 * j + i) := by
    unfold layR
    rw [h1, h2, e1]
    rfl
  have e3 : readR (layB (stoK s j r) (8 * j + i)).g (K (sP j) + K m) (K 1) = codeU ((layB (stoK s j r) (8 * j + i)).g (8 * j + m)) := by
    unfold readR
    rw [h3, h4, e1]
    rfl
  have e4 : (layB (stoK s j r) (8 * j + i)).g (8 * j + m) = cond (Nat.beq m i) (K 1) (cond (whatR r == K 2) (K 0) (whatR r)) := by
    unfold layB
    simp only
    rw [stoK_g hi, stoK_g hm]
    have q1 : (8 * j + i) / 8 = j := by omega
    have q2 : (8 * j + m) / 8 = j := by omega
    have q3 : Nat.beq (8 * j + m) (8 * j + i) = Nat.beq m i := by
      rw [beq_eq_decide, beq_eq_decide]
      exact decide_eq_decide.2 (by omega)
    have q4 : (stoK s j r).kept.k j = r.k := putN_same
    rw [q1, q2, q3, q4, Nat.beq_refl]
    have q5 : (r.k != K 0) = true := by simpa using hr
    rw [q5, Bool.true_and, Bool.and_true]
  have h6 : (K (sP j) + K m != K (sP j) + K i) = !(Nat.beq m i) := by rw [bne, h5]
  rw [e2, e3, e4, h6]
  unfold whatR bne
  cases h : r.k == K 1 <;> cases Nat.beq m i <;> rfl
theorem slot8_all : ∀ j : Fin 16, ∀ m : Fin 8, BitVec.slt (K (sP j.val) + K m.val) (K (sP j.val) + K 8) = true := by decide +kernel
theorem slot9_all : ∀ j : Fin 16, BitVec.slt (K (sP j.val) + K 8) (K (sP j.val) + K 8) = false := by decide +kernel
theorem slot1_all : ∀ j : Fin 16, ∀ m : Fin 8, K (sP j.val) + K m.val + K 1 = K (sP j.val) + K (m.val + 1 : Nat) := by decide +kernel
theorem sp_all : ∀ k : Fin 16, BitVec.slt (K (sP k.val)) (K 0) = true ∧ K (sP k.val) + K 8 = K (sP (k.val + 1)) := by decide +kernel

/-! ### calls ahead -/
theorem size_ok : ∀ j : Fin 4, ((!(BitVec.msb (K j.val)) && Nat.blt (K j.val).toNat 4) && Nat.blt (0 + (K j.val).toNat) 4) = true := by decide
theorem msb_kk {k : Nat} (h : k < 2 ^ 63) : BitVec.msb (kk k) = false := by
  rw [BitVec.msb_eq_decide]
  simp only [decide_eq_false_iff_not]
  rw [kk_nat (by omega)]
  omega
theorem okAct_true {o : Ops} {n k : Nat} {f : LF} (hk : k < n) (hn : n < 2 ^ 63) : okAct o n f (kk k) = true := by
  unfold okAct
  obtain ⟨j, hj, e⟩ := pick_cases 4 (by omega) (by omega) (f.sz (0 + (kk k).toNat))
  have e : pickT 4 (f.sz (0 + (kk k).toNat)) = K j := e
  have h1 : Nat.blt (kk k).toNat n = true := by
    rw [kk_nat (by omega)]
    exact Nat.ble_eq_true_of_le hk
  have h2 : Nat.blt (0 + (kk k).toNat) n = true := by
    rw [Nat.zero_add]
    exact h1
  simp only
  rw [e, size_ok ⟨j, hj⟩, msb_kk (by omega), h1, h2]
  simp only [Bool.not_false, Bool.and_true, Bool.cond_self]
theorem slt_kk {k n : Nat} (hk : k < 2 ^ 63) (hn : n < 2 ^ 63) : BitVec.slt (kk k) (kk n) = decide (k < n) := by
  rw [BitVec.slt, BitVec.toInt_eq_toNat_of_msb (msb_kk hk), BitVec.toInt_eq_toNat_of_msb (msb_kk hn), kk_nat (by omega), kk_nat (by omega)]
  exact decide_eq_decide.2 (by omega)
end Go.WE
