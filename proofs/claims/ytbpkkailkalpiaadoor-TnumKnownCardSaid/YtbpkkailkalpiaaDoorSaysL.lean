/- TnumSays: what the document's functions come to is what the program's formulas are. -/
import Derived.Test.YtbpkkailkalpiaaDoorSaysM
import Derived.Test.YtbpkkailkalpiaaDoorSaysK
namespace Go.WE
set_option linter.unusedVariables false
set_option maxRecDepth 100000
open Go Go.TL Go.Proofs
open Go.RowKit (Below)

/-! ### bits -/

theorem gZ_bit (v m : U) {i : Nat} (h : i < 64) : gZ v m i = (m.getLsbD i || !v.getLsbD i) := by
  unfold gZ
  rw [bitT_eq m i h, bitT_eq v i h]
  cases m.getLsbD i <;> rfl
theorem gO_bit (v m : U) {i : Nat} (h : i < 64) : gO v m i = (m.getLsbD i || v.getLsbD i) := by
  unfold gO
  rw [bitT_eq m i h, bitT_eq v i h]
  cases m.getLsbD i <;> rfl
theorem both_eq (g0 g1 : Nat → Bool) (i : Nat) : both g0 g1 i = (g0 i && g1 i) := by
  unfold both
  cases g0 i <;> rfl
theorem tn_eq {z o : Nat → Bool} {v m : U} (h : ∀ i, i < 64 → m.getLsbD i = (z i && o i) ∧ v.getLsbD i = (!(z i && o i) && o i)) : rT z o = tnT v m := by
  have h1 : tM z o 64 = m := TL.ext fun i hi => by rw [tM_bits z o 64 (Nat.le_refl _), (h i hi).1, both_eq]; simp [hi]
  have h2 : tV z o 64 = v := TL.ext fun i hi => by rw [tV_bits z o 64 (Nat.le_refl _), (h i hi).2, both_eq]; simp [hi]
  unfold rT
  rw [h1, h2]

def op2 (am bm : U) : U := K 0 ||| am ||| bm
theorem op2_bit (am bm : U) (i : Nat) : (op2 am bm).getLsbD i = (am.getLsbD i || bm.getLsbD i) := by
  unfold op2
  rw [TL.K0]
  simp only [BitVec.getLsbD_or, BitVec.getLsbD_zero, Bool.false_or]

theorem and_eq (av am bv bm : U) : rT (andZ av am bv bm) (andO av am bv bm) = tnT ((lo av am &&& lo bv bm) &&& ~~~(aM av am bv bm)) (aM av am bv bm) := tn_eq fun i hi => by
  unfold andZ andO aM
  rw [gZ_bit _ _ hi, gO_bit _ _ hi, gZ_bit _ _ hi, gO_bit _ _ hi]
  simp only [BitVec.getLsbD_and, BitVec.getLsbD_or, BitVec.getLsbD_not, hi, decide_true, Bool.true_and, lo_bit _ _ _ hi]
  generalize av.getLsbD i = a; generalize am.getLsbD i = b; generalize bv.getLsbD i = c; generalize bm.getLsbD i = d
  revert a b c d; decide
theorem or_eq (av am bv bm : U) : rT (orZ av am bv bm) (orO av am bv bm) = tnT ((lo av am ||| lo bv bm) &&& ~~~(oM av am bv bm)) (oM av am bv bm) := tn_eq fun i hi => by
  unfold orZ orO oM
  rw [gZ_bit _ _ hi, gO_bit _ _ hi, gZ_bit _ _ hi, gO_bit _ _ hi, TL.K0]
  simp only [BitVec.getLsbD_and, BitVec.getLsbD_or, BitVec.getLsbD_not, BitVec.getLsbD_zero, Bool.false_or, hi, decide_true, Bool.true_and, lo_bit _ _ _ hi]
  generalize av.getLsbD i = a; generalize am.getLsbD i = b; generalize bv.getLsbD i = c; generalize bm.getLsbD i = d
  revert a b c d; decide
theorem xor_eq (av am bv bm : U) : rT (xorZ av am bv bm) (xorO av am bv bm) = tnT ((av ^^^ bv) &&& ~~~(op2 am bm)) (op2 am bm) := tn_eq fun i hi => by
  unfold xorZ xorO
  rw [gZ_bit _ _ hi, gO_bit _ _ hi, gZ_bit _ _ hi, gO_bit _ _ hi]
  simp only [BitVec.getLsbD_and, BitVec.getLsbD_xor, BitVec.getLsbD_not, op2_bit, hi, decide_true, Bool.true_and]
  generalize av.getLsbD i = a; generalize am.getLsbD i = b; generalize bv.getLsbD i = c; generalize bm.getLsbD i = d
  revert a b c d; decide
def jM (av am bv bm : U) : U := op2 am bm ||| (av ^^^ bv)
theorem join_eq (av am bv bm : U) : rT (andZ av am bv bm) (orO av am bv bm) = tnT (av &&& ~~~(jM av am bv bm)) (jM av am bv bm) := tn_eq fun i hi => by
  unfold andZ orO jM
  rw [gZ_bit _ _ hi, gO_bit _ _ hi, gZ_bit _ _ hi, gO_bit _ _ hi]
  simp only [BitVec.getLsbD_and, BitVec.getLsbD_or, BitVec.getLsbD_xor, BitVec.getLsbD_not, op2_bit, hi, decide_true, Bool.true_and]
  generalize av.getLsbD i = a; generalize am.getLsbD i = b; generalize bv.getLsbD i = c; generalize bm.getLsbD i = d
  revert a b c d; decide
def mV (av am bv bm : U) : U := (lo av am ||| lo bv bm) &&& ~~~(am &&& bm)
def mC (av am bv bm : U) : U := (av ^^^ bv) &&& ~~~(op2 am bm)
theorem meet_tn (av am bv bm : U) (hc : mC av am bv bm = K 0) : rT (orZ av am bv bm) (andO av am bv bm) = tnT (mV av am bv bm) (am &&& bm) := tn_eq fun i hi => by
  have h0 : (mC av am bv bm).getLsbD i = false := by rw [hc, TL.K0, BitVec.getLsbD_zero]
  unfold mC at h0
  unfold orZ andO mV
  rw [gZ_bit _ _ hi, gO_bit _ _ hi, gZ_bit _ _ hi, gO_bit _ _ hi]
  simp only [BitVec.getLsbD_and, BitVec.getLsbD_or, BitVec.getLsbD_xor, BitVec.getLsbD_not, op2_bit, hi, decide_true, Bool.true_and, lo_bit _ _ _ hi] at h0 ⊢
  revert h0
  generalize av.getLsbD i = a; generalize am.getLsbD i = b; generalize bv.getLsbD i = c; generalize bm.getLsbD i = d
  revert a b c d; decide

/-! ### chains -/

theorem chain_no {α : Type} {mux : Bool → α → α → α} (hm : ∀ x y, mux false x y = y) {c : Nat → Bool} {x y : α} : ∀ (m i : Nat), (∀ j, i ≤ j → j < i + m → c j = false) → chain mux c x y i m = y
  | 0, i, _ => rfl
  | m + 1, i, h => by
    unfold chain
    rw [h i (Nat.le_refl _) (by omega), hm]
    exact chain_no hm m (i + 1) (fun j h1 h2 => h j (by omega) (by omega))
theorem chain_yes {α : Type} {mux : Bool → α → α → α} (h0 : ∀ x y, mux false x y = y) (h1 : ∀ x y, mux true x y = x) {c : Nat → Bool} {x y : α} : ∀ (m i j : Nat), i ≤ j → j < i + m → c j = true → chain mux c x y i m = x
  | 0, i, j, hi, hj, _ => by omega
  | m + 1, i, j, hi, hj, hc => by
    unfold chain
    cases hb : c i
    · rw [h0]
      have : i ≠ j := fun e => by subst e; rw [hb] at hc; cases hc
      exact chain_yes h0 h1 m (i + 1) j (by omega) (by omega) hc
    · rw [h1]
/-- A chain over the bits of a number. -/
theorem chain_bits {α : Type} {mux : Bool → α → α → α} (h0 : ∀ x y, mux false x y = y) (h1 : ∀ x y, mux true x y = x) {c : Nat → Bool} {t : U} (hc : ∀ i, i < 64 → c i = t.getLsbD i) (x y : α) : chain mux c x y 0 64 = mux (t != K 0) x y := by
  cases hb : t != K 0
  · have ht : t = K 0 := by simpa using hb
    rw [h0]
    refine chain_no h0 64 0 fun j _ hj => ?_
    rw [hc j (by omega), ht, TL.K0, BitVec.getLsbD_zero]
  · have ht : t ≠ K 0 := by simpa using hb
    rw [h1]
    refine Classical.byContradiction fun hne => ht ?_
    rw [TL.K0]
    refine TL.ext fun i hi => ?_
    rw [BitVec.getLsbD_zero, ← hc i hi]
    cases hci : c i
    · rfl
    · exact absurd (chain_yes h0 h1 64 0 i (Nat.zero_le _) (by omega) hci) hne

theorem in_eq (av am n : U) : chain muxB (inC av am n) false true 0 64 = ((av ^^^ n) &&& ~~~am == K 0) := by
  rw [chain_bits (t := (av ^^^ n) &&& ~~~am) (fun _ _ => rfl) (fun _ _ => rfl) (fun i hi => ?_)]
  · show muxB (!(((av ^^^ n) &&& ~~~am) == K 0)) false true = _
    cases ((av ^^^ n) &&& ~~~am) == K 0 <;> rfl
  · unfold inC
    rw [bitT_eq n i hi, gO_bit _ _ hi, gZ_bit _ _ hi]
    simp only [BitVec.getLsbD_and, BitVec.getLsbD_xor, BitVec.getLsbD_not, hi, decide_true, Bool.true_and]
    generalize av.getLsbD i = a; generalize am.getLsbD i = b; generalize n.getLsbD i = c
    revert a b c; decide
def wT (av am bv bm : U) : U := (am &&& ~~~bm) ||| ((bv ^^^ av) &&& ~~~bm)
theorem within_eq (av am bv bm : U) : chain muxB (withinC av am bv bm) false true 0 64 = cond (am &&& ~~~bm == K 0) ((bv ^^^ av) &&& ~~~bm == K 0) false := by
  rw [chain_bits (t := wT av am bv bm) (fun _ _ => rfl) (fun _ _ => rfl) (fun i hi => ?_)]
  · unfold wT
    by_cases h1 : am &&& ~~~bm = K 0
    · by_cases h2 : (bv ^^^ av) &&& ~~~bm = K 0
      · rw [h1, h2]; rfl
      · have : (K 0 ||| (bv ^^^ av) &&& ~~~bm) = (bv ^^^ av) &&& ~~~bm := by rw [TL.K0, BitVec.zero_or]
        rw [h1, this]
        have e1 : ((bv ^^^ av) &&& ~~~bm == K 0) = false := by simpa using h2
        have e2 : ((bv ^^^ av) &&& ~~~bm != K 0) = true := by simpa using h2
        rw [e1, e2]; rfl
    · have e1 : (am &&& ~~~bm == K 0) = false := by simpa using h1
      have e2 : ((am &&& ~~~bm ||| (bv ^^^ av) &&& ~~~bm) != K 0) = true := by
        rw [bne_iff_ne]
        intro h
        apply h1
        rw [TL.K0] at h ⊢
        refine TL.ext fun i hi => ?_
        have := congrArg (fun x : U => x.getLsbD i) h
        simp only [BitVec.getLsbD_or, BitVec.getLsbD_zero, Bool.or_eq_false_iff] at this
        rw [this.1, BitVec.getLsbD_zero]
      rw [e1, e2]; rfl
  · unfold withinC wT
    rw [gZ_bit _ _ hi, gO_bit _ _ hi, gZ_bit _ _ hi, gO_bit _ _ hi]
    simp only [BitVec.getLsbD_and, BitVec.getLsbD_or, BitVec.getLsbD_xor, BitVec.getLsbD_not, hi, decide_true, Bool.true_and]
    generalize av.getLsbD i = a; generalize am.getLsbD i = b; generalize bv.getLsbD i = c; generalize bm.getLsbD i = d
    revert a b c d; decide
theorem meetC_bit (av am bv bm : U) (i : Nat) (hi : i < 64) : meetC av am bv bm i = (mC av am bv bm).getLsbD i := by
  unfold meetC orZ andO mC
  rw [gZ_bit _ _ hi, gO_bit _ _ hi, gZ_bit _ _ hi, gO_bit _ _ hi]
  simp only [BitVec.getLsbD_and, BitVec.getLsbD_xor, BitVec.getLsbD_not, op2_bit, hi, decide_true, Bool.true_and]
  generalize av.getLsbD i = a; generalize am.getLsbD i = b; generalize bv.getLsbD i = c; generalize bm.getLsbD i = d
  revert a b c d; decide
theorem meet_eq (av am bv bm : U) : chain muxU (meetC av am bv bm) (K 0) (tV (orZ av am bv bm) (andO av am bv bm) 64) 0 64 = cond (mC av am bv bm != K 0) (K 0) (mV av am bv bm) ∧
    chain muxU (meetC av am bv bm) (K 0) (tM (orZ av am bv bm) (andO av am bv bm) 64) 0 64 = cond (mC av am bv bm != K 0) (K 0) (am &&& bm) ∧
    chain muxB (meetC av am bv bm) false true 0 64 = cond (mC av am bv bm != K 0) false true := by
  rw [chain_bits (mux := muxU) (fun _ _ => rfl) (fun _ _ => rfl) (meetC_bit av am bv bm), chain_bits (mux := muxU) (fun _ _ => rfl) (fun _ _ => rfl) (meetC_bit av am bv bm), chain_bits (mux := muxB) (fun _ _ => rfl) (fun _ _ => rfl) (meetC_bit av am bv bm)]
  cases h : mC av am bv bm != K 0
  · have hc : mC av am bv bm = K 0 := by simpa using h
    have := meet_tn av am bv bm hc
    unfold rT at this
    simp only [T.st.injEq, List.cons.injEq, T.a.injEq, A.i.injEq, true_and, and_true] at this
    obtain ⟨h1, h2⟩ := this
    rw [h1, h2]
    exact ⟨rfl, rfl, rfl⟩
  · exact ⟨rfl, rfl, rfl⟩

/-! ### noughts, products -/

theorem no_eq (v m : U) : noT (gO v m) 0 64 = tz (v ||| m) := by
  have key : ∀ (k i : Nat), i + k = 64 → i ≤ ctz (v ||| m) → noT (gO v m) i k = K (Int.ofNat (ctz (v ||| m))) := by
    intro k
    induction k with
    | zero =>
      intro i h1 h2
      have := ctz_le (v ||| m)
      have : i = ctz (v ||| m) := by omega
      unfold noT
      rw [this]
    | succ k ih =>
      intro i h1 h2
      unfold noT
      rw [gO_bit v m (show i < 64 by omega)]
      rcases Nat.lt_or_eq_of_le h2 with h | h
      · have hb := ctz_low (v ||| m) h
        rw [BitVec.getLsbD_or, Bool.or_comm] at hb
        rw [hb]
        exact ih (i + 1) (by omega) h
      · have hb := ctz_at (v ||| m) (by omega)
        rw [← h, BitVec.getLsbD_or, Bool.or_comm] at hb
        rw [hb, h]
        rfl
  exact key 64 0 rfl (Nat.zero_le _)

def noS : List V → Option (A × V)
  | [.t (.st [.a x, .a y])] => match x.bv, y.bv with
    | some (.u64, v), some (.u64, m) => some (.tt, .t (.a (.i .i64 (tz (v ||| m)))))
    | _, _ => none
  | _ => none
theorem no_ok {Γ : Gam} (hΓ : ΓOK Tryd.prog Γ) : ΓOK Tryd.prog (specG 47 noS Γ) := by
  refine specG_ok (fun args ok v h hok => ?_) hΓ
  unfold noS at h
  split at h
  · split at h
    · rename_i x y v m hx hy
      simp only [Option.some.injEq, Prod.mk.injEq] at h
      obtain ⟨rfl, rfl⟩ := h
      have he := no_ev v m
      rw [no_eq] at he
      refine (pure_of_eval (X0 Γ1_ok) rfl he rfl rfl rfl).more fun ν vs hv => ?_
      match vs, hv with
      | [u], ⟨hu, _⟩ => exact ⟨tn_args hx hy hu, trivial⟩
    · cases h
  · cases h
def Γ2 : Gam := specG 47 noS Γ1
theorem Γ2_ok : ΓOK Tryd.prog Γ2 := no_ok Γ1_ok

def mulO (n : U) (i : Nat) : Bool := BitVec.sle n (K (Int.ofNat i))
def mulC (am bm : U) : Bool := cond (am == K 0) (bm == K 0) false
theorem mul_ev (av am bv bm : U) : (evalF cxT Γ2 400 20 17 [.t (tnT av am), .t (tnT bv bm)] H.none).res = some (.tt, .t (tnT (cond (mulC am bm) (av * bv) (tV (fun _ => true) (mulO (tz (av ||| am) + tz (bv ||| bm))) 64)) (cond (mulC am bm) (K 0) (tM (fun _ => true) (mulO (tz (av ||| am) + tz (bv ||| bm))) 64)))) := by kernel_rfl

theorem K_toInt {n : Nat} (h : n < 1000000) : (K (Int.ofNat n)).toInt = n := by
  rw [BitVec.toInt_ofInt]
  simp only [Int.bmod_def]
  have : (Int.ofNat n) = (n : Int) := rfl
  rw [this]
  split <;> omega
theorem mulC_eq (am bm : U) : mulC am bm = (op2 am bm == K 0) := by
  unfold mulC op2
  rw [TL.K0]
  by_cases h1 : am = 0#64
  · subst h1
    have : (0#64 ||| 0#64 ||| bm) = bm := by simp
    rw [this]
    rfl
  · have e1 : (am == 0#64) = false := by simpa using h1
    have e2 : ((0#64 ||| am ||| bm) == 0#64) = false := by
      rw [beq_eq_false_iff_ne]
      intro h
      apply h1
      refine TL.ext fun i hi => ?_
      have := congrArg (fun x : U => x.getLsbD i) h
      simp only [BitVec.getLsbD_or, BitVec.getLsbD_zero, Bool.or_eq_false_iff] at this
      rw [this.1.2, BitVec.getLsbD_zero]
    rw [e1, e2]
    rfl
theorem mulO_bit (x y : U) (i : Nat) (hi : i < 64) : mulO (tz x + tz y) i = decide (ctz x + ctz y ≤ i) := by
  unfold mulO
  have h1 := tz_sum x y
  have h2 := tz_msb x y
  have h3 : (tz x + tz y).toInt = ((ctz x + ctz y : Nat) : Int) := by rw [BitVec.toInt_eq_msb_cond, h2, h1]; rfl
  rw [BitVec.sle, h3, K_toInt (by omega)]
  congr 1
  exact propext ⟨fun h => by omega, fun h => by omega⟩
theorem mul_eq (av am bv bm : U) : tnT (cond (mulC am bm) (av * bv) (tV (fun _ => true) (mulO (tz (av ||| am) + tz (bv ||| bm))) 64)) (cond (mulC am bm) (K 0) (tM (fun _ => true) (mulO (tz (av ||| am) + tz (bv ||| bm))) 64)) = tnT (mulV av am bv bm) (mulM av am bv bm) := by
  have h : rT (fun _ => true) (mulO (tz (av ||| am) + tz (bv ||| bm))) = tnT (K 0) (K 18446744073709551615 <<< (tz (av ||| am) + tz (bv ||| bm)).toNat) := tn_eq fun i hi => by
    rw [mulO_bit _ _ i hi, tz_sum, TL.Kones, TL.K0]
    rw [BitVec.getLsbD_zero, BitVec.getLsbD_shiftLeft, BitVec.getLsbD_allOnes]
    by_cases hh : ctz (av ||| am) + ctz (bv ||| bm) ≤ i
    · have h1 : ¬ i < ctz (av ||| am) + ctz (bv ||| bm) := by omega
      have h2 : i - (ctz (av ||| am) + ctz (bv ||| bm)) < 64 := by omega
      simp [hh, h1, h2, hi]
    · have h1 : i < ctz (av ||| am) + ctz (bv ||| bm) := by omega
      simp [hh, h1]
  unfold rT at h
  simp only [T.st.injEq, List.cons.injEq, T.a.injEq, A.i.injEq, true_and, and_true] at h
  rw [h.1, h.2, mulC_eq]
  rfl

/-! ### shifts -/

theorem p64_eq (n : U) : p64 n = kk (n.toNat % 64) := by
  have hr : (BitVec.srem n (K 64)).toInt = n.toInt.tmod 64 := by rw [BitVec.toInt_srem]; rfl
  have hk : (kk (n.toNat % 64)).toInt = ((n.toNat % 64 : Nat) : Int) := by
    rw [kk, BitVec.toInt_eq_toNat_cond, BitVec.toNat_ofNat, Nat.mod_eq_of_lt (by omega)]
    split <;> omega
  have hs : BitVec.slt (BitVec.srem n (K 64)) (K 0) = decide (n.toInt.tmod 64 < 0) := by
    rw [BitVec.slt, hr]; rfl
  unfold p64
  rw [hs]
  have hn : n.toInt = if 2 * n.toNat < 2 ^ 64 then (n.toNat : Int) else (n.toNat : Int) - (2 ^ 64 : Nat) := BitVec.toInt_eq_toNat_cond n
  by_cases h : 2 * n.toNat < 2 ^ 64
  · rw [if_pos h] at hn
    have e : n.toInt.tmod 64 = ((n.toNat % 64 : Nat) : Int) := by
      rw [hn, Int.tmod_eq_emod_of_nonneg (by omega)]
      rfl
    have hd : decide (n.toInt.tmod 64 < 0) = false := by rw [e]; simp; omega
    rw [hd, cond_false]
    apply BitVec.eq_of_toInt_eq
    rw [hr, e, hk]
  · rw [if_neg h] at hn
    have hlt := n.isLt
    have e : n.toInt.tmod 64 = -(((2 ^ 64 - n.toNat) % 64 : Nat) : Int) := by
      have : n.toInt = -((2 ^ 64 - n.toNat : Nat) : Int) := by omega
      rw [this, Int.neg_tmod, Int.tmod_eq_emod_of_nonneg (by omega)]
      rfl
    by_cases hz : (2 ^ 64 - n.toNat) % 64 = 0
    · have hd : decide (n.toInt.tmod 64 < 0) = false := by rw [e, hz]; rfl
      rw [hd, cond_false]
      apply BitVec.eq_of_toInt_eq
      rw [hr, e, hk]
      omega
    · have hd : decide (n.toInt.tmod 64 < 0) = true := by rw [e]; simp; omega
      rw [hd, cond_true]
      apply BitVec.eq_of_toInt_eq
      have k64 : (K 64).toInt = 64 := rfl
      rw [BitVec.toInt_add, hr, e, hk, k64]
      simp only [Int.bmod_def]
      split <;> omega

theorem up_idx : ∀ t i : Fin 64, outC (fUp (kk t.val)) i.val = decide (i.val < t.val) ∧ (t.val ≤ i.val → (fUp (kk t.val) i.val).toNat = i.val - t.val) := by decide +kernel
theorem down_idx : ∀ t i : Fin 64, outC (fDown (kk t.val)) i.val = decide (63 < i.val + t.val) ∧ (i.val + t.val ≤ 63 → (fDown (kk t.val) i.val).toNat = i.val + t.val) := by decide +kernel
theorem sign_idx : ∀ t i : Fin 64, outC (fSign (kk t.val)) i.val = false ∧ (fSign (kk t.val) i.val).toNat = min 63 (i.val + t.val) := by decide +kernel
theorem up_okk : ∀ t : Fin 64, okM (fUp (kk t.val)) 64 = true := by decide +kernel
theorem down_okk : ∀ t : Fin 64, okM (fDown (kk t.val)) 64 = true := by decide +kernel
theorem sign_okk : ∀ t : Fin 64, okS (kk t.val) 64 = true := by decide +kernel

theorem by1_eq (n : U) : (n &&& K 63).toNat = n.toNat % 64 := by
  rw [← mod64, BitVec.toNat_umod]; rfl
abbrev shV (f : U → Nat → U) (av am : U) (s : Nat) : U := f av s &&& ~~~(f am s)
theorem up_eq (av am : U) {t : Nat} (ht : t < 64) : rT (movZ (fUp (kk t)) av am) (movO (fUp (kk t)) av am) = tnT (av <<< t &&& ~~~(am <<< t)) (am <<< t) := tn_eq fun i hi => by
  obtain ⟨h1, h2⟩ := up_idx ⟨t, ht⟩ ⟨i, hi⟩
  have h1 : outC (fUp (kk t)) i = decide (i < t) := h1
  have h2 : t ≤ i → (fUp (kk t) i).toNat = i - t := h2
  unfold movZ movO
  rw [wr_eq, wr_eq, h1]
  simp only [BitVec.getLsbD_and, BitVec.getLsbD_not, BitVec.getLsbD_shiftLeft, hi, decide_true, Bool.true_and]
  by_cases h : i < t
  · simp [h]
  · have hi' : i - t < 64 := by omega
    rw [h2 (by omega), gZ_bit _ _ hi', gO_bit _ _ hi']
    simp only [h, decide_false, cond_false, Bool.not_false, Bool.true_and]
    generalize av.getLsbD (i - t) = a; generalize am.getLsbD (i - t) = b
    revert a b; decide
theorem down_eq (av am : U) {t : Nat} (ht : t < 64) : rT (movZ (fDown (kk t)) av am) (movO (fDown (kk t)) av am) = tnT (av >>> t &&& ~~~(am >>> t)) (am >>> t) := tn_eq fun i hi => by
  obtain ⟨h1, h2⟩ := down_idx ⟨t, ht⟩ ⟨i, hi⟩
  have h1 : outC (fDown (kk t)) i = decide (63 < i + t) := h1
  have h2 : i + t ≤ 63 → (fDown (kk t) i).toNat = i + t := h2
  unfold movZ movO
  rw [wr_eq, wr_eq, h1]
  simp only [BitVec.getLsbD_and, BitVec.getLsbD_not, BitVec.getLsbD_ushiftRight, hi, decide_true, Bool.true_and, Nat.add_comm t i]
  by_cases h : 63 < i + t
  · have e1 : av.getLsbD (i + t) = false := BitVec.getLsbD_of_ge _ _ (by omega)
    have e2 : am.getLsbD (i + t) = false := BitVec.getLsbD_of_ge _ _ (by omega)
    rw [e1, e2]
    simp [h]
  · have hi' : i + t < 64 := by omega
    rw [h2 (by omega), gZ_bit _ _ hi', gO_bit _ _ hi']
    simp only [h, decide_false, cond_false]
    generalize av.getLsbD (i + t) = a; generalize am.getLsbD (i + t) = b
    revert a b; decide
theorem sign_eq (av am : U) {t : Nat} (ht : t < 64) : rT (movZ (fSign (kk t)) av am) (movO (fSign (kk t)) av am) = tnT (BitVec.sshiftRight av t &&& ~~~(BitVec.sshiftRight am t)) (BitVec.sshiftRight am t) := tn_eq fun i hi => by
  obtain ⟨h1, h2⟩ := sign_idx ⟨t, ht⟩ ⟨i, hi⟩
  have h1 : outC (fSign (kk t)) i = false := h1
  have h2 : (fSign (kk t) i).toNat = min 63 (i + t) := h2
  unfold movZ movO
  rw [wr_eq, wr_eq, h1, h2, cond_false, cond_false]
  have hm : min 63 (i + t) < 64 := by omega
  have hb : ∀ x : U, (BitVec.sshiftRight x t).getLsbD i = x.getLsbD (min 63 (i + t)) := fun x => by
    rw [BitVec.getLsbD_sshiftRight]
    have e0 : decide (64 ≤ i) = false := by simp; omega
    rw [e0, Bool.not_false, Bool.true_and]
    by_cases h : t + i < 64
    · rw [if_pos h]
      congr 1
      omega
    · rw [if_neg h, BitVec.msb_eq_getLsbD_last]
      congr 1
      omega
  rw [gZ_bit _ _ hm, gO_bit _ _ hm, BitVec.getLsbD_and, BitVec.getLsbD_not, hb, hb]
  simp only [hi, decide_true, Bool.true_and]
  generalize av.getLsbD (min 63 (i + t)) = a; generalize am.getLsbD (min 63 (i + t)) = b
  revert a b; decide

def movS : List V → Option (A × V)
  | [.t (.st [.a x, .a y]), .t (.a n), .t (.a .tt), .t (.a .ff)] => match x.bv, y.bv, n.bv with
    | some (.u64, v), some (.u64, m), some (.i64, n) => some (.tt, .t (tnT (v <<< (n &&& K 63).toNat &&& ~~~(m <<< (n &&& K 63).toNat)) (m <<< (n &&& K 63).toNat)))
    | _, _, _ => none
  | [.t (.st [.a x, .a y]), .t (.a n), .t (.a .ff), .t (.a .ff)] => match x.bv, y.bv, n.bv with
    | some (.u64, v), some (.u64, m), some (.i64, n) => some (.tt, .t (tnT (v >>> (n &&& K 63).toNat &&& ~~~(m >>> (n &&& K 63).toNat)) (m >>> (n &&& K 63).toNat)))
    | _, _, _ => none
  | [.t (.st [.a x, .a y]), .t (.a n), .t (.a .ff), .t (.a .tt)] => match x.bv, y.bv, n.bv with
    | some (.u64, v), some (.u64, m), some (.i64, n) => some (.tt, .t (tnT (BitVec.sshiftRight v (n &&& K 63).toNat &&& ~~~(BitVec.sshiftRight m (n &&& K 63).toNat)) (BitVec.sshiftRight m (n &&& K 63).toNat)))
    | _, _, _ => none
  | _ => none
theorem mov_args {x y n : A} {v m k : U} {u s : A} (hx : x.bv = some (.u64, v)) (hy : y.bv = some (.u64, m)) (hn : n.bv = some (.i64, k)) {ν : Nu} {vs : List Value} (hv : relV ν [.t (.st [.a x, .a y]), .t (.a n), .t (.a u), .t (.a s)] vs) :
    relV ν [.t (tnT v m), .t (.a (.i .i64 k)), .t (.a u), .t (.a s)] vs := by
  match vs, hv with
  | [v0, v1, v2, v3], ⟨h0, h1, h2, h3, _⟩ =>
    refine ⟨tn_args hx hy h0, ?_, h2, h3, trivial⟩
    show (A.i .i64 k).rel ν v1
    simp only [A.rel]
    exact bv_val hn h1
theorem mov_ok {Γ : Gam} (hΓ : ΓOK Tryd.prog Γ) : ΓOK Tryd.prog (specG 19 movS Γ) := by
  refine specG_ok (fun args ok v h hok => ?_) hΓ
  have key : ∀ n : U, n.toNat % 64 < 64 := fun n => Nat.mod_lt _ (by omega)
  unfold movS at h
  split at h
  · split at h
    · rename_i x y n v m k hx hy hn
      simp only [Option.some.injEq, Prod.mk.injEq] at h
      obtain ⟨rfl, rfl⟩ := h
      have he := up_ev v m k
      rw [p64_eq, up_eq v m (key k), up_okk ⟨_, key k⟩] at he
      rw [by1_eq]
      exact (pure_of_eval (X0 Γ1_ok) rfl he rfl rfl rfl).more fun ν vs hv => mov_args hx hy hn hv
    · cases h
  · split at h
    · rename_i x y n v m k hx hy hn
      simp only [Option.some.injEq, Prod.mk.injEq] at h
      obtain ⟨rfl, rfl⟩ := h
      have he := down_ev v m k
      rw [p64_eq, down_eq v m (key k), down_okk ⟨_, key k⟩] at he
      rw [by1_eq]
      exact (pure_of_eval (X0 Γ1_ok) rfl he rfl rfl rfl).more fun ν vs hv => mov_args hx hy hn hv
    · cases h
  · split at h
    · rename_i x y n v m k hx hy hn
      simp only [Option.some.injEq, Prod.mk.injEq] at h
      obtain ⟨rfl, rfl⟩ := h
      have he := sign_ev v m k
      rw [p64_eq, sign_eq v m (key k), sign_okk ⟨_, key k⟩] at he
      rw [by1_eq]
      exact (pure_of_eval (X0 Γ1_ok) rfl he rfl rfl rfl).more fun ν vs hv => mov_args hx hy hn hv
    · cases h
  · cases h

/-! ### sums -/

theorem N_add : ∀ la ha lb hb cl ch : Bool, (la = true → ha = true) → (lb = true → hb = true) → (cl = true → ch = true) →
    N0 false (!la) ha (!lb) hb (!cl) ch = !(Bool.atLeastTwo la lb cl) ∧ N1 false (!la) ha (!lb) hb (!cl) ch = Bool.atLeastTwo ha hb ch := by decide +kernel
theorem S_add : ∀ la ha lb hb cl ch : Bool, (la = true → ha = true) → (lb = true → hb = true) → (cl = true → ch = true) →
    ((S0 false (!la) ha (!lb) hb (!cl) ch && S1 false (!la) ha (!lb) hb (!cl) ch) = (((la ^^ (lb ^^ cl)) ^^ (ha ^^ (hb ^^ ch))) || ((la ^^ ha) || (lb ^^ hb)))) ∧
    ((!(S0 false (!la) ha (!lb) hb (!cl) ch && S1 false (!la) ha (!lb) hb (!cl) ch) && S1 false (!la) ha (!lb) hb (!cl) ch) = ((la ^^ (lb ^^ cl)) && !(((la ^^ (lb ^^ cl)) ^^ (ha ^^ (hb ^^ ch))) || ((la ^^ ha) || (lb ^^ hb))))) := by decide +kernel
theorem N_sub : ∀ la ha lb hb bx bn : Bool, (la = true → ha = true) → (lb = true → hb = true) → (bx = true → bn = true) →
    N0 true (!la) ha (!lb) hb (!bx) bn = !(Bool.atLeastTwo (!ha) lb bx) ∧ N1 true (!la) ha (!lb) hb (!bx) bn = Bool.atLeastTwo (!la) hb bn := by decide +kernel
end Go.WE
