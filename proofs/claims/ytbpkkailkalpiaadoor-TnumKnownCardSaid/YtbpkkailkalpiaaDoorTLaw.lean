/- Plain laws of tnums: sums, differences, products, shifts of numbers that they have. -/
import Derived.KernelRfl
namespace Go.TL
set_option linter.unusedVariables false
abbrev U := BitVec 64
abbrev K (n : Int) : U := BitVec.ofInt 64 n

def lo (av am : U) : U := av &&& ~~~am
def sm (av am v : U) : U := (av &&& ~~~am) ||| (v &&& am)
theorem K0 : K 0 = 0#64 := by decide
theorem Kones : K 18446744073709551615 = BitVec.allOnes 64 := by decide

theorem ext {x y : U} (h : ∀ i, i < 64 → x.getLsbD i = y.getLsbD i) : x = y := BitVec.eq_of_getLsbD_eq h

theorem lo_bit (a m : U) (i : Nat) (h : i < 64) : (lo a m).getLsbD i = (a.getLsbD i && !m.getLsbD i) := by
  simp only [lo, BitVec.getLsbD_and, BitVec.getLsbD_not, h, decide_true, Bool.true_and]
theorem sm_bit (a m v : U) (i : Nat) (h : i < 64) : (sm a m v).getLsbD i = (a.getLsbD i && !m.getLsbD i || v.getLsbD i && m.getLsbD i) := by
  simp only [sm, BitVec.getLsbD_and, BitVec.getLsbD_or, BitVec.getLsbD_not, h, decide_true, Bool.true_and]

/-- A number lies between two others, bit by bit. -/
def Sub (x y : U) : Prop := ∀ i, i < 64 → x.getLsbD i = true → y.getLsbD i = true

theorem sub_lo_sm (a m v : U) : Sub (lo a m) (sm a m v) := fun i h => by
  rw [lo_bit a m i h, sm_bit a m v i h]
  cases a.getLsbD i <;> cases m.getLsbD i <;> cases v.getLsbD i <;> decide
theorem sub_sm_hi (a m v : U) : Sub (sm a m v) (a ||| m) := fun i h => by
  rw [sm_bit a m v i h, BitVec.getLsbD_or]
  cases a.getLsbD i <;> cases m.getLsbD i <;> cases v.getLsbD i <;> decide
theorem sub_not {x y : U} (h : Sub x y) : Sub (~~~y) (~~~x) := fun i hi => by
  have := h i hi
  rw [BitVec.getLsbD_not, BitVec.getLsbD_not]
  simp only [hi, decide_true, Bool.true_and]
  revert this
  cases x.getLsbD i <;> cases y.getLsbD i <;> decide

theorem carry_mono {x y x' y' : U} (hx : Sub x x') (hy : Sub y y') : ∀ i, i ≤ 64 → BitVec.carry i x y false = true → BitVec.carry i x' y' false = true := by
  intro i
  induction i with
  | zero => intro _; simp
  | succ i ih =>
    intro hi
    rw [BitVec.carry_succ, BitVec.carry_succ]
    have h1 := hx i (by omega); have h2 := hy i (by omega)
    have ih := ih (by omega)
    revert ih h1 h2
    generalize x.getLsbD i = a; generalize y.getLsbD i = b; generalize x'.getLsbD i = c; generalize y'.getLsbD i = d
    generalize BitVec.carry i x y false = e; generalize BitVec.carry i x' y' false = f
    revert a b c d e f; decide

/-- Where the least and the greatest sums agree all sums between them do. -/
theorem agree {x y l1 l2 h1 h2 : U} (a1 : Sub l1 x) (a2 : Sub x h1) (b1 : Sub l2 y) (b2 : Sub y h2) {i : Nat} (hi : i < 64)
    (he : (l1 + l2).getLsbD i = (h1 + h2).getLsbD i) (e1 : l1.getLsbD i = h1.getLsbD i) (e2 : l2.getLsbD i = h2.getLsbD i) : (x + y).getLsbD i = (l1 + l2).getLsbD i := by
  have c1 := carry_mono a1 b1 i (by omega)
  have c2 := carry_mono a2 b2 i (by omega)
  have x1 := a1 i hi; have x2 := a2 i hi; have y1 := b1 i hi; have y2 := b2 i hi
  rw [BitVec.getLsbD_add hi, BitVec.getLsbD_add hi] at he
  rw [BitVec.getLsbD_add hi, BitVec.getLsbD_add hi]
  revert c1 c2 x1 x2 y1 y2 he e1 e2
  generalize BitVec.carry i l1 l2 false = p; generalize BitVec.carry i x y false = q; generalize BitVec.carry i h1 h2 false = r
  generalize x.getLsbD i = a; generalize y.getLsbD i = b; generalize l1.getLsbD i = c; generalize l2.getLsbD i = d; generalize h1.getLsbD i = e; generalize h2.getLsbD i = f
  revert p q r a b c d e f; decide

theorem lo_add (a m : U) : lo a m + m = a ||| m := by
  have hz : lo a m &&& m = 0#64 := ext fun i hi => by
    rw [BitVec.getLsbD_and, lo_bit a m i hi]
    cases a.getLsbD i <;> cases m.getLsbD i <;> simp
  rw [BitVec.add_eq_or_of_and_eq_zero _ _ hz]
  exact ext fun i hi => by
    rw [BitVec.getLsbD_or, lo_bit a m i hi, BitVec.getLsbD_or]
    cases a.getLsbD i <;> cases m.getLsbD i <;> rfl

theorem sub_eq (x y : U) : x - y = ~~~(~~~x + y) := by
  apply BitVec.eq_of_toNat_eq
  rw [BitVec.toNat_sub, BitVec.toNat_not, BitVec.toNat_add, BitVec.toNat_not]
  have hx := x.isLt; have hy := y.isLt
  omega

def sM (av am bv bm : U) : U := (lo av am + lo bv bm ^^^ lo av am + lo bv bm + am + bm) ||| (K 0 ||| am ||| bm)
def dM (av am bv bm : U) : U := (lo av am - lo bv bm + am ^^^ lo av am - lo bv bm - bm) ||| (K 0 ||| am ||| bm)

theorem hi_sum (av am bv bm : U) : lo av am + lo bv bm + am + bm = (av ||| am) + (bv ||| bm) := by
  rw [← lo_add av am, ← lo_add bv bm]; ac_rfl
theorem up_dif (av am bv bm : U) : lo av am - lo bv bm + am = (av ||| am) - lo bv bm := by
  rw [← lo_add av am, BitVec.sub_eq_add_neg, BitVec.sub_eq_add_neg]; ac_rfl
theorem down_dif (av am bv bm : U) : lo av am - lo bv bm - bm = lo av am - (bv ||| bm) := by
  rw [← lo_add bv bm, BitVec.sub_eq_add_neg, BitVec.sub_eq_add_neg, BitVec.sub_eq_add_neg, BitVec.neg_add, BitVec.sub_eq_add_neg]; ac_rfl

theorem sM_bit {av am bv bm : U} {i : Nat} (hi : i < 64) (h : (sM av am bv bm).getLsbD i = false) :
    (lo av am + lo bv bm).getLsbD i = ((av ||| am) + (bv ||| bm)).getLsbD i ∧ am.getLsbD i = false ∧ bm.getLsbD i = false := by
  unfold sM at h
  rw [hi_sum, K0] at h
  simp only [BitVec.getLsbD_or, BitVec.getLsbD_xor, BitVec.getLsbD_zero, Bool.false_or, Bool.or_eq_false_iff] at h
  refine ⟨?_, h.2.1, h.2.2⟩
  have := h.1
  revert this
  generalize (lo av am + lo bv bm).getLsbD i = p; generalize ((av ||| am) + (bv ||| bm)).getLsbD i = q
  revert p q; decide

theorem lo_hi {a m : U} {i : Nat} (hi : i < 64) (h : m.getLsbD i = false) : (lo a m).getLsbD i = (a ||| m).getLsbD i := by
  rw [lo_bit a m i hi, BitVec.getLsbD_or, h]; cases a.getLsbD i <;> rfl

/-- Is it a number of a tnum? -/
theorem in_of {v m x : U} (h : ∀ i, i < 64 → m.getLsbD i = false → x.getLsbD i = v.getLsbD i) : (v ^^^ x) &&& ~~~m = K 0 := by
  rw [K0]
  refine ext fun i hi => ?_
  rw [BitVec.getLsbD_and, BitVec.getLsbD_not, BitVec.getLsbD_xor, BitVec.getLsbD_zero]
  simp only [hi, decide_true, Bool.true_and]
  cases hm : m.getLsbD i
  · rw [h i hi hm]; cases v.getLsbD i <;> rfl
  · simp

theorem cut_bit {v m : U} {i : Nat} (hi : i < 64) (h : m.getLsbD i = false) : (v &&& ~~~m).getLsbD i = v.getLsbD i := by
  rw [BitVec.getLsbD_and, BitVec.getLsbD_not, h]; simp [hi]

theorem in_self (av am v : U) : (av ^^^ sm av am v) &&& ~~~am = K 0 := in_of fun i hi h => by rw [sm_bit av am v i hi, h]; cases av.getLsbD i <;> cases v.getLsbD i <;> rfl

theorem in_add (av am bv bm v w : U) : ((lo av am + lo bv bm &&& ~~~(sM av am bv bm)) ^^^ (sm av am v + sm bv bm w)) &&& ~~~(sM av am bv bm) = K 0 := in_of fun i hi h => by
  rw [cut_bit hi h]
  obtain ⟨h1, h2, h3⟩ := sM_bit hi h
  exact agree (sub_lo_sm av am v) (sub_sm_hi av am v) (sub_lo_sm bv bm w) (sub_sm_hi bv bm w) hi h1 (lo_hi hi h2) (lo_hi hi h3)

theorem in_sub (av am bv bm v w : U) : ((lo av am - lo bv bm &&& ~~~(dM av am bv bm)) ^^^ (sm av am v - sm bv bm w)) &&& ~~~(dM av am bv bm) = K 0 := in_of fun i hi h => by
  rw [cut_bit hi h]
  unfold dM at h
  rw [up_dif, down_dif, K0] at h
  simp only [BitVec.getLsbD_or, BitVec.getLsbD_xor, BitVec.getLsbD_zero, Bool.false_or, Bool.or_eq_false_iff] at h
  obtain ⟨h1, h2, h3⟩ := h
  rw [sub_eq (av ||| am), sub_eq (lo av am) (bv ||| bm), BitVec.getLsbD_not, BitVec.getLsbD_not] at h1
  simp only [hi, decide_true, Bool.true_and] at h1
  have h1 : (~~~(av ||| am) + lo bv bm).getLsbD i = (~~~(lo av am) + (bv ||| bm)).getLsbD i := by
    revert h1
    generalize (~~~(av ||| am) + lo bv bm).getLsbD i = p; generalize (~~~(lo av am) + (bv ||| bm)).getLsbD i = q
    revert p q; decide
  have hl : Sub (lo av am) (av ||| am) := fun j hj h => sub_sm_hi av am 0#64 j hj (sub_lo_sm av am 0#64 j hj h)
  have hm : (~~~(av ||| am)).getLsbD i = (~~~(lo av am)).getLsbD i := by
    rw [BitVec.getLsbD_not, BitVec.getLsbD_not, lo_hi hi h2]
  have e1 := agree (x := ~~~(sm av am v)) (y := sm bv bm w) (sub_not (sub_sm_hi av am v)) (sub_not (sub_lo_sm av am v)) (sub_lo_sm bv bm w) (sub_sm_hi bv bm w) hi h1 hm (lo_hi hi h3)
  have e2 := agree (x := ~~~(lo av am)) (y := lo bv bm) (l1 := ~~~(av ||| am)) (l2 := lo bv bm) (h1 := ~~~(lo av am)) (h2 := bv ||| bm) (sub_not hl) (fun _ _ h => h) (fun _ _ h => h) (fun j hj h => sub_sm_hi bv bm w j hj (sub_lo_sm bv bm w j hj h)) hi h1 hm (lo_hi hi h3)
  rw [sub_eq (sm av am v), sub_eq (lo av am) (lo bv bm), BitVec.getLsbD_not, BitVec.getLsbD_not, e1, e2]

theorem opn_bit {am bm : U} {i : Nat} (h : (K 0 ||| am ||| bm).getLsbD i = false) : am.getLsbD i = false ∧ bm.getLsbD i = false := by
  rw [K0] at h
  simpa only [BitVec.getLsbD_or, BitVec.getLsbD_zero, Bool.false_or, Bool.or_eq_false_iff] using h

theorem in_xor (av am bv bm v w : U) : (((av ^^^ bv) &&& ~~~(K 0 ||| am ||| bm)) ^^^ (sm av am v ^^^ sm bv bm w)) &&& ~~~(K 0 ||| am ||| bm) = K 0 := in_of fun i hi h => by
  rw [cut_bit hi h]
  obtain ⟨h1, h2⟩ := opn_bit h
  rw [BitVec.getLsbD_xor, BitVec.getLsbD_xor, sm_bit _ _ _ _ hi, sm_bit _ _ _ _ hi, h1, h2]
  cases av.getLsbD i <;> cases bv.getLsbD i <;> cases v.getLsbD i <;> cases w.getLsbD i <;> rfl

def aM (av am bv bm : U) : U := ((av ||| am) &&& (bv ||| bm)) &&& ~~~(lo av am &&& lo bv bm)
theorem in_and (av am bv bm v w : U) : (((lo av am &&& lo bv bm) &&& ~~~(aM av am bv bm)) ^^^ (sm av am v &&& sm bv bm w)) &&& ~~~(aM av am bv bm) = K 0 := in_of fun i hi h => by
  rw [cut_bit hi h]
  unfold aM at h
  simp only [BitVec.getLsbD_and, BitVec.getLsbD_or, BitVec.getLsbD_not, hi, decide_true, Bool.true_and, lo_bit _ _ _ hi] at h
  rw [BitVec.getLsbD_and, BitVec.getLsbD_and, sm_bit _ _ _ _ hi, sm_bit _ _ _ _ hi, lo_bit _ _ _ hi, lo_bit _ _ _ hi]
  revert h
  generalize av.getLsbD i = a; generalize am.getLsbD i = b; generalize bv.getLsbD i = c; generalize bm.getLsbD i = d; generalize v.getLsbD i = e; generalize w.getLsbD i = f
  revert a b c d e f; decide

def oM (av am bv bm : U) : U := (K 0 ||| am ||| bm) &&& ~~~(lo av am ||| lo bv bm)
theorem in_or (av am bv bm v w : U) : (((lo av am ||| lo bv bm) &&& ~~~(oM av am bv bm)) ^^^ (sm av am v ||| sm bv bm w)) &&& ~~~(oM av am bv bm) = K 0 := in_of fun i hi h => by
  rw [cut_bit hi h]
  unfold oM at h
  rw [K0] at h
  simp only [BitVec.getLsbD_and, BitVec.getLsbD_or, BitVec.getLsbD_not, BitVec.getLsbD_zero, hi, decide_true, Bool.true_and, Bool.false_or, lo_bit _ _ _ hi] at h
  rw [BitVec.getLsbD_or, BitVec.getLsbD_or, sm_bit _ _ _ _ hi, sm_bit _ _ _ _ hi, lo_bit _ _ _ hi, lo_bit _ _ _ hi]
  revert h
  generalize av.getLsbD i = a; generalize am.getLsbD i = b; generalize bv.getLsbD i = c; generalize bm.getLsbD i = d; generalize v.getLsbD i = e; generalize w.getLsbD i = f
  revert a b c d e f; decide

theorem mod64 (n : U) : (n % K 64).toNat = (n &&& K 63).toNat := by
  have h1 : (K 64).toNat = 64 := by decide
  have h2 : (K 63).toNat = 2 ^ 6 - 1 := by decide
  rw [BitVec.toNat_umod, BitVec.toNat_and, h1, h2, Nat.and_two_pow_sub_one_eq_mod]

theorem in_shl (av am v : U) (s : Nat) : ((av <<< s &&& ~~~(am <<< s)) ^^^ (sm av am v <<< s)) &&& ~~~(am <<< s) = K 0 := in_of fun i hi h => by
  rw [cut_bit hi h]
  rw [BitVec.getLsbD_shiftLeft] at h ⊢
  rw [BitVec.getLsbD_shiftLeft]
  simp only [hi, decide_true, Bool.true_and] at h ⊢
  by_cases hs : i < s
  · simp [hs]
  · simp only [hs, decide_false, Bool.not_false, Bool.true_and] at h ⊢
    rw [sm_bit av am v (i - s) (by omega), h]
    cases av.getLsbD (i - s) <;> cases v.getLsbD (i - s) <;> rfl

theorem in_shr (av am v : U) (s : Nat) : ((av >>> s &&& ~~~(am >>> s)) ^^^ (sm av am v >>> s)) &&& ~~~(am >>> s) = K 0 := in_of fun i hi h => by
  rw [cut_bit hi h]
  rw [BitVec.getLsbD_ushiftRight] at h ⊢
  rw [BitVec.getLsbD_ushiftRight]
  by_cases hs : s + i < 64
  · rw [sm_bit av am v _ hs, h]
    cases av.getLsbD (s + i) <;> cases v.getLsbD (s + i) <;> rfl
  · rw [BitVec.getLsbD_of_ge _ _ (by omega), BitVec.getLsbD_of_ge _ _ (by omega)]

theorem in_sar (av am v : U) (s : Nat) : ((BitVec.sshiftRight av s &&& ~~~(BitVec.sshiftRight am s)) ^^^ BitVec.sshiftRight (sm av am v) s) &&& ~~~(BitVec.sshiftRight am s) = K 0 := in_of fun i hi h => by
  rw [cut_bit hi h]
  have bit : ∀ x : U, (x.sshiftRight s).getLsbD i = x.getLsbD (if s + i < 64 then s + i else 63) := by
    intro x
    rw [BitVec.getLsbD_sshiftRight]
    have : ¬ 64 ≤ i := by omega
    simp only [this, decide_false, Bool.not_false, Bool.true_and]
    split
    · rfl
    · rw [BitVec.msb_eq_getLsbD_last]
  rw [bit] at h ⊢
  rw [bit]
  have hj : (if s + i < 64 then s + i else 63) < 64 := by split <;> omega
  rw [sm_bit av am v _ hj, h]
  cases av.getLsbD (if s + i < 64 then s + i else 63) <;> cases v.getLsbD (if s + i < 64 then s + i else 63) <;> rfl

theorem mod32 (x : U) : x % K 4294967296 = x &&& K 4294967295 := by
  apply BitVec.eq_of_toNat_eq
  have h1 : (K 4294967296).toNat = 4294967296 := by decide
  have h2 : (K 4294967295).toNat = 2 ^ 32 - 1 := by decide
  rw [BitVec.toNat_umod, BitVec.toNat_and, h1, h2, Nat.and_two_pow_sub_one_eq_mod]

theorem in_cut (av am v k : U) : (((av &&& k) &&& ~~~(am &&& k)) ^^^ (sm av am v &&& k)) &&& ~~~(am &&& k) = K 0 := in_of fun i hi h => by
  rw [cut_bit hi h]
  rw [BitVec.getLsbD_and] at h ⊢
  rw [BitVec.getLsbD_and, sm_bit av am v i hi]
  revert h
  generalize av.getLsbD i = a; generalize am.getLsbD i = b; generalize v.getLsbD i = c; generalize k.getLsbD i = d
  revert a b c d; decide

/-! ### noughts at the lowest end -/

def ctz (x : U) : Nat := ((List.range 64).find? fun i => x.getLsbD i).getD 64

theorem ctz_le (x : U) : ctz x ≤ 64 := by
  unfold ctz
  cases h : (List.range 64).find? fun i => x.getLsbD i with
  | none => simp
  | some k => have := List.mem_range.1 (List.mem_of_find?_eq_some h); simp; omega

theorem ctz_low (x : U) {j : Nat} (hj : j < ctz x) : x.getLsbD j = false := by
  unfold ctz at hj
  cases h : (List.range 64).find? fun i => x.getLsbD i with
  | none =>
    rw [h] at hj
    have := List.find?_eq_none.1 h j (List.mem_range.2 (by simpa using hj))
    simpa using this
  | some k =>
    rw [h] at hj
    obtain ⟨_, as, bs, e, hn⟩ := List.find?_eq_some_iff_append.1 h
    have hmem : j ∈ List.range 64 := List.mem_range.2 (by
      have := List.mem_range.1 (List.mem_of_find?_eq_some h)
      have hj : j < k := hj
      omega)
    have hpw : List.Pairwise (· < ·) (List.range 64) := List.pairwise_lt_range
    rw [e] at hmem hpw
    rcases List.mem_append.1 hmem with hm | hm
    · have := hn j hm; simpa using this
    · rcases List.mem_cons.1 hm with hm | hm
      · have hj : j < k := hj; omega
      · have := (List.pairwise_append.1 hpw).2.1
        have := (List.pairwise_cons.1 this).1 j hm
        have hj : j < k := hj
        omega

theorem ctz_at (x : U) (h : ctz x < 64) : x.getLsbD (ctz x) = true := by
  unfold ctz at h ⊢
  cases hf : (List.range 64).find? fun i => x.getLsbD i with
  | none => rw [hf] at h; simp at h
  | some k => simpa using List.find?_some hf

theorem ctz_zero {x : U} (h : ctz x = 64) : x = 0#64 := ext fun i hi => by rw [ctz_low x (by omega), BitVec.getLsbD_zero]

theorem low_dvd {x : U} : ∀ {n : Nat}, n ≤ 64 → (∀ j, j < n → x.getLsbD j = false) → 2 ^ n ∣ x.toNat
  | 0, _, _ => by simp
  | n + 1, hn, h => by
    obtain ⟨q, hq⟩ := low_dvd (n := n) (by omega) (fun j hj => h j (by omega))
    have hb := h n (by omega)
    rw [BitVec.getLsbD, hq, Nat.testBit_eq_decide_div_mod_eq, Nat.mul_div_cancel_left _ (Nat.two_pow_pos n)] at hb
    simp at hb
    rw [hq, Nat.pow_succ]
    exact Nat.mul_dvd_mul_left _ (Nat.dvd_of_mod_eq_zero hb)

theorem mul_low {x y : U} {p q : Nat} (hp : p ≤ 64) (hq : q ≤ 64) (hx : ∀ j, j < p → x.getLsbD j = false) (hy : ∀ j, j < q → y.getLsbD j = false) {i : Nat} (hi : i < 64) (h : i < p + q) : (x * y).getLsbD i = false := by
  have d := Nat.mul_dvd_mul (low_dvd hp hx) (low_dvd hq hy)
  rw [← Nat.pow_add] at d
  have d1 : 2 ^ (i + 1) ∣ x.toNat * y.toNat := Nat.dvd_trans (Nat.pow_dvd_pow 2 (by omega)) d
  obtain ⟨c, hc⟩ := d1
  rw [BitVec.getLsbD, BitVec.toNat_mul, hc, Nat.testBit_mod_two_pow]
  simp only [hi, decide_true, Bool.true_and]
  rw [Nat.testBit_eq_decide_div_mod_eq, Nat.pow_succ, Nat.mul_assoc, Nat.mul_div_cancel_left _ (Nat.two_pow_pos i)]
  simp

theorem K_nat (n : Nat) : K (n : Int) = BitVec.ofNat 64 n := BitVec.ofInt_natCast ..

def tz (x : U) : U := K (ctz x : Int)
theorem tz_sum (x y : U) : (tz x + tz y).toNat = ctz x + ctz y := by
  have h1 := ctz_le x; have h2 := ctz_le y
  rw [tz, tz, K_nat, K_nat, BitVec.toNat_add, BitVec.toNat_ofNat, BitVec.toNat_ofNat]
  omega

theorem tz_msb (x y : U) : (tz x + tz y).msb = false := by
  rw [BitVec.msb_eq_decide, tz_sum]
  have h1 := ctz_le x; have h2 := ctz_le y
  simp; omega

def mulV (av am bv bm : U) : U := cond ((K 0 ||| am ||| bm) == K 0) (av * bv) (K 0)
def mulM (av am bv bm : U) : U := cond ((K 0 ||| am ||| bm) == K 0) (K 0) (K 18446744073709551615 <<< (tz (av ||| am) + tz (bv ||| bm)).toNat)

theorem in_mul (av am bv bm v w : U) : (mulV av am bv bm ^^^ (sm av am v * sm bv bm w)) &&& ~~~(mulM av am bv bm) = K 0 := in_of fun i hi h => by
  unfold mulM at h
  unfold mulV
  cases hz : (K 0 ||| am ||| bm) == K 0
  · rw [hz] at h
    rw [tz_sum] at h
    simp only [cond_false] at h ⊢
    rw [Kones, BitVec.getLsbD_shiftLeft, BitVec.getLsbD_allOnes] at h
    have hl : i < ctz (av ||| am) + ctz (bv ||| bm) := by
      refine Classical.byContradiction fun hge => ?_
      have h3 : i - (ctz (av ||| am) + ctz (bv ||| bm)) < 64 := by omega
      simp [hi, hge, h3] at h
    rw [K0, BitVec.getLsbD_zero]
    refine mul_low (ctz_le (av ||| am)) (ctz_le (bv ||| bm)) (fun j hj => ?_) (fun j hj => ?_) hi hl
    · cases hb : (sm av am v).getLsbD j
      · rfl
      · have hj64 : j < 64 := by have := ctz_le (av ||| am); omega
        rw [← sub_sm_hi av am v j hj64 hb, ctz_low _ hj]
    · cases hb : (sm bv bm w).getLsbD j
      · rfl
      · have hj64 : j < 64 := by have := ctz_le (bv ||| bm); omega
        rw [← sub_sm_hi bv bm w j hj64 hb, ctz_low _ hj]
  · simp only [cond_true]
    have hz := beq_iff_eq.1 hz
    have h0 : ∀ j, am.getLsbD j = false ∧ bm.getLsbD j = false := fun j => opn_bit (by rw [hz, K0]; simp)
    have e1 : sm av am v = av := ext fun j hj => by rw [sm_bit _ _ _ _ hj, (h0 j).1]; cases av.getLsbD j <;> cases v.getLsbD j <;> rfl
    have e2 : sm bv bm w = bv := ext fun j hj => by rw [sm_bit _ _ _ _ hj, (h0 j).2]; cases bv.getLsbD j <;> cases w.getLsbD j <;> rfl
    rw [e1, e2]
end Go.TL
