/- TnumKnown: exact, after all pairs: what is not known of bits is what differs. -/
import Derived.Test.YtbpkkailkalpiaaDoorExactC
namespace Go.WE
set_option linter.unusedVariables false
set_option maxRecDepth 100000
open Go Go.TL Go.Proofs
open Go.RowKit (Below)

def W5.get (w : W5) : Nat → U
  | 0 => w.a0
  | 1 => w.a1
  | 2 => w.a2
  | 3 => w.a3
  | _ => w.a4

section
variable (av am bv bm : U)
theorem estep_f (x y : U) (s : ES) (i : Nat) : (estep av am bv bm x y s).f.get i = cond (deadP av am bv bm x y) (s.f.get i) (cond (s.n == K 0) ((W5.op x y).get i) (s.f.get i)) := by
  rcases i with _ | _ | _ | _ | _ <;> simp only [W5.get, estep, muxW, endF, midF, wrU_eq]
theorem estep_d (x y : U) (s : ES) (i : Nat) : (estep av am bv bm x y s).d.get i = cond (deadP av am bv bm x y) (s.d.get i) (s.d.get i ||| ((W5.op x y).get i ^^^ cond (s.n == K 0) ((W5.op x y).get i) (s.f.get i))) := by
  rcases i with _ | _ | _ | _ | _ <;> simp only [W5.get, estep, muxW, orD, midF, wrU_eq]

def zero5W : W5 := ⟨K 0, K 0, K 0, K 0, K 0⟩
def es : Nat → ES
  | 0 => ⟨zero5W, zero5W, K 0⟩
  | t + 1 => estep av am bv bm (kk (t / 8)) (kk (t % 8)) (es t)
def opP (i t : Nat) : U := (W5.op (kk (t / 8)) (kk (t % 8))).get i
def alP (t : Nat) : Bool := !(deadP av am bv bm (kk (t / 8)) (kk (t % 8)))

def EInv (t : Nat) : Prop := ∃ c, c ≤ t ∧ (es av am bv bm t).n = kk c ∧ (c = 0 → (∀ p, p < t → alP av am bv bm p = false) ∧ ∀ i, (es av am bv bm t).d.get i = K 0) ∧
  (0 < c → ∀ i, (∃ p, p < t ∧ alP av am bv bm p = true ∧ (es av am bv bm t).f.get i = opP i p) ∧
    ∀ j, j < 64 → (((es av am bv bm t).d.get i).getLsbD j = true ↔ ∃ p, p < t ∧ alP av am bv bm p = true ∧ (opP i p).getLsbD j ≠ ((es av am bv bm t).f.get i).getLsbD j))

theorem kk_zero {c : Nat} (h : c ≤ 64) : (kk c == K 0) = decide (c = 0) := by
  rw [Bool.eq_iff_iff, beq_iff_eq, decide_eq_true_iff]
  constructor
  · intro e
    have := congrArg BitVec.toNat e
    rw [kk, BitVec.toNat_ofNat, Nat.mod_eq_of_lt (by omega)] at this
    exact this
  · intro e; subst e; rfl

theorem einv : ∀ t, t ≤ 64 → EInv av am bv bm t
  | 0, _ => ⟨0, Nat.le_refl _, rfl, fun _ => ⟨fun p hp => absurd hp (Nat.not_lt_zero _), fun i => by rcases i with _ | _ | _ | _ | _ <;> rfl⟩, fun h => absurd h (Nat.lt_irrefl _)⟩
  | t + 1, ht => by
    obtain ⟨c, hc, hn, h0, h1⟩ := einv t (by omega)
    have hf := fun i => estep_f av am bv bm (kk (t / 8)) (kk (t % 8)) (es av am bv bm t) i
    have hd := fun i => estep_d av am bv bm (kk (t / 8)) (kk (t % 8)) (es av am bv bm t) i
    have hz := kk_zero (c := c) (by omega)
    rw [← hn] at hz
    cases hdead : deadP av am bv bm (kk (t / 8)) (kk (t % 8))
    · have hal : alP av am bv bm t = true := by unfold alP; rw [hdead]; rfl
      simp only [hdead, cond_false] at hf hd
      refine ⟨c + 1, by omega, ?_, fun h => absurd h (by omega), fun _ i => ?_⟩
      · show cond (deadP _ _ _ _ _ _) _ _ = _
        rw [hdead, cond_false, hn, kk_one]
      · show (∃ p, p < t + 1 ∧ alP av am bv bm p = true ∧ (estep av am bv bm (kk (t / 8)) (kk (t % 8)) (es av am bv bm t)).f.get i = opP i p) ∧ ∀ j, j < 64 → (((estep av am bv bm (kk (t / 8)) (kk (t % 8)) (es av am bv bm t)).d.get i).getLsbD j = true ↔ ∃ p, p < t + 1 ∧ alP av am bv bm p = true ∧ (opP i p).getLsbD j ≠ ((estep av am bv bm (kk (t / 8)) (kk (t % 8)) (es av am bv bm t)).f.get i).getLsbD j)
        rw [hf, hd, hz]
        by_cases hc0 : c = 0
        · obtain ⟨g1, g2⟩ := h0 hc0
          simp only [hc0, decide_true, cond_true]
          refine ⟨⟨t, by omega, hal, rfl⟩, fun j hj => ?_⟩
          rw [g2, BitVec.xor_self, TL.K0, BitVec.or_self, BitVec.getLsbD_zero]
          constructor
          · intro h; cases h
          · rintro ⟨p, hp, ha, hne⟩
            rcases Nat.lt_or_ge p t with h | h
            · rw [g1 p h] at ha; cases ha
            · obtain rfl : p = t := by omega
              exact absurd rfl hne
        · obtain ⟨⟨p0, hp0, ha0, e0⟩, g2⟩ := h1 (by omega) i
          simp only [hc0, decide_false, cond_false]
          refine ⟨⟨p0, by omega, ha0, e0⟩, fun j hj => ?_⟩
          rw [BitVec.getLsbD_or, BitVec.getLsbD_xor, Bool.or_eq_true, g2 j hj]
          constructor
          · rintro (⟨p, hp, ha, hne⟩ | h)
            · exact ⟨p, by omega, ha, hne⟩
            · refine ⟨t, by omega, hal, fun e => ?_⟩
              have e : ((W5.op (kk (t / 8)) (kk (t % 8))).get i).getLsbD j = ((es av am bv bm t).f.get i).getLsbD j := e
              rw [e, Bool.xor_self] at h
              cases h
          · rintro ⟨p, hp, ha, hne⟩
            rcases Nat.lt_or_ge p t with h | h
            · exact .inl ⟨p, h, ha, hne⟩
            · obtain rfl : p = t := by omega
              refine .inr ?_
              have hne : ((W5.op (kk (p / 8)) (kk (p % 8))).get i).getLsbD j ≠ ((es av am bv bm p).f.get i).getLsbD j := hne
              revert hne
              generalize ((W5.op (kk (p / 8)) (kk (p % 8))).get i).getLsbD j = a; generalize ((es av am bv bm p).f.get i).getLsbD j = b
              revert a b; decide
    · have hal : alP av am bv bm t = false := by unfold alP; rw [hdead]; rfl
      simp only [hdead, cond_true] at hf hd
      have hex : ∀ {q : Nat → Prop}, (∃ p, p < t + 1 ∧ alP av am bv bm p = true ∧ q p) ↔ ∃ p, p < t ∧ alP av am bv bm p = true ∧ q p := fun {q} => by
        constructor
        · rintro ⟨p, hp, ha, hq⟩
          rcases Nat.lt_or_ge p t with h | h
          · exact ⟨p, h, ha, hq⟩
          · obtain rfl : p = t := by omega
            rw [hal] at ha; cases ha
        · rintro ⟨p, hp, ha, hq⟩
          exact ⟨p, by omega, ha, hq⟩
      refine ⟨c, by omega, ?_, fun h => ?_, fun h i => ?_⟩
      · show cond (deadP _ _ _ _ _ _) _ _ = _
        rw [hdead, cond_true, hn]
      · obtain ⟨g1, g2⟩ := h0 h
        refine ⟨fun p hp => ?_, fun i => (hd i).trans (g2 i)⟩
        rcases Nat.lt_or_ge p t with h | h
        · exact g1 p h
        · obtain rfl : p = t := by omega
          exact hal
      · show (∃ p, p < t + 1 ∧ alP av am bv bm p = true ∧ (estep av am bv bm (kk (t / 8)) (kk (t % 8)) (es av am bv bm t)).f.get i = opP i p) ∧ ∀ j, j < 64 → (((estep av am bv bm (kk (t / 8)) (kk (t % 8)) (es av am bv bm t)).d.get i).getLsbD j = true ↔ ∃ p, p < t + 1 ∧ alP av am bv bm p = true ∧ (opP i p).getLsbD j ≠ ((estep av am bv bm (kk (t / 8)) (kk (t % 8)) (es av am bv bm t)).f.get i).getLsbD j)
        rw [hf, hd]
        obtain ⟨g1, g2⟩ := h1 h i
        exact ⟨hex.2 g1, fun j hj => (g2 j hj).trans hex.symm⟩

theorem exact_bits {i : Nat} {V0 M : U} (hal : ∃ p, p < 64 ∧ alP av am bv bm p = true) (sound : ∀ p, p < 64 → alP av am bv bm p = true → ∀ j, j < 64 → M.getLsbD j = false → (opP i p).getLsbD j = V0.getLsbD j)
    (wit : ∀ j, j < 64 → M.getLsbD j = true → ∃ p q, p < 64 ∧ q < 64 ∧ alP av am bv bm p = true ∧ alP av am bv bm q = true ∧ (opP i p).getLsbD j ≠ (opP i q).getLsbD j) :
    (es av am bv bm 64).d.get i = M ∧ V0 &&& ~~~M = (es av am bv bm 64).f.get i &&& ~~~((es av am bv bm 64).d.get i) := by
  obtain ⟨c, hc, hn, h0, h1⟩ := einv av am bv bm 64 (Nat.le_refl _)
  have hc0 : 0 < c := by
    rcases Nat.eq_zero_or_pos c with h | h
    · obtain ⟨p, hp, ha⟩ := hal
      rw [(h0 h).1 p hp] at ha
      cases ha
    · exact h
  obtain ⟨⟨p0, hp0, ha0, e0⟩, g2⟩ := h1 hc0 i
  have hD : (es av am bv bm 64).d.get i = M := TL.ext fun j hj => by
    rw [Bool.eq_iff_iff, g2 j hj, e0]
    constructor
    · rintro ⟨p, hp, ha, hne⟩
      cases hM : M.getLsbD j
      · rw [sound p hp ha j hj hM, sound p0 hp0 ha0 j hj hM] at hne
        exact absurd rfl hne
      · rfl
    · intro hM
      obtain ⟨p, q, hp, hq, ha, hb, hne⟩ := wit j hj hM
      by_cases h : (opP i p).getLsbD j = (opP i p0).getLsbD j
      · exact ⟨q, hq, hb, fun e => hne (h.trans e.symm)⟩
      · exact ⟨p, hp, ha, h⟩
  refine ⟨hD, ?_⟩
  rw [hD, e0]
  refine TL.ext fun j hj => ?_
  rw [BitVec.getLsbD_and, BitVec.getLsbD_and, BitVec.getLsbD_not]
  cases hM : M.getLsbD j
  · rw [sound p0 hp0 ha0 j hj hM]
  · simp

/-! ### pairs -/

theorem alive_iff {x y : U} : deadP av am bv bm x y = false ↔ (av ^^^ x) &&& ~~~am = K 0 ∧ (bv ^^^ y) &&& ~~~bm = K 0 := by
  unfold deadP
  cases h1 : ((av ^^^ x) &&& ~~~am == K 0) <;> cases h2 : ((bv ^^^ y) &&& ~~~bm == K 0) <;> simp_all
theorem sm_of {v m x : U} (h : (v ^^^ x) &&& ~~~m = K 0) : sm v m x = x := TL.ext fun j hj => by
  have h1 := congrArg (fun z : U => z.getLsbD j) h
  rw [TL.K0] at h1
  simp only [BitVec.getLsbD_and, BitVec.getLsbD_xor, BitVec.getLsbD_not, BitVec.getLsbD_zero, hj, decide_true, Bool.true_and] at h1
  rw [sm_bit v m x j hj]
  revert h1
  generalize v.getLsbD j = a; generalize m.getLsbD j = b; generalize x.getLsbD j = c
  revert a b c; decide
theorem pair_of {x y : U} (hx : x.toNat < 8) (hy : y.toNat < 8) (ha : (av ^^^ x) &&& ~~~am = K 0) (hb : (bv ^^^ y) &&& ~~~bm = K 0) : ∃ p, p < 64 ∧ alP av am bv bm p = true ∧ ∀ i, opP i p = (W5.op x y).get i := by
  have e1 : kk ((8 * x.toNat + y.toNat) / 8) = x := by
    rw [show (8 * x.toNat + y.toNat) / 8 = x.toNat by omega, kk, BitVec.ofNat_toNat, BitVec.setWidth_eq]
  have e2 : kk ((8 * x.toNat + y.toNat) % 8) = y := by
    rw [show (8 * x.toNat + y.toNat) % 8 = y.toNat by omega, kk, BitVec.ofNat_toNat, BitVec.setWidth_eq]
  refine ⟨8 * x.toNat + y.toNat, by omega, ?_, fun i => ?_⟩
  · unfold alP
    rw [e1, e2, (alive_iff av am bv bm).2 ⟨ha, hb⟩]; rfl
  · unfold opP
    rw [e1, e2]
end

theorem in_lo (v m : U) : (v ^^^ lo v m) &&& ~~~m = K 0 := in_of fun i hi h => by rw [lo_bit v m i hi, h]; simp
theorem in_hi (v m : U) : (v ^^^ (v ||| m)) &&& ~~~m = K 0 := in_of fun i hi h => by rw [BitVec.getLsbD_or, h]; simp
theorem in_fl {v m : U} {j : Nat} (hm : m.getLsbD j = true) : (v ^^^ (lo v m + BitVec.twoPow 64 j)) &&& ~~~m = K 0 := in_of fun i hi h => by
  have hz : lo v m &&& BitVec.twoPow 64 j = 0#64 := TL.ext fun k hk => by
    rw [BitVec.getLsbD_and, lo_bit v m k hk, BitVec.getLsbD_twoPow, BitVec.getLsbD_zero]
    by_cases e : j = k
    · subst e; simp [hm]
    · simp [e]
  rw [BitVec.add_eq_or_of_and_eq_zero _ _ hz, BitVec.getLsbD_or, lo_bit v m i hi, BitVec.getLsbD_twoPow, h]
  have : j ≠ i := fun e => by subst e; rw [hm] at h; cases h
  simp [this]
theorem lo_lt {v m : U} (h : v.toNat < 8) : (lo v m).toNat < 8 := by
  unfold lo
  rw [BitVec.toNat_and]
  exact Nat.lt_of_le_of_lt Nat.and_le_left h
theorem hi_lt {v m : U} (h : v.toNat < 8) (h' : m.toNat < 8) : (v ||| m).toNat < 8 := by
  rw [BitVec.toNat_or]
  exact Nat.or_lt_two_pow (n := 3) h h'
theorem bit_lt {m : U} (h : m.toNat < 8) {j : Nat} (hm : m.getLsbD j = true) : j < 3 := by
  refine Classical.byContradiction fun hge => ?_
  have h1 : m.toNat.testBit j = true := hm
  have h2 : m.toNat < 2 ^ j := Nat.lt_of_lt_of_le h (Nat.pow_le_pow_right (n := 2) (by omega) (by omega : 3 ≤ j))
  rw [Nat.testBit_lt_two_pow h2] at h1
  cases h1
theorem fl_lt {v m : U} (h : v.toNat < 8) (h' : m.toNat < 8) {j : Nat} (hm : m.getLsbD j = true) : (lo v m + BitVec.twoPow 64 j).toNat < 8 := by
  have hz : lo v m &&& BitVec.twoPow 64 j = 0#64 := TL.ext fun k hk => by
    rw [BitVec.getLsbD_and, lo_bit v m k hk, BitVec.getLsbD_twoPow, BitVec.getLsbD_zero]
    by_cases e : j = k
    · subst e; simp [hm]
    · simp [e]
  rw [BitVec.add_eq_or_of_and_eq_zero _ _ hz]
  refine hi_lt (lo_lt h) ?_
  have := bit_lt h' hm
  have h3 : j = 0 ∨ j = 1 ∨ j = 2 := by omega
  rcases h3 with rfl | rfl | rfl <;> decide
theorem carry_two (z : U) (j : Nat) : ∀ i, i ≤ j → BitVec.carry i z (BitVec.twoPow 64 j) false = false
  | 0, _ => by simp
  | i + 1, h => by
    rw [BitVec.carry_succ, carry_two z j i (by omega), BitVec.getLsbD_twoPow]
    have : ¬ j = i := by omega
    simp [this]
theorem flip (z : U) {j : Nat} (hj : j < 64) : (z + BitVec.twoPow 64 j).getLsbD j = !(z.getLsbD j) := by
  rw [BitVec.getLsbD_add hj, carry_two z j j (Nat.le_refl _), BitVec.getLsbD_twoPow]
  simp [hj]
theorem flip_sub (z : U) {j : Nat} (hj : j < 64) : (z - BitVec.twoPow 64 j).getLsbD j = !(z.getLsbD j) := by
  have h := flip (z - BitVec.twoPow 64 j) hj
  rw [BitVec.sub_add_cancel] at h
  rw [h, Bool.not_not]

/-! ### each operation -/

section
variable {av am bv bm : U} (ha : av.toNat < 8) (ham : am.toNat < 8) (hb : bv.toNat < 8) (hbm : bm.toNat < 8)
include ha ham hb hbm

theorem some_alive : ∃ p, p < 64 ∧ alP av am bv bm p = true := by
  have _ := ham
  have _ := hbm
  obtain ⟨p, h1, h2, _⟩ := pair_of av am bv bm (lo_lt ha) (lo_lt hb) (in_lo av am) (in_lo bv bm)
  exact ⟨p, h1, h2⟩

/-- Two pairs that differ at a bit. -/
theorem two (i j : Nat) {x y x' y' : U} (hx : x.toNat < 8) (hy : y.toNat < 8) (hx' : x'.toNat < 8) (hy' : y'.toNat < 8) (h1 : (av ^^^ x) &&& ~~~am = K 0) (h2 : (bv ^^^ y) &&& ~~~bm = K 0) (h3 : (av ^^^ x') &&& ~~~am = K 0) (h4 : (bv ^^^ y') &&& ~~~bm = K 0)
    (hne : ((W5.op x y).get i).getLsbD j ≠ ((W5.op x' y').get i).getLsbD j) : ∃ p q, p < 64 ∧ q < 64 ∧ alP av am bv bm p = true ∧ alP av am bv bm q = true ∧ (opP i p).getLsbD j ≠ (opP i q).getLsbD j := by
  have _ := ha
  have _ := ham
  have _ := hb
  have _ := hbm
  obtain ⟨p, p1, p2, p3⟩ := pair_of av am bv bm hx hy h1 h2
  obtain ⟨q, q1, q2, q3⟩ := pair_of av am bv bm hx' hy' h3 h4
  exact ⟨p, q, p1, q1, p2, q2, by rw [p3, q3]; exact hne⟩

omit ha ham hb hbm in
theorem sound_of {i : Nat} {V0 M : U} (h : ∀ x y : U, (av ^^^ x) &&& ~~~am = K 0 → (bv ^^^ y) &&& ~~~bm = K 0 → ((V0 &&& ~~~M) ^^^ (W5.op x y).get i) &&& ~~~M = K 0) :
    ∀ p, p < 64 → alP av am bv bm p = true → ∀ j, j < 64 → M.getLsbD j = false → (opP i p).getLsbD j = V0.getLsbD j := by
  intro p hp hal j hj hM
  unfold alP at hal
  rw [Bool.not_eq_true'] at hal
  obtain ⟨h1, h2⟩ := (alive_iff av am bv bm).1 hal
  have h3 := congrArg (fun z : U => z.getLsbD j) (h _ _ h1 h2)
  rw [TL.K0] at h3
  simp only [BitVec.getLsbD_and, BitVec.getLsbD_xor, BitVec.getLsbD_not, BitVec.getLsbD_zero, hj, decide_true, hM, Bool.not_false, Bool.and_true] at h3
  unfold opP
  revert h3
  generalize V0.getLsbD j = a; generalize ((W5.op (kk (p / 8)) (kk (p % 8))).get i).getLsbD j = b
  revert a b; decide

theorem ex0 : (es av am bv bm 64).d.get 0 = sM av am bv bm ∧ (lo av am + lo bv bm) &&& ~~~(sM av am bv bm) = (es av am bv bm 64).f.get 0 &&& ~~~((es av am bv bm 64).d.get 0) := by
  refine exact_bits av am bv bm (some_alive ha ham hb hbm) (sound_of fun x y h1 h2 => ?_) fun j hj hM => ?_
  · have := in_add av am bv bm x y
    rw [sm_of h1, sm_of h2] at this
    exact this
  · unfold sM at hM
    rw [hi_sum, TL.K0] at hM
    simp only [BitVec.getLsbD_or, BitVec.getLsbD_xor, BitVec.getLsbD_zero, Bool.false_or, Bool.or_eq_true] at hM
    rcases hM with h | h | h
    · refine two ha ham hb hbm 0 j (lo_lt ha) (lo_lt hb) (hi_lt ha ham) (hi_lt hb hbm) (in_lo _ _) (in_lo _ _) (in_hi _ _) (in_hi _ _) ?_
      show (lo av am + lo bv bm).getLsbD j ≠ ((av ||| am) + (bv ||| bm)).getLsbD j
      intro e
      rw [e, Bool.xor_self] at h
      cases h
    · refine two ha ham hb hbm 0 j (lo_lt ha) (lo_lt hb) (fl_lt ha ham h) (lo_lt hb) (in_lo _ _) (in_lo _ _) (in_fl h) (in_lo _ _) ?_
      show (lo av am + lo bv bm).getLsbD j ≠ (lo av am + BitVec.twoPow 64 j + lo bv bm).getLsbD j
      rw [show lo av am + BitVec.twoPow 64 j + lo bv bm = lo av am + lo bv bm + BitVec.twoPow 64 j by ac_rfl, flip _ hj]
      cases (lo av am + lo bv bm).getLsbD j <;> decide
    · refine two ha ham hb hbm 0 j (lo_lt ha) (lo_lt hb) (lo_lt ha) (fl_lt hb hbm h) (in_lo _ _) (in_lo _ _) (in_lo _ _) (in_fl h) ?_
      show (lo av am + lo bv bm).getLsbD j ≠ (lo av am + (lo bv bm + BitVec.twoPow 64 j)).getLsbD j
      rw [show lo av am + (lo bv bm + BitVec.twoPow 64 j) = lo av am + lo bv bm + BitVec.twoPow 64 j by ac_rfl, flip _ hj]
      cases (lo av am + lo bv bm).getLsbD j <;> decide

theorem ex1 : (es av am bv bm 64).d.get 1 = dM av am bv bm ∧ (lo av am - lo bv bm) &&& ~~~(dM av am bv bm) = (es av am bv bm 64).f.get 1 &&& ~~~((es av am bv bm 64).d.get 1) := by
  refine exact_bits av am bv bm (some_alive ha ham hb hbm) (sound_of fun x y h1 h2 => ?_) fun j hj hM => ?_
  · have := in_sub av am bv bm x y
    rw [sm_of h1, sm_of h2] at this
    exact this
  · unfold dM at hM
    rw [up_dif, down_dif, TL.K0] at hM
    simp only [BitVec.getLsbD_or, BitVec.getLsbD_xor, BitVec.getLsbD_zero, Bool.false_or, Bool.or_eq_true] at hM
    rcases hM with h | h | h
    · refine two ha ham hb hbm 1 j (hi_lt ha ham) (lo_lt hb) (lo_lt ha) (hi_lt hb hbm) (in_hi _ _) (in_lo _ _) (in_lo _ _) (in_hi _ _) ?_
      show ((av ||| am) - lo bv bm).getLsbD j ≠ (lo av am - (bv ||| bm)).getLsbD j
      intro e
      rw [e, Bool.xor_self] at h
      cases h
    · refine two ha ham hb hbm 1 j (lo_lt ha) (lo_lt hb) (fl_lt ha ham h) (lo_lt hb) (in_lo _ _) (in_lo _ _) (in_fl h) (in_lo _ _) ?_
      show (lo av am - lo bv bm).getLsbD j ≠ (lo av am + BitVec.twoPow 64 j - lo bv bm).getLsbD j
      rw [show lo av am + BitVec.twoPow 64 j - lo bv bm = lo av am - lo bv bm + BitVec.twoPow 64 j by rw [BitVec.sub_eq_add_neg, BitVec.sub_eq_add_neg]; ac_rfl, flip _ hj]
      cases (lo av am - lo bv bm).getLsbD j <;> decide
    · refine two ha ham hb hbm 1 j (lo_lt ha) (lo_lt hb) (lo_lt ha) (fl_lt hb hbm h) (in_lo _ _) (in_lo _ _) (in_lo _ _) (in_fl h) ?_
      show (lo av am - lo bv bm).getLsbD j ≠ (lo av am - (lo bv bm + BitVec.twoPow 64 j)).getLsbD j
      rw [show lo av am - (lo bv bm + BitVec.twoPow 64 j) = lo av am - lo bv bm - BitVec.twoPow 64 j by rw [BitVec.sub_eq_add_neg, BitVec.sub_eq_add_neg, BitVec.sub_eq_add_neg, BitVec.neg_add, BitVec.sub_eq_add_neg]; ac_rfl, flip_sub _ hj]
      cases (lo av am - lo bv bm).getLsbD j <;> decide

theorem ex2 : (es av am bv bm 64).d.get 2 = aM av am bv bm ∧ (lo av am &&& lo bv bm) &&& ~~~(aM av am bv bm) = (es av am bv bm 64).f.get 2 &&& ~~~((es av am bv bm 64).d.get 2) := by
  refine exact_bits av am bv bm (some_alive ha ham hb hbm) (sound_of fun x y h1 h2 => ?_) fun j hj hM => ?_
  · have := in_and av am bv bm x y
    rw [sm_of h1, sm_of h2] at this
    exact this
  · unfold aM at hM
    refine two ha ham hb hbm 2 j (hi_lt ha ham) (hi_lt hb hbm) (lo_lt ha) (lo_lt hb) (in_hi _ _) (in_hi _ _) (in_lo _ _) (in_lo _ _) ?_
    show ((av ||| am) &&& (bv ||| bm)).getLsbD j ≠ (lo av am &&& lo bv bm).getLsbD j
    rw [BitVec.getLsbD_and, BitVec.getLsbD_not] at hM
    simp only [hj, decide_true, Bool.true_and] at hM
    revert hM
    generalize ((av ||| am) &&& (bv ||| bm)).getLsbD j = a; generalize (lo av am &&& lo bv bm).getLsbD j = b
    revert a b; decide

theorem ex3 : (es av am bv bm 64).d.get 3 = oM av am bv bm ∧ (lo av am ||| lo bv bm) &&& ~~~(oM av am bv bm) = (es av am bv bm 64).f.get 3 &&& ~~~((es av am bv bm 64).d.get 3) := by
  refine exact_bits av am bv bm (some_alive ha ham hb hbm) (sound_of fun x y h1 h2 => ?_) fun j hj hM => ?_
  · have := in_or av am bv bm x y
    rw [sm_of h1, sm_of h2] at this
    exact this
  · unfold oM at hM
    refine two ha ham hb hbm 3 j (hi_lt ha ham) (hi_lt hb hbm) (lo_lt ha) (lo_lt hb) (in_hi _ _) (in_hi _ _) (in_lo _ _) (in_lo _ _) ?_
    show ((av ||| am) ||| (bv ||| bm)).getLsbD j ≠ (lo av am ||| lo bv bm).getLsbD j
    rw [TL.K0] at hM
    simp only [BitVec.getLsbD_and, BitVec.getLsbD_or, BitVec.getLsbD_not, BitVec.getLsbD_zero, Bool.false_or, hj, decide_true, Bool.true_and, lo_bit _ _ _ hj] at hM ⊢
    revert hM
    generalize av.getLsbD j = a; generalize am.getLsbD j = b; generalize bv.getLsbD j = c; generalize bm.getLsbD j = d
    revert a b c d; decide

theorem ex4 : (es av am bv bm 64).d.get 4 = op2 am bm ∧ (av ^^^ bv) &&& ~~~(op2 am bm) = (es av am bv bm 64).f.get 4 &&& ~~~((es av am bv bm 64).d.get 4) := by
  refine exact_bits av am bv bm (some_alive ha ham hb hbm) (sound_of fun x y h1 h2 => ?_) fun j hj hM => ?_
  · have := in_xor av am bv bm x y
    rw [sm_of h1, sm_of h2] at this
    exact this
  · rw [op2_bit, Bool.or_eq_true] at hM
    rcases hM with h | h
    · refine two ha ham hb hbm 4 j (lo_lt ha) (lo_lt hb) (hi_lt ha ham) (lo_lt hb) (in_lo _ _) (in_lo _ _) (in_hi _ _) (in_lo _ _) ?_
      show (lo av am ^^^ lo bv bm).getLsbD j ≠ ((av ||| am) ^^^ lo bv bm).getLsbD j
      rw [BitVec.getLsbD_xor, BitVec.getLsbD_xor, BitVec.getLsbD_or, lo_bit _ _ _ hj, h]
      generalize (lo bv bm).getLsbD j = a; generalize av.getLsbD j = b
      revert a b; decide
    · refine two ha ham hb hbm 4 j (lo_lt ha) (lo_lt hb) (lo_lt ha) (hi_lt hb hbm) (in_lo _ _) (in_lo _ _) (in_lo _ _) (in_hi _ _) ?_
      show (lo av am ^^^ lo bv bm).getLsbD j ≠ (lo av am ^^^ (bv ||| bm)).getLsbD j
      rw [BitVec.getLsbD_xor, BitVec.getLsbD_xor, BitVec.getLsbD_or, lo_bit bv bm _ hj, h]
      generalize (lo av am).getLsbD j = a; generalize bv.getLsbD j = b
      revert a b; decide

theorem ex_n : BitVec.slt (K 0) (es av am bv bm 64).n = true := by
  obtain ⟨c, hc, hn, h0, h1⟩ := einv av am bv bm 64 (Nat.le_refl _)
  have hc0 : 0 < c := by
    rcases Nat.eq_zero_or_pos c with h | h
    · obtain ⟨p, hp, ha⟩ := some_alive ha ham hb hbm
      rw [(h0 h).1 p hp] at ha
      cases ha
    · exact h
  rw [hn]
  have key : ∀ k : Fin 65, 0 < k.val → BitVec.slt (K 0) (kk k.val) = true := by decide +kernel
  exact key ⟨c, by omega⟩ hc0
end

theorem bad_no {m d v f v0 : U} (h1 : d = m) (h2 : v = f &&& ~~~d) : badC m d v f = false := by
  unfold badC
  rw [h1] at h2 ⊢
  rw [h2]
  simp
end Go.WE
