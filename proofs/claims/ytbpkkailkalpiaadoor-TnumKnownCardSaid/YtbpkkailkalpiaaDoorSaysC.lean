/- TnumSays: the document's bits: what Of and Tnum come to, as contracts. -/
import Derived.Test.YtbpkkailkalpiaaDoorTz
import Derived.Test.YtbpkkailkalpiaaDoorWE33
namespace Go.WE
set_option linter.unusedVariables false
set_option maxRecDepth 100000
open Go Go.TL Go.Proofs

theorem K_nat (n : Nat) (h : n < 2 ^ 64) : (K (Int.ofNat n)).toNat = n := by
  have : K (Int.ofNat n) = BitVec.ofNat 64 n := BitVec.ofInt_natCast 64 n
  rw [this, BitVec.toNat_ofNat, Nat.mod_eq_of_lt h]
theorem K_two (n : Nat) : K (Int.ofNat (2 ^ n)) = BitVec.twoPow 64 n := by
  have : K (Int.ofNat (2 ^ n)) = BitVec.ofNat 64 (2 ^ n) := BitVec.ofInt_natCast 64 _
  rw [this]
  apply BitVec.eq_of_toNat_eq
  rw [BitVec.toNat_ofNat, BitVec.toNat_twoPow]

def bitT (a : U) (i : Nat) : Bool := ((a >>> (K (Int.ofNat i)).toNat) % K 2) == K 1
theorem bitT_eq (a : U) (i : Nat) (h : i < 64) : bitT a i = a.getLsbD i := by
  unfold bitT
  rw [K_nat i (by omega), show K 1 = 1#64 from rfl, show K 2 = 2#64 from rfl]
  rw [Bool.eq_iff_iff, beq_iff_eq]
  rw [← BitVec.toNat_inj, BitVec.toNat_umod, BitVec.toNat_ushiftRight, Nat.shiftRight_eq_div_pow]
  rw [BitVec.getLsbD, Nat.testBit_eq_decide_div_mod_eq, decide_eq_true_iff]
  rfl

/-! ### a tnum's bits -/

def gZ (v m : U) (i : Nat) : Bool := cond (bitT m i) true (!(bitT v i))
def gO (v m : U) (i : Nat) : Bool := cond (bitT m i) true (bitT v i)
def boolsT (g : Nat → Bool) : T := .lst 1 ((List.range 64).map fun i => .a (.b (g i)))
abbrev bitsT (g0 g1 : Nat → Bool) : T := .st [.arr 1 (.lit 64) (.bool g0), .arr 1 (.lit 64) (.bool g1)]
abbrev tnT (v m : U) : T := .st [.a (.i .u64 v), .a (.i .u64 m)]

theorem of_ev (v m : U) : (evalF cxT noΓ 400 20 41 [.t (tnT v m)] H.none).res = some (.tt, .t (.st [boolsT (gZ v m), boolsT (gO v m)])) := by kernel_rfl

/-- Bools one by one. -/
theorem bools_rel {ν : Nu} {g : Nat → Bool} : ∀ (l : List Nat) (vs : List Value), relLst ν 1 (l.map fun i => .a (.b (g i))) vs → vs = l.map fun i => .bool (g i)
  | [], vs, h => by simpa [relLst] using h
  | i :: l, vs, h => by
    simp only [List.map_cons, relLst] at h
    obtain ⟨us, ws, rfl, _, ht, hw⟩ := h
    simp only [T.rel, A.rel] at ht
    obtain ⟨v, rfl, rfl, _⟩ := ht
    rw [bools_rel l ws hw]
    rfl
theorem bools_arr {ν : Nu} {g : Nat → Bool} {vs : List Value} (h : (boolsT g).rel ν vs) : (T.arr 1 (.lit 64) (.bool g)).rel ν vs := by
  unfold boolsT at h
  simp only [T.rel] at h
  have h := bools_rel _ _ h
  subst h
  simp only [T.rel]
  refine ⟨by simp [Ix.val], fun i hi => ?_⟩
  have hi : i < 64 := hi
  simp only [Sh.rel]
  rw [Nat.one_mul, List.take_one, List.head?_drop]
  simp [hi]

def ofS : List V → Option (A × V)
  | [.t (.st [.a x, .a y])] => match x.bv, y.bv with
    | some (.u64, v), some (.u64, m) => some (.tt, .t (bitsT (gZ v m) (gO v m)))
    | _, _ => none
  | _ => none

theorem st2_rel {ν : Nu} {s1 s2 t1 t2 : T} (h1 : ∀ vs, s1.rel ν vs → t1.rel ν vs) (h2 : ∀ vs, s2.rel ν vs → t2.rel ν vs) {u : Value} (h : (V.t (.st [s1, s2])).rel ν u) : (V.t (.st [t1, t2])).rel ν u := by
  obtain ⟨vs, rfl, h⟩ := h
  refine ⟨vs, rfl, ?_⟩
  simp only [T.rel, relTs] at h ⊢
  obtain ⟨u1, w1, e1, r1, u2, w2, e2, r2, e3⟩ := h
  exact ⟨u1, w1, e1, h1 _ r1, u2, w2, e2, h2 _ r2, e3⟩

/-- A contract at arguments that say more. -/
theorem PureOK.more {P : Program} {f : FuncId} {args args' : List V} {v : V} (h : PureOK P f args' v) (ha : ∀ ν vs, relV ν args vs → relV ν args' vs) : PureOK P f args v := by
  rcases h with ⟨h1, h2⟩ | h
  · exact .inl ⟨h1, fun h S ν w vs hr hw hm hv => h2 h S ν w vs hr hw hm (ha _ _ hv)⟩
  · exact .inr fun ν w vs hv => h ν w vs (ha _ _ hv)

theorem bv_less {x : A} {k : IntKind} {y : U} (h : x.bv = some (k, y)) {ν : Nu} {vs : List Value} (hr : (T.a x).rel ν vs) : (T.a (.i k y)).rel ν vs := by
  simp only [T.rel] at hr ⊢
  obtain ⟨v, rfl, hx, hc⟩ := hr
  exact ⟨v, rfl, by simp only [A.rel]; exact bv_val h hx, hc⟩

theorem tn_args {x y : A} {v m : U} (hx : x.bv = some (.u64, v)) (hy : y.bv = some (.u64, m)) {ν : Nu} {u : Value} (h : (V.t (.st [.a x, .a y])).rel ν u) : (V.t (tnT v m)).rel ν u :=
  st2_rel (fun _ h => bv_less hx h) (fun _ h => bv_less hy h) h

theorem of_ok {Γ : Gam} (hΓ : ΓOK Tryd.prog Γ) : ΓOK Tryd.prog (specG 41 ofS Γ) := by
  refine specG_ok (fun args ok v h hok => ?_) hΓ
  unfold ofS at h
  split at h
  · split at h
    · rename_i x y v m hx hy
      simp only [Option.some.injEq, Prod.mk.injEq] at h
      obtain ⟨rfl, rfl⟩ := h
      refine ((pure_of_eval (X0 noΓ_ok) rfl (of_ev v m) rfl rfl rfl).less fun ν u hu => st2_rel (fun _ h => bools_arr h) (fun _ h => bools_arr h) hu).more fun ν vs hv => ?_
      match vs, hv with
      | [u], ⟨hu, _⟩ => exact ⟨tn_args hx hy hu, trivial⟩
    · cases h
  · cases h

/-! ### from bits -/

def both (g0 g1 : Nat → Bool) (i : Nat) : Bool := cond (g0 i) (g1 i) false
def tV (g0 g1 : Nat → Bool) : Nat → U
  | 0 => K 0
  | n + 1 => cond (both g0 g1 n) (tV g0 g1 n) (cond (g1 n) (tV g0 g1 n + K (Int.ofNat (2 ^ n))) (tV g0 g1 n))
def same : Nat → Bool → U → U
  | 0, _, x => x
  | _ + 1, b, x => cond b x x
theorem same_eq (n : Nat) (b : Bool) (x : U) : same n b x = x := by cases n <;> cases b <;> rfl
def tM (g0 g1 : Nat → Bool) : Nat → U
  | 0 => K 0
  | n + 1 => cond (both g0 g1 n) (tM g0 g1 n + K (Int.ofNat (2 ^ n))) (same n (g1 n) (tM g0 g1 n))

theorem tnum_ev (g0 g1 : Nat → Bool) : (evalF cxT noΓ 400 20 42 [.t (bitsT g0 g1)] H.none).res = some (.tt, .t (tnT (tV g0 g1 64) (tM g0 g1 64))) := by kernel_rfl

theorem add_bit {x : U} {f : Nat → Bool} {n : Nat} (hn : n < 64) (hx : ∀ j, x.getLsbD j = (decide (j < n) && f j)) (hf : f n = true) : ∀ j, (x + K (Int.ofNat (2 ^ n))).getLsbD j = (decide (j < n + 1) && f j) := by
  intro j
  rw [K_two]
  have hz : x &&& BitVec.twoPow 64 n = 0#64 := by
    apply BitVec.eq_of_getLsbD_eq
    intro i hi
    rw [BitVec.getLsbD_and, hx, BitVec.getLsbD_twoPow]
    by_cases e : n = i
    · subst e; simp
    · simp [e]
  rw [BitVec.add_eq_or_of_and_eq_zero _ _ hz, BitVec.getLsbD_or, hx, BitVec.getLsbD_twoPow]
  by_cases e : j = n
  · subst e
    simp [hn, hf]
  · have e1 : decide (j < n) = decide (j < n + 1) := by congr 1; exact propext ⟨fun h => by omega, fun h => by omega⟩
    have e2 : ¬ n = j := fun h => e h.symm
    rw [e1]; simp [e2]
theorem keep_bit {x : U} {f : Nat → Bool} {n : Nat} (hx : ∀ j, x.getLsbD j = (decide (j < n) && f j)) (hf : f n = false) : ∀ j, x.getLsbD j = (decide (j < n + 1) && f j) := by
  intro j
  rw [hx]
  by_cases e : j = n
  · subst e; simp [hf]
  · have e1 : decide (j < n) = decide (j < n + 1) := by congr 1; exact propext ⟨fun h => by omega, fun h => by omega⟩
    rw [e1]
theorem tM_bits (g0 g1 : Nat → Bool) : ∀ n, n ≤ 64 → ∀ j, (tM g0 g1 n).getLsbD j = (decide (j < n) && both g0 g1 j)
  | 0, _, j => by simp [tM]
  | n + 1, h, j => by
    have ih := tM_bits g0 g1 n (by omega)
    unfold tM
    rw [same_eq]
    cases hb : both g0 g1 n
    · exact keep_bit ih hb j
    · exact add_bit (by omega) ih hb j
theorem tV_bits (g0 g1 : Nat → Bool) : ∀ n, n ≤ 64 → ∀ j, (tV g0 g1 n).getLsbD j = (decide (j < n) && (!(both g0 g1 j) && g1 j))
  | 0, _, j => by simp [tV]
  | n + 1, h, j => by
    have ih := tV_bits g0 g1 n (by omega)
    unfold tV
    cases hb : both g0 g1 n
    · cases h1 : g1 n
      · exact keep_bit (f := fun j => !(both g0 g1 j) && g1 j) ih (by simp [h1]) j
      · exact add_bit (f := fun j => !(both g0 g1 j) && g1 j) (by omega) ih (by simp [hb, h1]) j
    · exact keep_bit (f := fun j => !(both g0 g1 j) && g1 j) ih (by simp [hb]) j

/-- What a list's elements are. -/
def atB (ts : List T) (i : Nat) : Bool := match ts[i]? with
  | some (.a .tt) => true
  | some (.a (.b x)) => x
  | _ => false
def isB : T → Bool
  | .a .tt => true
  | .a .ff => true
  | .a (.b _) => true
  | _ => false
theorem isB_rel {ν : Nu} : ∀ (ts : List T) (vs : List Value), (ts.all isB) = true → relLst ν 1 ts vs → vs = (List.range ts.length).map fun i => .bool (atB ts i)
  | [], vs, _, h => by simpa [relLst] using h
  | t :: ts, vs, ha, h => by
    simp only [List.all_cons, Bool.and_eq_true] at ha
    simp only [relLst] at h
    obtain ⟨us, ws, rfl, _, ht, hw⟩ := h
    have ih := isB_rel ts ws ha.2 hw
    have hu : us = [.bool (atB (t :: ts) 0)] := by
      have h1 := ha.1
      unfold isB at h1
      split at h1
      · simp only [T.rel, A.rel] at ht; obtain ⟨v, rfl, rfl, _⟩ := ht; rfl
      · simp only [T.rel, A.rel] at ht; obtain ⟨v, rfl, rfl, _⟩ := ht; rfl
      · simp only [T.rel, A.rel] at ht; obtain ⟨v, rfl, rfl, _⟩ := ht; rfl
      · cases h1
    rw [hu, ih, List.length_cons, List.range_succ_eq_map]
    simp only [List.map_cons, List.map_map, List.singleton_append, List.cons.injEq, true_and]
    exact List.map_congr_left fun i _ => rfl
theorem isB_arr {ν : Nu} {ts : List T} (hn : ts.length = 64) (ha : (ts.all isB) = true) {vs : List Value} (h : (T.lst 1 ts).rel ν vs) : (T.arr 1 (.lit 64) (.bool (atB ts))).rel ν vs := by
  simp only [T.rel] at h
  have h := isB_rel ts vs ha h
  rw [hn] at h
  subst h
  simp only [T.rel]
  refine ⟨by simp [Ix.val], fun i hi => ?_⟩
  have hi : i < 64 := hi
  simp only [Sh.rel]
  rw [Nat.one_mul, List.take_one, List.head?_drop]
  simp [hi]

def tnumS : List V → Option (A × V)
  | [.t (.st [.lst 1 zs, .lst 1 os])] => match Nat.beq zs.length 64 && Nat.beq os.length 64 && (zs.all isB && os.all isB) with
    | true => some (.tt, .t (tnT (tV (atB zs) (atB os) 64) (tM (atB zs) (atB os) 64)))
    | false => none
  | [.t (.st [.arr 1 (.lit 64) (.bool g0), .arr 1 (.lit 64) (.bool g1)])] => some (.tt, .t (tnT (tV g0 g1 64) (tM g0 g1 64)))
  | _ => none
theorem tnum_ok {Γ : Gam} (hΓ : ΓOK Tryd.prog Γ) : ΓOK Tryd.prog (specG 42 tnumS Γ) := by
  refine specG_ok (fun args ok v h hok => ?_) hΓ
  unfold tnumS at h
  split at h
  · rename_i zs os
    split at h
    · rename_i hb
      simp only [Bool.and_eq_true] at hb
      simp only [Option.some.injEq, Prod.mk.injEq] at h
      obtain ⟨rfl, rfl⟩ := h
      refine (pure_of_eval (X0 noΓ_ok) rfl (tnum_ev (atB zs) (atB os)) rfl rfl rfl).more fun ν vs hv => ?_
      match vs, hv with
      | [u], ⟨hu, _⟩ => exact ⟨st2_rel (fun _ h => isB_arr (Go.WE.beq_true hb.1.1) hb.2.1 h) (fun _ h => isB_arr (Go.WE.beq_true hb.1.2) hb.2.2 h) hu, trivial⟩
    · cases h
  · rename_i g0 g1
    simp only [Option.some.injEq, Prod.mk.injEq] at h
    obtain ⟨rfl, rfl⟩ := h
    exact pure_of_eval (X0 noΓ_ok) rfl (tnum_ev g0 g1) rfl rfl rfl
  · cases h
def Γ1 : Gam := specG 41 ofS (specG 42 tnumS noΓ)
theorem Γ1_ok : ΓOK Tryd.prog Γ1 := of_ok (tnum_ok noΓ_ok)
end Go.WE
