/- TnumSays: sums and differences are the program's formulas; all contracts. -/
import Derived.Test.YtbpkkailkalpiaaDoorSaysL
namespace Go.WE
set_option linter.unusedVariables false
set_option maxRecDepth 100000
open Go Go.TL Go.Proofs
open Go.RowKit (Below)

theorem S_sub : ∀ la ha lb hb bx b0 bn : Bool, (la = true → ha = true) → (lb = true → hb = true) → (bx = true → b0 = true) → (b0 = true → bn = true) →
    ((S0 true (!la) ha (!lb) hb (!bx) bn && S1 true (!la) ha (!lb) hb (!bx) bn) = (((!(!ha ^^ (lb ^^ bx))) ^^ (!(!la ^^ (hb ^^ bn)))) || ((la ^^ ha) || (lb ^^ hb)))) ∧
    ((!(S0 true (!la) ha (!lb) hb (!bx) bn && S1 true (!la) ha (!lb) hb (!bx) bn) && S1 true (!la) ha (!lb) hb (!bx) bn) = ((!(!la ^^ (lb ^^ b0))) && !(((!(!ha ^^ (lb ^^ bx))) ^^ (!(!la ^^ (hb ^^ bn)))) || ((la ^^ ha) || (lb ^^ hb))))) := by decide +kernel

theorem gZ_lo (v m : U) {i : Nat} (h : i < 64) : gZ v m i = !((lo v m).getLsbD i) := by
  rw [gZ_bit v m h, lo_bit v m i h]
  generalize v.getLsbD i = a; generalize m.getLsbD i = b
  revert a b; decide
theorem gO_hi (v m : U) {i : Nat} (h : i < 64) : gO v m i = (v ||| m).getLsbD i := by
  rw [gO_bit v m h, BitVec.getLsbD_or, Bool.or_comm]
theorem lo_sub_hi (v m : U) : TL.Sub (lo v m) (v ||| m) := fun i hi h => sub_sm_hi v m 0#64 i hi (sub_lo_sm v m 0#64 i hi h)
theorem m_bit (v m : U) {i : Nat} (h : i < 64) : m.getLsbD i = ((lo v m).getLsbD i ^^ (v ||| m).getLsbD i) := by
  rw [lo_bit v m i h, BitVec.getLsbD_or]
  generalize v.getLsbD i = a; generalize m.getLsbD i = b
  revert a b; decide

section
variable (av am bv bm : U)
theorem cSeq_add : ∀ i, i ≤ 64 → cSeq false (gZ av am) (gO av am) (gZ bv bm) (gO bv bm) i = (!(BitVec.carry i (lo av am) (lo bv bm) false), BitVec.carry i (av ||| am) (bv ||| bm) false)
  | 0, _ => by simp [cSeq]
  | i + 1, h => by
    have ih := cSeq_add i (by omega)
    have hi : i < 64 := by omega
    unfold cSeq
    rw [ih, gZ_lo _ _ hi, gO_hi _ _ hi, gZ_lo _ _ hi, gO_hi _ _ hi]
    obtain ⟨h1, h2⟩ := N_add _ _ _ _ _ _ (lo_sub_hi av am i hi) (lo_sub_hi bv bm i hi) (carry_mono (lo_sub_hi av am) (lo_sub_hi bv bm) i (by omega))
    rw [h1, h2, BitVec.carry_succ, BitVec.carry_succ]
theorem cSeq_sub : ∀ i, i ≤ 64 → cSeq true (gZ av am) (gO av am) (gZ bv bm) (gO bv bm) i = (!(BitVec.carry i (~~~(av ||| am)) (lo bv bm) false), BitVec.carry i (~~~(lo av am)) (bv ||| bm) false)
  | 0, _ => by simp [cSeq]
  | i + 1, h => by
    have ih := cSeq_sub i (by omega)
    have hi : i < 64 := by omega
    unfold cSeq
    rw [ih, gZ_lo _ _ hi, gO_hi _ _ hi, gZ_lo _ _ hi, gO_hi _ _ hi]
    obtain ⟨h1, h2⟩ := N_sub _ _ _ _ _ _ (lo_sub_hi av am i hi) (lo_sub_hi bv bm i hi) (carry_mono (sub_not (lo_sub_hi av am)) (lo_sub_hi bv bm) i (by omega))
    rw [h1, h2, BitVec.carry_succ, BitVec.carry_succ, BitVec.getLsbD_not, BitVec.getLsbD_not]
    simp only [hi, decide_true, Bool.true_and]

theorem upTo_at {g : Nat → Bool} {i : Nat} (hi : i < 64) : upTo 64 g i = g i := by
  unfold upTo
  rw [blt_dec]
  simp [hi]

theorem add_eq : rT (upTo 64 (zS0 false (gZ av am) (gO av am) (gZ bv bm) (gO bv bm))) (upTo 64 (zS1 false (gZ av am) (gO av am) (gZ bv bm) (gO bv bm))) = tnT ((lo av am + lo bv bm) &&& ~~~(sM av am bv bm)) (sM av am bv bm) := tn_eq fun i hi => by
  have hM : (sM av am bv bm).getLsbD i = (((lo av am + lo bv bm).getLsbD i ^^ ((av ||| am) + (bv ||| bm)).getLsbD i) || (am.getLsbD i || bm.getLsbD i)) := by
    unfold sM
    rw [hi_sum, TL.K0]
    simp only [BitVec.getLsbD_or, BitVec.getLsbD_xor, BitVec.getLsbD_zero, Bool.false_or]
  rw [upTo_at hi, upTo_at hi, BitVec.getLsbD_and, BitVec.getLsbD_not, hM, m_bit av am hi, m_bit bv bm hi, BitVec.getLsbD_add hi, BitVec.getLsbD_add hi]
  unfold zS0 zS1
  rw [cSeq_add av am bv bm i (by omega), gZ_lo _ _ hi, gO_hi _ _ hi, gZ_lo _ _ hi, gO_hi _ _ hi]
  obtain ⟨h1, h2⟩ := S_add _ _ _ _ _ _ (lo_sub_hi av am i hi) (lo_sub_hi bv bm i hi) (carry_mono (lo_sub_hi av am) (lo_sub_hi bv bm) i (by omega))
  simp only [hi, decide_true, Bool.true_and]
  exact ⟨h1.symm, h2.symm⟩
theorem sub_eqT : rT (upTo 64 (zS0 true (gZ av am) (gO av am) (gZ bv bm) (gO bv bm))) (upTo 64 (zS1 true (gZ av am) (gO av am) (gZ bv bm) (gO bv bm))) = tnT ((lo av am - lo bv bm) &&& ~~~(dM av am bv bm)) (dM av am bv bm) := tn_eq fun i hi => by
  have hM : (dM av am bv bm).getLsbD i = ((((av ||| am) - lo bv bm).getLsbD i ^^ (lo av am - (bv ||| bm)).getLsbD i) || (am.getLsbD i || bm.getLsbD i)) := by
    unfold dM
    rw [up_dif, down_dif, TL.K0]
    simp only [BitVec.getLsbD_or, BitVec.getLsbD_xor, BitVec.getLsbD_zero, Bool.false_or]
  have hs : ∀ x y : U, (x - y).getLsbD i = !(!(x.getLsbD i) ^^ (y.getLsbD i ^^ BitVec.carry i (~~~x) y false)) := fun x y => by
    rw [TL.sub_eq, BitVec.getLsbD_not, BitVec.getLsbD_add hi, BitVec.getLsbD_not]
    simp only [hi, decide_true, Bool.true_and]
  rw [upTo_at hi, upTo_at hi, BitVec.getLsbD_and, BitVec.getLsbD_not, hM, m_bit av am hi, m_bit bv bm hi, hs, hs, hs]
  unfold zS0 zS1
  rw [cSeq_sub av am bv bm i (by omega), gZ_lo _ _ hi, gO_hi _ _ hi, gZ_lo _ _ hi, gO_hi _ _ hi]
  obtain ⟨h1, h2⟩ := S_sub _ _ _ _ _ (BitVec.carry i (~~~(lo av am)) (lo bv bm) false) _ (lo_sub_hi av am i hi) (lo_sub_hi bv bm i hi) (carry_mono (sub_not (lo_sub_hi av am)) (fun _ _ h => h) i (by omega)) (carry_mono (fun _ _ h => h) (lo_sub_hi bv bm) i (by omega))
  simp only [hi, decide_true, Bool.true_and]
  exact ⟨h1.symm, h2.symm⟩
end

/-! ### contracts -/

def bin (fV fM : U → U → U → U → U) : List V → Option (A × V)
  | [.t (.st [.a x, .a y]), .t (.st [.a x', .a y'])] => match x.bv, y.bv, x'.bv, y'.bv with
    | some (.u64, av), some (.u64, am), some (.u64, bv), some (.u64, bm) => some (.tt, .t (tnT (fV av am bv bm) (fM av am bv bm)))
    | _, _, _, _ => none
  | _ => none
theorem bin_args {x y x' y' : A} {av am bv bm : U} (h1 : x.bv = some (.u64, av)) (h2 : y.bv = some (.u64, am)) (h3 : x'.bv = some (.u64, bv)) (h4 : y'.bv = some (.u64, bm)) {ν : Nu} {vs : List Value}
    (hv : relV ν [.t (.st [.a x, .a y]), .t (.st [.a x', .a y'])] vs) : relV ν [.t (tnT av am), .t (tnT bv bm)] vs := by
  match vs, hv with
  | [v0, v1], ⟨r0, r1, _⟩ => exact ⟨tn_args h1 h2 r0, tn_args h3 h4 r1, trivial⟩
theorem bin_ok {f : FuncId} {fV fM : U → U → U → U → U} {Γ : Gam} (h : ∀ av am bv bm, PureOK Tryd.prog f [.t (tnT av am), .t (tnT bv bm)] (.t (tnT (fV av am bv bm) (fM av am bv bm)))) (hΓ : ΓOK Tryd.prog Γ) : ΓOK Tryd.prog (specG f (bin fV fM) Γ) := by
  refine specG_ok (fun args ok v hs hok => ?_) hΓ
  unfold bin at hs
  split at hs
  · split at hs
    · rename_i h1 h2 h3 h4
      simp only [Option.some.injEq, Prod.mk.injEq] at hs
      obtain ⟨rfl, rfl⟩ := hs
      exact (h _ _ _ _).more fun ν vs hv => bin_args h1 h2 h3 h4 hv
    · cases hs
  · cases hs

theorem bin_some {fV fM : U → U → U → U → U} {x y : V} {ok : A} {v : V} (h : bin fV fM [x, y] = some (ok, v)) : ∃ a b c d av am bv bm, x = .t (.st [.a a, .a b]) ∧ y = .t (.st [.a c, .a d]) ∧ a.bv = some (.u64, av) ∧ b.bv = some (.u64, am) ∧ c.bv = some (.u64, bv) ∧ d.bv = some (.u64, bm) ∧ v = .t (tnT (fV av am bv bm) (fM av am bv bm)) := by
  unfold bin at h
  split at h
  · rename_i a b c d heq
    simp only [List.cons.injEq, and_true] at heq
    obtain ⟨rfl, rfl⟩ := heq
    split at h
    · rename_i h1 h2 h3 h4
      simp only [Option.some.injEq, Prod.mk.injEq] at h
      obtain ⟨rfl, rfl⟩ := h
      exact ⟨_, _, _, _, _, _, _, _, rfl, rfl, h1, h2, h3, h4, rfl⟩
    · cases h
  · cases h

theorem enters44 : Enters Tryd.prog 44 := enters_of entT 44 _ Tryd.func44 (by simp [Tryd.f44])
theorem carried_pure (less : Bool) (av am bv bm : U) : PureOK Tryd.prog 44 [.t (tnT av am), .t (tnT bv bm), one (lsA less)] (.t (rT (upTo 64 (zS0 less (gZ av am) (gO av am) (gZ bv bm) (gO bv bm))) (upTo 64 (zS1 less (gZ av am) (gO av am) (gZ bv bm) (gO bv bm))))) :=
  pure_of_calls (q := fun u => (V.t (rT (upTo 64 (zS0 less (gZ av am) (gO av am) (gZ bv bm) (gO bv bm))) (upTo 64 (zS1 less (gZ av am) (gO av am) (gZ bv bm) (gO bv bm))))).rel nu0 u) enters44 (fun ν u h => V.rel_free rfl h)
    (fun ν vs w hv => carried_calls less av am bv bm (relV_free (by cases less <;> rfl) hv) w)
def carS : List V → Option (A × V)
  | [x, y, .t (.a .ff)] => bin (fun av am bv bm => (lo av am + lo bv bm) &&& ~~~(sM av am bv bm)) sM [x, y]
  | [x, y, .t (.a .tt)] => bin (fun av am bv bm => (lo av am - lo bv bm) &&& ~~~(dM av am bv bm)) dM [x, y]
  | _ => none
theorem car_ok {Γ : Gam} (hΓ : ΓOK Tryd.prog Γ) : ΓOK Tryd.prog (specG 44 carS Γ) := by
  refine specG_ok (fun args ok v hs hok => ?_) hΓ
  unfold carS at hs
  split at hs
  · obtain ⟨a, b, c, d, av, am, bv, bm, rfl, rfl, h1, h2, h3, h4, rfl⟩ := bin_some hs
    refine (add_eq av am bv bm ▸ carried_pure false av am bv bm).more fun ν vs hv => ?_
    match vs, hv with
    | [v0, v1, v2], ⟨r0, r1, r2, _⟩ => exact ⟨tn_args h1 h2 r0, tn_args h3 h4 r1, r2, trivial⟩
  · obtain ⟨a, b, c, d, av, am, bv, bm, rfl, rfl, h1, h2, h3, h4, rfl⟩ := bin_some hs
    refine (sub_eqT av am bv bm ▸ carried_pure true av am bv bm).more fun ν vs hv => ?_
    match vs, hv with
    | [v0, v1, v2], ⟨r0, r1, r2, _⟩ => exact ⟨tn_args h1 h2 r0, tn_args h3 h4 r1, r2, trivial⟩
  · cases hs

theorem and_pure (av am bv bm : U) : PureOK Tryd.prog 7 [.t (tnT av am), .t (tnT bv bm)] (.t (tnT ((lo av am &&& lo bv bm) &&& ~~~(aM av am bv bm)) (aM av am bv bm))) :=
  and_eq av am bv bm ▸ pure_of_eval (X0 Γ1_ok) rfl (and_ev av am bv bm) rfl rfl rfl
theorem or_pure (av am bv bm : U) : PureOK Tryd.prog 9 [.t (tnT av am), .t (tnT bv bm)] (.t (tnT ((lo av am ||| lo bv bm) &&& ~~~(oM av am bv bm)) (oM av am bv bm))) :=
  or_eq av am bv bm ▸ pure_of_eval (X0 Γ1_ok) rfl (or_ev av am bv bm) rfl rfl rfl
theorem xor_pure (av am bv bm : U) : PureOK Tryd.prog 11 [.t (tnT av am), .t (tnT bv bm)] (.t (tnT ((av ^^^ bv) &&& ~~~(op2 am bm)) (op2 am bm))) :=
  xor_eq av am bv bm ▸ pure_of_eval (X0 Γ1_ok) rfl (xor_ev av am bv bm) rfl rfl rfl
theorem join_pure (av am bv bm : U) : PureOK Tryd.prog 31 [.t (tnT av am), .t (tnT bv bm)] (.t (tnT (av &&& ~~~(jM av am bv bm)) (jM av am bv bm))) :=
  join_eq av am bv bm ▸ pure_of_eval (X0 Γ1_ok) rfl (join_ev av am bv bm) rfl rfl rfl
theorem mul_pure (av am bv bm : U) : PureOK Tryd.prog 17 [.t (tnT av am), .t (tnT bv bm)] (.t (tnT (mulV av am bv bm) (mulM av am bv bm))) :=
  mul_eq av am bv bm ▸ pure_of_eval (X0 Γ2_ok) rfl (mul_ev av am bv bm) rfl rfl rfl

def inS : List V → Option (A × V)
  | [.t (.st [.a x, .a y]), .t (.a n)] => match x.bv, y.bv, n.bv with
    | some (.u64, v), some (.u64, m), some (.u64, n) => some (.tt, .t (.a (.b ((v ^^^ n) &&& ~~~m == K 0))))
    | _, _, _ => none
  | _ => none
theorem in_ok {Γ : Gam} (hΓ : ΓOK Tryd.prog Γ) : ΓOK Tryd.prog (specG 27 inS Γ) := by
  refine specG_ok (fun args ok v hs hok => ?_) hΓ
  unfold inS at hs
  split at hs
  · split at hs
    · rename_i v m n hx hy hn
      simp only [Option.some.injEq, Prod.mk.injEq] at hs
      obtain ⟨rfl, rfl⟩ := hs
      refine (in_eq v m n ▸ pure_of_eval (X0 Γ1_ok) rfl (in_ev v m n) rfl rfl rfl : PureOK Tryd.prog 27 [.t (tnT v m), .t (.a (.i .u64 n))] _).more fun ν vs hv => ?_
      match vs, hv with
      | [v0, v1], ⟨r0, r1, _⟩ =>
        refine ⟨tn_args hx hy r0, ?_, trivial⟩
        show (A.i .u64 n).rel ν v1
        simp only [A.rel]
        exact bv_val hn r1
    · cases hs
  · cases hs
def withinS : List V → Option (A × V)
  | [.t (.st [.a x, .a y]), .t (.st [.a x', .a y'])] => match x.bv, y.bv, x'.bv, y'.bv with
    | some (.u64, av), some (.u64, am), some (.u64, bv), some (.u64, bm) => some (.tt, .t (.a (.b (cond (am &&& ~~~bm == K 0) ((bv ^^^ av) &&& ~~~bm == K 0) false))))
    | _, _, _, _ => none
  | _ => none
theorem within_ok {Γ : Gam} (hΓ : ΓOK Tryd.prog Γ) : ΓOK Tryd.prog (specG 29 withinS Γ) := by
  refine specG_ok (fun args ok v hs hok => ?_) hΓ
  unfold withinS at hs
  split at hs
  · split at hs
    · rename_i h1 h2 h3 h4
      simp only [Option.some.injEq, Prod.mk.injEq] at hs
      obtain ⟨rfl, rfl⟩ := hs
      rw [← within_eq]
      exact (pure_of_eval (X0 Γ1_ok) rfl (within_ev _ _ _ _) rfl rfl rfl : PureOK Tryd.prog 29 [.t (tnT _ _), .t (tnT _ _)] _).more fun ν vs hv => bin_args h1 h2 h3 h4 hv
    · cases hs
  · cases hs
def meetS : List V → Option (A × V)
  | [.t (.st [.a x, .a y]), .t (.st [.a x', .a y'])] => match x.bv, y.bv, x'.bv, y'.bv with
    | some (.u64, av), some (.u64, am), some (.u64, bv), some (.u64, bm) => some (.tt, .tup [tnT (cond (mC av am bv bm != K 0) (K 0) (mV av am bv bm)) (cond (mC av am bv bm != K 0) (K 0) (am &&& bm)), .a (.b (cond (mC av am bv bm != K 0) false true))])
    | _, _, _, _ => none
  | _ => none
theorem meet_ok {Γ : Gam} (hΓ : ΓOK Tryd.prog Γ) : ΓOK Tryd.prog (specG 25 meetS Γ) := by
  refine specG_ok (fun args ok v hs hok => ?_) hΓ
  unfold meetS at hs
  split at hs
  · split at hs
    · rename_i av am bv bm h1 h2 h3 h4
      simp only [Option.some.injEq, Prod.mk.injEq] at hs
      obtain ⟨rfl, rfl⟩ := hs
      have he := meet_ev av am bv bm
      obtain ⟨e1, e2, e3⟩ := meet_eq av am bv bm
      rw [e1, e2, e3] at he
      exact (pure_of_eval (X0 Γ1_ok) rfl he rfl rfl rfl).more fun ν vs hv => bin_args h1 h2 h3 h4 hv
    · cases hs
  · cases hs

def ΓD : Gam := specG 7 (bin (fun av am bv bm => (lo av am &&& lo bv bm) &&& ~~~(aM av am bv bm)) aM) (specG 9 (bin (fun av am bv bm => (lo av am ||| lo bv bm) &&& ~~~(oM av am bv bm)) oM) (specG 11 (bin (fun av am bv bm => (av ^^^ bv) &&& ~~~(op2 am bm)) (fun _ am _ bm => op2 am bm))
  (specG 31 (bin (fun av am bv bm => av &&& ~~~(jM av am bv bm)) jM) (specG 17 (bin mulV mulM) (specG 44 carS (specG 19 movS (specG 27 inS (specG 29 withinS (specG 25 meetS ΓT)))))))))
theorem ΓD_ok : ΓOK Tryd.prog ΓD := bin_ok and_pure (bin_ok or_pure (bin_ok xor_pure (bin_ok join_pure (bin_ok mul_pure (car_ok (mov_ok (in_ok (within_ok (meet_ok ΓT_ok)))))))))
end Go.WE
