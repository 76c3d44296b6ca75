/- value.caught, a deferred call: a panic with an error ends there, and the error is laid. -/
import Derived.Test.YtokinbmadcaheaaDoorWE31
import Derived.Test.YtokinbmadcaheaaDoorRows
import Derived.WalkKit
import Derived.Defers
import Derived.Recover
namespace Go.WE
set_option linter.unusedVariables false
open Go Go.Proofs

abbrev U := BitVec 64
abbrev K (n : Int) : U := BitVec.ofInt 64 n

theorem caught_idle (p : Value) (w : World) :
    CallsD Tryd.prog 18 #[p] .returning w fun e u' w' => e = .returned (.tuple #[]) ∧ u' = .returning ∧ w' = w := by
  refine callsD_of_wpS Tryd.func18 rfl fun c₀ cs hu => ?_
  apply wpS_seq
  apply wpS_region
  simp [wpOpsS, go_sem, recoverD, hu, Tryd.ntmps18, Exit.thenS]
  apply wpS_seq
  apply wpS_region
  simp [wpOpsS, go_sem, recoverD, hu, Exit.thenS]
  refine wpS_cond (t := false) (by simp [Act.eval, Array.replicate]) ?_
  simp only [Bool.false_eq_true, if_false]
  refine wpS_of_wp (wp_skip ?_)
  cases c₀
  simp_all [bodyPostS, results, Tryd.results18]

theorem ta_ok (x : Value) (w : World) : (Instr.typeAssert (.iface 68 x) 20 68 false).run Tryd.prog w = .ok x w := by
  simp [Instr.typeAssert]

theorem caught_panicking (a : Addr) (k : IntKind) (n : Int) (w w' : World) (hs : (Instr.storeAt 32 (.pointer (some a)) (.int k n)).run Tryd.prog w = .ok () w') :
    CallsD Tryd.prog 18 #[.pointer (some a)] (.panicking [{ v := .iface 68 (.int k n), recovered := false }]) w fun e u' w1 =>
      e = .returned (.tuple #[]) ∧ u' = .panicking [{ v := .iface 68 (.int k n), recovered := true }] ∧ w1 = w' := by
  refine callsD_of_wpS Tryd.func18 rfl fun c₀ cs hu => ?_
  apply wpS_seq
  apply wpS_region
  simp [wpOpsS, go_sem, recoverD, hu, Tryd.ntmps18, Exit.thenS]
  apply wpS_seq
  apply wpS_region
  simp [wpOpsS, go_sem, recoverD, Exit.thenS]
  refine wpS_cond (t := true) (by simp [Act.eval, Array.replicate]) ?_
  simp only [if_true]
  apply wpS_region
  simp [go_sem] at hs
  simp [wpOpsS, go_sem, hs, ta_ok, bodyPostS, results, Tryd.results18]

/-- The deferred call, by the evaluator. -/
noncomputable def dfrC : DfrE := fun f vs u h =>
  match Nat.beq f 18, u with
  | true, none => match vs with
    | [.t (.a _)] => some (none, .tt, h)
    | _ => none
  | true, some (.iface t x) => match Nat.beq t 68, vs with
    | true, [.t (.a (.ptr id p))] => match x with
      | .lit k n => match evalStore Tryd.prog h 32 (.ptr id p) (.t (.a (.lit k n))) with
        | some r => some (none, r.ok, r.h)
        | none => none
      | _ => none
    | _, _ => none
  | _, _ => none

theorem evalStore_ext {P : Program} {h : H} {t : TypeId} {x : A} {y : V} {r : OpR} (he : evalStore P h t x y = some r) : Ext h r.h := by
  unfold evalStore at he
  split at he
  · split at he
    · rename_i b v hb _
      split at he
      · rename_i hx
        simp only [Bool.and_eq_true] at hx
        split at he
        · cases he; exact (see_ext h _).trans (put_ext (by exact hb) hx.1 rfl)
        · cases he
      · cases he
    · cases he
  · cases he

theorem entT : entersAll Tryd.prog = true := by kernel_rfl
theorem enters18 : Enters Tryd.prog 18 := enters_of entT 18 _ Tryd.func18 (by simp [Tryd.f18])

theorem rel_two {ν : Nu} {x : A} {us : List Value} (h : relV ν [.t (.a x)] us) : ∃ vx, us = [vx] ∧ x.rel ν vx := by
  cases us with
  | nil => exact h.elim
  | cons v vs => cases vs with
    | nil => exact ⟨v, rfl, h.1⟩
    | cons _ _ => exact h.2.elim

theorem dfrC_ok : DfrOK Tryd.prog dfrC := by
  refine ⟨fun f vs u h u' ok h' he hlo => ?_, fun f vs u h u' ok h' he hok => ?_⟩
  · unfold dfrC at he
    repeat' split at he
    all_goals first | (cases he; exact Ext.refl _) | (cases he; exact evalStore_ext (by assumption)) | cases he
  · unfold dfrC at he
    split at he
    · rename_i hf
      split at he
      · rename_i x
        simp only [Option.some.injEq, Prod.mk.injEq] at he
        obtain ⟨rfl, rfl, rfl⟩ := he
        have hf := Go.WE.beq_true hf
        subst hf
        refine ⟨enters18, fun S ν w us uv hrd hwr hm hvs hu => ?_⟩
        obtain ⟨p, rfl, _⟩ := rel_two hvs
        simp only [ModeRel] at hu
        subst hu
        refine (caught_idle p w).mono ?_
        rintro e um w' ⟨rfl, rfl, rfl⟩
        exact ⟨⟨_, rfl⟩, ν, rfl, Goes.refl hm⟩
      · cases he
    · rename_i t x hf
      split at he
      · rename_i id p ht
        split at he
        · rename_i k n
          split at he
          · rename_i r hr
            simp only [Option.some.injEq, Prod.mk.injEq] at he
            obtain ⟨rfl, rfl, rfl⟩ := he
            have hf := Go.WE.beq_true hf
            subst hf
            have ht := Go.WE.beq_true ht
            subst ht
            refine ⟨enters18, fun S ν w us uv hrd hwr hm hvs hu => ?_⟩
            obtain ⟨pv, rfl, hp⟩ := rel_two hvs
            simp only [ModeRel, A.rel] at hu
            obtain ⟨_, rfl, _, rfl, rfl, hn⟩ := hu
            have hp' := hp
            simp only [A.rel] at hp'
            obtain ⟨b, base, hb, rfl⟩ := hp'
            obtain ⟨w', h1, _, h3⟩ := evalStore_sound (P := Tryd.prog) (w := w) hr hok hm hrd hp (y := .t (.a (.lit k n))) (vy := .int k n) (by show (A.lit k n).rel ν _; simp only [A.rel]; exact ⟨trivial, hn⟩)
            refine (caught_panicking _ k n w w' h1).mono ?_
            rintro e um w1 ⟨rfl, rfl, rfl⟩
            exact ⟨⟨_, rfl⟩, ν, rfl, h3⟩
          · cases he
        · cases he
      · cases he
    · cases he

/-! ### the seat's frame -/

def eqs : List (TypeId × List Bool) := [(28, [false, false, false, false])]
noncomputable abbrev cxV : Cx := { P := Tryd.prog, eqT := eqTab eqs, dfr := dfrC }
theorem eqsOk : eqTabOk Tryd.prog eqs = true := by kernel_rfl
theorem X0 {Γ : Gam} (h : ΓOK Tryd.prog Γ) : CxOK cxV Γ := ⟨eqOK_of eqsOk rfl, h, dfrC_ok, noLam _ _ _ _, enters_of entT⟩

/-! ### a pick, case by case -/

/-- A function that leaves memory as it is, at arguments as they are told. -/
def pinΓ (f : FuncId) (spec : List V → Option (A × V)) (Γ : Gam) : Gam := fun g args h => match Nat.beq g f with
  | true => match spec args with
    | some (ok, v) => some (.leaf ok v h)
    | none => Γ g args h
  | false => Γ g args h

theorem pinΓ_ok {P : Program} {f : FuncId} {spec : List V → Option (A × V)} {Γ : Gam} (hs : ∀ args ok v, spec args = some (ok, v) → okB ok = true → PureOK P f args v) (hΓ : ΓOK P Γ) : ΓOK P (pinΓ f spec Γ) where
  ok := by
    intro g args h r ok v h' hr hp hok
    unfold pinΓ at hr
    split at hr
    · rename_i hb
      have := Go.WE.beq_true hb
      subst this
      split at hr
      · rename_i ok1 v1 hsp
        cases hr
        simp only [R.pick, Option.some.injEq, Prod.mk.injEq] at hp
        obtain ⟨rfl, rfl, rfl⟩ := hp
        rcases hs args _ _ hsp hok with ⟨h1, h2⟩ | h1
        · exact .inl ⟨h1, h2 _⟩
        · exact .inr ⟨h1, rfl⟩
      · exact hΓ.ok g args h r ok v h' hr hp hok
    · exact hΓ.ok g args h r ok v h' hr hp hok
  pan := by
    intro g args h r ok v h' hr hp hok
    unfold pinΓ at hr
    split at hr
    · split at hr
      · cases hr; simp [R.pickP] at hp
      · exact hΓ.pan g args h r ok v h' hr hp hok
    · exact hΓ.pan g args h r ok v h' hr hp hok
  ext := by
    intro g args h r hr hlo
    unfold pinΓ at hr
    split at hr
    · split at hr
      · cases hr; exact Ext.refl _
      · exact hΓ.ext g args h r hr hlo
    · exact hΓ.ext g args h r hr hlo

theorem PureOK.weaken {P : Program} {f : FuncId} {args : List V} {v v' : V} (h : PureOK P f args v) (hw : ∀ ν u, v.rel ν u → v'.rel ν u) : PureOK P f args v' := by
  rcases h with ⟨h1, h2⟩ | h
  · refine .inl ⟨h1, fun h S ν w vs hr hw' hm hv => (h2 h S ν w vs hr hw' hm hv).mono ?_⟩
    rintro e w' ⟨u, ν', rfl, hu, g⟩
    exact ⟨u, ν', rfl, hw _ _ hu, g⟩
  · refine .inr fun ν w vs hv => ?_
    obtain ⟨u, h1, h2⟩ := h ν w vs hv
    exact ⟨u, h1, hw _ _ h2⟩

def pickT (n : Int) (x : U) : U := cond (BitVec.slt (BitVec.srem x (K n)) (K 0)) (BitVec.srem x (K n) + K n) (BitVec.srem x (K n))

def pinS (n : Nat) (j : Int) : List V → Option (A × V)
  | [.t (.a (.i .i64 x)), .t (.a (.lit .i64 (.ofNat m)))] => match Nat.beq m n with
    | true => some (.b (pickT n x == K j), .t (.a (.lit .i64 j)))
    | false => none
  | _ => none

theorem pick4_ev (x : U) : (evalF cxV noΓ 400 20 6 [.t (.a (.i .i64 x)), .t (.a (.lit .i64 4))] H.none).res = some (.tt, .t (.a (.i .i64 (pickT 4 x)))) := by kernel_rfl
theorem pick8_ev (x : U) : (evalF cxV noΓ 400 20 6 [.t (.a (.i .i64 x)), .t (.a (.lit .i64 8))] H.none).res = some (.tt, .t (.a (.i .i64 (pickT 8 x)))) := by kernel_rfl
theorem pick16_ev (x : U) : (evalF cxV noΓ 400 20 6 [.t (.a (.i .i64 x)), .t (.a (.lit .i64 16))] H.none).res = some (.tt, .t (.a (.i .i64 (pickT 16 x)))) := by kernel_rfl
theorem pick300_ev (x : U) : (evalF cxV noΓ 400 20 6 [.t (.a (.i .i64 x)), .t (.a (.lit .i64 300))] H.none).res = some (.tt, .t (.a (.i .i64 (pickT 300 x)))) := by kernel_rfl

theorem pin_ok {n : Nat} {j : Int} {Γ : Gam} (hj : IntKind.i64.wrap j = j) (hv : vof .i64 (K j) = j) (hev : ∀ x, (evalF cxV noΓ 400 20 6 [.t (.a (.i .i64 x)), .t (.a (.lit .i64 n))] H.none).res = some (.tt, .t (.a (.i .i64 (pickT n x))))) (hΓ : ΓOK Tryd.prog Γ) : ΓOK Tryd.prog (pinΓ 6 (pinS n j) Γ) := by
  refine pinΓ_ok (fun args ok v h hok => ?_) hΓ
  unfold pinS at h
  split at h
  · rename_i x m
    split at h
    · rename_i hm
      have := Go.WE.beq_true hm
      subst this
      simp only [Option.some.injEq, Prod.mk.injEq] at h
      obtain ⟨rfl, rfl⟩ := h
      have he : pickT m x = K j := by simpa [okB] using hok
      refine (pure_of_eval (X0 noΓ_ok) rfl (hev x) rfl rfl rfl).weaken fun ν u hu => ?_
      have hu : (A.i .i64 (pickT m x)).rel ν u := hu
      show (A.lit .i64 j).rel ν u
      simp only [A.rel] at hu ⊢
      exact ⟨by rw [hu, he, hv], hj⟩
    · cases h
  · cases h


/-! ### what a check comes to, case by case -/

def R.resP (r : R) : Option (A × A) := match r.pickP with
  | some (ok, v, _) => some (ok, v)
  | none => none

theorem pan_of_eval {cx : Cx} {Γ : Gam} {fuel n : Nat} {f : FuncId} {args : List V} (X : CxOK cx Γ) {ok v : A} (hΓ : Γ f args H.none = none) (he : (evalF cx Γ fuel (n + 1) f args H.none).resP = some (ok, v)) (hok : okB ok = true) (ha : freeVs args = true) (hv : v.free = true) :
    Enters cx.P f ∧ ∀ h, FnPan cx.P f args h v h := by
  unfold R.resP at he
  split at he
  · rename_i o u h' hp
    simp only [Option.some.injEq, Prod.mk.injEq] at he
    obtain ⟨rfl, rfl⟩ := he
    obtain ⟨h1, h2⟩ := (evalF_sound X.eq X.gam X.dfr X.lam X.ent (fuel := fuel) (n + 1)).pan _ _ _ _ _ _ hp hok
    refine ⟨h1, fun h S ν w vs _ _ hm hargs => ?_⟩
    refine (h2 (fun _ => True) nu0 w vs (fun _ _ => trivial) (fun _ _ => trivial) (mem_none _ w) (relV_free ha hargs)).mono ?_
    rintro e w' ⟨x, ν', rfl, hx, g⟩
    have hb : ∀ r, r < w.heap.size → w'.heap[r]? = w.heap[r]? := fun r hr => g.frm.block r hr (fun id base h => by cases h)
    refine ⟨x, ν, rfl, A.rel_free hv hx, ⟨Nu.le_refl _, ⟨⟨fun id r base h => Nat.lt_of_lt_of_le (hm.nums.lt id r base h) g.frm.size, hm.nums.inj, hm.nums.fresh, hm.nums.bound, hm.nums.lo, hm.nums.glob⟩, fun id b h1 h2 => ?_⟩,
      ⟨g.frm.os, g.frm.tape, g.frm.output, g.frm.size, fun r hr _ => hb r hr⟩, fun id r base h h' => (by rw [h] at h'; cases h'), Ext.refl _, fun _ _ => rfl⟩⟩
    exact (hm.seen id b h1 h2).mono (Nu.le_refl _) (fun r base h3 => hb r (hm.nums.lt id r base h3))
  · cases he

theorem must_t : (evalF cxV noΓ 400 20 29 [.t (.a (.b true)), .t (.a (.lit .i64 17))] H.none).res = some (.tt, .tup []) := by kernel_rfl
theorem must_f : (evalF cxV noΓ 400 20 29 [.t (.a (.b false)), .t (.a (.lit .i64 17))] H.none).resP = some (.tt, .iface 68 (.lit .i64 17)) := by kernel_rfl

/-- A check that is open: it holds, or it does not. -/
def mustΓ (want : Bool) (Γ : Gam) : Gam := fun g args h => match Nat.beq g 29 with
  | true => match args with
    | [.t (.a (.b b)), .t (.a (.lit .i64 (.ofNat m)))] => match Nat.beq m 17 with
      | true => match want with
        | true => some (.leaf (.b b) (.tup []) h)
        | false => some (.pan (.b (!b)) (.iface 68 (.lit .i64 17)) h)
      | false => Γ g args h
    | _ => Γ g args h
  | false => Γ g args h

theorem mustΓ_ok {want : Bool} {Γ : Gam} (hΓ : ΓOK Tryd.prog Γ) : ΓOK Tryd.prog (mustΓ want Γ) where
  ok := by
    intro g args h r ok v h' hr hp hok
    unfold mustΓ at hr
    split at hr
    · rename_i hg
      have hg := Go.WE.beq_true hg
      subst hg
      split at hr
      · rename_i b m
        split at hr
        · rename_i hm
          have hm := Go.WE.beq_true hm
          subst hm
          split at hr
          · cases hr
            simp only [R.pick, Option.some.injEq, Prod.mk.injEq] at hp
            obtain ⟨rfl, rfl, rfl⟩ := hp
            have hb : b = true := hok
            subst hb
            rcases pure_of_eval (X0 noΓ_ok) rfl must_t rfl rfl rfl with ⟨h1, h2⟩ | h1
            · exact .inl ⟨h1, h2 _⟩
            · exact .inr ⟨h1, rfl⟩
          · cases hr; simp [R.pick] at hp
        · exact hΓ.ok _ _ h r ok v h' hr hp hok
      · exact hΓ.ok _ _ h r ok v h' hr hp hok
    · exact hΓ.ok g args h r ok v h' hr hp hok
  pan := by
    intro g args h r ok v h' hr hp hok
    unfold mustΓ at hr
    split at hr
    · rename_i hg
      have hg := Go.WE.beq_true hg
      subst hg
      split at hr
      · rename_i b m
        split at hr
        · rename_i hm
          have hm := Go.WE.beq_true hm
          subst hm
          split at hr
          · cases hr; simp [R.pickP] at hp
          · cases hr
            simp only [R.pickP, Option.some.injEq, Prod.mk.injEq] at hp
            obtain ⟨rfl, rfl, rfl⟩ := hp
            have hb : b = false := by simpa [okB] using hok
            subst hb
            obtain ⟨h1, h2⟩ := pan_of_eval (X0 noΓ_ok) rfl must_f rfl rfl rfl
            exact ⟨h1, h2 _⟩
        · exact hΓ.pan _ _ h r ok v h' hr hp hok
      · exact hΓ.pan _ _ h r ok v h' hr hp hok
    · exact hΓ.pan g args h r ok v h' hr hp hok
  ext := by
    intro g args h r hr hlo
    unfold mustΓ at hr
    split at hr
    · split at hr
      · split at hr
        · split at hr
          · cases hr; exact Ext.refl _
          · cases hr; exact Ext.refl _
        · exact hΓ.ext _ _ h r hr hlo
      · exact hΓ.ext _ _ h r hr hlo
    · exact hΓ.ext g args h r hr hlo

theorem K_toInt {n : Int} (h : -1000000 < n ∧ n < 1000000) : (K n).toInt = n := by
  rw [BitVec.toInt_ofInt]
  simp only [Int.bmod_def]
  split <;> omega
theorem pick_cases (n : Nat) (hn : 0 < n) (hb : n < 1000000) (x : U) : ∃ j : Nat, j < n ∧ pickT n x = K j := by
  have hr : (BitVec.srem x (K n)).toInt = x.toInt.tmod n := by rw [BitVec.toInt_srem, K_toInt (by omega)]
  have h1 : x.toInt.tmod n < n := Int.tmod_lt_of_pos _ (by omega)
  have h2 : -(n : Int) < x.toInt.tmod n := by
    have := Int.lt_tmod_of_pos x.toInt (b := n) (by omega)
    omega
  unfold pickT
  have hs : BitVec.slt (BitVec.srem x (K n)) (K 0) = decide (x.toInt.tmod n < 0) := by
    rw [BitVec.slt, hr, K_toInt (by omega)]
  rw [hs]
  by_cases h : x.toInt.tmod n < 0
  · refine ⟨(x.toInt.tmod n + n).toNat, by omega, ?_⟩
    simp only [h, decide_true, cond_true]
    apply BitVec.eq_of_toInt_eq
    rw [BitVec.toInt_add, hr, K_toInt (n := (n : Int)) (by omega), K_toInt (by omega)]
    simp only [Int.bmod_def]
    split <;> omega
  · refine ⟨(x.toInt.tmod n).toNat, by omega, ?_⟩
    simp only [h, decide_false, cond_false]
    apply BitVec.eq_of_toInt_eq
    rw [hr, K_toInt (by omega)]
    omega
theorem pick4_cases (x : U) : pickT 4 x = K 0 ∨ pickT 4 x = K 1 ∨ pickT 4 x = K 2 ∨ pickT 4 x = K 3 := by
  obtain ⟨j, hj, e⟩ := pick_cases 4 (by omega) (by omega) x
  have e : pickT 4 x = K j := e
  rw [e]
  match j, hj with
  | 0, _ => exact .inl rfl
  | 1, _ => exact .inr (.inl rfl)
  | 2, _ => exact .inr (.inr (.inl rfl))
  | 3, _ => exact .inr (.inr (.inr rfl))
end Go.WE
