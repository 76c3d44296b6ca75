/- WE22: operations one behind the other, by ways. -/
import Derived.Test.YtljopbfbljkjoaaDoorWE21
namespace Go.WE
set_option linter.unusedVariables false
open Go

/-! ### ways -/

def Out.All (p : St → Prop) : Out → Prop
  | .fail => True
  | .leaf _ s => p s
  | .node _ a b => a.All p ∧ b.All p

def Out.pick : Out → Option (Ex × St)
  | .fail => none
  | .leaf e s => some (e, s)
  | .node x a b => bif x then a.pick else b.pick

theorem Out.All.mono {p q : St → Prop} (h : ∀ s, p s → q s) : ∀ {o : Out}, o.All p → o.All q
  | .fail, _ => trivial
  | .leaf _ s, hp => h s hp
  | .node _ _ _, hp => ⟨Out.All.mono h hp.1, Out.All.mono h hp.2⟩

theorem Out.All.pick {p : St → Prop} : ∀ {o : Out} {e : Ex} {s : St}, o.All p → o.pick = some (e, s) → p s
  | .leaf _ s, _, _, h, hp => by simp [Out.pick] at hp; rw [← hp.2]; exact h
  | .node x a b, e, s, h, hp => by
    simp only [Out.pick] at hp
    cases x
    · exact Out.All.pick h.2 hp
    · exact Out.All.pick h.1 hp

theorem pick_bind (f : St → Out) : ∀ (o : Out), (o.bind f).pick = match o.pick with | some (.nrm, s) => (f s).pick | r => r
  | .fail => rfl
  | .leaf .nrm s => rfl
  | .leaf (.exit _) s => rfl
  | .leaf .ret s => rfl
  | .leaf (.pan _) s => rfl
  | .node x a b => by
    simp only [Out.bind, Out.pick]
    cases x
    · exact pick_bind f b
    · exact pick_bind f a

theorem all_bind {p : St → Prop} {f : St → Out} : ∀ {o : Out}, o.All p → (∀ s, p s → (f s).All p) → (o.bind f).All p
  | .fail, _, _ => trivial
  | .leaf .nrm s, h, hf => hf s h
  | .leaf (.exit _) _, h, _ => h
  | .leaf .ret _, h, _ => h
  | .leaf (.pan _) _, h, _ => h
  | .node _ _ _, h, hf => ⟨all_bind h.1 hf, all_bind h.2 hf⟩

/-! ### what grows -/

structure ExtS (st st' : St) : Prop where
  h : Ext st.h st'.h
  vars : ∃ q, st'.vd = q ++ st.vd ∧ ∀ s, s ∉ q → varsGet st'.vars s = varsGet st.vars s
  vconds : (∀ s, (varsGet st.vars s).c = none) → ∀ s, (varsGet st'.vars s).c = none
  defs : ∃ q, st'.defs = q ++ st.defs
  ok : okB st'.ok = true → okB st.ok = true

theorem ExtS.refl (s : St) : ExtS s s := ⟨Ext.refl _, ⟨[], rfl, fun _ _ => rfl⟩, fun h => h, ⟨[], rfl⟩, fun h => h⟩

theorem ExtS.trans {s s1 s2 : St} (a : ExtS s s1) (b : ExtS s1 s2) : ExtS s s2 where
  h := a.h.trans b.h
  vars := by
    obtain ⟨q, h1, h2⟩ := a.vars
    obtain ⟨q', h3, h4⟩ := b.vars
    refine ⟨q' ++ q, by rw [h3, h1, List.append_assoc], fun s hs => ?_⟩
    rw [List.mem_append, not_or] at hs
    rw [h4 s hs.1, h2 s hs.2]
  vconds := fun h => b.vconds (a.vconds h)
  defs := by
    obtain ⟨q, h1⟩ := a.defs
    obtain ⟨q', h3⟩ := b.defs
    exact ⟨q' ++ q, by rw [h3, h1, List.append_assoc]⟩
  ok := fun h => a.ok (b.ok h)

/-- The memory's bounds are in order. -/
def LoOK (s : St) : Prop := s.h.lo ≤ s.h.next

theorem ExtS.lo {s s' : St} (e : ExtS s s') (h : LoOK s) : LoOK s' := by
  unfold LoOK at *
  rw [e.h.lo]
  exact Nat.le_trans h e.h.next

theorem Stat.exts {fp : Fp} {ops : List Oper} {i : Nat} {st st' : St} {o : Oper} (s : Stat fp ops i st st' o) (hlo : LoOK st) : ExtS st st' :=
  ⟨s.ext hlo, s.vars, s.vconds, ⟨[], s.defs⟩, s.ok⟩

/-! ### where a run stands -/

/-- A deferred call. -/
def DfRel (P : Program) (ν : Nu) (d : FuncId × List V) (d' : Deferred) : Prop :=
  ∃ fv cap us, d'.target = .fn fv cap ∧ (∀ w, (invoke d'.target d'.args).run P w = (callFunc d.1 us.toArray).run P w) ∧ relV ν d.2 us

def Dfs (P : Program) (ν : Nu) : List (FuncId × List V) → List Deferred → Prop
  | [], [] => True
  | d :: ds, d' :: ds' => DfRel P ν d d' ∧ Dfs P ν ds ds'
  | _, _ => False

theorem DfRel.mono {P : Program} {ν ν' : Nu} (hl : ν.le ν') {d : FuncId × List V} {d' : Deferred} (h : DfRel P ν d d') : DfRel P ν' d d' := by
  obtain ⟨fv, cap, us, h1, h2, h3⟩ := h
  exact ⟨fv, cap, us, h1, h2, relV_mono hl h3⟩

theorem Dfs.mono {P : Program} {ν ν' : Nu} (hl : ν.le ν') : ∀ {ds : List (FuncId × List V)} {ds' : List Deferred}, Dfs P ν ds ds' → Dfs P ν' ds ds'
  | [], [], _ => trivial
  | _ :: _, _ :: _, h => ⟨h.1.mono hl, Dfs.mono hl h.2⟩
  | [], _ :: _, h => h.elim
  | _ :: _, [], h => h.elim

structure CRel (P : Program) (fp : Fp) (S : Nat → Prop) (st : St) (ν : Nu) (a : Act) (w : World) : Prop where
  mem : Mem S ν w st.h
  slots : ∀ s, EntOK ν a.tmps s (st.get fp.km s)
  vconds : ∀ s, (varsGet st.vars s).c = none
  size : a.tmps.size = fp.nt
  defers : Dfs P ν st.defs a.defers

/-- Behind `i` operations of a region. -/
structure Rel (P : Program) (fp : Fp) (S : Nat → Prop) (ops : List Oper) (i : Nat) (st : St) (ν : Nu) (a : Act) (w : World) : Prop where
  c : CRel P fp S st ν a w
  conds : ∀ s sj x, (st.get fp.km s).c = some (sj, x) → ∃ j, j < i ∧ dstOf ops j = some sj

def Ex.rel (ν : Nu) : Ex → Exit → Prop
  | .nrm, x => x = .normal
  | .exit id, x => x = .exit id
  | .ret, x => x = .ret
  | .pan v, x => ∃ u, x = .panic [{ v := u, recovered := false }] ∧ v.rel ν u

section
variable {cx : Cx} {call : CallE} {fp : Fp} {S : Nat → Prop} {ops : List Oper} {i : Nat} {st st' : St} {o : Oper} {ν ν' : Nu} {w w' : World} {a a' : Act} {K : Act → World → Prop} {Q : Exit → Act → World → Prop}

/-- What an operation's globals are. -/
def OpGl (o : Oper) (h : H) : Prop := ∀ g, .global g ∈ o.op.operands.toList → g ∈ h.gl

theorem Rel.need {P : Program} (hr : Rel P fp S ops i st ν a w) (hg : OpGl o st.h) : Need fp S ops st o ν a w :=
  ⟨hr.c.mem, fun s _ => hr.c.slots s, fun g hm => hr.c.mem.nums.glob g (hg g hm), hr.c.size⟩

theorem Rel.left {P : Program} (hr : Rel P fp S ops i st ν a w) (hd : chkDst ops = true) (ho : ops[i]? = some o) (hs : Stat fp ops i st st' o) (hl : Left fp S st st' o ν ν' a a' w w') :
    Rel P fp S ops (i + 1) st' ν' a' w' := by
  obtain ⟨v, hput⟩ := hl.put
  have hdi : dstOf ops i = o.dst := by unfold dstOf; rw [ho]
  have hlt : ∀ sj j, j < i → dstOf ops j = some sj → o.dst ≠ some sj := by
    intro sj j hj hdj hds
    have := chkDst_inj hd (hdi.trans hds) hdj
    omega
  refine ⟨⟨hl.goes.mem, ?_, hs.vconds hr.c.vconds, by rw [hput, size_put]; exact hr.c.size, by rw [hput, put_defers, hs.defs]; exact hr.c.defers.mono hl.goes.le⟩, ?_⟩
  · intro s
    by_cases hds : o.dst = some s
    · exact hl.own s hds
    · rw [hs.get s hds, hput]
      obtain ⟨h1, h2⟩ := hr.c.slots s
      have hh : holds (a.put o.dst v).tmps (st.get fp.km s).c ↔ holds a.tmps (st.get fp.km s).c := holds_put (fun sj x hc => by
        obtain ⟨j, hj, hdj⟩ := hr.conds s sj x hc
        exact hlt sj j hj hdj)
      unfold EntOK
      rw [hh, getD_put_ne hds]
      exact ⟨fun h => V.rel_mono hl.goes.le (h1 h), h2⟩
  · intro s sj x hc
    by_cases hds : o.dst = some s
    · obtain ⟨j, hj, hdj, _⟩ := hs.conds s sj x hds hc
      exact ⟨j, by omega, hdj⟩
    · rw [hs.get s hds] at hc
      obtain ⟨j, hj, hdj⟩ := hr.conds s sj x hc
      exact ⟨j, by omega, hdj⟩

/-! ### what is known of a slot -/

theorem getT_knowT {sj : Nat} {b : Bool} : ∀ (l : List (Nat × Ent)) (s : Nat), getT (knowT sj b l) s = knowE sj b (getT l s)
  | [], s => rfl
  | (t, e) :: r, s => by
    rw [knowT, get_cons, get_cons, getT_knowT r s]
    split <;> rfl

theorem eqBool_iff {a b : Bool} : eqBool a b = true ↔ a = b := by cases a <;> cases b <;> decide

theorem knowE_cases {sj : Nat} {b : Bool} (e : Ent) : (∃ w, e.c = some (sj, w) ∧ w = b ∧ knowE sj b e = ⟨none, e.v⟩) ∨ (∃ w, e.c = some (sj, w) ∧ w ≠ b ∧ knowE sj b e = ⟨none, .t (.a .undef)⟩) ∨
    (knowE sj b e = e ∧ ∀ s w, e.c = some (s, w) → s ≠ sj) := by
  unfold knowE
  cases hc : e.c with
  | none => exact .inr (.inr ⟨rfl, fun _ _ h => by cases h⟩)
  | some p =>
    obtain ⟨s, w⟩ := p
    simp only
    cases hb : Nat.beq s sj
    · exact .inr (.inr ⟨rfl, fun s' w' h => by cases h; exact beq_false hb⟩)
    · have := beq_true hb
      subst this
      cases he : eqBool w b
      · exact .inr (.inl ⟨w, rfl, (fun h => by rw [eqBool_iff.2 h] at he; cases he), rfl⟩)
      · exact .inl ⟨w, rfl, eqBool_iff.1 he, rfl⟩

theorem know_h {km sj : Nat} {b : Bool} : (st.know km sj b).h = st.h := by unfold St.know; rw [put_h]
theorem know_defs {km sj : Nat} {b : Bool} : (st.know km sj b).defs = st.defs := by unfold St.know; rw [put_defs]
theorem know_exts {km sj : Nat} {b : Bool} : ExtS st (st.know km sj b) := by
  refine ⟨by rw [know_h]; exact Ext.refl _, ?_, ?_, ⟨[], know_defs⟩, fun h => ?_⟩
  · exact put_vars.1
  · exact fun h => put_vars.2 h
  · unfold St.know at h; rwa [put_ok] at h

theorem Rel.know {P : Program} (hr : Rel P fp S ops i st ν a w) {sj : Nat} {b : Bool} (hv : a.tmps.getD sj undef = .bool b) : Rel P fp S ops i (st.know fp.km sj b) ν a w := by
  have hget : ∀ s, s ≠ sj → (st.know fp.km sj b).get fp.km s = st.get fp.km s ∨ (st.know fp.km sj b).get fp.km s = knowE sj b (st.get fp.km s) := by
    intro s hs
    have h1 : (st.know fp.km sj b).get fp.km s = ({ st with tmps := knowT sj b st.tmps } : St).get fp.km s := get_put_ne (fun h => hs (by cases h; rfl))
    rw [h1]
    cases hk : bitB fp.km s
    · rw [get_false hk, get_false hk]; exact .inr (getT_knowT _ _)
    · rw [get_true hk, get_true hk]; exact .inl rfl
  have hgetj : (st.know fp.km sj b).get fp.km sj = entPut fp.km sj ⟨none, .t (.a (ofDec b))⟩ := get_put_eq
  have hent : ∀ s, EntOK ν a.tmps s (knowE sj b (st.get fp.km s)) := by
    intro s
    obtain ⟨h1, h2⟩ := hr.c.slots s
    rcases knowE_cases (sj := sj) (b := b) (st.get fp.km s) with ⟨w', hc, rfl, he⟩ | ⟨w', hc, hne, he⟩ | ⟨he, _⟩
    · rw [he]
      exact ⟨fun _ => h1 (by rw [hc]; exact hv), fun hno => absurd trivial hno⟩
    · rw [he]
      refine ⟨fun _ => ?_, fun hno => absurd trivial hno⟩
      have := h2 (by rw [hc]; simp only [holds]; rw [hv]; simp; exact fun h => hne h.symm)
      rw [this]
      simp [V.rel, T.relV, A.rel]
    · rw [he]; exact ⟨h1, h2⟩
  refine ⟨⟨by rw [know_h]; exact hr.c.mem, fun s => ?_, (know_exts (km := fp.km)).vconds hr.c.vconds, hr.c.size, by rw [know_defs]; exact hr.c.defers⟩, fun s sj' x hc => ?_⟩
  · by_cases hs : s = sj
    · subst hs
      rw [hgetj]
      have hval : (V.t (.a (ofDec b))).rel ν (a.tmps.getD s undef) := by rw [hv]; exact ofDec_rel _ _
      unfold entPut keepEnt
      split <;> exact ⟨fun _ => hval, fun hno => absurd trivial hno⟩
    · rcases hget s hs with e | e
      · rw [e]; exact hr.c.slots s
      · rw [e]; exact hent s
  · by_cases hs : s = sj
    · subst hs
      rw [hgetj] at hc
      exact absurd (entPut_c hc) (by simp)
    · rcases hget s hs with e | e
      · rw [e] at hc; exact hr.conds s sj' x hc
      · rw [e] at hc
        rcases knowE_cases (sj := sj) (b := b) (st.get fp.km s) with ⟨w', _, _, he⟩ | ⟨w', _, _, he⟩ | ⟨he, _⟩
        · rw [he] at hc; cases hc
        · rw [he] at hc; cases hc
        · rw [he] at hc; exact hr.conds s sj' x hc

/-! ### a call's ways -/

def oneWay (r : R) : R := match r.pick with
  | some (ok, v, h) => .leaf ok v h
  | none => .fail

theorem R.All.pick {p : H → Prop} : ∀ {r : R} {ok : A} {v : V} {h : H}, r.All p → r.pick = some (ok, v, h) → p h
  | .leaf _ _ _, _, _, _, ha, hp => by simp [R.pick] at hp; rw [← hp.2.2]; exact ha
  | .pan _ _ _, _, _, _, _, hp => by simp [R.pick] at hp
  | .fail, _, _, _, _, hp => by simp [R.pick] at hp
  | .node x a b, _, _, _, ha, hp => by
    simp only [R.pick] at hp
    cases x
    · exact R.All.pick ha.2 (by simpa using hp)
    · exact R.All.pick ha.1 (by simpa using hp)

theorem CallOK.oneWay {P : Program} (hC : CallOK P call) : CallOK P (fun f vs h => oneWay (call f vs h)) where
  ok := fun f args h ok v h' hp hok => by
    unfold Go.WE.oneWay at hp
    split at hp
    · rename_i ok1 v1 h1 h2
      simp [R.pick] at hp
      obtain ⟨rfl, rfl, rfl⟩ := hp
      exact hC.ok f args h _ _ _ h2 hok
    · simp [R.pick] at hp
  pan := fun f args h ok v h' hp hok => by
    unfold Go.WE.oneWay at hp
    split at hp <;> simp [R.pickP] at hp
  ext := fun f args h hlo => by
    unfold Go.WE.oneWay
    split
    · rename_i ok1 v1 h1 h2
      exact R.All.pick (hC.ext f args h hlo) h2
    · trivial

theorem all_toOut {p : St → Prop} {q : H → Prop} (h1 : ∀ ok v h, q h → p (({ st with ok := andOk st.ok ok, h := h } : St).put fp.km o.dst ⟨none, v⟩)) (h2 : ∀ ok h, q h → p { st with ok := andOk st.ok ok, h := h }) :
    ∀ {r : R}, r.All q → (r.toOut fp st o).All p
  | .fail, _ => trivial
  | .leaf ok v h, hq => h1 ok v h hq
  | .pan ok v h, hq => h2 ok h hq
  | .node _ _ _, hq => ⟨all_toOut h1 h2 hq.1, all_toOut h1 h2 hq.2⟩

theorem pick_toOut : ∀ {r : R} {e : Ex}, (r.toOut fp st o).pick = some (e, st') →
    (∃ ok v h, r.pick = some (ok, v, h) ∧ e = .nrm ∧ st' = (({ st with ok := andOk st.ok ok, h := h } : St).put fp.km o.dst ⟨none, v⟩)) ∨
    (∃ ok v h, r.pickP = some (ok, v, h) ∧ e = .pan v ∧ st' = { st with ok := andOk st.ok ok, h := h })
  | .fail, _, hp => by simp [R.toOut, Out.pick] at hp
  | .leaf ok v h, e, hp => by
    simp only [R.toOut, Out.pick, Option.some.injEq, Prod.mk.injEq] at hp
    exact .inl ⟨ok, v, h, rfl, hp.1.symm, hp.2.symm⟩
  | .pan ok v h, e, hp => by
    simp only [R.toOut, Out.pick, Option.some.injEq, Prod.mk.injEq] at hp
    exact .inr ⟨ok, v, h, rfl, hp.1.symm, hp.2.symm⟩
  | .node x a b, e, hp => by
    simp only [R.toOut, Out.pick] at hp
    cases x
    · simpa [R.pick, R.pickP] using pick_toOut (r := b) hp
    · simpa [R.pick, R.pickP] using pick_toOut (r := a) hp

theorem put_exts {h : H} {ok : A} {d : Option Nat} {e : Ent} (hx : Ext st.h h) : ExtS st (({ st with ok := andOk st.ok ok, h := h } : St).put fp.km d e) :=
  ⟨by rw [put_h]; exact hx, put_vars.1, fun hv => put_vars.2 hv, ⟨[], put_defs⟩, fun ho => by rw [put_ok] at ho; exact (andOk_true ho).1⟩

theorem ofOpt_all {p : H → Prop} {x : Option OpR} (h : ∀ r, x = some r → p r.h) : (R.ofOpt x).All p := by
  cases x with
  | none => trivial
  | some r => exact h r rfl

theorem evalCallR_ext (hC : CallOK cx.P call) (hlo : LoOK st) {gt : Nat → Ent} {c : Call} : (evalCallR cx call gt st.h c).All (Ext st.h) := by
  unfold evalCallR
  split
  · trivial
  · split
    · split
      · exact hC.ext _ _ _ hlo
      · trivial
    · exact ofOpt_all (fun r hr => evalBuiltin_ext hr)
    · trivial

theorem runR_ext (hC : CallOK cx.P call) (hlo : LoOK st) : (runR cx call fp st o).All (ExtS st) := by
  have key : ∀ {r : R}, r.All (Ext st.h) → (r.toOut fp st o).All (ExtS st) := fun hr =>
    all_toOut (q := Ext st.h) (fun ok v h hx => put_exts hx) (fun ok h hx => ⟨hx, ⟨[], rfl, fun _ _ => rfl⟩, fun h => h, ⟨[], rfl⟩, fun ho => (andOk_true ho).1⟩) hr
  unfold runR
  split
  · exact key (evalCallR_ext hC hlo)
  · refine key ?_
    unfold evalPanic
    split
    · exact Ext.refl _
    · trivial
  · split
    · exact ⟨by rw [put_h]; exact Ext.refl _, put_vars.1, fun hv => put_vars.2 hv, ⟨[_], put_defs⟩, fun ho => by rwa [put_ok] at ho⟩
    · trivial
  · split
    · rename_i s hs
      exact (runOp_stat (ops := []) (i := 0) hC hs (fun _ _ h => by cases h)).exts hlo
    · trivial

theorem skip_exts : (skipO fp st o).All (ExtS st) :=
  (⟨by rw [put_h]; exact Ext.refl _, put_vars.1, fun hv => put_vars.2 hv, ⟨[], put_defs⟩, fun ho => by rwa [put_ok] at ho⟩ : ExtS st _)

theorem runIf_ext (hC : CallOK cx.P call) (hlo : LoOK st) {go : Bool} : (runIf cx call fp go st o).All (ExtS st) := by
  unfold runIf
  split
  · exact runR_ext hC hlo
  · exact skip_exts

theorem stepS2a_ext (hC : CallOK cx.P call) (hlo : LoOK st) {j sj : Nat} {want : Bool} (hg : o.guard = some (j, want)) (hji : Nat.blt j i = true) (hsj : dstOf ops j = some sj) :
    (stepS2a cx call fp sj want st o (st.get fp.km sj)).All (ExtS st) := by
  have hk : ∀ sj b go, (runIf cx call fp go (st.know fp.km sj b) o).All (ExtS st) := fun sj b go =>
    Out.All.mono (fun s h => know_exts.trans h) (runIf_ext hC (know_exts.lo hlo))
  have hsp : ∀ sj want x, (splitG cx call fp sj want st o x).All (ExtS st) := fun sj want x => ⟨hk _ _ _, hk _ _ _⟩
  have h1 : ∀ s, stepG1 cx call fp sj want st o (st.get fp.km sj) = some s → ExtS st s := fun s hs =>
    (stepG1_stat hC hg (blt_lt hji) hsj hs).exts hlo
  unfold stepS2a
  split
  · split
    · split
      · exact runIf_ext hC hlo
      · exact runIf_ext hC hlo
      · unfold stepS3
        split
        · exact hsp _ _ _
        · split
          · rename_i s hs; exact h1 s hs
          · exact hsp _ _ _
      · unfold Out.ofSt
        split
        · rename_i s hs; exact h1 s hs
        · trivial
      · trivial
    · trivial
  · unfold Out.ofSt
    split
    · rename_i s hs; exact h1 s hs
    · trivial

theorem stepS_ext (hC : CallOK cx.P call) (hlo : LoOK st) : (stepS cx call fp i ops st o).All (ExtS st) := by
  unfold stepS
  split
  · trivial
  · split
    · exact runR_ext hC hlo
    · rename_i j want hg
      split
      · rename_i hji
        split
        · rename_i sj hsj
          have hkn : ∀ s' b, (stepS2a cx call fp sj want (st.know fp.km s' b) o ((st.know fp.km s' b).get fp.km sj)).All (ExtS st) := fun s' b =>
            Out.All.mono (fun s h => know_exts.trans h) (stepS2a_ext hC (know_exts.lo hlo) hg hji hsj)
          unfold stepS2
          split
          · exact stepS2a_ext hC hlo hg hji hsj
          · split
            · split
              · exact ⟨hkn _ _, hkn _ _⟩
              · exact stepS2a_ext hC hlo hg hji hsj
            · exact stepS2a_ext hC hlo hg hji hsj
        · trivial
      · trivial

theorem evalOps_ext (hC : CallOK cx.P call) : ∀ {l : List Oper} {i : Nat} {st : St}, LoOK st → (evalOps cx call fp ops i l st).All (ExtS st)
  | [], _, st, _ => ExtS.refl st
  | o :: l, i, st, hlo => all_bind (stepS_ext hC hlo) (fun s hs => Out.All.mono (fun s' h => hs.trans h) (evalOps_ext hC (hs.lo hlo)))

end
end Go.WE
