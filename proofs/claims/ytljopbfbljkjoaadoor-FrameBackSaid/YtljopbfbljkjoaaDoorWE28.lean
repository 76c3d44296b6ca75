/- WE28: functions. -/
import Derived.Test.YtljopbfbljkjoaaDoorWE27
import Derived.Defers
namespace Go.WE
set_option linter.unusedVariables false
open Go

/-! ### results -/

def oneRes (tmps : Array Value) (r : ResultVar) : Sem Value :=
  match r with
  | .tmp t => pure (tmps.getD t undef)
  | .cell c t => do loadVar t (← asAddr (tmps.getD c undef))

section
variable {P : Program} {fp : Fp} {S : Nat → Prop}

theorem resOne_ext {km : Nat} {s : St} {r : ResultVar} {ok : A} {u : T} {h : H} (he : resOne P km s r = some (ok, u, h)) : Ext s.h h := by
  cases r with
  | tmp t =>
    simp only [resOne] at he
    split at he
    · simp only [Option.some.injEq, Prod.mk.injEq] at he
      obtain ⟨_, _, rfl⟩ := he; exact Ext.refl _
    · cases he
  | cell c t =>
    simp only [resOne] at he
    split at he
    · split at he
      · rename_i r' hl
        split at he
        · simp only [Option.some.injEq, Prod.mk.injEq] at he
          obtain ⟨_, _, rfl⟩ := he
          unfold evalLoad at hl
          repeat' split at hl
          all_goals first | (cases hl; exact see_ext _ _) | cases hl
        · cases he
      · cases he
    · cases he

theorem resMany_ext {km : Nat} : ∀ {rs : List ResultVar} {s : St} {ok : A} {us : List T} {h : H}, resMany P km s rs = some (ok, us, h) → Ext s.h h
  | [], s, ok, us, h, he => by simp only [resMany, Option.some.injEq, Prod.mk.injEq] at he; obtain ⟨_, _, rfl⟩ := he; exact Ext.refl _
  | r :: rs, s, ok, us, h, he => by
    simp only [resMany] at he
    split at he
    · rename_i o1 x h1 hx
      split at he
      · rename_i o2 ws h2 hs
        simp only [Option.some.injEq, Prod.mk.injEq] at he
        obtain ⟨_, _, rfl⟩ := he
        exact (resOne_ext hx).trans (resMany_ext (s := { s with h := h1 }) hs)
      · cases he
    · cases he

theorem resOf_ext {km : Nat} {rs : List ResultVar} {s : St} {ok : A} {v : V} {h : H} (he : resOf P km rs s = some (ok, v, h)) : Ext s.h h := by
  unfold resOf at he
  split at he
  · split at he
    · rename_i o x h' hx
      simp only [Option.some.injEq, Prod.mk.injEq] at he
      obtain ⟨_, _, rfl⟩ := he
      exact resOne_ext hx
    · cases he
  · split at he
    · rename_i o x h' hx
      simp only [Option.some.injEq, Prod.mk.injEq] at he
      obtain ⟨_, _, rfl⟩ := he
      exact resMany_ext hx
    · cases he

theorem resOne_sound {km : Nat} {s : St} {r : ResultVar} {ok : A} {u : T} {h : H} (he : resOne P km s r = some (ok, u, h)) (hok : okB ok = true) (hrd : ∀ i, i ∈ h.rd → S i) (hkm : fp.km = km) {ν : Nu} {a : Act} {w : World} (hr : CRel P fp S s ν a w) :
    ∃ x, u.relV ν x ∧ (oneRes a.tmps r).run P w = .ok x w ∧ Goes S ν w s.h ν w h := by
  subst hkm
  cases r with
  | tmp t =>
    simp only [resOne] at he
    split at he
    · rename_i hc hv
      simp only [Option.some.injEq, Prod.mk.injEq] at he
      obtain ⟨_, rfl, rfl⟩ := he
      have := (hr.slots t).1 (by rw [hc]; trivial)
      rw [hv] at this
      exact ⟨_, this, rfl, Goes.refl hr.mem⟩
    · cases he
  | cell c t =>
    simp only [resOne] at he
    split at he
    · rename_i v hv
      split at he
      · rename_i r' hl
        split at he
        · rename_i u' hu
          simp only [Option.some.injEq, Prod.mk.injEq] at he
          obtain ⟨rfl, rfl, rfl⟩ := he
          have hx := opA_sound (a := a) hv trivial (fun t _ ht => (hr.slots t).1 ht) (fun g hg => by simp at hg)
          obtain ⟨v', h1, h2, h3⟩ := evalLoad_sound hl hok hr.mem hrd hx
          rw [hu] at h2
          refine ⟨v', h2, ?_, h3⟩
          have hp : ∃ ad, a.eval (.tmp c) = .pointer (some ad) := by
            unfold evalLoad at hl
            split at hl
            · simp only [A.rel] at hx; obtain ⟨b, base, _, hb⟩ := hx; exact ⟨_, hb⟩
            · cases hl
          obtain ⟨ad, had⟩ := hp
          have had' : a.tmps.getD c undef = .pointer (some ad) := had
          rw [Instr.loadAt, had] at h1
          simp only [oneRes, had']
          simpa [asAddr, Instr.sureAddr] using h1
        · cases he
      · cases he
    · cases he

theorem CRel.seen {s : St} {ν : Nu} {a : Act} {w : World} {h : H} (hr : CRel P fp S s ν a w) (g : Goes S ν w s.h ν w h) : CRel P fp S { s with h := h } ν a w :=
  ⟨g.mem, hr.slots, hr.vconds, hr.size, hr.defers⟩

theorem resMany_sound {km : Nat} (hkm : fp.km = km) {ν : Nu} {a : Act} {w : World} : ∀ {rs : List ResultVar} {s : St} {ok : A} {us : List T} {h : H}, resMany P km s rs = some (ok, us, h) → okB ok = true → (∀ i, i ∈ h.rd → S i) → CRel P fp S s ν a w →
    us.length = rs.length ∧ ∃ xs, relVs ν us xs ∧ (rs.mapM (oneRes a.tmps)).run P w = .ok xs w ∧ Goes S ν w s.h ν w h
  | [], s, ok, us, h, he, _, _, hr => by
    simp only [resMany, Option.some.injEq, Prod.mk.injEq] at he
    obtain ⟨_, rfl, rfl⟩ := he
    exact ⟨rfl, [], by simp [relVs], rfl, Goes.refl hr.mem⟩
  | r :: rs, s, ok, us, h, he, hok, hrd, hr => by
    simp only [resMany] at he
    split at he
    · rename_i o1 x h1 hx
      split at he
      · rename_i o2 ws h2 hs
        simp only [Option.some.injEq, Prod.mk.injEq] at he
        obtain ⟨rfl, rfl, rfl⟩ := he
        obtain ⟨ho1, ho2⟩ := andOk_true hok
        obtain ⟨v, hv, hrun, g1⟩ := resOne_sound hx ho1 (fun i hi => hrd i ((resMany_ext (s := { s with h := h1 }) hs).rd i hi)) hkm hr
        obtain ⟨hl, xs, hxs, hruns, g2⟩ := resMany_sound hkm (s := { s with h := h1 }) hs ho2 hrd (hr.seen g1)
        exact ⟨by simp [hl], v :: xs, ⟨hv, hxs⟩, by rw [List.mapM_cons, Sem.run_bind, hrun]; simp only [Result.andThen_ok]; rw [Sem.run_bind, hruns]; rfl, g1.trans g2⟩
      · cases he
    · cases he

theorem relVs_length {ν : Nu} : ∀ {as : List T} {vs : List Value}, relVs ν as vs → as.length = vs.length
  | [], [], _ => rfl
  | _ :: _, _ :: _, h => by simp [relVs_length h.2]
  | [], _ :: _, h => h.elim
  | _ :: _, [], h => h.elim

theorem resOf_sound {km : Nat} {s : St} {fn : Func} {ok : A} {v : V} {h : H} (he : resOf P km fn.results.toList s = some (ok, v, h)) (hok : okB ok = true) (hrd : ∀ i, i ∈ h.rd → S i) (hkm : fp.km = km) {ν : Nu} {a : Act} {w : World} (hr : CRel P fp S s ν a w) :
    ∃ x, v.rel ν x ∧ (results fn a.tmps).run P w = .ok x w ∧ Goes S ν w s.h ν w h := by
  have key : ∀ {xs : List Value}, (fn.results.toList.mapM (oneRes a.tmps)).run P w = .ok xs w →
      (results fn a.tmps).run P w = .ok (if h : xs.toArray.size = 1 then xs.toArray[0] else .tuple xs.toArray) w := by
    intro xs hx
    have e : results fn a.tmps = (do let vs ← fn.results.mapM (oneRes a.tmps); pure (if h : vs.size = 1 then vs[0] else .tuple vs)) := rfl
    rw [e, Sem.run_bind, Array.mapM_eq_mapM_toList, Sem.run_map, hx]
    rfl
  unfold resOf at he
  split at he
  · rename_i r hl
    split at he
    · rename_i o x h' hx
      simp only [Option.some.injEq, Prod.mk.injEq] at he
      obtain ⟨rfl, rfl, rfl⟩ := he
      obtain ⟨u, hu, hrun, g⟩ := resOne_sound hx hok hrd hkm hr
      refine ⟨u, hu, ?_, g⟩
      have := key (xs := [u]) (by rw [hl, List.mapM_cons, Sem.run_bind, hrun]; rfl)
      simpa using this
    · cases he
  · rename_i hne
    split at he
    · rename_i o us h' hm
      simp only [Option.some.injEq, Prod.mk.injEq] at he
      obtain ⟨rfl, rfl, rfl⟩ := he
      obtain ⟨hl, xs, hxs, hruns, g⟩ := resMany_sound hkm hm hok hrd hr
      refine ⟨.tuple xs.toArray, ⟨_, rfl, by simpa using hxs⟩, ?_, g⟩
      rw [key hruns, dif_neg]
      intro h1
      have h2 := relVs_length hxs
      simp at h1
      have h3 : fn.results.toList.length = 1 := by omega
      obtain ⟨r, hr1⟩ := List.length_eq_one_iff.1 h3
      exact hne r hr1
    · cases he

theorem nil_get (s : Nat) : varsGet (.nil : Tr Ent) s = ⟨none, .t (.a .poison)⟩ := by unfold varsGet; rw [Tr.get_nil]

/-- A frame that holds a result alone. -/
def resFp : Fp := ⟨1, 1, 0, fun _ _ => none⟩
def resAct (x : Value) : Act := { tmps := #[x], defers := [] }

theorem done_get (v : V) (h : H) (ok : A) (s : Nat) : varsGet (St.done v h ok).vars s = if s = 0 then ⟨none, v⟩ else ⟨none, .t (.a .poison)⟩ := by
  show varsGet (Tr.set .nil 0 _) s = _
  unfold varsGet
  rw [Tr.get_set]
  by_cases e : s = 0
  · subst e; simp
  · rw [if_neg (fun h => e h.symm), if_neg e, Tr.get_nil]

theorem done_rel {v : V} {h : H} {ok : A} {ν : Nu} {w : World} {x : Value} (hm : Mem S ν w h) (hx : v.rel ν x) : CRel P resFp S (St.done v h ok) ν (resAct x) w := by
  refine ⟨hm, fun s => ?_, fun s => ?_, rfl, trivial⟩
  · cases hk : bitB resFp.km s
    · rw [get_false hk]
      exact ⟨fun _ => by simp [St.done, getT, V.rel, T.relV, A.rel], fun hno => absurd (by simp [St.done, getT, holds]) hno⟩
    · rw [get_true hk, done_get]
      by_cases e : s = 0
      · subst e; rw [if_pos rfl]; exact ⟨fun _ => hx, fun hno => absurd trivial hno⟩
      · rw [if_neg e]; exact ⟨fun _ => by simp [V.rel, T.relV, A.rel], fun hno => absurd trivial hno⟩
  · rw [done_get]; split <;> rfl

theorem done_val {s : St} {ν : Nu} {w : World} {x : Value} (h : CRel P resFp S s ν (resAct x) w) : (entAt s.vars 0).v.rel ν x := by
  have h1 := (h.slots 0)
  rw [get_true (km := resFp.km) (d := 0) rfl] at h1
  have h2 := h1.1 (by rw [h.vconds]; trivial)
  exact h2

theorem pan_rel {h : H} {ok : A} {ν : Nu} {w : World} (hm : Mem S ν w h) : CRel P resFp S ⟨.nil, [], [], h, ok, []⟩ ν (resAct undef) w := by
  refine ⟨hm, fun s => ?_, fun s => by rw [nil_get], rfl, trivial⟩
  cases hk : bitB resFp.km s
  · rw [get_false hk]
    exact ⟨fun _ => by simp [getT, V.rel, T.relV, A.rel], fun hno => absurd (by simp [getT, holds]) hno⟩
  · rw [get_true hk, nil_get]
    exact ⟨fun _ => by simp [V.rel, T.relV, A.rel], fun hno => absurd trivial hno⟩

theorem done_exts {v : V} {h h' : H} {ok : A} (hx : Ext h.mark h') : ExtS (St.enter .nil h) (St.done v h' ok) :=
  ⟨hx, ⟨[0], rfl, fun s hs => by rw [done_get, if_neg (fun e => hs (by simp [e]))]; exact (nil_get s).symm⟩, fun _ s => by rw [done_get]; split <;> rfl, ⟨[], rfl⟩, fun _ => rfl⟩

theorem pan_exts {h h' : H} {ok : A} (hx : Ext h.mark h') : ExtS (St.enter .nil h) ⟨.nil, [], [], h', ok, []⟩ :=
  ⟨hx, ⟨[], rfl, fun _ _ => rfl⟩, fun _ s => by rw [nil_get], ⟨[], rfl⟩, fun _ => rfl⟩

/-! ### deferred calls -/

def ModeRel (ν : Nu) : Option A → FrameMode → Prop
  | none, m => m = .returning
  | some v, m => ∃ x, m = .panicking [{ v := x, recovered := false }] ∧ v.rel ν x

structure DfrOK (P : Program) (dfr : DfrE) : Prop where
  ext : ∀ f vs u h u' ok h', dfr f vs u h = some (u', ok, h') → h.lo ≤ h.next → Ext h h'
  ok : ∀ f vs u h u' ok h', dfr f vs u h = some (u', ok, h') → okB ok = true → Enters P f ∧
    ∀ (S : Nat → Prop) ν w us uv, (∀ i, i ∈ h'.rd → S i) → (∀ i, i ∈ h'.wr → S i) → Mem S ν w h → relV ν vs us → ModeRel ν u uv →
      CallsD P f us.toArray uv w (fun e um w' => (∃ v, e = .returned v) ∧ ∃ ν', ModeRel ν' u' (settle um) ∧ Goes S ν w h ν' w' h')

theorem runDefs_ext {dfr : DfrE} (hD : DfrOK P dfr) : ∀ {ds : List (FuncId × List V)} {u u' : Option A} {ok ok' : A} {h h' : H}, runDefs dfr ds u ok h = some (u', ok', h') → h.lo ≤ h.next → Ext h h' ∧ (okB ok' = true → okB ok = true)
  | [], _, _, _, _, _, _, he, _ => by
    simp only [runDefs, Option.some.injEq, Prod.mk.injEq] at he
    obtain ⟨_, rfl, rfl⟩ := he
    exact ⟨Ext.refl _, fun h => h⟩
  | (f, vs) :: ds, u, u', ok, ok', h, h', he, hlo => by
    simp only [runDefs] at he
    split at he
    · rename_i u1 ok1 h1 h2
      have e := hD.ext _ _ _ _ _ _ _ h2 hlo
      obtain ⟨e1, e2⟩ := runDefs_ext hD he (by rw [e.lo]; exact Nat.le_trans hlo e.next)
      exact ⟨e.trans e1, fun h => (andOk_true (e2 h)).1⟩
    · cases he

theorem ModeRel.notrun {ν : Nu} {u : Option A} {m : FrameMode} (h : ModeRel ν u m) : m ≠ .run := by
  cases u with
  | none => simp only [ModeRel] at h; subst h; simp
  | some v => simp only [ModeRel] at h; obtain ⟨x, rfl, _⟩ := h; simp

theorem runDefs_sound {dfr : DfrE} (hD : DfrOK P dfr) {fn : Func} {tmps : Array Value} {R : Ending → World → Prop} : ∀ {ds : List (FuncId × List V)} {ds' : List Deferred} {u u' : Option A} {ok ok' : A} {h h' : H} {ν : Nu} {w : World} {uv : FrameMode},
    runDefs dfr ds u ok h = some (u', ok', h') → okB ok' = true → (∀ i, i ∈ h'.rd → S i) → (∀ i, i ∈ h'.wr → S i) → Mem S ν w h → Dfs P ν ds ds' → ModeRel ν u uv →
      (∀ ν' w' uv', ModeRel ν' u' uv' → Goes S ν w h ν' w' h' → Leaves P fn tmps R [] uv' w') → Leaves P fn tmps R ds' uv w
  | [], [], _, _, _, _, _, _, ν, w, uv, he, _, _, _, hm, _, hu, hK => by
    simp only [runDefs, Option.some.injEq, Prod.mk.injEq] at he
    obtain ⟨rfl, _, rfl⟩ := he
    exact hK ν w uv hu (Goes.refl hm)
  | (f, vs) :: ds, d :: ds', u, u', ok, ok', h, h', ν, w, uv, he, hok, hrd, hwr, hm, hds, hu, hK => by
    simp only [runDefs] at he
    split at he
    · rename_i u1 ok1 h1 h2
      have hlo := hm.nums.lo
      have e := hD.ext _ _ _ _ _ _ _ h2 hlo
      obtain ⟨e1, e2⟩ := runDefs_ext hD he (by rw [e.lo]; exact Nat.le_trans hlo e.next)
      obtain ⟨⟨fv, cap, us, q1, q2, q3⟩, hds⟩ := hds
      obtain ⟨hent, hcall⟩ := hD.ok _ _ _ _ _ _ _ h2 (andOk_true (e2 hok)).2
      refine ⟨hu.notrun, fv, cap, f, us.toArray, q1, by rw [q2 w]; exact hent _ w, ?_⟩
      refine (hcall S ν w us uv (fun i hi => hrd i (e1.rd i hi)) (fun i hi => hwr i (e1.wr i hi)) hm q3 hu).mono ?_
      rintro e' um w' ⟨⟨v, rfl⟩, ν', hmode, g⟩
      exact runDefs_sound hD he hok hrd hwr g.mem (hds.mono g.le) hmode (fun ν'' w'' uv'' hm'' g'' => hK ν'' w'' uv'' hm'' (g.trans g''))
    · cases he
  | [], _ :: _, _, _, _, _, _, _, _, _, _, _, _, _, _, _, hds, _, _ => hds.elim
  | _ :: _, [], _, _, _, _, _, _, _, _, _, _, _, _, _, _, hds, _, _ => hds.elim

/-! ### a function's end -/

/-- How a frame is left. -/
def Ex.mode : Ex → Option (Option A)
  | .nrm => some none
  | .ret => some none
  | .pan v => some (some v)
  | .exit _ => none

theorem pick_leaves {cx : Cx} {km : Nat} {rs : List ResultVar} : ∀ {o : Out} {e1 : Ex} {s1 : St}, (o.leaves cx km rs).pick = some (e1, s1) → ∃ e s u, o.pick = some (e, s) ∧ e.mode = some u ∧ (leave cx km rs s u).pick = some (e1, s1)
  | .fail, _, _, h => by simp [Out.leaves, Out.pick] at h
  | .leaf e s, e1, s1, h => by
    cases e <;> simp only [Out.leaves] at h
    case nrm => exact ⟨_, s, none, rfl, rfl, h⟩
    case ret => exact ⟨_, s, none, rfl, rfl, h⟩
    case pan v => exact ⟨_, s, some v, rfl, rfl, h⟩
    case exit id => simp [Out.pick] at h
  | .node x a b, e1, s1, h => by
    simp only [Out.leaves, Out.pick] at h
    cases x
    · simpa [Out.pick] using pick_leaves (o := b) h
    · simpa [Out.pick] using pick_leaves (o := a) h

theorem all_leaves {cx : Cx} {km : Nat} {rs : List ResultVar} {p q : St → Prop} (h : ∀ s u, p s → (leave cx km rs s u).All q) : ∀ {o : Out}, o.All p → (o.leaves cx km rs).All q
  | .fail, _ => trivial
  | .leaf e s, hp => by
    cases e <;> simp only [Out.leaves]
    case nrm => exact h s none hp
    case ret => exact h s none hp
    case pan v => exact h s (some v) hp
    case exit id => trivial
  | .node x a b, hp => ⟨all_leaves h hp.1, all_leaves h hp.2⟩

theorem leave_all {cx : Cx} (hD : DfrOK cx.P cx.dfr) {km : Nat} {rs : List ResultVar} {h : H} {s0 : St} (h0 : s0.h = h.mark) {s : St} (hx : ExtS s0 s) (u : Option A) : (leave cx km rs s u).All (ExtS (St.enter .nil h)) := by
  have hlo : LoOK s := hx.lo (by unfold LoOK; rw [h0]; exact Nat.le_refl _)
  have hh : Ext h.mark s.h := by have := hx.h; rwa [h0] at this
  unfold leave
  split
  · trivial
  · rename_i hd
    split
    · rename_i hr
      exact done_exts ((hh.trans (runDefs_ext hD hd hlo).1).trans (resOf_ext hr))
    · trivial
  · rename_i hd; exact pan_exts (hh.trans (runDefs_ext hD hd hlo).1)

theorem pick_toR : ∀ {o : Out} {ok : A} {v : V} {h : H}, o.toR.pick = some (ok, v, h) → ∃ s, o.pick = some (.nrm, s) ∧ v = (entAt s.vars 0).v ∧ h = s.h ∧ ok = s.ok
  | .fail, _, _, _, he => by simp [Out.toR, R.pick] at he
  | .leaf e s, ok, v, h, he => by
    cases e <;> simp only [Out.toR] at he
    case nrm =>
      simp only [R.pick, Option.some.injEq, Prod.mk.injEq] at he
      obtain ⟨rfl, rfl, rfl⟩ := he
      exact ⟨s, rfl, rfl, rfl, rfl⟩
    all_goals simp [R.pick] at he
  | .node x a b, ok, v, h, he => by
    simp only [Out.toR, R.pick] at he
    cases x
    · simpa [Out.pick] using pick_toR (o := b) (by simpa using he)
    · simpa [Out.pick] using pick_toR (o := a) (by simpa using he)

theorem pickP_toR : ∀ {o : Out} {ok : A} {v : A} {h : H}, o.toR.pickP = some (ok, v, h) → ∃ s, o.pick = some (.pan v, s) ∧ h = s.h ∧ ok = s.ok
  | .fail, _, _, _, he => by simp [Out.toR, R.pickP] at he
  | .leaf e s, ok, v, h, he => by
    cases e <;> simp only [Out.toR] at he
    case pan v' =>
      simp only [R.pickP, Option.some.injEq, Prod.mk.injEq] at he
      obtain ⟨rfl, rfl, rfl⟩ := he
      exact ⟨s, rfl, rfl, rfl⟩
    all_goals simp [R.pickP] at he
  | .node x a b, ok, v, h, he => by
    simp only [Out.toR, R.pickP] at he
    cases x
    · simpa [Out.pick] using pickP_toR (o := b) (by simpa using he)
    · simpa [Out.pick] using pickP_toR (o := a) (by simpa using he)

theorem pickR_back (h0 : H) : ∀ (r : R), (r.back h0).pick = (match r.pick with | some (o, v, h) => some (o, v, h0.back h) | none => none) ∧ (r.back h0).pickP = (match r.pickP with | some (o, v, h) => some (o, v, h0.back h) | none => none)
  | .fail => ⟨rfl, rfl⟩
  | .leaf _ _ _ => ⟨rfl, rfl⟩
  | .pan _ _ _ => ⟨rfl, rfl⟩
  | .node x a b => by
    simp only [R.back, R.pick, R.pickP]
    cases x
    · simpa using pickR_back h0 b
    · simpa using pickR_back h0 a

theorem allR_back {h0 : H} {p q : H → Prop} (h : ∀ x, p x → q (h0.back x)) : ∀ {r : R}, r.All p → (r.back h0).All q
  | .fail, _ => trivial
  | .leaf _ _ x, hp => h x hp
  | .pan _ _ x, hp => h x hp
  | .node _ _ _, hp => ⟨allR_back h hp.1, allR_back h hp.2⟩

theorem all_toR {p : St → Prop} {q : H → Prop} (h2 : ∀ s, p s → q s.h) : ∀ {o : Out}, o.All p → o.toR.All q
  | .fail, _ => trivial
  | .leaf e s, hp => by
    cases e <;> simp only [Out.toR]
    case nrm => exact h2 s hp
    case pan v => exact h2 s hp
    all_goals trivial
  | .node _ _ _, hp => ⟨all_toR h2 hp.1, all_toR h2 hp.2⟩

/-! ### globals -/

theorem foldl_gl {g : Nat} : ∀ (l : List Operand) (acc : List Nat), (g ∈ acc ∨ .global g ∈ l) → g ∈ l.foldl (fun acc x => match x with | .global g => addN g acc | _ => acc) acc
  | [], acc, h => by simpa using h
  | x :: l, acc, h => by
    rw [List.foldl_cons]
    refine foldl_gl l _ ?_
    rcases h with h | h
    · left
      split
      · exact mem_addN.2 (.inr h)
      · exact h
    · rcases List.mem_cons.1 h with rfl | h
      · exact .inl (mem_addN.2 (.inl rfl))
      · exact .inr h

theorem regGl_spec {g : Nat} : ∀ (l : List Oper) (acc : List Nat), (g ∈ acc ∨ ∃ o ∈ l, .global g ∈ o.op.operands.toList) → g ∈ regGl l acc
  | [], acc, h => by
    rcases h with h | ⟨o, ho, _⟩
    · exact h
    · cases ho
  | o :: l, acc, h => by
    rw [regGl]
    refine regGl_spec l _ ?_
    rcases h with h | ⟨o', ho, h⟩
    · exact .inl (foldl_gl _ _ (.inl h))
    · rcases List.mem_cons.1 ho with rfl | ho
      · exact .inl (foldl_gl _ _ (.inr h))
      · exact .inr ⟨o', ho, h⟩

theorem codeGl_spec : ∀ (c : Code) (acc : List Nat), (∀ g, g ∈ acc → g ∈ codeGl c acc) ∧ CodeGl (· ∈ codeGl c acc) c
  | .region _ ops _, acc => ⟨fun g h => regGl_spec _ _ (.inl h), fun o ho g hg => regGl_spec _ _ (.inr ⟨o, ho, hg⟩)⟩
  | .seq a b, acc => by
    obtain ⟨a1, a2⟩ := codeGl_spec a acc
    obtain ⟨b1, b2⟩ := codeGl_spec b (codeGl a acc)
    exact ⟨fun g h => b1 g (a1 g h), CodeGl.mono b1 a2, b2⟩
  | .cond c a b, acc => by
    have key : ∀ acc', (∀ g, g ∈ acc → g ∈ acc') → (∀ g, c = .global g → g ∈ acc') → (∀ g, g ∈ acc → g ∈ codeGl b (codeGl a acc')) ∧ CodeGl (· ∈ codeGl b (codeGl a acc')) (.cond c a b) := by
      intro acc' h0 h1
      obtain ⟨a1, a2⟩ := codeGl_spec a acc'
      obtain ⟨b1, b2⟩ := codeGl_spec b (codeGl a acc')
      exact ⟨fun g h => b1 g (a1 g (h0 g h)), fun g hg => b1 g (a1 g (h1 g hg)), CodeGl.mono b1 a2, b2⟩
    cases c with
    | global g => exact key (addN g acc) (fun g' h => mem_addN.2 (.inr h)) (fun g' h => by cases h; exact mem_addN.2 (.inl rfl))
    | tmp t => exact key acc (fun _ h => h) (fun _ h => by cases h)
    | const v => exact key acc (fun _ h => h) (fun _ h => by cases h)
    | func f => exact key acc (fun _ h => h) (fun _ h => by cases h)
  | .block _ c, acc => codeGl_spec c acc
  | .loop c, acc => codeGl_spec c acc
  | .skip, _ => ⟨fun _ h => h, trivial⟩
  | .rangeFunc _ _ _ _, _ => ⟨fun _ h => h, trivial⟩
  | .exit _, _ => ⟨fun _ h => h, trivial⟩
  | .scope _, _ => ⟨fun _ h => h, trivial⟩
  | .label _, _ => ⟨fun _ h => h, trivial⟩
  | .goto _, _ => ⟨fun _ h => h, trivial⟩
  | .ret, _ => ⟨fun _ h => h, trivial⟩
  | .refuse _, _ => ⟨fun _ h => h, trivial⟩

/-! ### parameters -/

theorem get_params : ∀ (args : List V) (i s : Nat) (v : Tr Ent), varsGet (params i args v) s = if i ≤ s ∧ s < i + args.length then ⟨none, args.getD (s - i) (.t (.a .poison))⟩ else varsGet v s
  | [], i, s, v => by rw [if_neg (by simp only [List.length_nil]; omega)]; rfl
  | x :: r, i, s, v => by
    rw [params, get_params r (i + 1) s]
    have hset : varsGet (v.set i ⟨none, x⟩) s = if i = s then ⟨none, x⟩ else varsGet v s := by
      unfold varsGet
      rw [Tr.get_set]
      by_cases e : i = s
      · rw [if_pos e, if_pos e]
      · rw [if_neg e, if_neg e]
    by_cases e : i = s
    · subst e
      rw [if_neg (by omega), if_pos ⟨Nat.le_refl _, by simp⟩, hset, if_pos rfl]
      simp
    · by_cases h : i + 1 ≤ s ∧ s < i + 1 + r.length
      · rw [if_pos h, if_pos ⟨by omega, by simp; omega⟩]
        have : s - i = (s - (i + 1)) + 1 := by omega
        rw [this]; simp
      · rw [if_neg h, if_neg (by simp only [List.length_cons]; omega), hset, if_neg e]

theorem relV_get {ν : Nu} : ∀ {as : List V} {vs : List Value}, relV ν as vs → ∀ (i : Nat), (as.getD i (.t (.a .poison))).rel ν (vs.getD i undef)
  | [], [], _, _ => by simp [V.rel, T.relV, A.rel]
  | _ :: _, _ :: _, h, 0 => h.1
  | _ :: as, _ :: vs, h, i + 1 => by simpa using relV_get h.2 i
  | [], _ :: _, h, _ => h.elim
  | _ :: _, [], h, _ => h.elim

theorem relV_length {ν : Nu} : ∀ {as : List V} {vs : List Value}, relV ν as vs → as.length = vs.length
  | [], [], _ => rfl
  | _ :: _, _ :: _, h => by simp [relV_length h.2]
  | [], _ :: _, h => h.elim
  | _ :: _, [], h => h.elim
end

section
variable {cx : Cx} {call : CallE}

/-- The laws of all functions' loops. -/
def LamsOK (cx : Cx) : Prop := ∀ f fn c, cx.P.funcs[f]? = some fn → fn.body = some c → ∀ fp : Fp, fp.lam = cx.lam f → LamOK cx.P fp c

theorem evalFn_parts {fuel : Nat} {f : FuncId} {fn : Func} {args : List V} {h : H} {r : R} (he : evalFn cx call fuel f fn args h = r) : r = .fail ∨ ∃ c, fn.body = some c ∧ args.length ≤ fn.ntmps ∧ (∀ g, g ∈ codeGl c [] → g ∈ h.gl) ∧
    r = ((((evalC cx call ⟨fnMask cx f fn c args, fn.ntmps, cx.it, cx.lam f⟩ fuel c (St.enter (params 0 args .nil) h)).leaves cx (fnMask cx f fn c args) fn.results.toList).norm (St.enter .nil h)).toR).back h := by
  unfold evalFn at he
  split at he
  · exact .inl he.symm
  · rename_i c hc
    split at he
    · rename_i hlen
      simp only [Bool.and_eq_true, List.all_eq_true] at hlen
      exact .inr ⟨c, hc, Nat.le_of_ble_eq_true hlen.1, fun g hg => memB_iff.1 (hlen.2 g hg), he.symm⟩
    · exact .inl he.symm

theorem enter_vconds (args : List V) (h : H) : ∀ t, (varsGet (St.enter (params 0 args .nil) h).vars t).c = none := by
  intro t
  show (varsGet (params 0 args .nil) t).c = none
  rw [get_params]
  split
  · rfl
  · rw [nil_get]

theorem evalFn_ext (hE : EqOK cx) (hC : CallOK cx.P call) (hD : DfrOK cx.P cx.dfr) (hLs : LamsOK cx) {fuel : Nat} {f : FuncId} {fn : Func} {args : List V} {h : H} (hf : cx.P.funcs[f]? = some fn) (hlo : h.lo ≤ h.next) : (evalFn cx call fuel f fn args h).All (Ext h) := by
  rcases evalFn_parts (cx := cx) (call := call) (fuel := fuel) (f := f) (fn := fn) (args := args) (h := h) rfl with e | ⟨c, hc, _, _, e⟩
  · rw [e]; trivial
  · rw [e]
    have hO := (evalC_sound hE hC (hLs f fn c hf hc ⟨fnMask cx f fn c args, fn.ntmps, cx.it, cx.lam f⟩ rfl) fuel c (St.enter (params 0 args .nil) h) (fun _ _ h => h)).ext (show LoOK _ from Nat.le_refl _)
    refine allR_back (p := Ext h.mark) (fun x hx => back_ext hlo hx) (all_toR (p := ExtS (St.enter .nil h)) (fun s hs => hs.h) (norm_all ?_))
    exact all_leaves (p := ExtS (St.enter (params 0 args .nil) h)) (fun s u hs => leave_all hD rfl hs u) hO

/-- The run of a function's text, to its end. -/
theorem fn_run (hE : EqOK cx) (hC : CallOK cx.P call) (hD : DfrOK cx.P cx.dfr) (hLs : LamsOK cx) {fuel : Nat} {fn : Func} {f : FuncId} {args : List V} {h : H} {c : Code} (hf : cx.P.funcs[f]? = some fn) (hc : fn.body = some c)
    (hlen : args.length ≤ fn.ntmps) (hgl : ∀ g, g ∈ codeGl c [] → g ∈ h.gl) {e1 : Ex} {s2 : St}
    (hp : (((evalC cx call ⟨fnMask cx f fn c args, fn.ntmps, cx.it, cx.lam f⟩ fuel c (St.enter (params 0 args .nil) h)).leaves cx (fnMask cx f fn c args) fn.results.toList).norm (St.enter .nil h)).pick = some (e1, s2)) (hok : okB s2.ok = true)
    {S : Nat → Prop} {ν : Nu} {w : World} {vs : List Value} {R : Ending → World → Prop} (hrd : ∀ i, i ∈ s2.h.rd → markS S h i) (hwr : ∀ i, i ∈ s2.h.wr → markS S h i) (hm : Mem S ν w h) (hargs : relV ν args vs)
    (hK : ∀ ν' w' x, (entAt s2.vars 0).v.rel ν' x → Goes (markS S h) ν w h.mark ν' w' s2.h → e1 = .nrm → R (.returned x) w')
    (hP : ∀ ν' w' v x, v.rel ν' x → Goes (markS S h) ν w h.mark ν' w' s2.h → e1 = .pan v → R (.panicked [{ v := x, recovered := false }]) w') :
    Calls cx.P f vs.toArray w R := by
  let fp : Fp := ⟨fnMask cx f fn c args, fn.ntmps, cx.it, cx.lam f⟩
  have hS := evalC_sound hE hC (hLs f fn c hf hc fp rfl) fuel c (St.enter (params 0 args .nil) h) (fun _ _ h => h)
  have hO := hS.ext (show LoOK _ from Nat.le_refl _)
  have hlv : ((evalC cx call fp fuel c (St.enter (params 0 args .nil) h)).leaves cx (fnMask cx f fn c args) fn.results.toList).All (ExtS (St.enter .nil h)) :=
    all_leaves (p := ExtS (St.enter (params 0 args .nil) h)) (fun s u hs => leave_all hD rfl hs u) hO
  obtain ⟨s1, hp1, hweak⟩ := norm_pick (P := cx.P) (base := St.enter .nil h) rfl hlv e1 s2 hp
  obtain ⟨e, s, u, hpe, hmode, hleave⟩ := pick_leaves hp1
  have hxs := Out.All.pick hO hpe
  have hlos : LoOK s := hxs.lo (Nat.le_refl _)
  have hok1 : okB s1.ok = true := hweak.ok hok
  have hrd1 : ∀ i, i ∈ s1.h.rd → markS S h i := fun i hi => hrd i (hweak.rd i hi)
  have hwr1 : ∀ i, i ∈ s1.h.wr → markS S h i := fun i hi => hwr i (hweak.wr i hi)
  have hgl' : CodeGl (· ∈ (St.enter (params 0 args .nil) h).h.gl) c := CodeGl.mono (fun g hg => hgl g hg) (codeGl_spec c []).2
  have hlv2 := relV_length hargs
  -- the deferred calls
  have hdef : ∃ u' ok' h', runDefs cx.dfr s.defs u s.ok s.h = some (u', ok', h') ∧ okB ok' = true ∧ Ext h' s1.h ∧ ∀ ν' a' w', CRel cx.P fp (markS S h) { s with ok := ok', h := h', defs := [] } ν' a' w' → Goes (markS S h) ν w h.mark ν' w' h' →
      ∀ m, ModeRel ν' u' m → Leaves cx.P fn a'.tmps R [] m w' := by
    unfold leave at hleave
    split at hleave
    · simp [Out.pick] at hleave
    · rename_i ok' h' hd
      split at hleave
      · rename_i o v h2 hres
        simp only [Out.pick, Option.some.injEq, Prod.mk.injEq] at hleave
        obtain ⟨rfl, rfl⟩ := hleave
        obtain ⟨ho1, ho2⟩ := andOk_true hok1
        refine ⟨none, ok', h', hd, ho1, resOf_ext hres, fun ν' a' w' hr hg m hm' => ?_⟩
        simp only [ModeRel] at hm'
        subst hm'
        obtain ⟨x, hx, hrun, g⟩ := resOf_sound (fp := fp) (S := markS S h) hres ho2 hrd1 rfl (ν := ν') (a := a') (w := w') hr
        have hg2 := hg.trans g
        have hcr := done_rel (P := cx.P) (ok := andOk ok' o) g.mem hx
        obtain ⟨h1, h2'⟩ := hweak.rel resFp (markS S h) ν w ν' (resAct x) w' hm.mark hcr hg2
        exact ⟨x, hrun, hK ν' w' x (done_val h1) h2' rfl⟩
      · simp [Out.pick] at hleave
    · rename_i v ok' h' hd
      simp only [Out.pick, Option.some.injEq, Prod.mk.injEq] at hleave
      obtain ⟨rfl, rfl⟩ := hleave
      refine ⟨some v, ok', h', hd, hok1, Ext.refl _, fun ν' a' w' hr hg m hm' => ?_⟩
      simp only [ModeRel] at hm'
      obtain ⟨x, rfl, hx⟩ := hm'
      have hcr := pan_rel (P := cx.P) (ok := ok') hr.mem
      obtain ⟨h1, h2'⟩ := hweak.rel resFp (markS S h) ν w ν' (resAct undef) w' hm.mark hcr hg
      exact hP ν' w' v x hx h2' rfl
  obtain ⟨u', ok', h', hd, hok', hx1, hfin⟩ := hdef
  obtain ⟨hdx, hdo⟩ := runDefs_ext hD hd hlos
  refine calls_of_wp_defers hf hc ?_
  refine hS.run e s hpe (hdo hok') (markS S h) ν _ w _ (fun i hi => hrd1 i (hx1.rd i (hdx.rd i hi))) (fun i hi => hwr1 i (hx1.wr i (hdx.wr i hi))) hgl' ?_ ?_
  · refine ⟨hm.mark, fun t => ?_, enter_vconds args h, by show _ = fn.ntmps; simp; omega, trivial⟩
    have hpoison : EntOK ν (vs.toArray ++ Array.replicate (fn.ntmps - vs.toArray.size) undef) t ⟨none, .t (.a .poison)⟩ :=
      ⟨fun _ => by simp [V.rel, T.relV, A.rel], fun hno => absurd trivial hno⟩
    cases hk : bitB (fnMask cx f fn c args) t
    · rw [get_false hk]; exact hpoison
    · rw [get_true hk]
      show EntOK ν _ t (varsGet (params 0 args .nil) t)
      rw [get_params]
      split
      · rename_i ht
        refine ⟨fun _ => ?_, fun hno => absurd trivial hno⟩
        have h1 := relV_get hargs (t - 0)
        have e1 : (vs.toArray ++ Array.replicate (fn.ntmps - vs.toArray.size) undef).getD t undef = vs.getD (t - 0) undef := by
          have : t < vs.length := by omega
          simp [Array.getD_eq_getD_getElem?, Array.getElem?_append, this]
        show (args.getD (t - 0) (.t (.a .poison))).rel ν _
        rw [e1]
        exact h1
      · rw [nil_get]; exact hpoison
  · intro ν' a' w' x hr' hg' hx
    have main : ∀ m, ModeRel ν' u m → Leaves cx.P fn a'.tmps R a'.defers m w' := by
      intro m hmr
      refine runDefs_sound hD hd hok' (fun i hi => hrd1 i (hx1.rd i hi)) (fun i hi => hwr1 i (hx1.wr i hi)) hr'.mem hr'.defers hmr ?_
      intro ν'' w'' m' hmr' hg''
      have hcr : CRel cx.P fp (markS S h) { s with ok := ok', h := h', defs := [] } ν'' { a' with defers := [] } w'' :=
        ⟨hg''.mem, fun t => (hr'.slots t).mono hg''.le, hr'.vconds, hr'.size, trivial⟩
      exact hfin ν'' { a' with defers := [] } w'' hcr (hg'.trans hg'') m' hmr'
    cases e with
    | nrm => simp only [Ex.rel] at hx; subst hx; simp only [Ex.mode, Option.some.injEq] at hmode; subst hmode; exact main .returning rfl
    | ret => simp only [Ex.rel] at hx; subst hx; simp only [Ex.mode, Option.some.injEq] at hmode; subst hmode; exact main .returning rfl
    | pan v =>
      simp only [Ex.rel] at hx
      obtain ⟨y, rfl, hy⟩ := hx
      simp only [Ex.mode, Option.some.injEq] at hmode
      subst hmode
      exact main _ ⟨y, rfl, hy⟩
    | exit id => simp [Ex.mode] at hmode

theorem evalFn_sound (hE : EqOK cx) (hC : CallOK cx.P call) (hD : DfrOK cx.P cx.dfr) (hLs : LamsOK cx) {fuel : Nat} {fn : Func} {f : FuncId} {args : List V} {h : H} {ok : A} {v : V} {h' : H} (hf : cx.P.funcs[f]? = some fn)
    (he : (evalFn cx call fuel f fn args h).pick = some (ok, v, h')) (hok : okB ok = true) : FnOK cx.P f args h v h' := by
  rcases evalFn_parts (cx := cx) (call := call) (fuel := fuel) (f := f) (fn := fn) (args := args) (h := h) rfl with e | ⟨c, hc, hlen, hgl, e⟩
  · rw [e] at he; simp [R.pick] at he
  · rw [e, (pickR_back h _).1] at he
    split at he
    · rename_i o v' h2 hp
      simp only [Option.some.injEq, Prod.mk.injEq] at he
      obtain ⟨rfl, rfl, rfl⟩ := he
      obtain ⟨s2, hp2, rfl, rfl, rfl⟩ := pick_toR hp
      intro S ν w vs hrd hwr hm hargs
      exact fn_run hE hC hD hLs hf hc hlen hgl hp2 hok (back_rd hrd) (back_wr hwr) hm hargs (fun ν' w' x hx hg _ => ⟨x, ν', rfl, hx, back_goes hm.nums.lo hg⟩) (fun _ _ _ _ _ _ h => by cases h)
    · cases he

theorem evalFn_pan (hE : EqOK cx) (hC : CallOK cx.P call) (hD : DfrOK cx.P cx.dfr) (hLs : LamsOK cx) {fuel : Nat} {fn : Func} {f : FuncId} {args : List V} {h : H} {ok : A} {v : A} {h' : H} (hf : cx.P.funcs[f]? = some fn)
    (he : (evalFn cx call fuel f fn args h).pickP = some (ok, v, h')) (hok : okB ok = true) : FnPan cx.P f args h v h' := by
  rcases evalFn_parts (cx := cx) (call := call) (fuel := fuel) (f := f) (fn := fn) (args := args) (h := h) rfl with e | ⟨c, hc, hlen, hgl, e⟩
  · rw [e] at he; simp [R.pickP] at he
  · rw [e, (pickR_back h _).2] at he
    split at he
    · rename_i o v' h2 hp
      simp only [Option.some.injEq, Prod.mk.injEq] at he
      obtain ⟨rfl, rfl, rfl⟩ := he
      obtain ⟨s2, hp2, rfl, rfl⟩ := pickP_toR hp
      intro S ν w vs hrd hwr hm hargs
      exact fn_run hE hC hD hLs hf hc hlen hgl hp2 hok (back_rd hrd) (back_wr hwr) hm hargs (fun _ _ _ _ _ h => by cases h) (fun ν' w' v x hx hg h => by cases h; exact ⟨x, ν', rfl, hx, back_goes hm.nums.lo hg⟩)
    · cases he

/-- Contracts: what they say is so. -/
structure ΓOK (P : Program) (Γ : FuncId → List V → H → Option R) : Prop where
  ok : ∀ f args h r ok v h', Γ f args h = some r → r.pick = some (ok, v, h') → okB ok = true → (Enters P f ∧ FnOK P f args h v h') ∨ (AtOnce P f args v ∧ h' = h)
  pan : ∀ f args h r ok v h', Γ f args h = some r → r.pickP = some (ok, v, h') → okB ok = true → Enters P f ∧ FnPan P f args h v h'
  ext : ∀ f args h r, Γ f args h = some r → h.lo ≤ h.next → r.All (Ext h)

theorem evalF_sound (hE : EqOK cx) {Γ : FuncId → List V → H → Option R} (hΓ : ΓOK cx.P Γ) (hD : DfrOK cx.P cx.dfr) (hLs : LamsOK cx) (hent : ∀ f fn, cx.P.funcs[f]? = some fn → fn.body ≠ none → Enters cx.P f) {fuel : Nat} : ∀ n, CallOK cx.P (evalF cx Γ fuel n) := by
  intro n
  induction n with
  | zero => exact ⟨fun f args h ok v h' he => by simp [evalF, R.pick] at he, fun f args h ok v h' he => by simp [evalF, R.pickP] at he, fun f args h _ => trivial⟩
  | succ n ih =>
    refine ⟨fun f args h ok v h' he hok => ?_, fun f args h ok v h' he hok => ?_, fun f args h hlo => ?_⟩
    · simp only [evalF] at he
      split at he
      · rename_i r hr; exact hΓ.ok f args h r ok v h' hr he hok
      · split at he
        · rename_i fn hf
          refine .inl ⟨hent f fn hf ?_, evalFn_sound hE ih hD hLs hf he hok⟩
          intro hb
          unfold evalFn at he
          rw [hb] at he
          simp [R.pick] at he
        · simp [R.pick] at he
    · simp only [evalF] at he
      split at he
      · rename_i r hr; exact hΓ.pan f args h r ok v h' hr he hok
      · split at he
        · rename_i fn hf
          refine ⟨hent f fn hf ?_, evalFn_pan hE ih hD hLs hf he hok⟩
          intro hb
          unfold evalFn at he
          rw [hb] at he
          simp [R.pickP] at he
        · simp [R.pickP] at he
    · simp only [evalF]
      split
      · rename_i r hr; exact hΓ.ext f args h r hr hlo
      · split
        · rename_i fn hf; exact evalFn_ext hE ih hD hLs hf hlo
        · trivial
end
end Go.WE
