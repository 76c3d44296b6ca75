/- WE23: a region whose operations have their order. -/
import Derived.Test.YtljopbfbljkjoaaDoorWE22
namespace Go.WE
set_option linter.unusedVariables false
open Go

section
variable {cx : Cx} {call : CallE} {fp : Fp} {S : Nat → Prop} {ops : List Oper} {i : Nat} {st st' : St} {o : Oper} {ν ν' : Nu} {w w' : World} {a a' : Act} {K : Act → World → Prop} {Q : Exit → Act → World → Prop}

/-- What is called, at values. -/
theorem call_run {P : Program} {gt : Nat → Ent} {c : Call} {vs : List V} {f : Operand} {f' : FuncId} {caps : List A} (hvs : opVs none gt c.args.toList = some vs) (hcal : c.callee = .value f)
    (hf : opA none gt f = some (.fn f' caps)) (hs : Slots ν a.tmps gt c.operands.toList) (hg : Glob ν c.operands.toList) (t : TypeId) :
    ∃ us : List Value, relV ν (vs ++ caps.map fun x => .t (.a x)) us ∧ ∃ d : Deferred, (∀ w, (resolve a.eval c t).run P w = .ok d w) ∧ (∃ fv cap, d.target = .fn fv cap) ∧ ∀ w, (invoke d.target d.args).run P w = (callFunc f' us.toArray).run P w := by
  have hsub : ∀ x, x ∈ c.args.toList → x ∈ c.operands.toList := by intro x hx; simp [Call.operands]; exact .inr (by simpa using hx)
  have hargs := opVs_sound (a := a) (G := none) trivial hvs (hs.sub hsub) (fun g hm => hg g (hsub _ hm))
  have hf1 : ∀ x, x ∈ [f] → x ∈ c.operands.toList := by intro x hx; simp [Call.operands, hcal]; simp at hx; exact .inl hx
  have hfv := opA_sound (a := a) (G := none) hf trivial (hs.sub hf1) (fun g hm => hg g (hf1 _ hm))
  simp only [A.rel] at hfv
  obtain ⟨cvs, hfv, hcaps⟩ := hfv
  have hall := relV_append hargs (relV_of_relL hcaps)
  have earr : c.args.map a.eval ++ cvs = (c.args.toList.map a.eval ++ cvs.toList).toArray := by
    apply Array.ext'; simp
  refine ⟨_, hall, { target := .fn (.func f') cvs, args := c.args.map a.eval }, fun w => ?_, ⟨_, _, rfl⟩, fun w => ?_⟩
  · simp only [resolve, hcal, hfv, Deferred.ofValue, Sem.run_pure]
    simp
  · rw [← earr]; rfl

theorem wp_of_panic {P : Program} {v : Value} {w' : World} (h : (execOp a.eval o).run P w = .halt (.panic v) w') (hQ : Q (.panic [{ v, recovered := false }]) a w') : o.wp P a w K Q := by
  unfold Oper.wp; rw [h]; exact hQ

theorem wp_of_enterP {P : Program} {f : FuncId} {args : Array Value} (h : (execOp a.eval o).run P w = .ok (.enter f args) w)
    (hc : Calls P f args w (fun e w' => ∃ u, e = .panicked [{ v := u, recovered := false }] ∧ Q (.panic [{ v := u, recovered := false }]) a w')) : o.wp P a w K Q := by
  unfold Oper.wp; rw [h]
  refine hc.mono ?_
  rintro e w' ⟨u, rfl, hq⟩
  exact hq

theorem pickP_ofOpt {x : Option OpR} {y : A × A × H} (h : (R.ofOpt x).pickP = some y) : False := by cases x <;> simp [R.ofOpt, R.pickP] at h

theorem pick_ofOpt {x : Option OpR} {ok : A} {v : V} {h : H} (hp : (R.ofOpt x).pick = some (ok, v, h)) : x = some ⟨ok, v, h⟩ := by
  cases x with
  | none => simp [R.ofOpt, R.pick] at hp
  | some r => simp [R.ofOpt, R.pick] at hp; obtain ⟨rfl, rfl, rfl⟩ := hp; rfl

/-- An operation, by ways. -/
theorem runR_sound (hE : EqOK cx) (hC : CallOK cx.P call) {e : Ex} (he : (runR cx call fp st o).pick = some (e, st')) (hok : okB st'.ok = true)
    (hr : Rel cx.P fp S ops i st ν a w) (hgl : OpGl o st.h) (hd : chkDst ops = true) (ho : ops[i]? = some o) (hdst : dstFine fp.nt o.dst = true)
    (hrd : ∀ i, i ∈ st'.h.rd → S i) (hwr : ∀ i, i ∈ st'.h.wr → S i)
    (hK : e = .nrm → ∀ ν' a' w', Rel cx.P fp S ops (i + 1) st' ν' a' w' → Goes S ν w st.h ν' w' st'.h → K a' w')
    (hP : ∀ v, e = .pan v → ∀ ν' a' w' u, v.rel ν' u → CRel cx.P fp S st' ν' a' w' → Goes S ν w st.h ν' w' st'.h → Q (.panic [{ v := u, recovered := false }]) a' w') :
    o.wp cx.P a w K Q := by
  have hn := hr.need hgl
  have hslots : Slots ν a.tmps (st.get fp.km) o.op.operands.toList := fun s _ hc => (hr.c.slots s).1 hc
  have hglob : Glob ν o.op.operands.toList := hn.glob
  have run : ∀ call', CallOK cx.P call' → runOp cx call' fp none true st o = some st' → e = .nrm → o.wp cx.P a w K Q := fun call' hC' h1 h2 =>
    runOp_sound hE hC' h1 hok hn hdst trivial (fun h => absurd rfl h) (fun _ _ h => by cases h) (fun s hs => hn.slots s (.inl hs)) hrd hwr
      (fun ν' a' w' hl => hK h2 ν' a' w' (hr.left hd ho (runOp_stat hC' h1 (fun _ _ h => by cases h)) hl) hl.goes)
  have pan : ∀ {v : A} {ok : A} {h : H}, st' = { st with ok := andOk st.ok ok, h := h } → e = .pan v → ∀ {ν' w' u}, v.rel ν' u → Goes S ν w st.h ν' w' h → Q (.panic [{ v := u, recovered := false }]) a w' := by
    intro v ok h hst hev ν' w' u hu hg
    subst hst
    refine hP v hev ν' a w' u hu ⟨hg.mem, fun s => ?_, hr.c.vconds, hr.c.size, hr.c.defers.mono hg.le⟩ hg
    obtain ⟨h1, h2⟩ := hr.c.slots s
    exact ⟨fun hh => V.rel_mono hg.le (h1 hh), h2⟩
  unfold runR at he
  split at he
  · rename_i c hop
    rcases pick_toOut he with ⟨ok, v, h, hp, rfl, rfl⟩ | ⟨ok, v, h, hp, rfl, hst⟩
    · refine run (fun f vs h => oneWay (call f vs h)) hC.oneWay ?_ rfl
      have hev : evalOp cx (fun f vs h => oneWay (call f vs h)) none (st.get fp.km) st.h o.op = some ⟨ok, v, h⟩ := by
        rw [hop]
        simp only [evalOp, evalCall]
        unfold evalCallR at hp
        split at hp
        · simp [R.pick] at hp
        · rename_i vs hvs
          split at hp
          · rename_i f hcal
            split at hp
            · rename_i f' caps hf
              simp only [oneWay, hp, R.one]
            · simp [R.pick] at hp
          · rename_i b hcal
            exact pick_ofOpt hp
          · simp [R.pick] at hp
      unfold runOp
      simp only [preC, hev, underC, condOk]
    · unfold evalCallR at hp
      split at hp
      · simp [R.pickP] at hp
      · rename_i vs hvs
        split at hp
        · rename_i f hcal
          split at hp
          · rename_i f' caps hf
            rw [hop] at hslots hglob
            obtain ⟨us, hus, d, hres, _, hinv⟩ := call_run (P := cx.P) (a := a) hvs hcal hf hslots hglob o.type
            have hok2 : okB ok = true := by rw [hst] at hok; exact (andOk_true hok).2
            obtain ⟨hent, hfn⟩ := hC.pan _ _ _ _ _ _ hp hok2
            have hsem : execOp a.eval o = (do let d ← resolve a.eval c o.type; invoke d.target d.args) := by unfold execOp; rw [hop]
            refine wp_of_enterP (f := f') (args := us.toArray) (by rw [hsem, Sem.run_bind, hres w]; simp only [Result.andThen_ok]; rw [hinv w]; exact hent _ w) ?_
            refine (hfn S ν w us (by rw [hst] at hrd; exact hrd) (by rw [hst] at hwr; exact hwr) hr.c.mem hus).mono ?_
            rintro e' w' ⟨u, ν', rfl, hu, hg⟩
            exact ⟨u, rfl, pan hst rfl hu hg⟩
          · simp [R.pickP] at hp
        · exact (pickP_ofOpt hp).elim
        · simp [R.pickP] at hp
  · rename_i x hop
    rcases pick_toOut he with ⟨ok, v, h, hp, rfl, rfl⟩ | ⟨ok, v, h, hp, rfl, hst⟩
    · unfold evalPanic at hp
      split at hp <;> simp [R.pick] at hp
    · unfold evalPanic at hp
      split at hp
      · rename_i t y hx
        simp only [R.pickP, Option.some.injEq, Prod.mk.injEq] at hp
        obtain ⟨rfl, rfl, rfl⟩ := hp
        have hxv := opA_sound (a := a) (G := none) hx trivial (hslots.sub (by intro z hz; simp at hz; subst hz; rw [hop]; simp [Op.operands])) (fun g hm => hglob g (by simp at hm; subst hm; rw [hop]; simp [Op.operands]))
        have hxv' := hxv
        simp only [A.rel] at hxv'
        obtain ⟨u, hu, hyu⟩ := hxv'
        refine wp_of_panic (v := a.eval x) (w' := w) ?_ (pan hst rfl hxv (Goes.refl hr.c.mem))
        have hsem : execOp a.eval o = (do pure (.value (← Instr.panic (a.eval x)))) := by unfold execOp; rw [hop]
        rw [hsem, Sem.run_bind, hu]
        rfl
      · simp [R.pickP] at hp
  · rename_i c hop
    split at he
    · rename_i d hdv
      simp only [Out.pick, Option.some.injEq, Prod.mk.injEq] at he
      obtain ⟨rfl, rfl⟩ := he
      unfold evalDefer at hdv
      split at hdv
      · cases hdv
      · rename_i vs hvs
        split at hdv
        · rename_i f hcal
          split at hdv
          · rename_i f' caps hf
            simp only [Option.some.injEq] at hdv
            subst hdv
            rw [hop] at hslots hglob
            obtain ⟨us, hus, d, hres, ⟨fv, cap, htar⟩, hinv⟩ := call_run (P := cx.P) (a := a) hvs hcal hf hslots hglob o.type
            have hsem : execOp a.eval o = (do pure (.defer (← resolve a.eval c o.type))) := by unfold execOp; rw [hop]
            unfold Oper.wp
            rw [hsem, Sem.run_bind, hres w]
            simp only [Result.andThen_ok, Sem.run_pure, Oper.upon_defer]
            have hr1 : Rel cx.P fp S ops i { st with defs := (f', vs ++ caps.map fun x => .t (.a x)) :: st.defs } ν { a with defers := d :: a.defers } w := by
              refine ⟨⟨hr.c.mem, fun s => ?_, hr.c.vconds, hr.c.size, ⟨fv, cap, us, htar, hinv, hus⟩, hr.c.defers⟩, fun s sj x hc => ?_⟩
              · exact hr.c.slots s
              · exact hr.conds s sj x hc
            have hl := skip_left (hr1.need (o := o) hgl) hdst
            exact hK rfl ν _ w (hr1.left hd ho skip_stat hl) hl.goes
          · cases hdv
        · cases hdv
    · simp [Out.pick] at he
  · split at he
    · rename_i s hs
      simp only [Out.pick, Option.some.injEq, Prod.mk.injEq] at he
      obtain ⟨rfl, rfl⟩ := he
      exact run call hC hs rfl
    · simp [Out.pick] at he

theorem stepS2a_sound (hE : EqOK cx) (hC : CallOK cx.P call) {e : Ex} {j sj : Nat} {want : Bool} (he : (stepS2a cx call fp sj want st o (st.get fp.km sj)).pick = some (e, st')) (hok : okB st'.ok = true)
    (hg : o.guard = some (j, want)) (hji : Nat.blt j i = true) (hsj : dstOf ops j = some sj) (hdst : dstFine fp.nt o.dst = true)
    (hr : Rel cx.P fp S ops i st ν a w) (hgl : OpGl o st.h) (hd : chkDst ops = true) (ho : ops[i]? = some o)
    (hrd : ∀ i, i ∈ st'.h.rd → S i) (hwr : ∀ i, i ∈ st'.h.wr → S i)
    (hK : e = .nrm → ∀ ν' a' w', Rel cx.P fp S ops (i + 1) st' ν' a' w' → Goes S ν w st.h ν' w' st'.h → K a' w')
    (hP : ∀ v, e = .pan v → ∀ ν' a' w' u, v.rel ν' u → CRel cx.P fp S st' ν' a' w' → Goes S ν w st.h ν' w' st'.h → Q (.panic [{ v := u, recovered := false }]) a' w') :
    if Region.wanted o (yielded ops.toArray a.tmps) then o.wp cx.P a w K Q else K (a.put o.dst undef) w := by
  have hw := fun t => wanted_guard (tmps := t) hg hsj
  have hdi : dstOf ops i = o.dst := by unfold dstOf; rw [ho]
  have hne : o.dst ≠ some sj := fun hds => by
    have := chkDst_inj hd hsj (hdi.trans hds)
    have := blt_lt hji
    omega
  -- with the guard's value known
  have gen : ∀ (st0 : St) (b : Bool), st0.h = st.h → Rel cx.P fp S ops i st0 ν a w → a.tmps.getD sj undef = .bool b → (runIf cx call fp (eqBool b want) st0 o).pick = some (e, st') →
      if Region.wanted o (yielded ops.toArray a.tmps) then o.wp cx.P a w K Q else K (a.put o.dst undef) w := by
    intro st0 b hh0 hr0 hv hp
    unfold runIf at hp
    split at hp
    · rename_i hb
      have hb := eqBool_iff.1 hb
      subst hb
      rw [if_pos ((hw _).2 hv)]
      exact runR_sound hE hC hp hok hr0 (by unfold OpGl at *; rw [hh0]; exact hgl) hd ho hdst hrd hwr (by rw [hh0]; exact hK) (by rw [hh0]; exact hP)
    · rename_i hb
      have hb : b ≠ want := fun h => by rw [eqBool_iff.2 h] at hb; cases hb
      rw [if_neg (fun h => by have := (hw _).1 h; simp only [holds] at this; rw [hv] at this; simp at this; exact hb this)]
      simp only [skipO, Out.pick, Option.some.injEq, Prod.mk.injEq] at hp
      obtain ⟨rfl, rfl⟩ := hp
      have hl := skip_left (hr0.need (o := o) (by unfold OpGl at *; rw [hh0]; exact hgl)) hdst
      exact hK rfl ν _ w (hr0.left hd ho skip_stat hl) (by rw [← hh0]; exact hl.goes)
  have one : ∀ s, stepG1 cx call fp sj want st o (st.get fp.km sj) = some s → e = .nrm → s = st' →
      if Region.wanted o (yielded ops.toArray a.tmps) then o.wp cx.P a w K Q else K (a.put o.dst undef) w := by
    intro s hs hen hst
    subst hst
    exact stepG1_sound hE hC hg hsj hs hok (hr.need hgl) hdst hne hrd hwr
      (fun ν' a' w' hl => hK hen ν' a' w' (hr.left hd ho (stepG1_stat hC hg (blt_lt hji) hsj hs) hl) hl.goes)
  have split : ∀ x : Bool, a.tmps.getD sj undef = .bool x → (splitG cx call fp sj want st o x).pick = some (e, st') →
      if Region.wanted o (yielded ops.toArray a.tmps) then o.wp cx.P a w K Q else K (a.put o.dst undef) w := by
    intro x hv hp
    simp only [splitG, Out.pick] at hp
    cases x
    · exact gen _ false know_h (hr.know hv) hv (by simpa using hp)
    · exact gen _ true know_h (hr.know hv) hv (by simpa using hp)
  unfold stepS2a at he
  split at he
  · rename_i hc
    have hval : ∀ x y, (st.get fp.km sj).v = .t (.a x) → x.bool? = some y → a.tmps.getD sj undef = .bool y := by
      intro x y hv hy
      have h2 := (hr.c.slots sj).1 (by rw [hc]; trivial)
      rw [hv] at h2
      have h2 : x.rel ν _ := h2
      exact A.rel_bool h2 hy
    split at he
    · rename_i x hv
      split at he
      · exact gen st true rfl hr (hval _ _ hv rfl) he
      · exact gen st false rfl hr (hval _ _ hv rfl) he
      · rename_i y
        unfold stepS3 at he
        split at he
        · exact split y (hval _ _ hv rfl) he
        · split at he
          · rename_i s hs
            simp only [Out.pick, Option.some.injEq, Prod.mk.injEq] at he
            exact one s hs he.1.symm he.2
          · exact split y (hval _ _ hv rfl) he
      · unfold Out.ofSt at he
        split at he
        · rename_i s hs
          simp only [Out.pick, Option.some.injEq, Prod.mk.injEq] at he
          exact one s hs he.1.symm he.2
        · simp [Out.pick] at he
      · simp [Out.pick] at he
    · simp [Out.pick] at he
  · unfold Out.ofSt at he
    split at he
    · rename_i s hs
      simp only [Out.pick, Option.some.injEq, Prod.mk.injEq] at he
      exact one s hs he.1.symm he.2
    · simp [Out.pick] at he

theorem stepS2_sound (hE : EqOK cx) (hC : CallOK cx.P call) {e : Ex} {j sj : Nat} {want : Bool} (he : (stepS2 cx call fp sj want st o (st.get fp.km sj)).pick = some (e, st')) (hok : okB st'.ok = true)
    (hg : o.guard = some (j, want)) (hji : Nat.blt j i = true) (hsj : dstOf ops j = some sj) (hdst : dstFine fp.nt o.dst = true)
    (hr : Rel cx.P fp S ops i st ν a w) (hgl : OpGl o st.h) (hd : chkDst ops = true) (ho : ops[i]? = some o)
    (hrd : ∀ i, i ∈ st'.h.rd → S i) (hwr : ∀ i, i ∈ st'.h.wr → S i)
    (hK : e = .nrm → ∀ ν' a' w', Rel cx.P fp S ops (i + 1) st' ν' a' w' → Goes S ν w st.h ν' w' st'.h → K a' w')
    (hP : ∀ v, e = .pan v → ∀ ν' a' w' u, v.rel ν' u → CRel cx.P fp S st' ν' a' w' → Goes S ν w st.h ν' w' st'.h → Q (.panic [{ v := u, recovered := false }]) a' w') :
    if Region.wanted o (yielded ops.toArray a.tmps) then o.wp cx.P a w K Q else K (a.put o.dst undef) w := by
  unfold stepS2 at he
  split at he
  · exact stepS2a_sound hE hC he hok hg hji hsj hdst hr hgl hd ho hrd hwr hK hP
  · rename_i s' w' hc
    split at he
    · split at he
      · rename_i y hc' hv'
        have hval : a.tmps.getD s' undef = .bool y := by
          have h2 := (hr.c.slots s').1 (by rw [hc']; trivial)
          rw [hv'] at h2
          have h2 : (A.b y).rel ν _ := h2
          exact A.rel_bool h2 rfl
        have key : (stepS2a cx call fp sj want (st.know fp.km s' y) o ((st.know fp.km s' y).get fp.km sj)).pick = some (e, st') := by
          simp only [Out.pick] at he
          cases y
          · simpa using he
          · simpa using he
        exact stepS2a_sound hE hC key hok hg hji hsj hdst (hr.know hval) (by unfold OpGl at *; rw [know_h]; exact hgl) hd ho hrd hwr (by rw [know_h]; exact hK) (by rw [know_h]; exact hP)
      · exact stepS2a_sound hE hC he hok hg hji hsj hdst hr hgl hd ho hrd hwr hK hP
    · exact stepS2a_sound hE hC he hok hg hji hsj hdst hr hgl hd ho hrd hwr hK hP

theorem stepS_sound (hE : EqOK cx) (hC : CallOK cx.P call) {e : Ex} (he : (stepS cx call fp i ops st o).pick = some (e, st')) (hok : okB st'.ok = true)
    (hr : Rel cx.P fp S ops i st ν a w) (hgl : OpGl o st.h) (hd : chkDst ops = true) (ho : ops[i]? = some o)
    (hrd : ∀ i, i ∈ st'.h.rd → S i) (hwr : ∀ i, i ∈ st'.h.wr → S i)
    (hK : e = .nrm → ∀ ν' a' w', Rel cx.P fp S ops (i + 1) st' ν' a' w' → Goes S ν w st.h ν' w' st'.h → K a' w')
    (hP : ∀ v, e = .pan v → ∀ ν' a' w' u, v.rel ν' u → CRel cx.P fp S st' ν' a' w' → Goes S ν w st.h ν' w' st'.h → Q (.panic [{ v := u, recovered := false }]) a' w') :
    if Region.wanted o (yielded ops.toArray a.tmps) then o.wp cx.P a w K Q else K (a.put o.dst undef) w := by
  unfold stepS at he
  split at he
  · simp [Out.pick] at he
  · rename_i hdst
    split at he
    · rename_i hg
      rw [if_pos (by simp [Region.wanted, hg])]
      exact runR_sound hE hC he hok hr hgl hd ho hdst hrd hwr hK hP
    · rename_i j want hg
      split at he
      · rename_i hji
        split at he
        · rename_i sj hsj
          exact stepS2_sound hE hC he hok hg hji hsj hdst hr hgl hd ho hrd hwr hK hP
        · simp [Out.pick] at he
      · simp [Out.pick] at he

theorem wpList_step' {P : Program} {ops : Array Oper} {rest : List Oper} (h : if Region.wanted o (yielded ops a.tmps) then o.wp P a w (wpList P ops Q rest) Q else wpList P ops Q rest (a.put o.dst undef) w) :
    wpList P ops Q (o :: rest) a w := by
  unfold wpList
  split
  · rename_i hw; rw [if_pos hw] at h; exact .inl h
  · rename_i hw; rw [if_neg hw] at h; exact h

theorem Rel.gl {P : Program} (hg : Goes S ν w st.h ν' w' st'.h) {l : List Oper} (h : ∀ o, o ∈ l → OpGl o st.h) : ∀ o, o ∈ l → OpGl o st'.h := fun o ho g hm => by
  rw [hg.ext.gl]; exact h o ho g hm

theorem evalOps_seq (hE : EqOK cx) (hC : CallOK cx.P call) (hd : chkDst ops = true) {e : Ex} :
    ∀ (l : List Oper) (i : Nat) (st : St) (ν : Nu) (a : Act) (w : World), (∀ j, l[j]? = ops[i + j]?) → (∀ o, o ∈ l → OpGl o st.h) → (evalOps cx call fp ops i l st).pick = some (e, st') → okB st'.ok = true →
      (∀ i, i ∈ st'.h.rd → S i) → (∀ i, i ∈ st'.h.wr → S i) → Rel cx.P fp S ops i st ν a w →
      (∀ ν' a' w' x, CRel cx.P fp S st' ν' a' w' → Goes S ν w st.h ν' w' st'.h → e.rel ν' x → Q x a' w') → wpList cx.P ops.toArray Q l a w
  | [], i, st, ν, a, w, _, _, he, hok, _, _, hr, hK => by
    simp only [evalOps, Out.pick, Option.some.injEq, Prod.mk.injEq] at he
    obtain ⟨rfl, rfl⟩ := he
    exact hK ν a w .normal hr.c (Goes.refl hr.c.mem) rfl
  | o :: l, i, st, ν, a, w, hl, hgl, he, hok, hrd, hwr, hr, hK => by
    simp only [evalOps] at he
    rw [pick_bind] at he
    have ho : ops[i]? = some o := by simpa using (hl 0).symm
    have hl' : ∀ j, l[j]? = ops[i + 1 + j]? := fun j => by have := hl (j + 1); simpa [Nat.add_assoc, Nat.add_comm 1 j] using this
    have hlo : LoOK st := hr.c.mem.nums.lo
    refine wpList_step' ?_
    cases hp : (stepS cx call fp i ops st o).pick with
    | none => rw [hp] at he; cases he
    | some p =>
      obtain ⟨e1, st1⟩ := p
      rw [hp] at he
      have hx1 := Out.All.pick (stepS_ext hC hlo) hp
      cases e1 with
      | nrm =>
        simp only at he
        have hx2 := Out.All.pick (evalOps_ext hC (hx1.lo hlo)) he
        refine stepS_sound hE hC hp (hx2.ok hok) hr (hgl o (by simp)) hd ho (fun i hi => hrd i (hx2.h.rd i hi)) (fun i hi => hwr i (hx2.h.wr i hi)) (fun _ ν' a' w' hr' hg' => ?_) (fun v h => by cases h)
        exact evalOps_seq hE hC hd l (i + 1) st1 ν' a' w' hl' (fun o' ho' => by
          have := hgl o' (by simp [ho'])
          unfold OpGl at *
          rw [hg'.ext.gl]; exact this) he hok hrd hwr hr' (fun ν'' a'' w'' x hr'' hg'' hex => hK ν'' a'' w'' x hr'' (hg'.trans hg'') hex)
      | pan v =>
        simp only [Option.some.injEq, Prod.mk.injEq] at he
        obtain ⟨rfl, rfl⟩ := he
        exact stepS_sound hE hC hp hok hr (hgl o (by simp)) hd ho hrd hwr (fun h => by cases h) (fun v' hv ν' a' w' u hu hr' hg' => hK ν' a' w' _ hr' hg' ⟨u, rfl, by cases hv; exact hu⟩)
      | exit id =>
        simp only [Option.some.injEq, Prod.mk.injEq] at he
        obtain ⟨rfl, rfl⟩ := he
        exact stepS_sound hE hC hp hok hr (hgl o (by simp)) hd ho hrd hwr (fun h => by cases h) (fun v' hv => by cases hv)
      | ret =>
        simp only [Option.some.injEq, Prod.mk.injEq] at he
        obtain ⟨rfl, rfl⟩ := he
        exact stepS_sound hE hC hp hok hr (hgl o (by simp)) hd ho hrd hwr (fun h => by cases h) (fun v' hv => by cases hv)
end
end Go.WE
