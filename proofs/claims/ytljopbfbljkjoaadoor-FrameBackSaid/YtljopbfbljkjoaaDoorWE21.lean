/- WE21: one operation of a region. -/
import Derived.Test.YtljopbfbljkjoaaDoorWE20
namespace Go.WE
open Go

theorem andOk_true {x y : A} (h : okB (andOk x y) = true) : okB x = true ∧ okB y = true := ⟨andOk_left h, andOk_right h⟩

theorem entPut_c {km d : Nat} {G : Cond} {v : V} {c : Nat × Bool} (h : (entPut km d ⟨G, v⟩).c = some c) : G = some c := by
  unfold entPut keepEnt at h
  split at h
  · split at h
    · rename_i h1 h2; rw [h2] at h; cases h
    · cases h
  · exact h

/-- What one operation needs. -/
structure Need (fp : Fp) (S : Nat → Prop) (ops : List Oper) (st : St) (o : Oper) (ν : Nu) (a : Act) (w : World) : Prop where
  mem : Mem S ν w st.h
  slots : ∀ s, (.tmp s ∈ o.op.operands.toList ∨ ∃ j want, o.guard = some (j, want) ∧ dstOf ops j = some s) → EntOK ν a.tmps s (st.get fp.km s)
  glob : ∀ g, .global g ∈ o.op.operands.toList → ν g = some (g, 0)
  size : a.tmps.size = fp.nt

/-- What an operation leaves of the slots and of the memory, whoever runs it. -/
structure Stat (fp : Fp) (ops : List Oper) (i : Nat) (st st' : St) (o : Oper) : Prop where
  get : ∀ s, o.dst ≠ some s → st'.get fp.km s = st.get fp.km s
  conds : ∀ d sj x, o.dst = some d → (st'.get fp.km d).c = some (sj, x) → ∃ j, j < i ∧ dstOf ops j = some sj ∧ ∃ want, o.guard = some (j, want)
  ext : st.h.lo ≤ st.h.next → Ext st.h st'.h
  ok : okB st'.ok = true → okB st.ok = true
  defs : st'.defs = st.defs
  vars : ∃ q, st'.vd = q ++ st.vd ∧ ∀ s, s ∉ q → varsGet st'.vars s = varsGet st.vars s
  vconds : (∀ s, (varsGet st.vars s).c = none) → ∀ s, (varsGet st'.vars s).c = none

/-- What an operation leaves: its own slot, and what became of the memory. -/
structure Left (fp : Fp) (S : Nat → Prop) (st st' : St) (o : Oper) (ν ν' : Nu) (a a' : Act) (w w' : World) : Prop where
  goes : Goes S ν w st.h ν' w' st'.h
  put : ∃ v, a' = a.put o.dst v
  own : ∀ d, o.dst = some d → EntOK ν' a'.tmps d (st'.get fp.km d)

theorem keepEnt_c (e : Ent) : (keepEnt e).c = none := by
  unfold keepEnt
  cases h : e.c with
  | none => exact h
  | some _ => rfl

theorem put_defs {km : Nat} {st : St} {d : Option Nat} {e : Ent} : (st.put km d e).defs = st.defs := by
  cases d with
  | none => rfl
  | some d => cases hd : bitB km d <;> first | rw [put_false hd] | rw [put_true hd]

theorem put_vars {km : Nat} {st : St} {d : Option Nat} {e : Ent} : (∃ q, (st.put km d e).vd = q ++ st.vd ∧ ∀ s, s ∉ q → varsGet (st.put km d e).vars s = varsGet st.vars s) ∧
    ((∀ s, (varsGet st.vars s).c = none) → ∀ s, (varsGet (st.put km d e).vars s).c = none) := by
  cases d with
  | none => exact ⟨⟨[], rfl, fun _ _ => rfl⟩, fun h => h⟩
  | some d =>
    cases hd : bitB km d
    · rw [put_false hd]; exact ⟨⟨[], rfl, fun _ _ => rfl⟩, fun h => h⟩
    · rw [put_true hd]
      refine ⟨⟨[d], rfl, fun s hs => ?_⟩, fun h s => ?_⟩
      · simp only [varsGet, Tr.get_set]
        rw [if_neg (fun e => hs (by simp [e]))]
      · simp only [varsGet, Tr.get_set]
        by_cases e : d = s
        · rw [if_pos e]; exact keepEnt_c _
        · rw [if_neg e]; exact h s

section
variable {cx : Cx} {call : CallE} {fp : Fp} {S : Nat → Prop} {ops : List Oper} {i : Nat} {st st' : St} {o : Oper} {ν : Nu} {w : World} {a : Act} {K : Act → World → Prop} {Q : Exit → Act → World → Prop}

theorem preC_lo {G : Cond} {h : H} (hlo : h.lo ≤ h.next) : (preC G h).lo ≤ (preC G h).next := by
  cases G with
  | none => exact hlo
  | some _ => exact Nat.le_refl _

theorem runOp_stat (hC : CallOK cx.P call) {G : Cond} {gb : Bool} (he : runOp cx call fp G gb st o = some st')
    (hGj : ∀ sj x, G = some (sj, x) → ∃ j, j < i ∧ dstOf ops j = some sj ∧ ∃ want, o.guard = some (j, want)) : Stat fp ops i st st' o := by
  unfold runOp at he
  split at he
  · cases he
  · rename_i r hr
    split at he
    · cases he
    · rename_i h hu
      simp only [Option.some.injEq] at he
      subst he
      refine ⟨fun s hs => ?_, fun d sj x hds hc => ?_, fun hlo => ?_, fun hok => ?_, put_defs, put_vars.1, fun hv => put_vars.2 hv⟩
      · rw [get_put_ne hs]; exact get_of_eq rfl rfl s
      · rw [hds, get_put_eq] at hc
        exact hGj sj x (entPut_c hc)
      · rw [put_h]
        have e := evalOp_ext hC (preC_lo (G := G) hlo) hr
        cases G with
        | none =>
          simp only [underC, Option.some.injEq] at hu
          rw [← hu]; exact e
        | some c =>
          simp only [underC] at hu
          split at hu
          · split at hu
            · simp only [Option.some.injEq] at hu
              rw [← hu]; exact under_ext e
            · cases hu
          · cases hu
      · rw [put_ok] at hok
        exact (andOk_true hok).1

theorem runOp_sound (hE : EqOK cx) (hC : CallOK cx.P call) {G : Cond} {gb : Bool} (he : runOp cx call fp G gb st o = some st') (hok : okB st'.ok = true)
    (hn : Need fp S ops st o ν a w) (hdst : dstFine fp.nt o.dst = true) (hG : holds a.tmps G) (hgb : G ≠ none → gb = true)
    (hne : ∀ sj x, G = some (sj, x) → o.dst ≠ some sj) (hops : ∀ s, .tmp s ∈ o.op.operands.toList → EntOK ν a.tmps s (st.get fp.km s))
    (hrd : ∀ i, i ∈ st'.h.rd → S i) (hwr : ∀ i, i ∈ st'.h.wr → S i)
    (hK : ∀ ν' a' w', Left fp S st st' o ν ν' a a' w w' → K a' w') : o.wp cx.P a w K Q := by
  unfold runOp at he
  split at he
  · cases he
  · rename_i r hr
    split at he
    · cases he
    · rename_i h hu
      simp only [Option.some.injEq] at he
      subst he
      rw [put_ok] at hok
      rw [put_h] at hrd hwr
      have hok2 := (andOk_true hok).2
      have hrok : okB r.ok = true := by
        unfold condOk at hok2
        split at hok2
        · exact hok2
        · have := hgb (by simp)
          subst this
          split at hok2
          · rename_i e; rw [e]; rfl
          · rename_i e; rw [e]; simp [okB] at hok2; exact hok2
          · simp [okB] at hok2
      have hslots : Slots ν a.tmps (st.get fp.km) o.op.operands.toList := fun s hs hc => (hops s hs).1 hc
      have hglob : Glob ν o.op.operands.toList := hn.glob
      have fin : ∀ ν' w' v, r.v.rel ν' v → Goes S ν w st.h ν' w' h → K (a.put o.dst v) w' := by
        intro ν' w' v hv hg
        refine hK ν' _ w' ⟨?_, ⟨v, rfl⟩, ?_⟩
        · rw [put_h]; exact hg
        · intro d hds
          have hsz : d < a.tmps.size := by rw [hds] at hdst; rw [hn.size]; exact blt_lt hdst
          rw [hds, get_put_eq]
          have hval : r.v.rel ν' ((a.put (some d) v).tmps.getD d undef) := by rw [getD_put_eq hsz]; exact hv
          have hG' : holds (a.put (some d) v).tmps G := (holds_put (fun sj x hg => by rw [← hds]; exact hne sj x hg)).2 hG
          unfold entPut keepEnt
          split
          · split
            · exact ⟨fun _ => hval, fun hno => absurd hG' hno⟩
            · exact ⟨fun _ => by simp [V.rel, T.relV, A.rel], fun hno => absurd trivial hno⟩
          · exact ⟨fun _ => hval, fun hno => absurd hG' hno⟩
      cases G with
      | none =>
        simp only [underC, Option.some.injEq] at hu
        subst hu
        exact evalOp_sound hE hC hn.mem hr hrok hrd hwr rfl trivial hslots hglob (fun ν' w' v hv hg => fin ν' w' v hv hg)
      | some c =>
        simp only [underC] at hu
        split at hu
        · rename_i hw
          split at hu
          · simp only [Option.some.injEq] at hu
            subst hu
            refine evalOp_sound hE hC hn.mem.mark hr hrok ?_ ?_ rfl hG hslots hglob (fun ν' w' v hv hg => fin ν' w' v hv (under_goes hn.mem hw hg))
            · intro j hj
              by_cases hl : j < st.h.lo
              · exact .inl (hrd j (mem_noteAll.2 (.inl ⟨hj, hl⟩)))
              · exact .inr (by omega)
            · rw [hw]; intro j hj; cases hj
          · cases hu
        · cases hu

/-- An operation that does not run. -/
theorem cond_left (hC : CallOK cx.P call) {sj : Nat} {x : Bool} {gb : Bool} (he : runOp cx call fp (some (sj, x)) gb st o = some st')
    (hn : Need fp S ops st o ν a w) (hdst : dstFine fp.nt o.dst = true) (hG : ¬ holds a.tmps (some (sj, x))) (hne : o.dst ≠ some sj) :
    Left fp S st st' o ν ν a (a.put o.dst undef) w w := by
  unfold runOp at he
  split at he
  · cases he
  · rename_i r hr
    split at he
    · cases he
    · rename_i h hu
      simp only [Option.some.injEq] at he
      subst he
      have e := evalOp_ext hC (preC_lo (G := some (sj, x)) hn.mem.nums.lo) hr
      simp only [underC] at hu
      split at hu
      · split at hu
        · simp only [Option.some.injEq] at hu
          subst hu
          have hnx : st.h.next ≤ r.h.next := e.next
          refine ⟨?_, ⟨undef, rfl⟩, fun d hds => ?_⟩
          · rw [put_h]
            refine ⟨Nu.le_refl _, ⟨⟨hn.mem.nums.lt, hn.mem.nums.inj, fun id hi => hn.mem.nums.fresh id (Nat.le_trans hnx hi), fun id b hb => Nat.lt_of_lt_of_le (hn.mem.nums.bound id b hb) hnx,
              Nat.le_trans hn.mem.nums.lo hnx, hn.mem.nums.glob⟩, hn.mem.seen⟩, Frm.refl _ _ _, fun _ _ _ h h' => (by rw [h] at h'; cases h'), under_ext e, fun _ _ => rfl⟩
          · have hsz : d < a.tmps.size := by rw [hds] at hdst; rw [hn.size]; exact blt_lt hdst
            rw [hds, get_put_eq]
            have hG' : ¬ holds (a.put (some d) undef).tmps (some (sj, x)) := fun h => hG ((holds_put (fun s y hg => by cases hg; rw [← hds]; exact hne)).1 h)
            unfold entPut keepEnt
            split
            · exact ⟨fun _ => by simp [V.rel, T.relV, A.rel], fun hno => absurd trivial hno⟩
            · exact ⟨fun h => absurd h hG', fun _ => getD_put_eq hsz⟩
        · cases hu
      · cases hu

theorem skip_left (hn : Need fp S ops st o ν a w) (hdst : dstFine fp.nt o.dst = true) :
    Left fp S st (st.put fp.km o.dst ⟨none, .t (.a .undef)⟩) o ν ν a (a.put o.dst undef) w w := by
  refine ⟨?_, ⟨undef, rfl⟩, fun d hds => ?_⟩
  · rw [put_h]; exact Goes.refl hn.mem
  · have hsz : d < a.tmps.size := by rw [hds] at hdst; rw [hn.size]; exact blt_lt hdst
    rw [hds, get_put_eq]
    have hv : (V.t (.a .undef)).rel ν ((a.put (some d) undef).tmps.getD d undef) := by rw [getD_put_eq hsz]; simp [V.rel, T.relV, A.rel]
    unfold entPut keepEnt
    split
    · exact ⟨fun _ => hv, fun hno => absurd trivial hno⟩
    · exact ⟨fun _ => hv, fun hno => absurd trivial hno⟩

theorem skip_stat : Stat fp ops i st (st.put fp.km o.dst ⟨none, .t (.a .undef)⟩) o := by
  refine ⟨fun s hs => get_put_ne hs, fun d sj x hds hc => ?_, fun _ => by rw [put_h]; exact Ext.refl _, fun h => by rwa [put_ok] at h, put_defs, put_vars.1, put_vars.2⟩
  rw [hds, get_put_eq] at hc
  exact absurd (entPut_c hc) (by simp)

theorem stepG1_stat (hC : CallOK cx.P call) {sj j : Nat} {want : Bool} {e : Ent} (hg : o.guard = some (j, want)) (hji : j < i) (hsj : dstOf ops j = some sj)
    (he : stepG1 cx call fp sj want st o e = some st') : Stat fp ops i st st' o := by
  have hGj : ∀ s x, (some (sj, want) : Cond) = some (s, x) → ∃ j, j < i ∧ dstOf ops j = some s ∧ ∃ want, o.guard = some (j, want) := by
    intro s x h; simp at h; exact ⟨j, hji, by rw [hsj, h.1], want, hg⟩
  have hno : ∀ s x, (none : Cond) = some (s, x) → ∃ j, j < i ∧ dstOf ops j = some s ∧ ∃ want, o.guard = some (j, want) := fun _ _ h => by cases h
  unfold stepG1 stepG2 at he
  (repeat' split at he) <;> first | exact runOp_stat hC he hGj | exact runOp_stat hC he hno | (simp only [Option.some.injEq] at he; subst he; exact skip_stat) | cases he

theorem stepOp_stat (hC : CallOK cx.P call) (he : stepOp cx call fp i ops st o = some st') : Stat fp ops i st st' o := by
  unfold stepOp at he
  split at he
  · cases he
  · split at he
    · exact runOp_stat hC he (fun _ _ h => by cases h)
    · rename_i j want hg
      unfold stepG at he
      split at he
      · rename_i hji
        split at he
        · rename_i sj hsj
          exact stepG1_stat hC hg (blt_lt hji) hsj he
        · cases he
      · cases he

theorem stepG1_sound (hE : EqOK cx) (hC : CallOK cx.P call) {sj j : Nat} {want : Bool} (hg : o.guard = some (j, want)) (hsj : dstOf ops j = some sj)
    (he : stepG1 cx call fp sj want st o (st.get fp.km sj) = some st') (hok : okB st'.ok = true)
    (hn : Need fp S ops st o ν a w) (hdst : dstFine fp.nt o.dst = true) (hne : o.dst ≠ some sj)
    (hrd : ∀ i, i ∈ st'.h.rd → S i) (hwr : ∀ i, i ∈ st'.h.wr → S i)
    (hK : ∀ ν' a' w', Left fp S st st' o ν ν' a a' w w' → K a' w') :
    if Region.wanted o (yielded ops.toArray a.tmps) then o.wp cx.P a w K Q else K (a.put o.dst undef) w := by
  have hw := fun t => wanted_guard (tmps := t) hg hsj
  have hent := hn.slots sj (.inr ⟨j, want, hg, hsj⟩)
  have hops : ∀ s, .tmp s ∈ o.op.operands.toList → EntOK ν a.tmps s (st.get fp.km s) := fun s hs => hn.slots s (.inl hs)
  have dyn : ∀ gb, runOp cx call fp (some (sj, want)) gb st o = some st' → (holds a.tmps (some (sj, want)) → gb = true) →
      if Region.wanted o (yielded ops.toArray a.tmps) then o.wp cx.P a w K Q else K (a.put o.dst undef) w := by
    intro gb he hgb
    by_cases hh : holds a.tmps (some (sj, want))
    · rw [if_pos ((hw _).2 hh)]
      exact runOp_sound hE hC he hok hn hdst hh (fun _ => hgb hh) (fun s x h => by cases h; exact hne) hops hrd hwr hK
    · rw [if_neg (fun h => hh ((hw _).1 h))]
      exact hK _ _ _ (cond_left hC he hn hdst hh hne)
  have run : runOp cx call fp none true st o = some st' → a.tmps.getD sj undef = .bool want →
      if Region.wanted o (yielded ops.toArray a.tmps) then o.wp cx.P a w K Q else K (a.put o.dst undef) w := by
    intro he hv
    rw [if_pos ((hw _).2 hv)]
    exact runOp_sound hE hC he hok hn hdst trivial (fun h => absurd rfl h) (fun _ _ h => by cases h) hops hrd hwr hK
  have skip : ∀ b, st.put fp.km o.dst ⟨none, .t (.a .undef)⟩ = st' → a.tmps.getD sj undef = .bool b → b ≠ want →
      if Region.wanted o (yielded ops.toArray a.tmps) then o.wp cx.P a w K Q else K (a.put o.dst undef) w := by
    intro b he hv hb
    rw [if_neg (fun h => by have := (hw _).1 h; simp only [holds] at this; rw [hv] at this; simp at this; exact hb this)]
    subst he
    exact hK _ _ _ (skip_left hn hdst)
  have und : ∀ x : Bool, undef ≠ Value.bool x := fun x h => by simp [undef] at h
  have bval : ∀ x : A, (st.get fp.km sj).v = .t (.a x) → ∀ y, x.bool? = some y → holds a.tmps (some (sj, want)) → y = want := by
    intro x hv y hy hh
    have hc : holds a.tmps (st.get fp.km sj).c := Classical.byContradiction fun hno => by
      have h1 := hent.2 hno
      simp only [holds] at hh
      rw [h1] at hh
      exact und _ hh
    have h2 := hent.1 hc
    rw [hv] at h2
    have h2 : x.rel ν _ := h2
    have h3 := A.rel_bool h2 hy
    simp only [holds] at hh
    rw [hh] at h3
    simp at h3
    exact h3.symm
  have cval : ∀ x : A, (st.get fp.km sj).v = .t (.a x) → ∀ y, x.bool? = some y → (st.get fp.km sj).c = none → a.tmps.getD sj undef = .bool y := by
    intro x hv y hy hc
    have h2 := hent.1 (by rw [hc]; trivial)
    rw [hv] at h2
    have h2 : x.rel ν _ := h2
    exact A.rel_bool h2 hy
  unfold stepG1 at he
  split at he
  · rename_i x hv
    split at he
    · unfold stepG2 at he
      split at he
      · rename_i hc
        have hval := cval _ hv true rfl hc
        split at he
        · split at he
          · exact run he hval
          · rename_i hb; cases hb
        · split at he
          · simp only [Option.some.injEq] at he
            exact skip true he hval (by simp)
          · rename_i hb; cases hb
      · exact dyn _ he (fun hh => by simp [bval _ hv true rfl hh])
    · unfold stepG2 at he
      split at he
      · rename_i hc
        have hval := cval _ hv false rfl hc
        split at he
        · split at he
          · rename_i hb; cases hb
          · simp only [Option.some.injEq] at he
            exact skip false he hval (by simp)
        · split at he
          · rename_i hb; cases hb
          · exact run he hval
      · exact dyn _ he (fun hh => by simp [bval _ hv false rfl hh])
    · rename_i y
      refine dyn _ he (fun hh => ?_)
      have := bval _ hv y rfl hh
      subst this
      cases y <;> rfl
    · have hval : a.tmps.getD sj undef = undef := by
        by_cases hc : holds a.tmps (st.get fp.km sj).c
        · have h2 := hent.1 hc
          rw [hv] at h2
          have h2 : A.undef.rel ν _ := h2
          simpa only [A.rel] using h2
        · exact hent.2 hc
      simp only [Option.some.injEq] at he
      rw [if_neg (fun h => by have := (hw _).1 h; simp only [holds] at this; rw [hval] at this; exact und _ this)]
      subst he
      exact hK _ _ _ (skip_left hn hdst)
    · cases he
  · cases he

theorem stepOp_sound (hE : EqOK cx) (hC : CallOK cx.P call) (he : stepOp cx call fp i ops st o = some st') (hok : okB st'.ok = true)
    (hn : Need fp S ops st o ν a w) (hd : chkDst ops = true) (ho : ops[i]? = some o)
    (hrd : ∀ i, i ∈ st'.h.rd → S i) (hwr : ∀ i, i ∈ st'.h.wr → S i)
    (hK : ∀ ν' a' w', Left fp S st st' o ν ν' a a' w w' → K a' w') :
    if Region.wanted o (yielded ops.toArray a.tmps) then o.wp cx.P a w K Q else K (a.put o.dst undef) w := by
  unfold stepOp at he
  split at he
  · cases he
  · rename_i hdst
    split at he
    · rename_i hg
      rw [if_pos (by simp [Region.wanted, hg])]
      exact runOp_sound hE hC he hok hn hdst trivial (fun h => absurd rfl h) (fun _ _ h => by cases h) (fun s hs => hn.slots s (.inl hs)) hrd hwr hK
    · rename_i j want hg
      unfold stepG at he
      split at he
      · rename_i hji
        split at he
        · rename_i sj hsj
          have hdi : dstOf ops i = o.dst := by unfold dstOf; rw [ho]
          have hne : o.dst ≠ some sj := fun hds => by
            have := chkDst_inj hd hsj (hdi.trans hds)
            have := blt_lt hji
            omega
          exact stepG1_sound hE hC hg hsj he hok hn hdst hne hrd hwr hK
        · cases he
      · cases he
end
end Go.WE
