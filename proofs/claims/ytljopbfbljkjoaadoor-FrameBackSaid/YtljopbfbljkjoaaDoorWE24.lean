/- WE24: ways that meet. -/
import Derived.Test.YtljopbfbljkjoaaDoorWE23
namespace Go.WE
set_option linter.unusedVariables false
open Go

theorem all_exits {p : St → Prop} {id : Nat} : ∀ {o : Out}, o.All p → (o.exits id).All p
  | .fail, _ => trivial
  | .leaf e s, h => by
    cases e <;> simp only [Out.exits]
    case exit id' => split <;> exact h
    all_goals exact h
  | .node x a b, h => ⟨all_exits h.1, all_exits h.2⟩

theorem pick_exits (id : Nat) : ∀ (o : Out), (o.exits id).pick = match o.pick with | some (.exit id', s) => if id' = id then some (.nrm, s) else some (.exit id', s) | r => r
  | .fail => rfl
  | .leaf e s => by
    cases e <;> simp only [Out.exits, Out.pick]
    case exit id' =>
      cases hb : Nat.beq id' id
      · simp only; rw [if_neg (beq_false hb)]; rfl
      · simp only; rw [if_pos (beq_true hb)]; rfl
  | .node x a b => by
    simp only [Out.exits, Out.pick]
    cases x
    · exact pick_exits id b
    · exact pick_exits id a

/-! ### two states meet -/

theorem mem_touched {x : Nat} : ∀ {n : Nat} {l acc : List Nat}, x ∈ touched n l acc ↔ x ∈ l.take n ∨ x ∈ acc
  | 0, l, acc => by simp [touched]
  | n + 1, [], acc => by simp [touched]
  | n + 1, s :: r, acc => by
    rw [touched, mem_touched, mem_addN, List.take_succ_cons, List.mem_cons]
    constructor
    · rintro (h | rfl | h) <;> simp [*]
    · rintro ((rfl | h) | h) <;> simp [*]

def mergeEnt (x : Bool) (e1 e2 : Ent) : Ent := ⟨none, match e1.c, e2.c with
      | none, none => mergeV x e1.v e2.v
      | _, _ => .t (.a .poison)⟩

theorem get_mergeVars (x : Bool) (v1 v2 : Tr Ent) : ∀ (l : List Nat) (v : Tr Ent) (vd : List Nat), (∀ s, varsGet (mergeVars x v1 v2 l v vd).1 s = if s ∈ l then mergeEnt x (varsGet v1 s) (varsGet v2 s) else varsGet v s) ∧
    ∃ q, (mergeVars x v1 v2 l v vd).2 = q ++ vd ∧ ∀ s, s ∈ q ↔ s ∈ l
  | [], v, vd => ⟨fun s => by simp [mergeVars], [], rfl, fun _ => Iff.rfl⟩
  | t :: r, v, vd => by
    obtain ⟨h1, q, h2, h3⟩ := get_mergeVars x v1 v2 r (v.set t (mergeEnt x (varsGet v1 t) (varsGet v2 t))) (t :: vd)
    refine ⟨fun s => ?_, q ++ [t], ?_, fun s => ?_⟩
    · rw [mergeVars]
      refine (h1 s).trans ?_
      by_cases hr : s ∈ r
      · rw [if_pos hr, if_pos (by simp [hr])]
      · rw [if_neg hr]
        unfold varsGet
        rw [Tr.get_set]
        by_cases ht : t = s
        · subst ht; rw [if_pos rfl, if_pos (by simp)]
        · rw [if_neg ht, if_neg (by simp [hr]; exact fun h => ht h.symm)]
    · rw [mergeVars]; exact h2.trans (by simp)
    · simp [h3]; exact or_comm

theorem mergeOk_true {x : Bool} {p q : A} (h : okB (mergeOk x p q) = true) : okB (bif x then p else q) = true := by
  unfold mergeOk at h
  split at h
  · cases x <;> rfl
  · cases x <;> first | rfl | exact h
  · cases x <;> first | rfl | exact h
  · cases x <;> exact h
  · cases x <;> exact h

theorem mem_touchedSt {base s1 s2 : St} {q1 q2 : List Nat} (h1 : s1.vd = q1 ++ base.vd) (h2 : s2.vd = q2 ++ base.vd) {s : Nat} : s ∈ touchedSt base s1 s2 ↔ s ∈ q1 ∨ s ∈ q2 := by
  unfold touchedSt
  have e1 : s1.vd.length - base.vd.length = q1.length := by rw [h1]; simp
  have e2 : s2.vd.length - base.vd.length = q2.length := by rw [h2]; simp
  rw [e1, e2, h1, h2, mem_touched, mem_touched]
  simp

/-- What the second state says, the first one says. -/
structure Weak (P : Program) (base s s' : St) : Prop where
  rel : ∀ fp S ν0 w0 ν a w, Mem S ν0 w0 base.h → CRel P fp S s ν a w → Goes S ν0 w0 base.h ν w s.h → CRel P fp S s' ν a w ∧ Goes S ν0 w0 base.h ν w s'.h
  ok : okB s'.ok = true → okB s.ok = true
  rd : ∀ id, id ∈ s.h.rd → id ∈ s'.h.rd
  wr : ∀ id, id ∈ s.h.wr → id ∈ s'.h.wr

theorem Weak.refl (P : Program) (base s : St) : Weak P base s s := ⟨fun _ _ _ _ _ _ _ _ h h' => ⟨h, h'⟩, fun h => h, fun _ h => h, fun _ h => h⟩
theorem Weak.trans {P : Program} {base s s1 s2 : St} (h : Weak P base s s1) (h' : Weak P base s1 s2) : Weak P base s s2 :=
  ⟨fun fp S ν0 w0 ν a w hm hr hg => by
    obtain ⟨h1, h2⟩ := h.rel fp S ν0 w0 ν a w hm hr hg
    exact h'.rel fp S ν0 w0 ν a w hm h1 h2, fun ho => h.ok (h'.ok ho), fun id hi => h'.rd id (h.rd id hi), fun id hi => h'.wr id (h.wr id hi)⟩

section
variable {P : Program} {x : Bool} {base s1 s2 : St}

theorem merged_eq : ∃ v vd, mergeVars x s1.vars s2.vars (touchedSt base s1 s2) base.vars base.vd = (v, vd) ∧
    mergeSt x base s1 s2 = { vars := v, vd := vd, tmps := [], ok := mergeOk x s1.ok s2.ok, h := mergeH x base.h s1.h s2.h, defs := base.defs } := by
  unfold mergeSt
  generalize mergeVars x s1.vars s2.vars (touchedSt base s1 s2) base.vars base.vd = p
  obtain ⟨v, vd⟩ := p
  exact ⟨v, vd, rfl, rfl⟩

theorem merged_vars (h1 : ExtS base s1) (h2 : ExtS base s2) : ∃ q, (mergeSt x base s1 s2).vd = q ++ base.vd ∧ (∀ s, s ∈ q → varsGet (mergeSt x base s1 s2).vars s = mergeEnt x (varsGet s1.vars s) (varsGet s2.vars s)) ∧
    ∀ s, s ∉ q → varsGet (mergeSt x base s1 s2).vars s = varsGet base.vars s ∧ varsGet s1.vars s = varsGet base.vars s ∧ varsGet s2.vars s = varsGet base.vars s := by
  obtain ⟨q1, e1, f1⟩ := h1.vars
  obtain ⟨q2, e2, f2⟩ := h2.vars
  obtain ⟨v, vd, hv, hm⟩ := merged_eq (x := x) (base := base) (s1 := s1) (s2 := s2)
  obtain ⟨g1, q, g2, g3⟩ := get_mergeVars x s1.vars s2.vars (touchedSt base s1 s2) base.vars base.vd
  rw [hv] at g1 g2
  rw [hm]
  refine ⟨q, g2, fun s hs => ?_, fun s hs => ?_⟩
  · have := g1 s
    rw [if_pos ((g3 s).1 hs)] at this
    exact this
  · have hn : s ∉ touchedSt base s1 s2 := fun h => hs ((g3 s).2 h)
    have := g1 s
    rw [if_neg hn] at this
    rw [mem_touchedSt e1 e2, not_or] at hn
    exact ⟨this, f1 s hn.1, f2 s hn.2⟩

theorem mergeSt_ext (h1 : ExtS base s1) (h2 : ExtS base s2) : ExtS base (mergeSt x base s1 s2) := by
  obtain ⟨v, vd, hv, hm⟩ := merged_eq (x := x) (base := base) (s1 := s1) (s2 := s2)
  obtain ⟨q, g1, g2, g3⟩ := merged_vars (x := x) h1 h2
  refine ⟨?_, ⟨q, g1, fun s hs => (g3 s hs).1⟩, fun hc s => ?_, ⟨[], by rw [hm]; rfl⟩, fun ho => ?_⟩
  · rw [hm]; exact mergeH_ext h1.h h2.h
  · by_cases hs : s ∈ q
    · rw [g2 s hs]; rfl
    · rw [(g3 s hs).1]; exact hc s
  · rw [hm] at ho
    have := mergeOk_true ho
    cases x
    · exact h2.ok this
    · exact h1.ok this

theorem mergeSt_weak (h1 : ExtS base s1) (h2 : ExtS base s2) (hl : base.h.lo = base.h.next) (hd1 : s1.defs.length = base.defs.length) (hd2 : s2.defs.length = base.defs.length) :
    Weak P base (bif x then s1 else s2) (mergeSt x base s1 s2) := by
  obtain ⟨v, vd, hv, hm⟩ := merged_eq (x := x) (base := base) (s1 := s1) (s2 := s2)
  obtain ⟨q, g1, g2, g3⟩ := merged_vars (x := x) h1 h2
  have hdef : ∀ {s : St}, ExtS base s → s.defs.length = base.defs.length → s.defs = base.defs := by
    intro s hs hlen
    obtain ⟨l, hl⟩ := hs.defs
    rw [hl] at hlen
    have : l = [] := by
      cases l with
      | nil => rfl
      | cons y r => simp at hlen; omega
    rw [hl, this]; rfl
  have hh : (mergeSt x base s1 s2).h = mergeH x base.h s1.h s2.h := by rw [hm]
  have ho : (mergeSt x base s1 s2).ok = mergeOk x s1.ok s2.ok := by rw [hm]
  have ht : (mergeSt x base s1 s2).tmps = [] := by rw [hm]
  have hds : (mergeSt x base s1 s2).defs = base.defs := by rw [hm]
  have hb : ∀ {α : Type} (f : St → α), f (bif x then s1 else s2) = bif x then f s1 else f s2 := fun f => by cases x <;> rfl
  refine ⟨fun fp S ν0 w0 ν a w hmem hr hg => ?_, fun h => ?_, fun id hi => ?_, fun id hi => ?_⟩
  · have hg' : Goes S ν0 w0 base.h ν w (mergeH x base.h s1.h s2.h) := by
      refine mergeH_goes h1.h h2.h hmem hl ?_
      rw [hb (fun s => s.h)] at hg
      exact hg
    rw [hh]
    refine ⟨⟨by rw [hh]; exact hg'.mem, fun s => ?_, fun s => ?_, hr.size, ?_⟩, hg'⟩
    · cases hk : bitB fp.km s
      · rw [get_false hk, ht]
        exact ⟨fun _ => by simp [getT, V.rel, T.relV, A.rel], fun hno => absurd (by simp [getT, holds]) hno⟩
      · rw [get_true hk]
        have hs := hr.slots s
        rw [get_true hk] at hs
        have hc := hr.vconds s
        by_cases hq : s ∈ q
        · rw [g2 s hq]
          refine ⟨fun _ => ?_, fun hno => absurd trivial hno⟩
          unfold mergeEnt
          simp only
          split
          · refine mergeV_rel ?_
            have := hs.1 (by rw [hc]; trivial)
            rw [hb (fun s' => varsGet s'.vars s)] at this
            cases x <;> exact this
          · simp [V.rel, T.relV, A.rel]
        · obtain ⟨e0, e1, e2⟩ := g3 s hq
          rw [e0]
          cases x
          · rwa [show varsGet (bif false then s1 else s2).vars s = varsGet s2.vars s from rfl, e2] at hs
          · rwa [show varsGet (bif true then s1 else s2).vars s = varsGet s1.vars s from rfl, e1] at hs
    · by_cases hq : s ∈ q
      · rw [g2 s hq]; rfl
      · obtain ⟨e0, e1, e2⟩ := g3 s hq
        rw [e0]
        have hc := hr.vconds s
        cases x
        · rwa [show varsGet (bif false then s1 else s2).vars s = varsGet s2.vars s from rfl, e2] at hc
        · rwa [show varsGet (bif true then s1 else s2).vars s = varsGet s1.vars s from rfl, e1] at hc
    · rw [hds]
      have := hr.defers
      cases x
      · rw [show (bif false then s1 else s2).defs = s2.defs from rfl, hdef h2 hd2] at this; exact this
      · rw [show (bif true then s1 else s2).defs = s1.defs from rfl, hdef h1 hd1] at this; exact this
  · rw [ho] at h
    have := mergeOk_true h
    cases x <;> exact this
  · rw [hh]
    cases x
    · exact mem_unionN.2 (.inr hi)
    · exact mem_unionN.2 (.inl hi)
  · rw [hh]
    cases x
    · exact mem_unionN.2 (.inr hi)
    · exact mem_unionN.2 (.inl hi)
end

/-! ### ways -/

theorem noNrm_rest : ∀ {o : Out}, o.noNrm = true → ∃ r, o.rest = some r ∧ r.pick = o.pick
  | .fail, _ => ⟨.fail, rfl, rfl⟩
  | .leaf .nrm _, h => by simp [Out.noNrm] at h
  | .leaf (.exit _) _, _ => ⟨_, rfl, rfl⟩
  | .leaf .ret _, _ => ⟨_, rfl, rfl⟩
  | .leaf (.pan _) _, _ => ⟨_, rfl, rfl⟩
  | .node x a b, h => by
    simp only [Out.noNrm, Bool.and_eq_true] at h
    obtain ⟨ra, ha, pa⟩ := noNrm_rest h.1
    obtain ⟨rb, hb, pb⟩ := noNrm_rest h.2
    exact ⟨.node x ra rb, by simp [Out.rest, ha, hb], by simp only [Out.pick]; rw [pa, pb]⟩

theorem nrm_spec : ∀ {o : Out} {g : Bool} {s : St}, o.nrm? = some (g, s) → (g = true → o.pick = some (.nrm, s)) ∧ (g = false → ∃ r, o.rest = some r ∧ r.pick = o.pick)
  | .fail, _, _, h => by simp [Out.nrm?] at h
  | .leaf .nrm s', g, s, h => by
    simp [Out.nrm?] at h
    obtain ⟨rfl, rfl⟩ := h
    exact ⟨fun _ => rfl, fun h => by cases h⟩
  | .leaf (.exit _) _, _, _, h => by simp [Out.nrm?] at h
  | .leaf .ret _, _, _, h => by simp [Out.nrm?] at h
  | .leaf (.pan _) _, _, _, h => by simp [Out.nrm?] at h
  | .node x a b, g, s, h => by
    simp only [Out.nrm?] at h
    split at h
    · rename_i hb
      split at h
      · rename_i g0 s0 ha
        simp at h
        obtain ⟨rfl, rfl⟩ := h
        obtain ⟨i1, i2⟩ := nrm_spec ha
        obtain ⟨rb, hrb, prb⟩ := noNrm_rest hb
        constructor
        · intro hg
          simp only [Bool.and_eq_true] at hg
          rw [Out.pick, hg.1]
          exact i1 hg.2
        · intro hg
          cases x
          · cases har : a.rest with
            | none => exact ⟨rb, by simp [Out.rest, har, hrb], by rw [prb]; rfl⟩
            | some ra => exact ⟨.node false ra rb, by simp [Out.rest, har, hrb], by simp only [Out.pick, cond_false]; exact prb⟩
          · simp only [Bool.true_and] at hg
            obtain ⟨ra, hra, pra⟩ := i2 hg
            exact ⟨.node true ra rb, by simp [Out.rest, hra, hrb], by simp only [Out.pick, cond_true]; exact pra⟩
      · cases h
    · split at h
      · rename_i ha
        split at h
        · rename_i g0 s0 hb'
          simp at h
          obtain ⟨rfl, rfl⟩ := h
          obtain ⟨i1, i2⟩ := nrm_spec hb'
          obtain ⟨ra, hra, pra⟩ := noNrm_rest ha
          constructor
          · intro hg
            simp only [Bool.and_eq_true, Bool.not_eq_true'] at hg
            rw [Out.pick, hg.1]
            exact i1 hg.2
          · intro hg
            cases x
            · simp only [Bool.not_false, Bool.true_and] at hg
              obtain ⟨rb, hrb, prb⟩ := i2 hg
              exact ⟨.node false ra rb, by simp [Out.rest, hra, hrb], by simp only [Out.pick, cond_false]; exact prb⟩
            · cases hbr : b.rest with
              | none => exact ⟨ra, by simp [Out.rest, hra, hbr], by rw [pra]; rfl⟩
              | some rb => exact ⟨.node true ra rb, by simp [Out.rest, hra, hbr], by simp only [Out.pick, cond_true]; exact pra⟩
        · cases h
      · cases h

theorem rest_all {p : St → Prop} : ∀ {o r : Out}, o.rest = some r → o.All p → r.All p
  | .fail, r, h, _ => by simp [Out.rest] at h; subst h; trivial
  | .leaf .nrm _, _, h, _ => by simp [Out.rest] at h
  | .leaf (.exit _) _, r, h, ha => by simp [Out.rest] at h; subst h; exact ha
  | .leaf .ret _, r, h, ha => by simp [Out.rest] at h; subst h; exact ha
  | .leaf (.pan _) _, r, h, ha => by simp [Out.rest] at h; subst h; exact ha
  | .node x a b, r, h, ha => by
    simp only [Out.rest] at h
    split at h
    · rename_i h1 h2; simp at h; subst h; exact ⟨rest_all h1 ha.1, rest_all h2 ha.2⟩
    · rename_i h1 h2; simp at h; subst h; exact rest_all h1 ha.1
    · rename_i h1 h2; simp at h; subst h; exact rest_all h2 ha.2
    · cases h

theorem nrm_all {p : St → Prop} : ∀ {o : Out} {g : Bool} {s : St}, o.nrm? = some (g, s) → o.All p → p s
  | .fail, _, _, h, _ => by simp [Out.nrm?] at h
  | .leaf .nrm s', g, s, h, ha => by simp [Out.nrm?] at h; rw [← h.2]; exact ha
  | .leaf (.exit _) _, _, _, h, _ => by simp [Out.nrm?] at h
  | .leaf .ret _, _, _, h, _ => by simp [Out.nrm?] at h
  | .leaf (.pan _) _, _, _, h, _ => by simp [Out.nrm?] at h
  | .node x a b, g, s, h, ha => by
    simp only [Out.nrm?] at h
    split at h
    · split at h
      · rename_i hx; simp at h; rw [← h.2]; exact nrm_all hx ha.1
      · cases h
    · split at h
      · split at h
        · rename_i hx; simp at h; rw [← h.2]; exact nrm_all hx ha.2
        · cases h
      · cases h

theorem join_all {x : Bool} {base : St} {a b : Out} (ha : a.All (ExtS base)) (hb : b.All (ExtS base)) : (join x base a b).All (ExtS base) := by
  unfold join
  split
  · rename_i g1 s1 g2 s2 h1 h2
    have hm : ExtS base (mergeSt x base s1 s2) := mergeSt_ext (nrm_all h1 ha) (nrm_all h2 hb)
    split
    · exact ⟨ha, hb⟩
    · split
      · exact hm
      · rename_i r hr _; exact ⟨hm, rest_all hr ha⟩
      · rename_i r _ hr; exact ⟨hm, rest_all hr hb⟩
      · rename_i r1 r2 hr1 hr2; exact ⟨hm, rest_all hr1 ha, rest_all hr2 hb⟩
  · exact ⟨ha, hb⟩

/-- What a way comes to is, perhaps said less of, what it came to ahead of the meeting. -/
def Comes' (P : Program) (base : St) (p p' : Option (Ex × St)) : Prop := ∀ e s', p' = some (e, s') → ∃ s, p = some (e, s) ∧ Weak P base s s'

theorem Comes'.refl (P : Program) (base : St) (p : Option (Ex × St)) : Comes' P base p p := fun _ s h => ⟨s, h, Weak.refl P base s⟩
theorem Comes'.trans {P : Program} {base : St} {p q r : Option (Ex × St)} (h : Comes' P base p q) (h' : Comes' P base q r) : Comes' P base p r := fun e s' hr => by
  obtain ⟨s1, h1, w1⟩ := h' e s' hr
  obtain ⟨s2, h2, w2⟩ := h e s1 h1
  exact ⟨s2, h2, w2.trans w1⟩

theorem join_pick {P : Program} {x : Bool} {base : St} {a b : Out} (ha : a.All (ExtS base)) (hb : b.All (ExtS base)) (hl : base.h.lo = base.h.next) :
    Comes' P base (Out.node x a b).pick (join x base a b).pick := by
  unfold join
  split
  · rename_i g1 s1 g2 s2 h1 h2
    split
    · exact Comes'.refl _ _ _
    rename_i hmay
    unfold mayMeet at hmay
    simp only [Bool.and_eq_true] at hmay
    have hw := mergeSt_weak (P := P) (x := x) (nrm_all h1 ha) (nrm_all h2 hb) hl (beq_true hmay.1.1.1) (beq_true hmay.1.1.2)
    obtain ⟨i1, i2⟩ := nrm_spec h1
    obtain ⟨j1, j2⟩ := nrm_spec h2
    have hmerge : (bif x then g1 else g2) = true → Comes' P base (Out.node x a b).pick (some (.nrm, mergeSt x base s1 s2)) := by
      intro hg e s' hs
      simp at hs
      obtain ⟨rfl, rfl⟩ := hs
      refine ⟨bif x then s1 else s2, ?_, hw⟩
      cases x
      · exact j1 hg
      · exact i1 hg
    split
    · rename_i hr1 hr2
      refine hmerge ?_
      cases x
      · cases g2 with
        | true => rfl
        | false => obtain ⟨r, hr, _⟩ := j2 rfl; rw [hr2] at hr; cases hr
      · cases g1 with
        | true => rfl
        | false => obtain ⟨r, hr, _⟩ := i2 rfl; rw [hr1] at hr; cases hr
    · rename_i r hr1 hr2
      cases x
      · simp only [Out.pick, cond_false, cond_true]
        refine hmerge ?_
        cases g2 with
        | true => rfl
        | false => obtain ⟨r, hr, _⟩ := j2 rfl; rw [hr2] at hr; cases hr
      · cases g1 with
        | true => exact hmerge rfl
        | false =>
          obtain ⟨r', hr, pr⟩ := i2 rfl
          rw [hr1] at hr; simp at hr; subst hr
          simp only [Out.pick, cond_false, cond_true]
          rw [pr]; exact Comes'.refl _ _ _
    · rename_i r hr1 hr2
      cases x
      · cases g2 with
        | true => exact hmerge rfl
        | false =>
          obtain ⟨r', hr, pr⟩ := j2 rfl
          rw [hr2] at hr; simp at hr; subst hr
          simp only [Out.pick, cond_false]
          rw [pr]; exact Comes'.refl _ _ _
      · simp only [Out.pick, cond_true]
        refine hmerge ?_
        cases g1 with
        | true => rfl
        | false => obtain ⟨r, hr, _⟩ := i2 rfl; rw [hr1] at hr; cases hr
    · rename_i r1 r2 hr1 hr2
      cases x
      · cases g2 with
        | true => exact hmerge rfl
        | false =>
          obtain ⟨r', hr, pr⟩ := j2 rfl
          rw [hr2] at hr; simp at hr; subst hr
          simp only [Out.pick, cond_false]
          rw [pr]; exact Comes'.refl _ _ _
      · cases g1 with
        | true => exact hmerge rfl
        | false =>
          obtain ⟨r', hr, pr⟩ := i2 rfl
          rw [hr1] at hr; simp at hr; subst hr
          simp only [Out.pick, cond_false, cond_true]
          rw [pr]; exact Comes'.refl _ _ _
  · exact Comes'.refl _ _ _

theorem norm_all {base : St} : ∀ {o : Out}, o.All (ExtS base) → (o.norm base).All (ExtS base)
  | .fail, _ => trivial
  | .leaf _ _, h => h
  | .node _ _ _, h => join_all (norm_all h.1) (norm_all h.2)

theorem norm_pick {P : Program} {base : St} (hl : base.h.lo = base.h.next) : ∀ {o : Out}, o.All (ExtS base) → Comes' P base o.pick (o.norm base).pick
  | .fail, _ => Comes'.refl _ _ _
  | .leaf _ _, _ => Comes'.refl _ _ _
  | .node x a b, h => by
    have hj := join_pick (P := P) (x := x) (norm_all h.1) (norm_all h.2) hl
    refine Comes'.trans ?_ hj
    simp only [Out.pick]
    cases x
    · exact norm_pick hl h.2
    · exact norm_pick hl h.1

/-! ### marks -/

theorem pick_back (h0 : H) : ∀ (o : Out), (o.back h0).pick = match o.pick with | some (e, s) => some (e, { s with h := h0.back s.h }) | none => none
  | .fail => rfl
  | .leaf e s => rfl
  | .node x a b => by
    simp only [Out.back, Out.pick]
    cases x
    · exact pick_back h0 b
    · exact pick_back h0 a

theorem back_exts {s s' : St} (hlo : LoOK s) (h : ExtS s.mark s') : ExtS s { s' with h := s.h.back s'.h } :=
  ⟨back_ext hlo h.h, h.vars, h.vconds, h.defs, h.ok⟩

theorem all_back {s : St} (hlo : LoOK s) : ∀ {o : Out}, o.All (ExtS s.mark) → (o.back s.h).All (ExtS s)
  | .fail, _ => trivial
  | .leaf _ _, h => back_exts hlo h
  | .node _ _ _, h => ⟨all_back hlo h.1, all_back hlo h.2⟩

theorem CRel.mark {P : Program} {fp : Fp} {S : Nat → Prop} {st : St} {ν : Nu} {a : Act} {w : World} (h : CRel P fp S st ν a w) : CRel P fp (markS S st.h) st.mark ν a w :=
  ⟨h.mem.mark, h.slots, h.vconds, h.size, h.defers⟩

theorem CRel.back {P : Program} {fp : Fp} {S : Nat → Prop} {s s' : St} {ν ν' : Nu} {a' : Act} {w w' : World} (hlo : LoOK s) (h : CRel P fp (markS S s.h) s' ν' a' w') (g : Goes (markS S s.h) ν w s.mark.h ν' w' s'.h) :
    CRel P fp S { s' with h := s.h.back s'.h } ν' a' w' ∧ Goes S ν w s.h ν' w' (s.h.back s'.h) := by
  have g' := back_goes hlo g
  exact ⟨⟨g'.mem, h.slots, h.vconds, h.size, h.defers⟩, g'⟩
end Go.WE
