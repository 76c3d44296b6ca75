/- WE27: code. -/
import Derived.Test.YtljopbfbljkjoaaDoorWE26
import Derived.LoopN
namespace Go.WE
set_option linter.unusedVariables false
open Go

/-- The globals that code names. -/
def CodeGl (p : Nat → Prop) : Code → Prop
  | .region _ ops _ => ∀ o, o ∈ ops.toList → ∀ g, .global g ∈ o.op.operands.toList → p g
  | .seq a b => CodeGl p a ∧ CodeGl p b
  | .cond c a b => (∀ g, c = .global g → p g) ∧ CodeGl p a ∧ CodeGl p b
  | .block _ c => CodeGl p c
  | .loop c => CodeGl p c
  | _ => True

/-- A block stands somewhere in a code. -/
def Occ (id : Nat) (d : Code) : Code → Prop
  | .seq a b => Occ id d a ∨ Occ id d b
  | .cond _ a b => Occ id d a ∨ Occ id d b
  | .block i c => (i = id ∧ c = d) ∨ Occ id d c
  | .loop c => Occ id d c
  | _ => False

/-- What is said of a way that is taken. -/
def Way (P : Program) (fp : Fp) (S : Nat → Prop) (Q : Exit → Act → World → Prop) (e : Ex) (s s' : St) (ν : Nu) (w : World) : Prop :=
  ∀ ν' a' w' x, CRel P fp S s' ν' a' w' → Goes S ν w s.h ν' w' s'.h → e.rel ν' x → Q x a' w'

structure CodeOK (P : Program) (fp : Fp) (c : Code) (s : St) (o : Out) : Prop where
  ext : LoOK s → o.All (ExtS s)
  run : ∀ e s', o.pick = some (e, s') → okB s'.ok = true → ∀ (S : Nat → Prop) ν a w Q, (∀ i, i ∈ s'.h.rd → S i) → (∀ i, i ∈ s'.h.wr → S i) → CodeGl (· ∈ s.h.gl) c → CRel P fp S s ν a w →
    Way P fp S Q e s s' ν w → c.wp P Q a w

/-- The laws of a function's loops. -/
def LamOK (P : Program) (fp : Fp) (c0 : Code) : Prop := ∀ id d s o, fp.lam id s = some o → Occ id d c0 → CodeOK P fp (.block id d) s o

section
variable {cx : Cx} {call : CallE} {fp : Fp}

theorem CodeGl.mono {p q : Nat → Prop} (h : ∀ g, p g → q g) : ∀ {c : Code}, CodeGl p c → CodeGl q c
  | .region _ _ _, hc => fun o ho g hg => h g (hc o ho g hg)
  | .seq _ _, hc => ⟨CodeGl.mono h hc.1, CodeGl.mono h hc.2⟩
  | .cond _ _ _, hc => ⟨fun g hg => h g (hc.1 g hg), CodeGl.mono h hc.2.1, CodeGl.mono h hc.2.2⟩
  | .block _ c, hc => CodeGl.mono (c := c) h hc
  | .loop c, hc => CodeGl.mono (c := c) h hc
  | .skip, _ => trivial
  | .rangeFunc _ _ _ _, _ => trivial
  | .exit _, _ => trivial
  | .scope _, _ => trivial
  | .label _, _ => trivial
  | .goto _, _ => trivial
  | .ret, _ => trivial
  | .refuse _, _ => trivial

theorem Goes.glC {S : Nat → Prop} {ν ν' : Nu} {w w' : World} {h h' : H} (g : Goes S ν w h ν' w' h') {c : Code} (hc : CodeGl (· ∈ h.gl) c) : CodeGl (· ∈ h'.gl) c :=
  CodeGl.mono (fun x hx => by show x ∈ h'.gl; rw [g.ext.gl]; exact hx) hc

theorem cond_val {S : Nat → Prop} {s : St} {ν : Nu} {a : Act} {w : World} {c : Operand} {v : V} (h : opV none none (s.get fp.km) c = some v) (hgl : ∀ g, c = .global g → g ∈ s.h.gl) (hr : CRel cx.P fp S s ν a w) : v.rel ν (a.eval c) :=
  opV_sound (a := a) h trivial trivial (fun t _ ht => (hr.slots t).1 ht) (fun g hg => hr.mem.nums.glob g (hgl g (by simp at hg; exact hg.symm)))

theorem CodeOK.seq {P : Program} {x y : Code} {s : St} {o : Out} {f : St → Out} (hx : CodeOK P fp x s o) (hy : ∀ s1, CodeOK P fp y s1 (f s1)) : CodeOK P fp (.seq x y) s (o.bind f) where
  ext := fun hlo => all_bind (hx.ext hlo) (fun s1 h1 => Out.All.mono (fun s2 h2 => h1.trans h2) ((hy s1).ext (h1.lo hlo)))
  run := by
    intro e s' h hok S ν a w Q hrd hwr hgl hr hw
    have hlo : LoOK s := hr.mem.nums.lo
    rw [pick_bind] at h
    split at h
    · rename_i s1 h1
      have hx1 := Out.All.pick (hx.ext hlo) h1
      have hx2 := Out.All.pick ((hy s1).ext (hx1.lo hlo)) h
      refine wp_seq (hx.run .nrm s1 h1 (hx2.ok hok) S ν a w _ (fun i hi => hrd i (hx2.h.rd i hi)) (fun i hi => hwr i (hx2.h.wr i hi)) hgl.1 hr ?_)
      intro ν' a' w' ex hr' hg' hex
      simp only [Ex.rel] at hex
      subst hex
      exact (hy s1).run e s' h hok S ν' a' w' Q hrd hwr (hg'.glC hgl.2) hr' (fun ν'' a'' w'' ex' hr'' hg'' he => hw ν'' a'' w'' ex' hr'' (hg'.trans hg'') he)
    · rename_i hne
      refine wp_seq (hx.run e s' h hok S ν a w _ hrd hwr hgl.1 hr ?_)
      intro ν' a' w' ex hr' hg' hex
      have := hw ν' a' w' ex hr' hg' hex
      cases e with
      | nrm => exact absurd h (hne _)
      | exit id => simp only [Ex.rel] at hex; subst hex; exact this
      | ret => simp only [Ex.rel] at hex; subst hex; exact this
      | pan v => simp only [Ex.rel] at hex; obtain ⟨u, rfl, _⟩ := hex; exact this

theorem loopE_ext {f : St → Out} {c : Code} {P : Program} (hf : ∀ s, CodeOK P fp c s (f s)) : ∀ (k : Nat) (s : St), LoOK s → (loopE f k s).All (ExtS s)
  | 0, s, _ => show ExtS s { s with ok := .b false } from ⟨Ext.refl _, ⟨[], rfl, fun _ _ => rfl⟩, fun h => h, ⟨[], rfl⟩, fun h => Bool.noConfusion (show false = true from h)⟩
  | k + 1, s, hlo => all_bind ((hf s).ext hlo) (fun s1 h1 => Out.All.mono (fun s2 h2 => h1.trans h2) (loopE_ext hf k s1 (h1.lo hlo)))

theorem loopE_rounds {f : St → Out} {c : Code} {P : Program} (hf : ∀ s, CodeOK P fp c s (f s)) {S : Nat → Prop} : ∀ (k : Nat) (s s' : St) (e : Ex) (ν : Nu) (a : Act) (w : World) (Q : Exit → Act → World → Prop), (loopE f k s).pick = some (e, s') → okB s'.ok = true →
    (∀ i, i ∈ s'.h.rd → S i) → (∀ i, i ∈ s'.h.wr → S i) → CodeGl (· ∈ s.h.gl) c → CRel P fp S s ν a w → Way P fp S Q e s s' ν w → Code.rounds P c Q k a w
  | 0, s, s', e, ν, a, w, Q, h, hok, _, _, _, _, _ => by
    simp only [loopE, Out.pick, Option.some.injEq, Prod.mk.injEq] at h
    obtain ⟨_, rfl⟩ := h
    simp [okB] at hok
  | k + 1, s, s', e, ν, a, w, Q, h, hok, hrd, hwr, hgl, hr, hw => by
    have hlo : LoOK s := hr.mem.nums.lo
    rw [loopE, pick_bind] at h
    rw [rounds_succ]
    split at h
    · rename_i s1 h1
      have hx1 := Out.All.pick ((hf s).ext hlo) h1
      have hx2 := Out.All.pick (loopE_ext hf k s1 (hx1.lo hlo)) h
      refine (hf s).run .nrm s1 h1 (hx2.ok hok) S ν a w _ (fun i hi => hrd i (hx2.h.rd i hi)) (fun i hi => hwr i (hx2.h.wr i hi)) hgl hr ?_
      intro ν' a' w' ex hr' hg' hex
      simp only [Ex.rel] at hex
      subst hex
      exact loopE_rounds hf k s1 s' e ν' a' w' Q h hok hrd hwr (hg'.glC hgl) hr' (fun ν'' a'' w'' ex' hr'' hg'' he => hw ν'' a'' w'' ex' hr'' (hg'.trans hg'') he)
    · rename_i hne
      refine (hf s).run e s' h hok S ν a w _ hrd hwr hgl hr ?_
      intro ν' a' w' ex hr' hg' hex
      have := hw ν' a' w' ex hr' hg' hex
      cases e with
      | nrm => exact absurd h (hne _)
      | exit id => simp only [Ex.rel] at hex; subst hex; exact this
      | ret => simp only [Ex.rel] at hex; subst hex; exact this
      | pan v => simp only [Ex.rel] at hex; obtain ⟨u, rfl, _⟩ := hex; exact this

theorem CodeOK.loop {P : Program} {c : Code} {f : St → Out} (hf : ∀ s, CodeOK P fp c s (f s)) (k : Nat) (s : St) : CodeOK P fp (.loop c) s (loopE f k s) :=
  ⟨loopE_ext hf k s, fun e s' h hok _ ν a w Q hrd hwr hgl hr hw => wp_loop_rounds k (loopE_rounds hf k s s' e ν a w Q h hok hrd hwr hgl hr hw)⟩

/-- A state that is marked. -/
theorem Way.back {P : Program} {S : Nat → Prop} {Q : Exit → Act → World → Prop} {e : Ex} {s s1 s2 : St} {ν : Nu} {w : World} (hlo : LoOK s) (hm : Mem (markS S s.h) ν w s.mark.h) (hweak : Weak P s.mark s2 s1)
    (hw : Way P fp S Q e s { s1 with h := s.h.back s1.h } ν w) : Way P fp (markS S s.h) Q e s.mark s2 ν w := by
  intro ν' a' w' x hr' hg' hx
  obtain ⟨h1, h2⟩ := hweak.rel fp (markS S s.h) ν w ν' a' w' hm hr' hg'
  obtain ⟨h3, h4⟩ := h1.back hlo h2
  exact hw ν' a' w' x h3 h4 hx

theorem CodeOK.block {P : Program} {c : Code} {s : St} {o : Out} {id : Nat} (hc : CodeOK P fp c s.mark o) : CodeOK P fp (.block id c) s (((o.exits id).norm s.mark).back s.h) where
  ext := fun hlo => all_back hlo (norm_all (all_exits (hc.ext (show LoOK s.mark from Nat.le_refl _))))
  run := by
    intro e s' h hok S ν a w Q hrd hwr hgl hr hw
    have hlo : LoOK s := hr.mem.nums.lo
    have hlm : LoOK s.mark := Nat.le_refl _
    rw [pick_back] at h
    split at h
    · rename_i e1 s1 hp1
      simp only [Option.some.injEq, Prod.mk.injEq] at h
      obtain ⟨rfl, rfl⟩ := h
      obtain ⟨s2, hp, hweak⟩ := norm_pick (P := P) (base := s.mark) rfl (all_exits (id := id) (hc.ext hlm)) e1 s1 hp1
      have hway := hw.back hlo hr.mark.mem hweak
      have hrs : ∀ i, i ∈ s2.h.rd → markS S s.h i := fun i hi => back_rd hrd i (hweak.rd i hi)
      have hws : ∀ i, i ∈ s2.h.wr → markS S s.h i := fun i hi => back_wr hwr i (hweak.wr i hi)
      rw [pick_exits] at hp
      split at hp
      · rename_i id' s3 h2
        split at hp
        · rename_i hid
          simp only [Option.some.injEq, Prod.mk.injEq] at hp
          obtain ⟨rfl, rfl⟩ := hp
          refine wp_block (hc.run (.exit id') s3 h2 (hweak.ok hok) _ ν a w _ hrs hws hgl hr.mark ?_)
          intro ν' a' w' x hr' hg' hx
          simp only [Ex.rel] at hx
          subst hx
          simp only [Exit.inBlock, hid, if_true]
          exact hway ν' a' w' .normal hr' hg' rfl
        · rename_i hid
          simp only [Option.some.injEq, Prod.mk.injEq] at hp
          obtain ⟨rfl, rfl⟩ := hp
          refine wp_block (hc.run (.exit id') s3 h2 (hweak.ok hok) _ ν a w _ hrs hws hgl hr.mark ?_)
          intro ν' a' w' x hr' hg' hx
          simp only [Ex.rel] at hx
          subst hx
          simp only [Exit.inBlock, hid, if_false]
          exact hway ν' a' w' (.exit id') hr' hg' rfl
      · rename_i hne
        refine wp_block (hc.run e1 s2 hp (hweak.ok hok) _ ν a w _ hrs hws hgl hr.mark ?_)
        intro ν' a' w' x hr' hg' hx
        have := hway ν' a' w' x hr' hg' hx
        cases e1 with
        | nrm => simp only [Ex.rel] at hx; subst hx; exact this
        | exit id' => exact absurd hp (hne _ _)
        | ret => simp only [Ex.rel] at hx; subst hx; exact this
        | pan v => simp only [Ex.rel] at hx; obtain ⟨u, rfl, _⟩ := hx; exact this
    · cases h

theorem evalC_sound (hE : EqOK cx) (hC : CallOK cx.P call) {c0 : Code} (hL : LamOK cx.P fp c0) : ∀ (n : Nat) (c : Code) (s : St), (∀ id d, Occ id d c → Occ id d c0) → CodeOK cx.P fp c s (evalC cx call fp n c s) := by
  intro n
  induction n with
  | zero => intro c s _; exact ⟨fun _ => trivial, fun e s' h => by simp [evalC, Out.pick] at h⟩
  | succ n ih =>
    intro c s hocc
    cases c <;> simp only [evalC]
    case skip =>
      refine ⟨fun _ => ExtS.refl s, fun e s' h hok S ν a w Q hrd hwr hgl hr hw => ?_⟩
      simp only [Out.pick, Option.some.injEq, Prod.mk.injEq] at h
      obtain ⟨rfl, rfl⟩ := h
      exact wp_skip (hw ν a w .normal hr (Goes.refl hr.mem) rfl)
    case region id ops draw =>
      exact ⟨fun hlo => evalRegion_ext hC hlo, fun e s' h hok S ν a w Q hrd hwr hgl hr hw => evalRegion_sound hE hC h hok hrd hwr hgl hr (fun ν' a' w' x hr' hg' hx => hw ν' a' w' x hr' hg' hx)⟩
    case seq x y => exact CodeOK.seq (ih x s (fun id d h => hocc id d (.inl h))) (fun s1 => ih y s1 (fun id d h => hocc id d (.inr h)))
    case cond c x y =>
      have hx := fun s => ih x s (fun id d h => hocc id d (.inl h))
      have hy := fun s => ih y s (fun id d h => hocc id d (.inr h))
      split
      · rename_i hc
        exact ⟨(hx s).ext, fun e s' h hok S ν a w Q hrd hwr hgl hr hw => wp_cond_true (cond_val (cx := cx) hc hgl.1 hr) ((hx s).run e s' h hok S ν a w Q hrd hwr hgl.2.1 hr hw)⟩
      · rename_i hc
        exact ⟨(hy s).ext, fun e s' h hok S ν a w Q hrd hwr hgl hr hw => wp_cond_false (cond_val (cx := cx) hc hgl.1 hr) ((hy s).run e s' h hok S ν a w Q hrd hwr hgl.2.2 hr hw)⟩
      · rename_i v hc
        have hlm : LoOK s.mark := Nat.le_refl _
        refine ⟨fun hlo => all_back hlo (join_all ((hx s.mark).ext hlm) ((hy s.mark).ext hlm)), fun e s' h hok S ν a w Q hrd hwr hgl hr hw => ?_⟩
        have hlo : LoOK s := hr.mem.nums.lo
        rw [pick_back] at h
        split at h
        · rename_i e1 s1 hp1
          simp only [Option.some.injEq, Prod.mk.injEq] at h
          obtain ⟨rfl, rfl⟩ := h
          obtain ⟨s2, hp, hweak⟩ := join_pick (P := cx.P) (base := s.mark) ((hx s.mark).ext hlm) ((hy s.mark).ext hlm) rfl e1 s1 hp1
          have hway := hw.back hlo hr.mark.mem hweak
          have hrs : ∀ i, i ∈ s2.h.rd → markS S s.h i := fun i hi => back_rd hrd i (hweak.rd i hi)
          have hws : ∀ i, i ∈ s2.h.wr → markS S s.h i := fun i hi => back_wr hwr i (hweak.wr i hi)
          simp only [Out.pick] at hp
          cases v
          · exact wp_cond_false (cond_val (cx := cx) hc hgl.1 hr) ((hy s.mark).run e1 s2 (by simpa using hp) (hweak.ok hok) _ ν a w Q hrs hws hgl.2.2 hr.mark hway)
          · exact wp_cond_true (cond_val (cx := cx) hc hgl.1 hr) ((hx s.mark).run e1 s2 (by simpa using hp) (hweak.ok hok) _ ν a w Q hrs hws hgl.2.1 hr.mark hway)
        · cases h
      · exact ⟨fun _ => trivial, fun e s' h => by simp [Out.pick] at h⟩
    case block id c =>
      split
      · rename_i o ho
        exact hL id c s o ho (hocc id c (.inl ⟨rfl, rfl⟩))
      · exact CodeOK.block (ih c s.mark (fun id' d h => hocc id' d (.inr h)))
    case loop c => exact CodeOK.loop (fun s => ih c s (fun id d h => hocc id d h)) fp.it s
    case exit id =>
      refine ⟨fun _ => ExtS.refl s, fun e s' h hok S ν a w Q hrd hwr hgl hr hw => ?_⟩
      simp only [Out.pick, Option.some.injEq, Prod.mk.injEq] at h
      obtain ⟨rfl, rfl⟩ := h
      exact wp_exit (hw ν a w (.exit id) hr (Goes.refl hr.mem) rfl)
    case ret =>
      refine ⟨fun _ => ExtS.refl s, fun e s' h hok S ν a w Q hrd hwr hgl hr hw => ?_⟩
      simp only [Out.pick, Option.some.injEq, Prod.mk.injEq] at h
      obtain ⟨rfl, rfl⟩ := h
      exact wp_ret (hw ν a w .ret hr (Goes.refl hr.mem) rfl)
    all_goals exact ⟨fun _ => trivial, fun e s' h => by simp [Out.pick] at h⟩
end
end Go.WE
