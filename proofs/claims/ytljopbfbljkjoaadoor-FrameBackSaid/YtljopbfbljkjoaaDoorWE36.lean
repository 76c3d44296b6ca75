/- WE36: code of a round of a range over a function. -/
import Derived.Test.YtljopbfbljkjoaaDoorWE34
import Derived.CallsIn
import Derived.TacticsIn
import Derived.RangeFuncCalls
namespace Go.WE
set_option linter.unusedVariables false
open Go

/-- A round's frame, behind the widest fence. -/
abbrev Rnd (l : Nat) : Fence := Fence.wide.inRound l

/-- An operation that does in a round what it does elsewhere. -/
def plainO (o : Oper) : Bool := match o.op with
  | .defer _ => false
  | _ => true

def plainC : Code → Bool
  | .skip => true
  | .region _ ops draw => !draw && ops.toList.all plainO
  | .seq a b => plainC a && plainC b
  | .cond _ a b => plainC a && plainC b
  | .block _ c => plainC c
  | .exit _ => true
  | .ret => true
  | _ => false

section
variable {P : Program} {n l : Nat} {o : Oper} {a : Act} {w : World} {next next' : Act → World → Prop} {Q : Exit → Act → World → Prop}

theorem callsIn_round {f : FuncId} {args : Array Value} {R : Ending → World → Prop} (h : Calls P f args w R) : CallsIn (Rnd l) n P f args w R :=
  CallsIn.inRound l (callsIn_wide.2 h)

theorem rowsIn_round {row : String} {args : Array Value} {R : Value → World → Prop} (h : Rows P row args w R) : RowsIn (Rnd l) n P row args w R :=
  fun c cs _ => let ⟨v, w', r, s⟩ := h c cs; ⟨v, w', r, stepsIn_wide.2 s⟩

theorem uponIn_of (hn : ∀ a w, next a w → next' a w) {r : Result Next} (h : o.upon P a next Q r) : o.uponIn (Rnd l) n P a next' Q r := by
  have hd : (Rnd l).depth.isSome = true → 1 ≤ n := fun h => by cases h
  cases r with
  | ok x w' =>
    cases x with
    | value v => exact hn _ _ h
    | skip => exact hn _ _ h
    | defer d => exact hn _ _ h
    | enter f args =>
      refine ⟨hd, callsIn_round ?_⟩
      refine Calls.mono (show Calls P f args w' _ from h) ?_
      intro e w'' he
      cases e with
      | returned v => exact hn _ _ he
      | panicked ch => exact he
      | outgrown => exact he
    | row row args => exact ⟨hd, rowsIn_round (Rows.mono (show Rows P row args w' _ from h) fun v w'' hv => hn _ _ hv)⟩
    | _ => exact h.elim
  | halt x w' =>
    cases x with
    | panic v => exact h
    | _ => exact h.elim

theorem wpIn_of (hp : plainO o = true) (hn : ∀ a w, next a w → next' a w) (h : o.wp P a w next Q) : o.wpIn (Rnd l) n P a w next' Q := by
  refine ⟨fun _ _ => trivial, ?_⟩
  have e : Oper.semAt (Rnd l).round a.eval o = execOp a.eval o := Oper.semAt_eq _ _ _ (fun c hc => by unfold plainO at hp; rw [hc] at hp; cases hp)
  rw [e]
  exact uponIn_of hn h

theorem wpListIn_of {ops : Array Oper} (hQ : ∀ a w, ¬ Q .outgrown a w) : ∀ (os : List Oper) (a : Act) (w : World), (os.all plainO) = true → wpList P ops Q os a w → wpListIn (Rnd l) n P ops Q os a w
  | [], a, w, _, h => h
  | o :: os, a, w, hp, h => by
    simp only [List.all_cons, Bool.and_eq_true] at hp
    unfold wpList at h
    unfold wpListIn
    split at h
    · rename_i hw
      rw [if_pos hw]
      rcases h with h | ⟨_, a', w', h⟩
      · exact wpIn_of hp.1 (fun a w h => wpListIn_of hQ os a w hp.2 h) h
      · exact absurd h (hQ a' w')
    · rename_i hw
      rw [if_neg hw]
      exact ⟨fun _ _ => trivial, wpListIn_of hQ os _ _ hp.2 h⟩
end

section
variable {cx : Cx} {call : CallE} {fp : Fp} {S : Nat → Prop} {ν : Nu} {a : Act} {w : World} {Q : Exit → Act → World → Prop} {l n : Nat}

/-- A region in the text's order, as a list of operations. -/
theorem evalRegion_list (hE : EqOK cx) (hC : CallOK cx.P call) {ops : Array Oper} {e : Ex} {st st' : St} (he : (evalRegion cx call fp ops.toList false st).pick = some (e, st')) (hok : okB st'.ok = true)
    (hrd : ∀ i, i ∈ st'.h.rd → S i) (hwr : ∀ i, i ∈ st'.h.wr → S i) (hgl : ∀ o, o ∈ ops.toList → OpGl o st.h)
    (hr : CRel cx.P fp S st ν a w) (hQ : ∀ ν' a' w' x, CRel cx.P fp S st' ν' a' w' → Goes S ν w st.h ν' w' st'.h → e.rel ν' x → Q x a' w') : wpList cx.P ops Q ops.toList a w := by
  have hlo : LoOK st := hr.mem.nums.lo
  unfold evalRegion at he
  split at he
  · simp [Out.pick] at he
  · rename_i hd
    split at he
    · split at he
      · rw [pick_back] at he
        split at he
        · rename_i e1 s1 hp
          simp only [Option.some.injEq, Prod.mk.injEq] at he
          obtain ⟨rfl, rfl⟩ := he
          have hb0 : LoOK ({ st.mark with tmps := [] } : St) := Nat.le_refl _
          obtain ⟨s2, hp2, hweak⟩ := norm_pick (P := cx.P) (base := { st.mark with tmps := [] }) rfl (evalOps_ext hC hb0) e1 s1 hp
          have hrs : ∀ i, i ∈ s1.h.rd → markS S st.h i := back_rd hrd
          have hws : ∀ i, i ∈ s1.h.wr → markS S st.h i := back_wr hwr
          have := evalOps_seq (Q := Q) (S := markS S st.h) hE hC hd ops.toList 0 _ ν a w (by simp) (by exact hgl) hp2 (hweak.ok hok) (fun i hi => hrs i (hweak.rd i hi)) (fun i hi => hws i (hweak.wr i hi)) (hr.mark.start _)
            (fun ν' a' w' x hr' hg' hx => by
              obtain ⟨h1, h2⟩ := hweak.rel fp (markS S st.h) ν w ν' a' w' hr.mark.mem hr' hg'
              obtain ⟨h3, h4⟩ := h1.back hlo h2
              exact hQ ν' a' w' x h3 h4 hx)
          simpa using this
        · cases he
      · have := evalOps_seq (Q := Q) hE hC hd ops.toList 0 ({ st with tmps := [] } : St) ν a w (by simp) (by exact hgl) he hok hrd hwr (hr.start _) (fun ν' a' w' x hr' hg' hx => hQ ν' a' w' x hr' hg' hx)
        simpa using this
    · rename_i hdr; cases hdr

/-- What is said of code in a round. -/
def RunI (l n : Nat) (P : Program) (fp : Fp) (c : Code) (s : St) (o : Out) : Prop :=
  ∀ e s', o.pick = some (e, s') → okB s'.ok = true → ∀ (S : Nat → Prop) ν a w Q, (∀ a w, ¬ Q .outgrown a w) → (∀ i, i ∈ s'.h.rd → S i) → (∀ i, i ∈ s'.h.wr → S i) → CodeGl (· ∈ s.h.gl) c → CRel P fp S s ν a w →
    Way P fp S Q e s s' ν w → c.wpIn (Rnd l) n P Q a w

theorem RunI.seq {P : Program} {x y : Code} {s : St} {o : Out} {f : St → Out} (kx : CodeOK P fp x s o) (ky : ∀ s1, CodeOK P fp y s1 (f s1)) (hx : RunI l n P fp x s o) (hy : ∀ s1, RunI l n P fp y s1 (f s1)) : RunI l n P fp (.seq x y) s (o.bind f) := by
  intro e s' h hok S ν a w Q hQ hrd hwr hgl hr hw
  have hlo : LoOK s := hr.mem.nums.lo
  have hQ' : ∀ a w, ¬ Exit.then (y.wpIn (Rnd l) n P Q) Q .outgrown a w := hQ
  rw [pick_bind] at h
  split at h
  · rename_i s1 h1
    have hx1 := Out.All.pick (kx.ext hlo) h1
    have hx2 := Out.All.pick ((ky s1).ext (hx1.lo hlo)) h
    refine wpIn_seq (hx .nrm s1 h1 (hx2.ok hok) S ν a w _ hQ' (fun i hi => hrd i (hx2.h.rd i hi)) (fun i hi => hwr i (hx2.h.wr i hi)) hgl.1 hr ?_)
    intro ν' a' w' ex hr' hg' hex
    simp only [Ex.rel] at hex
    subst hex
    exact hy s1 e s' h hok S ν' a' w' Q hQ hrd hwr (hg'.glC hgl.2) hr' (fun ν'' a'' w'' ex' hr'' hg'' he => hw ν'' a'' w'' ex' hr'' (hg'.trans hg'') he)
  · rename_i hne
    refine wpIn_seq (hx e s' h hok S ν a w _ hQ' hrd hwr hgl.1 hr ?_)
    intro ν' a' w' ex hr' hg' hex
    have := hw ν' a' w' ex hr' hg' hex
    cases e with
    | nrm => exact absurd h (hne _)
    | exit id => simp only [Ex.rel] at hex; subst hex; exact this
    | ret => simp only [Ex.rel] at hex; subst hex; exact this
    | pan v => simp only [Ex.rel] at hex; obtain ⟨u, rfl, _⟩ := hex; exact this

theorem RunI.block {P : Program} {c : Code} {s : St} {o : Out} {id : Nat} (kc : CodeOK P fp c s.mark o) (hc : RunI l n P fp c s.mark o) : RunI l n P fp (.block id c) s (((o.exits id).norm s.mark).back s.h) := by
  intro e s' h hok S ν a w Q hQ hrd hwr hgl hr hw
  have hlo : LoOK s := hr.mem.nums.lo
  have hlm : LoOK s.mark := Nat.le_refl _
  have hQ' : ∀ a w, ¬ Exit.inBlock id Q .outgrown a w := hQ
  rw [pick_back] at h
  split at h
  · rename_i e1 s1 hp1
    simp only [Option.some.injEq, Prod.mk.injEq] at h
    obtain ⟨rfl, rfl⟩ := h
    obtain ⟨s2, hp, hweak⟩ := norm_pick (P := P) (base := s.mark) rfl (all_exits (id := id) (kc.ext hlm)) e1 s1 hp1
    have hway := hw.back hlo hr.mark.mem hweak
    have hrs : ∀ i, i ∈ s2.h.rd → markS S s.h i := fun i hi => back_rd hrd i (hweak.rd i hi)
    have hws : ∀ i, i ∈ s2.h.wr → markS S s.h i := fun i hi => back_wr hwr i (hweak.wr i hi)
    rw [pick_exits] at hp
    split at hp
    · rename_i id' s3 h2
      split at hp
      · rename_i hid
        simp only [Option.some.injEq, Prod.mk.injEq] at hp
        obtain ⟨rfl, rfl⟩ := hp
        refine wpIn_block (hc (.exit id') s3 h2 (hweak.ok hok) _ ν a w _ hQ' hrs hws hgl hr.mark ?_)
        intro ν' a' w' x hr' hg' hx
        simp only [Ex.rel] at hx
        subst hx
        simp only [Exit.inBlock, hid, if_true]
        exact hway ν' a' w' .normal hr' hg' rfl
      · rename_i hid
        simp only [Option.some.injEq, Prod.mk.injEq] at hp
        obtain ⟨rfl, rfl⟩ := hp
        refine wpIn_block (hc (.exit id') s3 h2 (hweak.ok hok) _ ν a w _ hQ' hrs hws hgl hr.mark ?_)
        intro ν' a' w' x hr' hg' hx
        simp only [Ex.rel] at hx
        subst hx
        simp only [Exit.inBlock, hid, if_false]
        exact hway ν' a' w' (.exit id') hr' hg' rfl
    · rename_i hne
      refine wpIn_block (hc e1 s2 hp (hweak.ok hok) _ ν a w _ hQ' hrs hws hgl hr.mark ?_)
      intro ν' a' w' x hr' hg' hx
      have := hway ν' a' w' x hr' hg' hx
      cases e1 with
      | nrm => simp only [Ex.rel] at hx; subst hx; exact this
      | exit id' => exact absurd hp (hne _ _)
      | ret => simp only [Ex.rel] at hx; subst hx; exact this
      | pan v => simp only [Ex.rel] at hx; obtain ⟨u, rfl, _⟩ := hx; exact this
  · cases h

theorem evalC_round (hE : EqOK cx) (hC : CallOK cx.P call) (hL : fp.lam = fun _ _ => none) : ∀ (m : Nat) (c : Code) (s : St), plainC c = true → RunI l n cx.P fp c s (evalC cx call fp m c s) := by
  have hK : ∀ m c s, CodeOK cx.P fp c s (evalC cx call fp m c s) := fun m c s => evalC_sound hE hC (c0 := c) (fun id d s o h _ => by rw [hL] at h; cases h) m c s (fun _ _ h => h)
  intro m
  induction m with
  | zero => intro c s _ e s' h; simp [evalC, Out.pick] at h
  | succ m ih =>
    intro c s hpl
    cases c <;> simp only [plainC, Bool.and_eq_true, Bool.not_eq_true'] at hpl <;> simp only [evalC]
    case skip =>
      intro e s' h hok S ν a w Q hQ hrd hwr hgl hr hw
      simp only [Out.pick, Option.some.injEq, Prod.mk.injEq] at h
      obtain ⟨rfl, rfl⟩ := h
      exact wpIn_skip (hw ν a w .normal hr (Goes.refl hr.mem) rfl)
    case region id ops draw =>
      intro e s' h hok S ν a w Q hQ hrd hwr hgl hr hw
      obtain ⟨hd, hp⟩ := hpl
      subst hd
      exact wpIn_region_list (wpListIn_of hQ _ _ _ hp (evalRegion_list hE hC h hok hrd hwr hgl hr (fun ν' a' w' x hr' hg' hx => hw ν' a' w' x hr' hg' hx)))
    case seq x y => exact RunI.seq (hK m x s) (fun s1 => hK m y s1) (ih x s hpl.1) (fun s1 => ih y s1 hpl.2)
    case cond c x y =>
      have kx := fun s => hK m x s
      have ky := fun s => hK m y s
      have hx := fun s => ih x s hpl.1
      have hy := fun s => ih y s hpl.2
      split
      · rename_i hc
        exact fun e s' h hok S ν a w Q hQ hrd hwr hgl hr hw => wpIn_cond_true (cond_val (cx := cx) hc hgl.1 hr) (hx s e s' h hok S ν a w Q hQ hrd hwr hgl.2.1 hr hw)
      · rename_i hc
        exact fun e s' h hok S ν a w Q hQ hrd hwr hgl hr hw => wpIn_cond_false (cond_val (cx := cx) hc hgl.1 hr) (hy s e s' h hok S ν a w Q hQ hrd hwr hgl.2.2 hr hw)
      · rename_i v hc
        have hlm : LoOK s.mark := Nat.le_refl _
        intro e s' h hok S ν a w Q hQ hrd hwr hgl hr hw
        have hlo : LoOK s := hr.mem.nums.lo
        rw [pick_back] at h
        split at h
        · rename_i e1 s1 hp1
          simp only [Option.some.injEq, Prod.mk.injEq] at h
          obtain ⟨rfl, rfl⟩ := h
          obtain ⟨s2, hp, hweak⟩ := join_pick (P := cx.P) (base := s.mark) ((kx s.mark).ext hlm) ((ky s.mark).ext hlm) rfl e1 s1 hp1
          have hway := hw.back hlo hr.mark.mem hweak
          have hrs : ∀ i, i ∈ s2.h.rd → markS S s.h i := fun i hi => back_rd hrd i (hweak.rd i hi)
          have hws : ∀ i, i ∈ s2.h.wr → markS S s.h i := fun i hi => back_wr hwr i (hweak.wr i hi)
          simp only [Out.pick] at hp
          cases v
          · exact wpIn_cond_false (cond_val (cx := cx) hc hgl.1 hr) (hy s.mark e1 s2 (by simpa using hp) (hweak.ok hok) _ ν a w Q hQ hrs hws hgl.2.2 hr.mark hway)
          · exact wpIn_cond_true (cond_val (cx := cx) hc hgl.1 hr) (hx s.mark e1 s2 (by simpa using hp) (hweak.ok hok) _ ν a w Q hQ hrs hws hgl.2.1 hr.mark hway)
        · cases h
      · intro e s' h; simp [Out.pick] at h
    case block id c =>
      rw [hL]
      exact RunI.block (hK m c s.mark) (ih c s.mark hpl)
    case exit id =>
      intro e s' h hok S ν a w Q hQ hrd hwr hgl hr hw
      simp only [Out.pick, Option.some.injEq, Prod.mk.injEq] at h
      obtain ⟨rfl, rfl⟩ := h
      exact wpIn_exit (hw ν a w (.exit id) hr (Goes.refl hr.mem) rfl)
    case ret =>
      intro e s' h hok S ν a w Q hQ hrd hwr hgl hr hw
      simp only [Out.pick, Option.some.injEq, Prod.mk.injEq] at h
      obtain ⟨rfl, rfl⟩ := h
      exact wpIn_ret (hw ν a w .ret hr (Goes.refl hr.mem) rfl)
    all_goals cases hpl
end

/-- A piece of a round, walked. -/
theorem phaseIn {cx : Cx} {Γ : Gam} (X : CxOK cx Γ) {fuel d : Nat} {fp : Fp} (hlam : fp.lam = fun _ _ => none) {c : Code} (hpl : plainC c = true) {l : List (Nat × V)} {h : H} {e : Ex} {s' : St}
    (hp : (evalC cx (evalF cx Γ fuel d) fp fuel c (stOf l h)).pick = some (e, s')) (hok : okB s'.ok = true) (hgl : ∀ g, g ∈ codeGl c [] → g ∈ h.gl) {ν : Nu} {a : Act} {w : World} {Q : Exit → Act → World → Prop} (hQ0 : ∀ a w, ¬ Q .outgrown a w) (hs : Stand fp ν h l a w) {k m : Nat}
    (hQ : ∀ ν' a' w' x, CRel cx.P fp (markS (fun _ => True) h) s' ν' a' w' → Goes (markS (fun _ => True) h) ν w h.mark ν' w' s'.h → e.rel ν' x → Q x a' w') : c.wpIn (Rnd k) m cx.P Q a w :=
  evalC_round X.eq (evalF_sound X.eq X.gam X.dfr X.lam X.ent d) hlam fuel c (stOf l h) hpl e s' hp hok _ ν a w Q hQ0
    (fun _ _ => .inl trivial) (fun _ _ => .inl trivial) (CodeGl.mono (fun g hg => hgl g hg) (codeGl_spec c []).2) hs.crel (fun ν' a' w' x h1 h2 h3 => hQ ν' a' w' x h1 h2 h3)
end Go.WE
