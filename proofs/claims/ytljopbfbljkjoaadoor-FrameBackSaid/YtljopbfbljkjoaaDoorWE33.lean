/- WE33: phases: pieces of a function's text, each walked from slots that are told one by one; loops by induction over them. -/
import Derived.Test.YtljopbfbljkjoaaDoorWE31
import Derived.LoopN
import Derived.Defers
namespace Go
def Code.sA : Code → Code
  | .seq a _ => a
  | _ => .skip
def Code.sB : Code → Code
  | .seq _ b => b
  | _ => .skip
def Code.inn : Code → Code
  | .block _ c => c
  | .loop c => c
  | _ => .skip
end Go
namespace Go.WE
set_option linter.unusedVariables false
open Go
open Go.RowKit (Below)

/-- Slots told one by one. -/
def slotsT : List (Nat × V) → Tr Ent
  | [] => .nil
  | (t, v) :: r => (slotsT r).set t ⟨none, v⟩
def stOf (l : List (Nat × V)) (h : H) : St := ⟨slotsT l, [], [], h.mark, .tt, []⟩

/-- What is known between two phases. -/
structure Stand (fp : Fp) (ν : Nu) (h : H) (l : List (Nat × V)) (a : Act) (w : World) : Prop where
  mem : Mem (fun _ => True) ν w h
  slots : ∀ t v, (t, v) ∈ l → v.rel ν (a.tmps.getD t undef)
  size : a.tmps.size = fp.nt
  defers : a.defers = []

theorem get_slotsT : ∀ (l : List (Nat × V)) (t : Nat), varsGet (slotsT l) t = ⟨none, .t (.a .poison)⟩ ∨ ∃ v, (t, v) ∈ l ∧ varsGet (slotsT l) t = ⟨none, v⟩
  | [], t => .inl (nil_get t)
  | (s, v) :: r, t => by
    have h : varsGet (slotsT ((s, v) :: r)) t = if s = t then ⟨none, v⟩ else varsGet (slotsT r) t := by
      show varsGet ((slotsT r).set s ⟨none, v⟩) t = _
      unfold varsGet
      rw [Tr.get_set]
      by_cases e : s = t
      · rw [if_pos e, if_pos e]
      · rw [if_neg e, if_neg e]
    rw [h]
    split
    · rename_i e
      subst e
      exact .inr ⟨v, .head _, rfl⟩
    · rcases get_slotsT r t with h | ⟨v', h1, h2⟩
      · exact .inl h
      · exact .inr ⟨v', .tail _ h1, h2⟩

theorem Stand.crel {P : Program} {fp : Fp} {ν : Nu} {h : H} {l : List (Nat × V)} {a : Act} {w : World} (hs : Stand fp ν h l a w) : CRel P fp (markS (fun _ => True) h) (stOf l h) ν a w := by
  have hpoison : ∀ t, EntOK ν a.tmps t ⟨none, .t (.a .poison)⟩ := fun t => ⟨fun _ => by simp [V.rel, T.relV, A.rel], fun hno => absurd trivial hno⟩
  refine ⟨hs.mem.mark, fun t => ?_, fun t => ?_, hs.size, ?_⟩
  · cases hk : bitB fp.km t
    · rw [get_false hk]; exact hpoison t
    · rw [get_true hk]
      show EntOK ν a.tmps t (varsGet (slotsT l) t)
      rcases get_slotsT l t with h | ⟨v, h1, h2⟩
      · rw [h]; exact hpoison t
      · rw [h2]
        exact ⟨fun _ => hs.slots t v h1, fun hno => absurd trivial hno⟩
  · show (varsGet (slotsT l) t).c = none
    rcases get_slotsT l t with h | ⟨v, h1, h2⟩
    · rw [h]
    · rw [h2]
  · show Dfs P ν [] a.defers
    rw [hs.defers]
    trivial

/-- A piece of text, walked. -/
theorem phase {cx : Cx} {Γ : Gam} (X : CxOK cx Γ) {fuel n : Nat} {fp : Fp} (hlam : fp.lam = fun _ _ => none) {c : Code} {l : List (Nat × V)} {h : H} {e : Ex} {s' : St}
    (hp : (evalC cx (evalF cx Γ fuel n) fp fuel c (stOf l h)).pick = some (e, s')) (hok : okB s'.ok = true) (hgl : ∀ g, g ∈ codeGl c [] → g ∈ h.gl) {ν : Nu} {a : Act} {w : World} {Q : Exit → Act → World → Prop} (hs : Stand fp ν h l a w)
    (hQ : ∀ ν' a' w' x, CRel cx.P fp (markS (fun _ => True) h) s' ν' a' w' → Goes (markS (fun _ => True) h) ν w h.mark ν' w' s'.h → e.rel ν' x → Q x a' w') : c.wp cx.P Q a w :=
  (evalC_sound X.eq (evalF_sound X.eq X.gam X.dfr X.lam X.ent n) (c0 := c) (fun id d s o h _ => by rw [hlam] at h; cases h) fuel c (stOf l h) (fun _ _ h => h)).run e s' hp hok _ ν a w Q
    (fun _ _ => .inl trivial) (fun _ _ => .inl trivial) (CodeGl.mono (fun g hg => hgl g hg) (codeGl_spec c []).2) hs.crel (fun ν' a' w' x h1 h2 h3 => hQ ν' a' w' x h1 h2 h3)

theorem plainA_old {ν ν' : Nu} {n : Nat} (ho : ∀ id, id < n → ν' id = ν id) : ∀ {x : A} {v : Value}, plainA n x = true → x.rel ν' v → x.rel ν v := by
  intro x v hp hx
  cases x with
  | ptr id p =>
    simp only [A.rel] at hx ⊢
    simp only [plainA] at hp
    obtain ⟨b, base, h1, h2⟩ := hx
    exact ⟨b, base, (ho id (by simpa using hp)) ▸ h1, h2⟩
  | sl id p s st len cap =>
    simp only [A.rel] at hx ⊢
    simp only [plainA] at hp
    obtain ⟨b, base, o, c, h1, h2⟩ := hx
    exact ⟨b, base, o, c, (ho id (by simpa using hp)) ▸ h1, h2⟩
  | fn f caps =>
    cases caps with
    | nil => simpa only [A.rel, relL] using hx
    | cons _ _ => simp [plainA] at hp
  | iface t x => simp [plainA] at hp
  | mapp id =>
    simp only [A.rel] at hx ⊢
    simp only [plainA] at hp
    obtain ⟨r, h1, h2⟩ := hx
    exact ⟨r, (ho id (by simpa using hp)) ▸ h1, h2⟩
  | poison => simp only [A.rel]
  | _ => simpa only [A.rel] using hx

/-- Is a value one that names blocks below `n` alone? -/
def plainS (n : Nat) : V → Bool
  | .t (.a x) => plainA n x
  | v => v.free

theorem plainS_old {ν ν' : Nu} {n : Nat} (ho : ∀ id, id < n → ν' id = ν id) {v : V} {u : Value} (hp : plainS n v = true) (hx : v.rel ν' u) : v.rel ν u := by
  unfold plainS at hp
  split at hp
  · exact plainA_old ho hp hx
  · exact V.rel_free hp hx

/-- The slots that are asked for, behind a piece of text. -/
def St.vals (km : Nat) (s : St) : List Nat → Option (List (Nat × V))
  | [] => some []
  | t :: ts => match s.get km t with
    | ⟨none, v⟩ => match s.vals km ts with
      | some l => some ((t, v) :: l)
      | none => none
    | _ => none

theorem vals_mem {km : Nat} {s : St} : ∀ {ts : List Nat} {l : List (Nat × V)}, s.vals km ts = some l → ∀ t v, (t, v) ∈ l → s.get km t = ⟨none, v⟩
  | [], l, h, t, v, hm => by simp only [St.vals, Option.some.injEq] at h; subst h; cases hm
  | t0 :: ts, l, h, t, v, hm => by
    unfold St.vals at h
    split at h
    · rename_i v0 hg
      split at h
      · rename_i l' hl
        simp only [Option.some.injEq] at h
        subst h
        cases hm with
        | head => exact hg
        | tail _ hm => exact vals_mem hl t v hm
      · cases h
    · cases h

structure EndR where
  e : Ex
  ok : A
  l : List (Nat × V)

/-- A piece's end: it wrote no block that was there, and left no deferred call. -/
def endOf (km : Nat) (ts : List Nat) (p : Option (Ex × St)) : Option EndR := match p with
  | some (e, s) => match s.vals km ts, s.h.wr, s.defs with
    | some l, [], [] => some ⟨e, s.ok, l⟩
    | _, _, _ => none
  | none => none

theorem endOf_some {km : Nat} {ts : List Nat} {p : Option (Ex × St)} {r : EndR} (h : endOf km ts p = some r) : ∃ s, p = some (r.e, s) ∧ s.ok = r.ok ∧ s.vals km ts = some r.l ∧ s.h.wr = [] ∧ s.defs = [] := by
  unfold endOf at h
  split at h
  · rename_i e s
    split at h
    · rename_i l h1 h2 h3
      simp only [Option.some.injEq] at h
      subst h
      exact ⟨s, rfl, rfl, h1, h2, h3⟩
    · cases h
  · cases h

theorem goes_below {S : Nat → Prop} {ν ν' : Nu} {w w' : World} {h h' : H} (hw : h'.wr = []) (hm : Mem (fun _ => True) ν w h) (g : Goes S ν w h.mark ν' w' h') : Below w.heap.size w w' := by
  refine ⟨g.frm.os, g.frm.tape, g.frm.output, g.frm.size, fun r hr => g.frm.block r hr fun id base hb => ⟨?_, by rw [hw]; exact fun h => by cases h⟩⟩
  rw [g.ext.lo]
  show id < h.next
  refine Classical.byContradiction fun hge => ?_
  rw [hm.nums.fresh id (by omega)] at hb
  cases hb

/-- Memory that nothing has written. -/
theorem Mem.after {ν : Nu} {w w' : World} {h : H} (hm : Mem (fun _ => True) ν w h) (hb : Below w.heap.size w w') : Mem (fun _ => True) ν w' h :=
  ⟨⟨fun id r base h => Nat.lt_of_lt_of_le (hm.nums.lt id r base h) hb.size, hm.nums.inj, hm.nums.fresh, hm.nums.bound, hm.nums.lo, hm.nums.glob⟩,
    fun id b h1 h2 => (hm.seen id b h1 h2).mono (Nu.le_refl _) (fun r base h3 => hb.block r (hm.nums.lt id r base h3))⟩

/-- A phase that forgets what it made. -/
theorem phase_end {cx : Cx} {Γ : Gam} (X : CxOK cx Γ) {fuel n : Nat} {fp : Fp} (hlam : fp.lam = fun _ _ => none) {c : Code} {l : List (Nat × V)} {h : H} {ts : List Nat} {r : EndR}
    (hp : endOf fp.km ts (evalC cx (evalF cx Γ fuel n) fp fuel c (stOf l h)).pick = some r) (hok : okB r.ok = true) (hpl : (r.l.all fun p => plainS h.next p.2) = true) (hgl : ∀ g, g ∈ codeGl c [] → g ∈ h.gl)
    {ν : Nu} {a : Act} {w : World} {Q : Exit → Act → World → Prop} (hs : Stand fp ν h l a w)
    (hQ : ∀ ν' a' w' x, Stand fp ν h r.l a' w' → Below w.heap.size w w' → r.e.rel ν' x → Q x a' w') : c.wp cx.P Q a w := by
  obtain ⟨s, h1, h2, h3, h4, h5⟩ := endOf_some hp
  refine phase X hlam h1 (by rw [h2]; exact hok) hgl hs fun ν' a' w' x hc hg hx => ?_
  have hb := goes_below h4 hs.mem hg
  refine hQ ν' a' w' x ⟨hs.mem.after hb, fun t v htv => ?_, hc.size, ?_⟩ hb hx
  · have h6 := (hc.slots t).1
    rw [vals_mem h3 t v htv] at h6
    have h7 := List.all_eq_true.1 hpl _ htv
    exact plainS_old (fun id hid => hg.old id hid) h7 (h6 trivial)
  · have := hc.defers
    rw [h5] at this
    cases hd : a'.defers with
    | nil => rfl
    | cons _ _ => rw [hd] at this; exact this.elim

/-- A phase that keeps what it made: `h2` is its memory, but for what was noted. -/
theorem phase_grow {cx : Cx} {Γ : Gam} (X : CxOK cx Γ) {fuel n : Nat} {fp : Fp} (hlam : fp.lam = fun _ _ => none) {c : Code} {l : List (Nat × V)} {h h2 : H} {ts : List Nat} {r : EndR}
    (hp : endOf fp.km ts (evalC cx (evalF cx Γ fuel n) fp fuel c (stOf l h)).pick = some r)
    (hh : ((evalC cx (evalF cx Γ fuel n) fp fuel c (stOf l h)).pick.map fun p => (p.2.h.m, p.2.h.next, p.2.h.gl)) = some (h2.m, h2.next, h2.gl)) (hlo : h2.lo = h2.next) (hok : okB r.ok = true) (hgl : ∀ g, g ∈ codeGl c [] → g ∈ h.gl)
    {ν : Nu} {a : Act} {w : World} {Q : Exit → Act → World → Prop} (hs : Stand fp ν h l a w)
    (hQ : ∀ ν' a' w' x, Stand fp ν' h2 r.l a' w' → Below w.heap.size w w' → r.e.rel ν' x → Q x a' w') : c.wp cx.P Q a w := by
  obtain ⟨s, h1, h2', h3, h4, h5⟩ := endOf_some hp
  refine phase X hlam h1 (by rw [h2']; exact hok) hgl hs fun ν' a' w' x hc hg hx => ?_
  have hb := goes_below h4 hs.mem hg
  rw [h1] at hh
  simp only [Option.map_some, Option.some.injEq, Prod.mk.injEq] at hh
  obtain ⟨e1, e2, e3⟩ := hh
  have hm := hc.mem
  refine hQ ν' a' w' x ⟨⟨⟨hm.nums.lt, by rw [← e1]; exact hm.nums.inj, by rw [← e2]; exact hm.nums.fresh, by rw [← e1, ← e2]; exact hm.nums.bound, by rw [hlo]; exact Nat.le_refl _, by rw [← e3]; exact hm.nums.glob⟩, ?_⟩, fun t v htv => ?_, hc.size, ?_⟩ hb hx
  · intro id b hid _
    rw [← e1] at hid
    exact hm.seen id b hid (.inl (.inl trivial))
  · have h6 := (hc.slots t).1
    rw [vals_mem h3 t v htv] at h6
    exact h6 trivial
  · have := hc.defers
    rw [h5] at this
    cases hd : a'.defers with
    | nil => rfl
    | cons _ _ => rw [hd] at this; exact this.elim

/-- From a call to its text. -/
theorem calls_phases {P : Program} {f : FuncId} {fn : Func} {c : Code} {w : World} {vs : Array Value} {Q : Ending → World → Prop} (hf : P.funcs[f]? = some fn) (hc : fn.body = some c)
    (h : c.wp P (bodyPostD P fn Q) { tmps := vs ++ Array.replicate (fn.ntmps - vs.size) undef, defers := [] } w) : Calls P f vs w Q := calls_of_wp_defers hf hc h

/-- The end of a text whose result is a slot. -/
theorem end_ret {P : Program} {fn : Func} {t : Nat} {a : Act} {w : World} {u : Value} {Q : Ending → World → Prop} {x : Exit} (hr : fn.results = #[.tmp t]) (hx : x = .normal ∨ x = .ret) (hd : a.defers = []) (hu : a.tmps.getD t undef = u) (hQ : Q (.returned u) w) :
    bodyPostD P fn Q x a w := by
  subst hu
  have hl : Leaves P fn a.tmps Q a.defers .returning w := by
    rw [hd]
    refine ⟨a.tmps.getD t undef, ?_, hQ⟩
    simp [results, hr]
  rcases hx with rfl | rfl <;> exact hl

/-! ### loops -/

/-- Which way a piece goes, and either way. -/
def Out.cnd : Out → Option Bool
  | .node y _ _ => some y
  | _ => none
def Out.at (b : Bool) : Out → Option (Ex × St)
  | .node _ x y => (bif b then x else y).pick
  | _ => none

theorem Out.at_pick {o : Out} {b : Bool} (h : o.cnd = some b) : o.pick = o.at b := by
  cases o with
  | node y x z =>
    simp only [Out.cnd, Option.some.injEq] at h
    subst h
    cases y <;> rfl
  | _ => simp [Out.cnd] at h

/-- A piece that goes one of two ways. -/
theorem phase_way {cx : Cx} {Γ : Gam} (X : CxOK cx Γ) {fuel n : Nat} {fp : Fp} (hlam : fp.lam = fun _ _ => none) {c : Code} {l : List (Nat × V)} {h : H} {ts : List Nat} {r : EndR} {b : Bool}
    (hc : (evalC cx (evalF cx Γ fuel n) fp fuel c (stOf l h)).cnd = some b) (hp : endOf fp.km ts ((evalC cx (evalF cx Γ fuel n) fp fuel c (stOf l h)).at b) = some r) (hok : okB r.ok = true) (hpl : (r.l.all fun p => plainS h.next p.2) = true) (hgl : ∀ g, g ∈ codeGl c [] → g ∈ h.gl)
    {ν : Nu} {a : Act} {w : World} {Q : Exit → Act → World → Prop} (hs : Stand fp ν h l a w)
    (hQ : ∀ ν' a' w' x, Stand fp ν h r.l a' w' → Below w.heap.size w w' → r.e.rel ν' x → Q x a' w') : c.wp cx.P Q a w :=
  phase_end X hlam (by rw [Out.at_pick hc]; exact hp) hok hpl hgl hs hQ

/-- Slots that say less. -/
theorem Stand.weaken {fp : Fp} {ν : Nu} {h : H} {l l' : List (Nat × V)} {a : Act} {w : World} (hs : Stand fp ν h l a w) (hl : ∀ t v, (t, v) ∈ l' → ∀ u, (∀ v', (t, v') ∈ l → v'.rel ν u) → v.rel ν u) : Stand fp ν h l' a w :=
  ⟨hs.mem, fun t v htv => hl t v htv _ (fun v' h' => hs.slots t v' h'), hs.size, hs.defers⟩

/-- Slots told in the same order, each saying no more. -/
def LessL (ν : Nu) : List (Nat × V) → List (Nat × V) → Prop
  | [], [] => True
  | (t, v) :: r, (t', v') :: r' => t = t' ∧ (∀ u, v.rel ν u → v'.rel ν u) ∧ LessL ν r r'
  | _, _ => False
theorem LessL.mem {ν : Nu} : ∀ {l l' : List (Nat × V)}, LessL ν l l' → ∀ t v', (t, v') ∈ l' → ∃ v, (t, v) ∈ l ∧ ∀ u, v.rel ν u → v'.rel ν u
  | [], [], _, t, v', h => by cases h
  | (t0, v0) :: r, (t1, v1) :: r', h, t, v', hm => by
    obtain ⟨rfl, h1, h2⟩ := h
    cases hm with
    | head => exact ⟨v0, .head _, h1⟩
    | tail _ hm =>
      obtain ⟨v, h3, h4⟩ := LessL.mem h2 t v' hm
      exact ⟨v, .tail _ h3, h4⟩
theorem Stand.conv {fp : Fp} {ν : Nu} {h : H} {l l' : List (Nat × V)} {a : Act} {w : World} (hs : Stand fp ν h l a w) (hl : LessL ν l l') : Stand fp ν h l' a w :=
  hs.weaken fun t v htv u hu => by
    obtain ⟨v0, h1, h2⟩ := hl.mem t v htv
    exact h2 u (hu v0 h1)
theorem same_rel {ν : Nu} {v : V} : ∀ u, v.rel ν u → v.rel ν u := fun _ h => h
theorem lit_less {ν : Nu} {k : IntKind} {n : Int} {x : BitVec 64} (hx : x = BitVec.ofInt 64 n) : ∀ u, (V.t (.a (.lit k n))).rel ν u → (V.t (.a (.i k x))).rel ν u := by
  intro u h
  have h : (A.lit k n).rel ν u := h
  show (A.i k x).rel ν u
  simp only [A.rel] at h ⊢
  obtain ⟨rfl, hn⟩ := h
  rw [hx, vof_ofInt hn]
theorem less_lit {ν : Nu} {k : IntKind} {n : Int} {x : BitVec 64} (hx : x = BitVec.ofInt 64 n) (hn : k.wrap n = n) : ∀ u, (V.t (.a (.i k x))).rel ν u → (V.t (.a (.lit k n))).rel ν u := by
  intro u h
  have h : (A.i k x).rel ν u := h
  show (A.lit k n).rel ν u
  simp only [A.rel] at h ⊢
  subst hx
  exact ⟨by rw [h, vof_ofInt hn], hn⟩
theorem LessL.refl {ν : Nu} : ∀ l : List (Nat × V), LessL ν l l
  | [] => trivial
  | (_, _) :: r => ⟨rfl, same_rel, LessL.refl r⟩
theorem gl_none {c : Code} {h : H} (e : codeGl c [] = []) : ∀ g, g ∈ codeGl c [] → g ∈ h.gl := by
  rw [e]
  intro g hg
  cases hg

theorem Below.base {B : World} {w w' : World} (h : Below B.heap.size B w) (h' : Below w.heap.size w w') : Below B.heap.size B w' :=
  h.trans ⟨h'.os, h'.tape, h'.output, h'.size, fun k hk => h'.block k (Nat.lt_of_lt_of_le hk h.size)⟩

/-- A loop that counts: each round but the last leads on, the last one leaves it. -/
theorem for_loop {P : Program} {c : Code} {id : Nat} {Q : Exit → Act → World → Prop} (I : Nat → Act → World → Prop) (E : Act → World → Prop) (N : Nat)
    (h1 : ∀ k, k < N → ∀ a w, I k a w → c.wp P (fun x a' w' => x = .normal ∧ I (k + 1) a' w') a w)
    (h2 : ∀ a w, I N a w → c.wp P (fun x a' w' => x = .exit id ∧ E a' w') a w) {a : Act} {w : World} (h0 : I 0 a w) (hQ : ∀ a' w', E a' w' → Q .normal a' w') : (Code.block id (.loop c)).wp P Q a w := by
  refine wp_block (wp_loop_rounds (N + 1) ?_)
  have key : ∀ m k, k + m = N → ∀ a w, I k a w → Code.rounds P c (Exit.inBlock id Q) (m + 1) a w := by
    intro m
    induction m with
    | zero =>
      intro k hk a w hI
      obtain rfl : k = N := by omega
      rw [rounds_succ]
      refine wp_mono (h2 a w hI) ?_
      rintro x a' w' ⟨rfl, hE⟩
      show Exit.inBlock id Q (.exit id) a' w'
      simp only [Exit.inBlock, if_true]
      exact hQ a' w' hE
    | succ m ih =>
      intro k hk a w hI
      rw [rounds_succ]
      refine wp_mono (h1 k (by omega) a w hI) ?_
      rintro x a' w' ⟨rfl, hI'⟩
      exact ih (k + 1) (by omega) a' w' hI'
  exact key N 0 (by omega) a w h0

/-- A body that is walked in two pieces, both of which go on. -/
theorem wp_two {P : Program} {x y : Code} {Q : Exit → Act → World → Prop} {J : Act → World → Prop} {a : Act} {w : World} (hx : x.wp P (fun e a' w' => e = .normal ∧ J a' w') a w) (hy : ∀ a' w', J a' w' → y.wp P Q a' w') : (Code.seq x y).wp P Q a w := by
  refine wp_seq (wp_mono hx ?_)
  rintro e a' w' ⟨rfl, hJ⟩
  exact hy a' w' hJ

/-- A body of which the first piece leaves. -/
theorem wp_out {P : Program} {x y : Code} {R : Act → World → Prop} {id : Nat} {a : Act} {w : World} (hx : x.wp P (fun e a' w' => e = .exit id ∧ R a' w') a w) : (Code.seq x y).wp P (fun e a' w' => e = .exit id ∧ R a' w') a w := by
  refine wp_seq (wp_mono hx ?_)
  rintro e a' w' ⟨rfl, hJ⟩
  exact ⟨rfl, hJ⟩

/-- A block that goes on. -/
theorem wp_in {P : Program} {x : Code} {R : Act → World → Prop} {id : Nat} {a : Act} {w : World} (hx : x.wp P (fun e a' w' => e = .normal ∧ R a' w') a w) : (Code.block id x).wp P (fun e a' w' => e = .normal ∧ R a' w') a w := by
  refine wp_block (wp_mono hx ?_)
  rintro e a' w' ⟨rfl, hJ⟩
  exact ⟨rfl, hJ⟩

/-- Between two phases: what stands, and that the world of the beginning is as it was. -/
def At (fp : Fp) (h : H) (W : World) (ν : Nu) (l : List (Nat × V)) (a : Act) (w : World) : Prop := Stand fp ν h l a w ∧ Below W.heap.size W w

section
variable {cx : Cx} {Γ : Gam} {fuel n : Nat} {fp : Fp} {c : Code} {l l' l'' : List (Nat × V)} {h : H} {ts : List Nat} {ok : A} {W : World} {ν : Nu} {a : Act} {w : World}

theorem At.go (X : CxOK cx Γ) (hlam : fp.lam = fun _ _ => none) (hp : endOf fp.km ts (evalC cx (evalF cx Γ fuel n) fp fuel c (stOf l h)).pick = some ⟨.nrm, ok, l'⟩) (hok : okB ok = true) (hpl : (l'.all fun p => plainS h.next p.2) = true) (hgl : codeGl c [] = [])
    (hl : LessL ν l' l'') (hI : At fp h W ν l a w) : c.wp cx.P (fun x a' w' => x = .normal ∧ At fp h W ν l'' a' w') a w :=
  phase_end X hlam hp hok hpl (gl_none hgl) hI.1 (fun ν' a' w' x hs hb hx => ⟨hx, hs.conv hl, Below.base hI.2 hb⟩)
theorem At.goB {b : Bool} (X : CxOK cx Γ) (hlam : fp.lam = fun _ _ => none) (hc : (evalC cx (evalF cx Γ fuel n) fp fuel c (stOf l h)).cnd = some b) (hp : endOf fp.km ts ((evalC cx (evalF cx Γ fuel n) fp fuel c (stOf l h)).at b) = some ⟨.nrm, ok, l'⟩) (hok : okB ok = true)
    (hpl : (l'.all fun p => plainS h.next p.2) = true) (hgl : codeGl c [] = []) (hl : LessL ν l' l'') (hI : At fp h W ν l a w) : c.wp cx.P (fun x a' w' => x = .normal ∧ At fp h W ν l'' a' w') a w :=
  phase_way X hlam hc hp hok hpl (gl_none hgl) hI.1 (fun ν' a' w' x hs hb hx => ⟨hx, hs.conv hl, Below.base hI.2 hb⟩)
theorem At.outB {b : Bool} {id : Nat} (X : CxOK cx Γ) (hlam : fp.lam = fun _ _ => none) (hc : (evalC cx (evalF cx Γ fuel n) fp fuel c (stOf l h)).cnd = some b) (hp : endOf fp.km ts ((evalC cx (evalF cx Γ fuel n) fp fuel c (stOf l h)).at b) = some ⟨.exit id, ok, l'⟩) (hok : okB ok = true)
    (hpl : (l'.all fun p => plainS h.next p.2) = true) (hgl : codeGl c [] = []) (hl : LessL ν l' l'') (hI : At fp h W ν l a w) : c.wp cx.P (fun x a' w' => x = .exit id ∧ At fp h W ν l'' a' w') a w :=
  phase_way X hlam hc hp hok hpl (gl_none hgl) hI.1 (fun ν' a' w' x hs hb hx => ⟨hx, hs.conv hl, Below.base hI.2 hb⟩)
theorem At.grow {h2 : H} (X : CxOK cx Γ) (hlam : fp.lam = fun _ _ => none) (hp : endOf fp.km ts (evalC cx (evalF cx Γ fuel n) fp fuel c (stOf l h)).pick = some ⟨.nrm, ok, l'⟩)
    (hh : ((evalC cx (evalF cx Γ fuel n) fp fuel c (stOf l h)).pick.map fun p => (p.2.h.m, p.2.h.next, p.2.h.gl)) = some (h2.m, h2.next, h2.gl)) (hlo : h2.lo = h2.next) (hok : okB ok = true) (hgl : codeGl c [] = [])
    (hI : At fp h W ν l a w) : c.wp cx.P (fun x a' w' => x = .normal ∧ ∃ ν', At fp h2 W ν' l' a' w') a w :=
  phase_grow X hlam hp hh hlo hok (gl_none hgl) hI.1 (fun ν' a' w' x hs hb hx => ⟨hx, ν', hs, Below.base hI.2 hb⟩)
theorem At.ret {u : Value} {e : Ex} {fn : Func} {t : Nat} {v : V} {R : Ending → World → Prop} (X : CxOK cx Γ) (hlam : fp.lam = fun _ _ => none) (hp : endOf fp.km ts (evalC cx (evalF cx Γ fuel n) fp fuel c (stOf l h)).pick = some ⟨e, ok, [(t, v)]⟩) (hok : okB ok = true) (hpl : plainS h.next v = true)
    (hgl : codeGl c [] = []) (he : ∀ ν x, e.rel ν x → x = .normal ∨ x = .ret) (hr : fn.results = #[.tmp t]) (hv : ∀ ν x, v.rel ν x → x = u) (hR : ∀ w', Below W.heap.size W w' → R (.returned u) w') (hI : At fp h W ν l a w) : c.wp cx.P (bodyPostD cx.P fn R) a w :=
  phase_end X hlam hp hok (by simp [hpl]) (gl_none hgl) hI.1 (fun ν' a' w' x hs hb hx => end_ret hr (he _ _ hx) hs.defers (hv _ _ (hs.slots t v (.head _))) (hR _ (Below.base hI.2 hb)))
end

/-! ### a text's pieces -/

def bodyOf (P : Program) (f : Nat) : Code := match P.funcs[f]? with
  | some fn => match fn.body with
    | some c => c
    | none => .skip
  | none => .skip

/-- Contracts of functions that leave memory as it is. -/
def specG (f : FuncId) (spec : List V → Option (A × V)) (Γ : Gam) : Gam := fun g args h => match Nat.beq g f with
  | true => match spec args with
    | some (ok, v) => some (.leaf ok v h)
    | none => Γ g args h
  | false => Γ g args h

theorem specG_ok {P : Program} {f : FuncId} {spec : List V → Option (A × V)} {Γ : Gam} (hs : ∀ args ok v, spec args = some (ok, v) → okB ok = true → PureOK P f args v) (hΓ : ΓOK P Γ) : ΓOK P (specG f spec Γ) where
  ok := by
    intro g args h r ok v h' hr hp hok
    unfold specG at hr
    split at hr
    · rename_i hb
      have := Go.WE.beq_true hb
      subst this
      split at hr
      · rename_i ok1 v1 hsp
        cases hr
        simp only [R.pick, Option.some.injEq, Prod.mk.injEq] at hp
        obtain ⟨rfl, rfl, rfl⟩ := hp
        rcases hs args _ _ hsp hok with ⟨h1, h2⟩ | h1
        · exact .inl ⟨h1, h2 _⟩
        · exact .inr ⟨h1, rfl⟩
      · exact hΓ.ok g args h r ok v h' hr hp hok
    · exact hΓ.ok g args h r ok v h' hr hp hok
  pan := by
    intro g args h r ok v h' hr hp hok
    unfold specG at hr
    split at hr
    · split at hr
      · cases hr; simp [R.pickP] at hp
      · exact hΓ.pan g args h r ok v h' hr hp hok
    · exact hΓ.pan g args h r ok v h' hr hp hok
  ext := by
    intro g args h r hr hlo
    unfold specG at hr
    split at hr
    · split at hr
      · cases hr; exact Ext.refl _
      · exact hΓ.ext g args h r hr hlo
    · exact hΓ.ext g args h r hr hlo

theorem PureOK.less {P : Program} {f : FuncId} {args : List V} {v v' : V} (h : PureOK P f args v) (hw : ∀ ν u, v.rel ν u → v'.rel ν u) : PureOK P f args v' := by
  rcases h with ⟨h1, h2⟩ | h
  · refine .inl ⟨h1, fun h S ν w vs hr hw' hm hv => (h2 h S ν w vs hr hw' hm hv).mono ?_⟩
    rintro e w' ⟨u, ν', rfl, hu, g⟩
    exact ⟨u, ν', rfl, hw _ _ hu, g⟩
  · refine .inr fun ν w vs hv => ?_
    obtain ⟨u, h1, h2⟩ := h ν w vs hv
    exact ⟨u, h1, hw _ _ h2⟩
/-- A contract out of what is known of calls. -/
theorem pure_of_calls {P : Program} {f : FuncId} {args : List V} {v : V} (he : Enters P f) {q : Value → Prop} (hq : ∀ ν u, q u → v.rel ν u)
    (hc : ∀ ν vs w, relV ν args vs → Calls P f vs.toArray w (fun e w' => ∃ u, e = .returned u ∧ q u ∧ Below w.heap.size w w')) : PureOK P f args v := by
  refine .inl ⟨he, fun h S ν w vs _ _ hm hargs => ?_⟩
  refine (hc ν vs w hargs).mono ?_
  rintro e w' ⟨u, rfl, hu, hb⟩
  refine ⟨u, ν, rfl, hq ν u hu, ⟨Nu.le_refl _, ⟨⟨fun id r base h => Nat.lt_of_lt_of_le (hm.nums.lt id r base h) hb.size, hm.nums.inj, hm.nums.fresh, hm.nums.bound, hm.nums.lo, hm.nums.glob⟩, fun id b h1 h2 => ?_⟩,
    ⟨hb.os, hb.tape, hb.output, hb.size, fun r hr _ => hb.block r hr⟩, fun id r base h h' => (by rw [h] at h'; cases h'), Ext.refl _, fun _ _ => rfl⟩⟩
  exact (hm.seen id b h1 h2).mono (Nu.le_refl _) (fun r base h3 => hb.block r (hm.nums.lt id r base h3))

theorem bv_val {x : A} {k : IntKind} {y : BitVec 64} (h : x.bv = some (k, y)) {ν : Nu} {u : Value} (hr : x.rel ν u) : u = .int k (vof k y) := by
  cases x <;> simp [A.bv] at h
  · obtain ⟨rfl, rfl⟩ := h
    simp only [A.rel] at hr
    obtain ⟨rfl, hn⟩ := hr
    rw [vof_ofInt hn]
  · obtain ⟨rfl, rfl⟩ := h
    simpa only [A.rel] using hr
end Go.WE
