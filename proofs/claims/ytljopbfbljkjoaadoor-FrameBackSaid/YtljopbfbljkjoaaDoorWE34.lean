/- WE34: phases with memory of their own: blocks told one by one, that are all newer than the world of the call. -/
import Derived.Test.YtljopbfbljkjoaaDoorWE33
namespace Go.WE
set_option linter.unusedVariables false
open Go
open Go.RowKit (Below)

def memT : List (Nat × Blk) → Tr Blk
  | [] => .nil
  | (i, b) :: r => (memT r).set i b
/-- A memory told block by block. -/
def hM (ms : List (Nat × Blk)) (n : Nat) : H := ⟨memT ms, [], [], n, n, []⟩

theorem get_memT : ∀ (ms : List (Nat × Blk)) (i : Nat) (b : Blk), (memT ms).get i = some b → (i, b) ∈ ms
  | [], i, b, h => by simp [memT, Tr.get_nil] at h
  | (j, c) :: r, i, b, h => by
    have h2 : ((memT r).set j c).get i = some b := h
    rw [Tr.get_set] at h2
    by_cases e : j = i
    · rw [if_pos e] at h2
      subst e
      obtain rfl : c = b := Option.some.inj h2
      exact .head _
    · rw [if_neg e] at h2
      exact .tail _ (get_memT r i b h2)

/-- Between two phases. -/
def Own (fp : Fp) (n : Nat) (ms : List (Nat × Blk)) (W : World) (l : List (Nat × V)) (a : Act) (w : World) : Prop :=
  ∃ ν, Stand fp ν (hM ms n) l a w ∧ Below W.heap.size W w ∧ ∀ id r base, ν id = some (r, base) → W.heap.size ≤ r

/-- Blocks told in the same order, each saying no more. -/
def LessM : List (Nat × Blk) → List (Nat × Blk) → Prop
  | [], [] => True
  | (i, b) :: r, (i', b') :: r' => i = i' ∧ (b.rw = b'.rw ∧ ∀ ν vs, b.t.rel ν vs → b'.t.rel ν vs) ∧ LessM r r'
  | _, _ => False
theorem LessM.mem : ∀ {ms ms' : List (Nat × Blk)}, LessM ms ms' → ∀ i b', (i, b') ∈ ms' → ∃ b, (i, b) ∈ ms ∧ b.rw = b'.rw ∧ ∀ ν vs, b.t.rel ν vs → b'.t.rel ν vs
  | [], [], _, i, b', h => by cases h
  | (i0, b0) :: r, (i1, b1) :: r', h, i, b', hm => by
    obtain ⟨rfl, h1, h2⟩ := h
    cases hm with
    | head => exact ⟨b0, .head _, h1⟩
    | tail _ hm =>
      obtain ⟨b, h3, h4⟩ := LessM.mem h2 i b' hm
      exact ⟨b, .tail _ h3, h4⟩
theorem same_blk {b : Blk} : b.rw = b.rw ∧ ∀ ν vs, b.t.rel ν vs → b.t.rel ν vs := ⟨rfl, fun _ _ h => h⟩
theorem LessM.refl : ∀ ms : List (Nat × Blk), LessM ms ms
  | [] => trivial
  | (_, _) :: r => ⟨rfl, same_blk, LessM.refl r⟩

/-- The blocks that are asked for. -/
def H.vals (h : H) : List Nat → Option (List (Nat × Blk))
  | [] => some []
  | i :: is => match h.m.get i with
    | some b => match h.vals is with
      | some l => some ((i, b) :: l)
      | Option.none => Option.none
    | Option.none => Option.none
theorem hvals_mem {h : H} : ∀ {is : List Nat} {l : List (Nat × Blk)}, h.vals is = some l → ∀ i b, (i, b) ∈ l → h.m.get i = some b
  | [], l, e, i, b, hm => by simp only [H.vals, Option.some.injEq] at e; subst e; cases hm
  | i0 :: is, l, e, i, b, hm => by
    unfold H.vals at e
    split at e
    · rename_i b0 hb
      split at e
      · rename_i l' hl
        simp only [Option.some.injEq] at e
        subst e
        cases hm with
        | head => exact hb
        | tail _ hm => exact hvals_mem hl i b hm
      · cases e
    · cases e

structure EndM where
  e : Ex
  ok : A
  l : List (Nat × V)
  ms : List (Nat × Blk)

/-- A piece's end, with its memory; `n`: the blocks below it are kept. -/
def endM (km : Nat) (ts is : List Nat) (n : Nat) (p : Option (Ex × St)) : Option EndM := match p with
  | some (e, s) => match s.vals km ts, s.h.vals is, s.defs, Nat.ble n s.h.next && is.all (fun i => Nat.blt i n) with
    | some l, some ms, [], true => match ms.all (fun p => notMp p.2.t) with
      | true => some ⟨e, s.ok, l, ms⟩
      | false => none
    | _, _, _, _ => none
  | none => none

theorem hvals_ids {h : H} : ∀ {is : List Nat} {l : List (Nat × Blk)}, h.vals is = some l → ∀ i b, (i, b) ∈ l → i ∈ is
  | [], l, e, i, b, hm => by simp only [H.vals, Option.some.injEq] at e; subst e; cases hm
  | i0 :: is, l, e, i, b, hm => by
    unfold H.vals at e
    split at e
    · split at e
      · rename_i l' hl
        simp only [Option.some.injEq] at e
        subst e
        cases hm with
        | head => exact .head _
        | tail _ hm => exact .tail _ (hvals_ids hl i b hm)
      · cases e
    · cases e

theorem endM_some {km : Nat} {ts is : List Nat} {n : Nat} {p : Option (Ex × St)} {r : EndM} (h : endM km ts is n p = some r) : ∃ s, p = some (r.e, s) ∧ s.ok = r.ok ∧ s.vals km ts = some r.l ∧ s.h.vals is = some r.ms ∧ s.defs = [] ∧ n ≤ s.h.next ∧ (∀ i, i ∈ is → i < n) ∧ (r.ms.all fun p => notMp p.2.t) = true := by
  unfold endM at h
  split at h
  · rename_i e s
    split at h
    · rename_i l ms h1 h2 h3 h4
      split at h
      · rename_i h5
        simp only [Option.some.injEq] at h
        subst h
        simp only [Bool.and_eq_true, List.all_eq_true] at h4
        exact ⟨s, rfl, rfl, h1, h2, h3, Nat.le_of_ble_eq_true h4.1, fun i hi => by simpa using h4.2 i hi, h5⟩
      · cases h
    · cases h
  · cases h

/-- Slots told in the same order, in any numbering. -/
def LessA (l l' : List (Nat × V)) : Prop := ∀ ν, LessL ν l l'
theorem LessA.refl (l : List (Nat × V)) : LessA l l := fun _ => LessL.refl l

section
variable {cx : Cx} {Γ : Gam} {fuel d : Nat} {fp : Fp} {c : Code} {l l' l'' : List (Nat × V)} {ms ms' ms'' : List (Nat × Blk)} {n n' : Nat} {ts is : List Nat} {ok : A} {W : World} {a : Act} {w : World}

theorem Own.phase {r : EndM} (X : CxOK cx Γ) (hlam : fp.lam = fun _ _ => none) (hp : endM fp.km ts is n' (evalC cx (evalF cx Γ fuel d) fp fuel c (stOf l (hM ms n))).pick = some r) (hok : okB r.ok = true)
    (hpl : (r.l.all fun p => plainS n' p.2) = true) (hfr : (ms''.all fun p => p.2.t.free) = true) (hgl : codeGl c [] = []) (hl : LessA r.l l'') (hm : LessM r.ms ms'') (hI : Own fp n ms W l a w) {Q : Exit → Act → World → Prop}
    (hQ : ∀ ν' a' w' x, r.e.rel ν' x → Own fp n' ms'' W l'' a' w' → Q x a' w') : c.wp cx.P Q a w := by
  obtain ⟨ν, hs, hb, hn⟩ := hI
  obtain ⟨s, h1, h2, h3, h4, h5, h6, h7, h8⟩ := endM_some hp
  refine WE.phase X hlam h1 (by rw [h2]; exact hok) (gl_none hgl) hs fun ν' a' w' x hc hg hx => hQ ν' a' w' x hx ?_
  have hn' : ∀ id r base, ν' id = some (r, base) → W.heap.size ≤ r := fun id r base hid => by
    cases hν : ν id with
    | none => exact Nat.le_trans hb.size (hg.new id r base hν hid)
    | some p =>
      have := hg.le id p hν
      rw [hid] at this
      cases this
      exact hn id r base hν
  have hbel : Below W.heap.size W w' := hb.trans ⟨hg.frm.os, hg.frm.tape, hg.frm.output, hg.frm.size, fun r hr => hg.frm.block r (Nat.lt_of_lt_of_le hr hb.size) fun id base hid => by
    have := hn id r base hid
    omega⟩
  let ν2 : Nu := fun id => if id < n' then ν' id else none
  have hold : ∀ id, id < n' → ν' id = ν2 id := fun id hid => by simp [ν2, hid]
  have hν2 : ∀ id p, ν2 id = some p → ν' id = some p := fun id p h => by
    simp only [ν2] at h
    split at h
    · exact h
    · cases h
  have hmem := hc.mem
  have hget : ∀ id b'', (hM ms'' n').m.get id = some b'' → ∃ b, s.h.m.get id = some b ∧ b.rw = b''.rw ∧ (∀ ν vs, b.t.rel ν vs → b''.t.rel ν vs) ∧ id < n' ∧ b''.t.free = true ∧ notMp b.t = true := fun id b'' h => by
    have hm1 := get_memT ms'' id b'' h
    obtain ⟨b, hb1, hb2, hb3⟩ := hm.mem id b'' hm1
    exact ⟨b, hvals_mem h4 id b hb1, hb2, hb3, h7 id (hvals_ids h4 id b hb1), List.all_eq_true.1 hfr _ hm1, List.all_eq_true.1 h8 _ hb1⟩
  refine ⟨ν2, ⟨⟨⟨fun id r base h => hmem.nums.lt id r base (hν2 _ _ h), fun id b'' hb'' hrw id' r base base' e1 e2 => ?_, fun id hid => ?_, fun id b'' hb'' => (hget id b'' hb'').choose_spec.2.2.2.1, Nat.le_refl _, fun g hg => by cases hg⟩, fun id b'' hb'' _ => ?_⟩, fun t v htv => ?_, hc.size, ?_⟩, hbel, fun id r base h => hn' id r base (hν2 _ _ h)⟩
  · obtain ⟨b, q1, q2, _⟩ := hget id b'' hb''
    exact hmem.nums.inj id b q1 (by rw [q2]; exact hrw) id' r base base' (hν2 _ _ e1) (hν2 _ _ e2)
  · have hid : n' ≤ id := hid
    simp only [ν2]
    rw [if_neg (by omega)]
  · obtain ⟨b, q1, q2, q3, q4, q5, q6⟩ := hget id b'' hb''
    obtain ⟨r, base, cs, ty, fr, pre, vs, post, z1, z2, z3, z4, z5, z6⟩ := (hmem.seen id b q1 (.inl (.inl trivial))).cells q6
    exact .inl ⟨r, base, cs, ty, fr, pre, vs, post, (hold id q4) ▸ z1, z2, z3, z4, T.rel_free q5 (q3 _ _ z5), fun h => z6 (by rw [q2]; exact h)⟩
  · obtain ⟨v0, q1, q2⟩ := (hl ν2).mem t v htv
    refine q2 _ ?_
    have q3 := (hc.slots t).1
    rw [vals_mem h3 t v0 q1] at q3
    exact plainS_old hold (List.all_eq_true.1 hpl _ q1) (q3 trivial)
  · have := hc.defers
    rw [h5] at this
    cases hd : a'.defers with
    | nil => rfl
    | cons _ _ => rw [hd] at this; exact this.elim

theorem Own.go (X : CxOK cx Γ) (hlam : fp.lam = fun _ _ => none) (hp : endM fp.km ts is n' (evalC cx (evalF cx Γ fuel d) fp fuel c (stOf l (hM ms n))).pick = some ⟨.nrm, ok, l', ms'⟩) (hok : okB ok = true)
    (hpl : (l'.all fun p => plainS n' p.2) = true) (hfr : (ms''.all fun p => p.2.t.free) = true) (hgl : codeGl c [] = []) (hl : LessA l' l'') (hm : LessM ms' ms'') (hI : Own fp n ms W l a w) :
    c.wp cx.P (fun x a' w' => x = .normal ∧ Own fp n' ms'' W l'' a' w') a w :=
  Own.phase X hlam hp hok hpl hfr hgl hl hm hI (fun ν' a' w' x hx h => ⟨hx, h⟩)
theorem Own.goB {b : Bool} (X : CxOK cx Γ) (hlam : fp.lam = fun _ _ => none) (hc : (evalC cx (evalF cx Γ fuel d) fp fuel c (stOf l (hM ms n))).cnd = some b) (hp : endM fp.km ts is n' ((evalC cx (evalF cx Γ fuel d) fp fuel c (stOf l (hM ms n))).at b) = some ⟨.nrm, ok, l', ms'⟩) (hok : okB ok = true)
    (hpl : (l'.all fun p => plainS n' p.2) = true) (hfr : (ms''.all fun p => p.2.t.free) = true) (hgl : codeGl c [] = []) (hl : LessA l' l'') (hm : LessM ms' ms'') (hI : Own fp n ms W l a w) :
    c.wp cx.P (fun x a' w' => x = .normal ∧ Own fp n' ms'' W l'' a' w') a w :=
  Own.phase (r := ⟨.nrm, ok, l', ms'⟩) X hlam (by rw [Out.at_pick hc]; exact hp) hok hpl hfr hgl hl hm hI (fun ν' a' w' x hx h => ⟨hx, h⟩)
theorem Own.outB {b : Bool} {id : Nat} (X : CxOK cx Γ) (hlam : fp.lam = fun _ _ => none) (hc : (evalC cx (evalF cx Γ fuel d) fp fuel c (stOf l (hM ms n))).cnd = some b) (hp : endM fp.km ts is n' ((evalC cx (evalF cx Γ fuel d) fp fuel c (stOf l (hM ms n))).at b) = some ⟨.exit id, ok, l', ms'⟩) (hok : okB ok = true)
    (hpl : (l'.all fun p => plainS n' p.2) = true) (hfr : (ms''.all fun p => p.2.t.free) = true) (hgl : codeGl c [] = []) (hl : LessA l' l'') (hm : LessM ms' ms'') (hI : Own fp n ms W l a w) :
    c.wp cx.P (fun x a' w' => x = .exit id ∧ Own fp n' ms'' W l'' a' w') a w :=
  Own.phase (r := ⟨.exit id, ok, l', ms'⟩) X hlam (by rw [Out.at_pick hc]; exact hp) hok hpl hfr hgl hl hm hI (fun ν' a' w' x hx h => ⟨hx, h⟩)

/-- Ahead of a function's text. -/
theorem Own.enter {vs : Array Value} {W : World} (hv : ∀ t v, (t, v) ∈ l → v.rel nu0 ((vs ++ Array.replicate (fp.nt - vs.size) undef).getD t undef)) (hsz : vs.size ≤ fp.nt) :
    Own fp 0 [] W l { tmps := vs ++ Array.replicate (fp.nt - vs.size) undef, defers := [] } W :=
  ⟨nu0, ⟨mem_none _ W, hv, by simp; omega, rfl⟩, Below.refl _ _, fun id r base h => by cases h⟩

/-- Arguments as slots. -/
def argsL : Nat → List V → List (Nat × V)
  | _, [] => []
  | i, v :: r => (i, v) :: argsL (i + 1) r
theorem argsL_rel {ν : Nu} {tmps : Array Value} : ∀ (args : List V) (vs : List Value) (i : Nat), relV ν args vs → (∀ j, j < vs.length → tmps.getD (i + j) undef = vs.getD j undef) → ∀ t v, (t, v) ∈ argsL i args → v.rel ν (tmps.getD t undef)
  | [], _, i, _, _, t, v, h => by cases h
  | a :: as, u :: us, i, hv, ht, t, v, h => by
    cases h with
    | head =>
      have := ht 0 (by simp)
      simp only [Nat.add_zero, List.getD_cons_zero] at this
      rw [this]
      exact hv.1
    | tail _ h =>
      refine argsL_rel as us (i + 1) hv.2 (fun j hj => ?_) t v h
      have := ht (j + 1) (by simp; omega)
      simp only [List.getD_cons_succ] at this
      rw [← this]
      congr 1
      omega
  | _ :: _, [], _, hv, _, _, _, _ => hv.elim
theorem Own.enterA {args : List V} {vs : List Value} {W : World} (hv : relV nu0 args vs) (hsz : args.length ≤ fp.nt) :
    Own fp 0 [] W (argsL 0 args) { tmps := vs.toArray ++ Array.replicate (fp.nt - vs.toArray.size) undef, defers := [] } W := by
  have hlen := relV_length hv
  refine Own.enter (fun t v h => ?_) (by simp; omega)
  refine argsL_rel args vs 0 hv (fun j hj => ?_) t v h
  simp [Array.getD_eq_getD_getElem?, Array.getElem?_append, hj]

/-- The end of a text, with its result. -/
def retOf (P : Program) (km : Nat) (rs : List ResultVar) (p : Option (Ex × St)) : Option (A × A × V) := match p with
  | some (.nrm, s) => match resOf P km rs s, s.defs with
    | some (o, v, _), [] => some (s.ok, o, v)
    | _, _ => none
  | some (.ret, s) => match resOf P km rs s, s.defs with
    | some (o, v, _), [] => some (s.ok, o, v)
    | _, _ => none
  | _ => none

theorem retOf_some {P : Program} {km : Nat} {rs : List ResultVar} {p : Option (Ex × St)} {o1 o2 : A} {v : V} (h : retOf P km rs p = some (o1, o2, v)) : ∃ e s h', p = some (e, s) ∧ (e = .nrm ∨ e = .ret) ∧ s.ok = o1 ∧ resOf P km rs s = some (o2, v, h') ∧ s.defs = [] := by
  unfold retOf at h
  split at h
  · split at h
    · rename_i h1 h2
      simp only [Option.some.injEq, Prod.mk.injEq] at h
      obtain ⟨rfl, rfl, rfl⟩ := h
      exact ⟨_, _, _, rfl, .inl rfl, rfl, h1, h2⟩
    · cases h
  · split at h
    · rename_i h1 h2
      simp only [Option.some.injEq, Prod.mk.injEq] at h
      obtain ⟨rfl, rfl, rfl⟩ := h
      exact ⟨_, _, _, rfl, .inr rfl, rfl, h1, h2⟩
    · cases h
  · cases h

theorem Own.ret {fn : Func} {o1 o2 : A} {v : V} {R : Ending → World → Prop} (X : CxOK cx Γ) (hlam : fp.lam = fun _ _ => none)
    (hp : retOf cx.P fp.km fn.results.toList (evalC cx (evalF cx Γ fuel d) fp fuel c (stOf l (hM ms n))).pick = some (o1, o2, v)) (ho1 : okB o1 = true) (ho2 : okB o2 = true) (hgl : codeGl c [] = []) (hI : Own fp n ms W l a w)
    (hR : ∀ ν u w', v.rel ν u → Below W.heap.size W w' → R (.returned u) w') : c.wp cx.P (bodyPostD cx.P fn R) a w := by
  obtain ⟨ν, hs, hb, hn⟩ := hI
  obtain ⟨e, s, h', h1, he, h2, h3, h4⟩ := retOf_some hp
  refine WE.phase X hlam h1 (by rw [h2]; exact ho1) (gl_none hgl) hs fun ν' a' w' x hc hg hx => ?_
  have hbel : Below W.heap.size W w' := hb.trans ⟨hg.frm.os, hg.frm.tape, hg.frm.output, hg.frm.size, fun r hr => hg.frm.block r (Nat.lt_of_lt_of_le hr hb.size) fun id base hid => by
    have := hn id r base hid
    omega⟩
  obtain ⟨u, hu, hrun, g⟩ := resOf_sound (fp := fp) (S := markS (fun _ => True) (hM ms n)) h3 ho2 (fun _ _ => .inl trivial) rfl (ν := ν') (a := a') (w := w') hc
  have hd : a'.defers = [] := by
    have := hc.defers
    rw [h4] at this
    cases hd : a'.defers with
    | nil => rfl
    | cons _ _ => rw [hd] at this; exact this.elim
  have hl : Leaves cx.P fn a'.tmps R a'.defers .returning w' := by
    rw [hd]
    exact ⟨u, hrun, hR _ _ _ hu hbel⟩
  rcases he with rfl | rfl
  · have hx : x = .normal := hx
    subst hx
    exact hl
  · have hx : x = .ret := hx
    subst hx
    exact hl

/-- What a block tells. -/
theorem Own.seen {i : Nat} {b : Blk} (h : Own fp n ms W l a w) (hb : (memT ms).get i = some b) : ∃ ν, Seen ν w i b ∧ ∀ t v, (t, v) ∈ l → v.rel ν (a.tmps.getD t undef) := by
  obtain ⟨ν, hs, _, _⟩ := h
  exact ⟨ν, hs.mem.seen i b hb (.inl trivial), hs.slots⟩
end
end Go.WE
