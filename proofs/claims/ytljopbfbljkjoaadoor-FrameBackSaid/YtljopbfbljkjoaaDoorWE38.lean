/- WE38: phases beside old blocks that nobody writes; a call over one block, at any memory. -/
import Derived.Test.YtljopbfbljkjoaaDoorWE37
namespace Go.WE
set_option linter.unusedVariables false
open Go
open Go.RowKit (Below)

/-- As `Own`; blocks of the caller may be there, if they are not to be written. -/
def OwnL (fp : Fp) (n : Nat) (ms : List (Nat × Blk)) (W : World) (l : List (Nat × V)) (a : Act) (w : World) : Prop :=
  ∃ ν, Stand fp ν (hM ms n) l a w ∧ Below W.heap.size W w ∧ ∀ id r base, ν id = some (r, base) → W.heap.size ≤ r ∨ ∀ b, (hM ms n).m.get id = some b → b.rw = false

section
variable {cx : Cx} {Γ : Gam} {fuel d : Nat} {fp : Fp} {c : Code} {l l' l'' : List (Nat × V)} {ms ms' ms'' : List (Nat × Blk)} {n n' : Nat} {ts is : List Nat} {ok : A} {W : World} {a : Act} {w : World}

theorem OwnL.below {ν ν' : Nu} {h' : H} {w' : World} (hm : Mem (fun _ => True) ν w (hM ms n)) (hb : Below W.heap.size W w) (hn : ∀ id r base, ν id = some (r, base) → W.heap.size ≤ r ∨ ∀ b, (hM ms n).m.get id = some b → b.rw = false) {S : Nat → Prop} (hg : Goes S ν w (hM ms n).mark ν' w' h') : Below W.heap.size W w' := by
  refine hb.trans ⟨hg.frm.os, hg.frm.tape, hg.frm.output, hg.frm.size, fun r hr => hg.frm.block r (Nat.lt_of_lt_of_le hr hb.size) fun id base hid => ?_⟩
  have hlt : id < n := by
    refine Classical.byContradiction fun hge => ?_
    rw [hm.nums.fresh id (show n ≤ id by omega)] at hid
    cases hid
  refine ⟨by rw [hg.ext.lo]; exact hlt, fun hw => ?_⟩
  rcases hn id r base hid with h | h
  · omega
  · rcases hg.ext.wrw id hw with h3 | ⟨b, h3, h4⟩ | h3
    · cases h3
    · rw [h b h3] at h4; cases h4
    · have h3 : n ≤ id := h3
      omega

theorem OwnL.phase {r : EndM} (X : CxOK cx Γ) (hlam : fp.lam = fun _ _ => none) (hp : endM fp.km ts is n' (evalC cx (evalF cx Γ fuel d) fp fuel c (stOf l (hM ms n))).pick = some r) (hok : okB r.ok = true)
    (hpl : (r.l.all fun p => plainS n' p.2) = true) (hfr : (ms''.all fun p => p.2.t.free) = true) (hgl : codeGl c [] = []) (hl : LessA r.l l'') (hm : LessM r.ms ms'') (hI : OwnL fp n ms W l a w) {Q : Exit → Act → World → Prop}
    (hQ : ∀ ν' a' w' x, r.e.rel ν' x → OwnL fp n' ms'' W l'' a' w' → Q x a' w') : c.wp cx.P Q a w := by
  obtain ⟨ν, hs, hb, hn⟩ := hI
  obtain ⟨s, h1, h2, h3, h4, h5, h6, h7, h8⟩ := endM_some hp
  refine WE.phase X hlam h1 (by rw [h2]; exact hok) (gl_none hgl) hs fun ν' a' w' x hc hg hx => hQ ν' a' w' x hx ?_
  have hbel := OwnL.below hs.mem hb hn hg
  let ν2 : Nu := fun id => if id < n' then ν' id else none
  have hold : ∀ id, id < n' → ν' id = ν2 id := fun id hid => by simp [ν2, hid]
  have hν2 : ∀ id p, ν2 id = some p → ν' id = some p := fun id p h => by
    simp only [ν2] at h
    split at h
    · exact h
    · cases h
  have hmem := hc.mem
  have hget : ∀ id b'', (hM ms'' n').m.get id = some b'' → ∃ b, s.h.m.get id = some b ∧ b.rw = b''.rw ∧ (∀ ν vs, b.t.rel ν vs → b''.t.rel ν vs) ∧ id < n' ∧ b''.t.free = true ∧ notMp b.t = true := fun id b'' h => by
    have hm1 := get_memT ms'' id b'' h
    obtain ⟨b, hb1, hb2, hb3⟩ := hm.mem id b'' hm1
    exact ⟨b, hvals_mem h4 id b hb1, hb2, hb3, h7 id (hvals_ids h4 id b hb1), List.all_eq_true.1 hfr _ hm1, List.all_eq_true.1 h8 _ hb1⟩
  refine ⟨ν2, ⟨⟨⟨fun id r base h => hmem.nums.lt id r base (hν2 _ _ h), fun id b'' hb'' hrw id' r base base' e1 e2 => ?_, fun id hid => ?_, fun id b'' hb'' => (hget id b'' hb'').choose_spec.2.2.2.1, Nat.le_refl _, fun g hg => by cases hg⟩, fun id b'' hb'' _ => ?_⟩, fun t v htv => ?_, hc.size, ?_⟩, hbel, fun id r base h => ?_⟩
  · obtain ⟨b, q1, q2, _⟩ := hget id b'' hb''
    exact hmem.nums.inj id b q1 (by rw [q2]; exact hrw) id' r base base' (hν2 _ _ e1) (hν2 _ _ e2)
  · have hid : n' ≤ id := hid
    simp only [ν2]
    rw [if_neg (by omega)]
  · obtain ⟨b, q1, q2, q3, q4, q5, q6⟩ := hget id b'' hb''
    obtain ⟨r, base, cs, ty, fr, pre, vs, post, z1, z2, z3, z4, z5, z6⟩ := (hmem.seen id b q1 (.inl (.inl trivial))).cells q6
    exact .inl ⟨r, base, cs, ty, fr, pre, vs, post, (hold id q4) ▸ z1, z2, z3, z4, T.rel_free q5 (q3 _ _ z5), fun h => z6 (by rw [q2]; exact h)⟩
  · obtain ⟨v0, q1, q2⟩ := (hl ν2).mem t v htv
    refine q2 _ ?_
    have q3 := (hc.slots t).1
    rw [vals_mem h3 t v0 q1] at q3
    exact plainS_old hold (List.all_eq_true.1 hpl _ q1) (q3 trivial)
  · have := hc.defers
    rw [h5] at this
    cases hd : a'.defers with
    | nil => rfl
    | cons _ _ => rw [hd] at this; exact this.elim
  · have h' := hν2 _ _ h
    cases hν : ν id with
    | none => exact .inl (Nat.le_trans hb.size (hg.new id r base hν h'))
    | some p =>
      have e := hg.le id p hν
      rw [h'] at e
      cases e
      rcases hn id r base hν with h9 | h9
      · exact .inl h9
      · refine .inr fun b'' hb'' => ?_
        obtain ⟨b, q1, q2, _⟩ := hget id b'' hb''
        have hlt : id < (hM ms n).mark.next := by
          show id < n
          refine Classical.byContradiction fun hge => ?_
          rw [hs.mem.nums.fresh id (show n ≤ id by omega)] at hν
          cases hν
        obtain ⟨b0, z1, z2⟩ := hg.ext.rw id b hlt q1
        rw [← q2, ← z2]
        exact h9 b0 z1

theorem OwnL.go (X : CxOK cx Γ) (hlam : fp.lam = fun _ _ => none) (hp : endM fp.km ts is n' (evalC cx (evalF cx Γ fuel d) fp fuel c (stOf l (hM ms n))).pick = some ⟨.nrm, ok, l', ms'⟩) (hok : okB ok = true)
    (hpl : (l'.all fun p => plainS n' p.2) = true) (hfr : (ms''.all fun p => p.2.t.free) = true) (hgl : codeGl c [] = []) (hl : LessA l' l'') (hm : LessM ms' ms'') (hI : OwnL fp n ms W l a w) :
    c.wp cx.P (fun x a' w' => x = .normal ∧ OwnL fp n' ms'' W l'' a' w') a w :=
  OwnL.phase X hlam hp hok hpl hfr hgl hl hm hI (fun ν' a' w' x hx h => ⟨hx, h⟩)
theorem OwnL.goB {b : Bool} (X : CxOK cx Γ) (hlam : fp.lam = fun _ _ => none) (hc : (evalC cx (evalF cx Γ fuel d) fp fuel c (stOf l (hM ms n))).cnd = some b) (hp : endM fp.km ts is n' ((evalC cx (evalF cx Γ fuel d) fp fuel c (stOf l (hM ms n))).at b) = some ⟨.nrm, ok, l', ms'⟩) (hok : okB ok = true)
    (hpl : (l'.all fun p => plainS n' p.2) = true) (hfr : (ms''.all fun p => p.2.t.free) = true) (hgl : codeGl c [] = []) (hl : LessA l' l'') (hm : LessM ms' ms'') (hI : OwnL fp n ms W l a w) :
    c.wp cx.P (fun x a' w' => x = .normal ∧ OwnL fp n' ms'' W l'' a' w') a w :=
  OwnL.phase (r := ⟨.nrm, ok, l', ms'⟩) X hlam (by rw [Out.at_pick hc]; exact hp) hok hpl hfr hgl hl hm hI (fun ν' a' w' x hx h => ⟨hx, h⟩)
theorem OwnL.outB {b : Bool} {id : Nat} (X : CxOK cx Γ) (hlam : fp.lam = fun _ _ => none) (hc : (evalC cx (evalF cx Γ fuel d) fp fuel c (stOf l (hM ms n))).cnd = some b) (hp : endM fp.km ts is n' ((evalC cx (evalF cx Γ fuel d) fp fuel c (stOf l (hM ms n))).at b) = some ⟨.exit id, ok, l', ms'⟩) (hok : okB ok = true)
    (hpl : (l'.all fun p => plainS n' p.2) = true) (hfr : (ms''.all fun p => p.2.t.free) = true) (hgl : codeGl c [] = []) (hl : LessA l' l'') (hm : LessM ms' ms'') (hI : OwnL fp n ms W l a w) :
    c.wp cx.P (fun x a' w' => x = .exit id ∧ OwnL fp n' ms'' W l'' a' w') a w :=
  OwnL.phase (r := ⟨.exit id, ok, l', ms'⟩) X hlam (by rw [Out.at_pick hc]; exact hp) hok hpl hfr hgl hl hm hI (fun ν' a' w' x hx h => ⟨hx, h⟩)
theorem OwnL.out {id : Nat} (X : CxOK cx Γ) (hlam : fp.lam = fun _ _ => none) (hp : endM fp.km ts is n' (evalC cx (evalF cx Γ fuel d) fp fuel c (stOf l (hM ms n))).pick = some ⟨.exit id, ok, l', ms'⟩) (hok : okB ok = true)
    (hpl : (l'.all fun p => plainS n' p.2) = true) (hfr : (ms''.all fun p => p.2.t.free) = true) (hgl : codeGl c [] = []) (hl : LessA l' l'') (hm : LessM ms' ms'') (hI : OwnL fp n ms W l a w) :
    c.wp cx.P (fun x a' w' => x = .exit id ∧ OwnL fp n' ms'' W l'' a' w') a w :=
  OwnL.phase (r := ⟨.exit id, ok, l', ms'⟩) X hlam hp hok hpl hfr hgl hl hm hI (fun ν' a' w' x hx h => ⟨hx, h⟩)

/-- A text's end, with its result. -/
theorem OwnL.retP {fn : Func} {o1 o2 : A} {v : V} {R : Ending → World → Prop} {p : Option (Ex × St)} (X : CxOK cx Γ) (hlam : fp.lam = fun _ _ => none) (hpk : (evalC cx (evalF cx Γ fuel d) fp fuel c (stOf l (hM ms n))).pick = p)
    (hp : retOf cx.P fp.km fn.results.toList p = some (o1, o2, v)) (ho1 : okB o1 = true) (ho2 : okB o2 = true) (hgl : codeGl c [] = []) (hI : OwnL fp n ms W l a w)
    (hR : ∀ ν u w', v.rel ν u → Below W.heap.size W w' → R (.returned u) w') : c.wp cx.P (bodyPostD cx.P fn R) a w := by
  obtain ⟨ν, hs, hb, hn⟩ := hI
  subst hpk
  obtain ⟨e, s, h', h1, he, h2, h3, h4⟩ := retOf_some hp
  refine WE.phase X hlam h1 (by rw [h2]; exact ho1) (gl_none hgl) hs fun ν' a' w' x hc hg hx => ?_
  have hbel := OwnL.below hs.mem hb hn hg
  obtain ⟨u, hu, hrun, g⟩ := resOf_sound (fp := fp) (S := markS (fun _ => True) (hM ms n)) h3 ho2 (fun _ _ => .inl trivial) rfl (ν := ν') (a := a') (w := w') hc
  have hd : a'.defers = [] := by
    have := hc.defers
    rw [h4] at this
    cases hd : a'.defers with
    | nil => rfl
    | cons _ _ => rw [hd] at this; exact this.elim
  have hl : Leaves cx.P fn a'.tmps R a'.defers .returning w' := by
    rw [hd]
    exact ⟨u, hrun, hR _ _ _ hu hbel⟩
  rcases he with rfl | rfl
  · have hx : x = .normal := hx
    subst hx
    exact hl
  · have hx : x = .ret := hx
    subst hx
    exact hl
end

/-- What a call over one block says of the world. -/
theorem call_one {P : Program} {f : FuncId} {args : List V} {v : V} {h' : H} {t t' : T} (hf : FnOK P f args (hM [(0, ⟨true, t⟩)] 1) v h') (hw : h'.wr = [0] ∨ h'.wr = []) (hg : h'.m.get 0 = some ⟨true, t'⟩) (hn : notMp t' = true) (hfr : t'.free = true) (hv : v.free = true)
    {r : Nat} {w : World} (hh : Holds w r t) {vs : List Value} (ha : relV (nuOne r) args vs) (ν : Nu) : Calls P f vs.toArray w fun e w' => ∃ u, e = .returned u ∧ v.rel ν u ∧ But r w.heap.size w w' ∧ Holds w' r t' := by
  refine (hf (fun _ => True) (nuOne r) w vs (fun _ _ => trivial) (fun _ _ => trivial) (mem_one hh) ha).mono ?_
  rintro e w' ⟨u, ν', rfl, hu, g⟩
  have g' : Goes (fun _ => True) (nuOne r) w (hM [(0, ⟨true, t⟩)] 1).mark ν' w' h' := g
  exact ⟨u, rfl, V.rel_free hv hu, goes_but (h := hM [(0, ⟨true, t⟩)] 1) (mem_one hh) rfl hw g', seen_holds (g.mem.seen 0 _ hg (.inl trivial)) hn hfr (g.le _ _ rfl)⟩
end Go.WE
