/- WE37: phases that say which numbers were kept; a round's body over one old block. -/
import Derived.Test.YtljopbfbljkjoaaDoorWE36
import Derived.RangeFuncFrom
import Derived.RangeFuncLeaves
namespace Go.WE
set_option linter.unusedVariables false
open Go
open Go.RowKit (Below)

section
variable {cx : Cx} {Γ : Gam} {fuel n : Nat} {fp : Fp} {c : Code} {l l' l'' : List (Nat × V)} {h : H} {ts : List Nat} {ok : A} {W : World} {ν : Nu} {a : Act} {w : World}

/-- As `At.grow`; the numbers that were there stay. -/
theorem At.growL {h2 : H} (X : CxOK cx Γ) (hlam : fp.lam = fun _ _ => none) (hp : endOf fp.km ts (evalC cx (evalF cx Γ fuel n) fp fuel c (stOf l h)).pick = some ⟨.nrm, ok, l'⟩)
    (hh : ((evalC cx (evalF cx Γ fuel n) fp fuel c (stOf l h)).pick.map fun p => (p.2.h.m, p.2.h.next, p.2.h.gl)) = some (h2.m, h2.next, h2.gl)) (hlo : h2.lo = h2.next) (hok : okB ok = true) (hgl : codeGl c [] = [])
    (hI : At fp h W ν l a w) : c.wp cx.P (fun x a' w' => x = .normal ∧ ∃ ν', ν.le ν' ∧ At fp h2 W ν' l' a' w') a w := by
  obtain ⟨hs, hbW⟩ := hI
  obtain ⟨s, h1, h2', h3, h4, h5⟩ := endOf_some hp
  refine phase X hlam h1 (by rw [h2']; exact hok) (gl_none hgl) hs fun ν' a' w' x hc hg hx => ?_
  have hb := goes_below h4 hs.mem hg
  rw [h1] at hh
  simp only [Option.map_some, Option.some.injEq, Prod.mk.injEq] at hh
  obtain ⟨e1, e2, e3⟩ := hh
  have hm := hc.mem
  refine ⟨hx, ν', hg.le, ⟨⟨⟨hm.nums.lt, by rw [← e1]; exact hm.nums.inj, by rw [← e2]; exact hm.nums.fresh, by rw [← e1, ← e2]; exact hm.nums.bound, by rw [hlo]; exact Nat.le_refl _, by rw [← e3]; exact hm.nums.glob⟩, ?_⟩, fun t v htv => ?_, hc.size, ?_⟩, Below.base hbW hb⟩
  · intro id b hid _
    rw [← e1] at hid
    exact hm.seen id b hid (.inl (.inl trivial))
  · have h6 := (hc.slots t).1
    rw [vals_mem h3 t v htv] at h6
    exact h6 trivial
  · have := hc.defers
    rw [h5] at this
    cases hd : a'.defers with
    | nil => rfl
    | cons _ _ => rw [hd] at this; exact this.elim
/-- As `At.grow`, of one of two ways. -/
theorem At.growB {h2 : H} {b : Bool} (X : CxOK cx Γ) (hlam : fp.lam = fun _ _ => none) (hc : (evalC cx (evalF cx Γ fuel n) fp fuel c (stOf l h)).cnd = some b) (hp : endOf fp.km ts ((evalC cx (evalF cx Γ fuel n) fp fuel c (stOf l h)).at b) = some ⟨.nrm, ok, l'⟩)
    (hh : (((evalC cx (evalF cx Γ fuel n) fp fuel c (stOf l h)).at b).map fun p => (p.2.h.m, p.2.h.next, p.2.h.gl)) = some (h2.m, h2.next, h2.gl)) (hlo : h2.lo = h2.next) (hok : okB ok = true) (hgl : codeGl c [] = [])
    (hI : At fp h W ν l a w) : c.wp cx.P (fun x a' w' => x = .normal ∧ ∃ ν', ν.le ν' ∧ At fp h2 W ν' l' a' w') a w :=
  At.growL X hlam (by rw [Out.at_pick hc]; exact hp) (by rw [Out.at_pick hc]; exact hh) hlo hok hgl hI
end

/-- One block turned, nothing else that was there. -/
structure But (r n₀ : Nat) (w w' : World) : Prop where
  os : w'.os = w.os
  tape : w'.tape = w.tape
  output : w'.output = w.output
  size : w.heap.size ≤ w'.heap.size
  block : ∀ k, k < n₀ → k ≠ r → w'.heap[k]? = w.heap[k]?

theorem But.refl (r n₀ : Nat) (w : World) : But r n₀ w w := ⟨rfl, rfl, rfl, Nat.le_refl _, fun _ _ _ => rfl⟩
theorem But.trans {r n₀ : Nat} {a b c : World} (h : But r n₀ a b) (k : But r n₀ b c) : But r n₀ a c :=
  ⟨k.os.trans h.os, k.tape.trans h.tape, k.output.trans h.output, Nat.le_trans h.size k.size, fun i hi hr => (k.block i hi hr).trans (h.block i hi hr)⟩
theorem But.of_below {r n₀ : Nat} {a b : World} (h : Below n₀ a b) : But r n₀ a b := ⟨h.os, h.tape, h.output, h.size, fun k hk _ => h.block k hk⟩
theorem But.le {r n₀ n₁ : Nat} {a b : World} (h : But r n₁ a b) (hn : n₀ ≤ n₁) : But r n₀ a b := ⟨h.os, h.tape, h.output, h.size, fun k hk hr => h.block k (Nat.lt_of_lt_of_le hk hn) hr⟩
theorem But.cell {r n₀ : Nat} {a b : World} (h : But r n₀ a b) {k off : Nat} (hk : k < n₀) (hr : k ≠ r) : b.cell? ⟨k, off, none⟩ = a.cell? ⟨k, off, none⟩ := World.cell?_of_block (h.block k hk hr)
theorem But.grown {r n₀ : Nat} {w W W' : World} (h : But r n₀ w W) {row : Option Nat} (hg : W.grownBy W' row) (hn : n₀ ≤ w.heap.size) (hr : ∀ k, row = some k → n₀ ≤ k) : But r n₀ w W' :=
  ⟨hg.os.trans h.os, hg.tape.trans h.tape, hg.output.trans h.output, Nat.le_trans h.size hg.size, fun k hk hkr => (hg.block k (Nat.lt_of_lt_of_le (Nat.lt_of_lt_of_le hk hn) h.size) (fun e => by have := hr k e.symm; omega)).trans (h.block k hk hkr)⟩

/-- A block holds what is told. -/
def Holds (W : World) (r : Nat) (t : T) : Prop := ∃ cs ty vs post, W.heap[r]? = some (.cells cs ty (0, 0)) ∧ cs.toList = vs ++ post ∧ t.rel nu0 vs

theorem Holds.lt {W : World} {r : Nat} {t : T} (h : Holds W r t) : r < W.heap.size := by
  obtain ⟨cs, ty, vs, post, h1, _⟩ := h
  exact (Array.getElem?_eq_some_iff.1 h1).1
theorem Holds.cells {W : World} {r : Nat} {t : T} (h : Holds W r t) : ∃ o : Obj, W.heap[r]? = some o ∧ o.isCells = true := by
  obtain ⟨cs, ty, vs, post, h1, _⟩ := h
  exact ⟨_, h1, rfl⟩
theorem Holds.same {W W' : World} {r : Nat} {t : T} (h : Holds W r t) (e : W'.heap[r]? = W.heap[r]?) : Holds W' r t := by
  obtain ⟨cs, ty, vs, post, h1, h2, h3⟩ := h
  exact ⟨cs, ty, vs, post, e.trans h1, h2, h3⟩
theorem Holds.less {W : World} {r : Nat} {t t' : T} (h : Holds W r t) (hl : ∀ vs, t.rel nu0 vs → t'.rel nu0 vs) : Holds W r t' := by
  obtain ⟨cs, ty, vs, post, h1, h2, h3⟩ := h
  exact ⟨cs, ty, vs, post, h1, h2, hl _ h3⟩
/-- .. abides what turns no cells. -/
theorem Holds.grown {W W' : World} {r : Nat} {t : T} (h : Holds W r t) {row : Option Nat} (hg : W.grownBy W' row) (hrow : ∀ k, row = some k → ∃ o : Obj, W.heap[k]? = some o ∧ o.isCells = false) : Holds W' r t := by
  obtain ⟨o, h1, h2⟩ := h.cells
  exact h.same (grownBy_keeps_cells hg hrow h1 h2)

/-- What stands ahead of a call: one block of the world is told, and is number 0. -/
def nuOne (r : Nat) : Nu := fun i => if i = 0 then some (r, 0) else none
theorem nuOne_some {r i b base : Nat} (h : nuOne r i = some (b, base)) : i = 0 ∧ b = r ∧ base = 0 := by
  unfold nuOne at h
  split at h
  · cases h; exact ⟨by assumption, rfl, rfl⟩
  · cases h
theorem mem_one {W : World} {r : Nat} {t : T} (h : Holds W r t) : Mem (fun _ => True) (nuOne r) W (hM [(0, ⟨true, t⟩)] 1) := by
  have hget : ∀ i x, (hM [(0, ⟨true, t⟩)] 1).m.get i = some x → i = 0 ∧ x = ⟨true, t⟩ := fun i x e => by
    have := get_memT _ i x e
    simp only [List.mem_singleton, Prod.mk.injEq] at this
    exact this
  refine ⟨⟨fun i r' b' e => by obtain ⟨_, rfl, _⟩ := nuOne_some e; exact h.lt, fun i x e _ i' r' b1 b2 e1 e2 => ?_, fun i hi => ?_, fun i x e => by obtain ⟨rfl, _⟩ := hget i x e; exact Nat.lt_succ_self _, Nat.le_refl _, fun g hg => (by cases hg)⟩, fun i x e _ => ?_⟩
  · rw [(nuOne_some e1).1, (nuOne_some e2).1]
  · have hi : 1 ≤ i := hi
    unfold nuOne
    rw [if_neg (by omega)]
  · obtain ⟨rfl, rfl⟩ := hget i x e
    obtain ⟨cs, ty, vs, post, h1, h2, h3⟩ := h
    refine .inl ⟨r, 0, cs, ty, (0, 0), [], vs, post, by simp [nuOne], h1, by simpa using h2, rfl, ?_, fun _ => ⟨rfl, rfl⟩⟩
    exact T.rel_mono (fun i p e => by cases e) h3

/-- What a block tells, told as `Holds`. -/
theorem seen_holds {ν : Nu} {W : World} {id r : Nat} {t : T} (h : Seen ν W id ⟨true, t⟩) (hn : notMp t = true) (hf : t.free = true) (hν : ν id = some (r, 0)) : Holds W r t := by
  obtain ⟨r', base, cs, ty, fr, pre, vs, post, h1, h2, h3, h4, h5, h6⟩ := h.cells hn
  rw [hν] at h1
  cases h1
  obtain ⟨_, rfl⟩ := h6 rfl
  obtain rfl : pre = [] := List.length_eq_zero_iff.1 h4
  exact ⟨cs, ty, vs, post, h2, by simpa using h3, T.rel_free hf h5⟩

theorem hM_get {b : Blk} {ms : List (Nat × Blk)} {n i : Nat} : (hM ((0, b) :: ms) n).m.get i = if 0 = i then some b else (memT ms).get i := by
  show ((memT ms).set 0 b).get i = _
  exact Tr.get_set _ _ _ _

/-- Memory of which the block 0 alone has turned. -/
theorem mem_but {ν : Nu} {w W : World} {r n : Nat} {t t' : T} {ms : List (Nat × Blk)} (hm : Mem (fun _ => True) ν w (hM ((0, ⟨true, t⟩) :: ms) n)) (h0 : ν 0 = some (r, 0)) (hb : But r w.heap.size w W) (hh : Holds W r t') : Mem (fun _ => True) ν W (hM ((0, ⟨true, t'⟩) :: ms) n) := by
  have hold : ∀ i b, (hM ((0, ⟨true, t'⟩) :: ms) n).m.get i = some b → (i = 0 ∧ b = ⟨true, t'⟩) ∨ (i ≠ 0 ∧ (hM ((0, ⟨true, t⟩) :: ms) n).m.get i = some b) := fun i b h => by
    rw [hM_get] at h
    split at h
    · rename_i e; subst e; cases h; exact .inl ⟨rfl, rfl⟩
    · rename_i e
      refine .inr ⟨fun e' => e e'.symm, ?_⟩
      rw [hM_get, if_neg e]; exact h
  have g0 : (hM ((0, ⟨true, t⟩) :: ms) n).m.get 0 = some ⟨true, t⟩ := by rw [hM_get, if_pos rfl]
  refine ⟨⟨fun i r' b e => Nat.lt_of_lt_of_le (hm.nums.lt i r' b e) hb.size, fun i b hi hrw i' r' b1 b2 e1 e2 => ?_, hm.nums.fresh, fun i b hi => ?_, hm.nums.lo, hm.nums.glob⟩, fun i b hi _ => ?_⟩
  · rcases hold i b hi with ⟨rfl, rfl⟩ | ⟨_, h⟩
    · exact hm.nums.inj 0 _ g0 rfl i' r' b1 b2 e1 e2
    · exact hm.nums.inj i b h hrw i' r' b1 b2 e1 e2
  · rcases hold i b hi with ⟨rfl, rfl⟩ | ⟨_, h⟩
    · exact hm.nums.bound 0 _ g0
    · exact hm.nums.bound i b h
  · rcases hold i b hi with ⟨rfl, rfl⟩ | ⟨hne, h⟩
    · obtain ⟨cs, ty, vs, post, h1, h2, h3⟩ := hh
      exact .inl ⟨r, 0, cs, ty, (0, 0), [], vs, post, h0, h1, by simpa using h2, rfl, T.rel_mono (fun i p e => by cases e) h3, fun _ => ⟨rfl, rfl⟩⟩
    · refine (hm.seen i b h trivial_or).mono (Nu.le_refl _) fun r' base e => hb.block r' (hm.nums.lt i r' base e) fun e' => ?_
      subst e'
      exact hne (hm.nums.inj 0 _ g0 rfl i r' 0 base h0 e)
where
  trivial_or {p : Prop} : True ∨ p := .inl trivial

/-- A cell that is told. -/
theorem seen_cell1 {ν : Nu} {w : World} {id : Nat} {x : A} (h : Seen ν w id ⟨true, .a x⟩) : ∃ B v, ν id = some (B, 0) ∧ w.cell? ⟨B, 0, none⟩ = some v ∧ x.rel ν v := by
  obtain ⟨B, base, cs, ty, fr, pre, vs, post, h1, h2, h3, h4, h5, h6⟩ := h.cells rfl
  obtain ⟨rfl, rfl⟩ := h6 rfl
  obtain rfl : pre = [] := List.length_eq_zero_iff.1 h4
  simp only [T.rel] at h5
  obtain ⟨v, rfl, h7, _⟩ := h5
  refine ⟨B, v, h1, ?_, h7⟩
  have : cs[0]? = some v := by rw [← Array.getElem?_toList, h3]; rfl
  simp [World.cell?, h2, this]

/-- What a round leaves, if it writes the block 0 alone. -/
theorem goes_but {S : Nat → Prop} {ν ν' : Nu} {w w' : World} {h h' : H} {r : Nat} (hm : Mem S ν w h.mark) (h0 : ν 0 = some (r, 0)) (hw : h'.wr = [0] ∨ h'.wr = []) (g : Goes S ν w h.mark ν' w' h') : But r w.heap.size w w' := by
  refine ⟨g.frm.os, g.frm.tape, g.frm.output, g.frm.size, fun k hk hkr => g.frm.block k hk fun id base hid => ⟨?_, ?_⟩⟩
  · rw [g.ext.lo]
    show id < h.next
    refine Classical.byContradiction fun hge => ?_
    rw [hm.nums.fresh id (show h.next ≤ id by omega)] at hid
    cases hid
  · rcases hw with hw | hw
    · rw [hw]
      intro hm'
      simp at hm'
      subst hm'
      rw [h0] at hid
      cases hid
      exact hkr rfl
    · rw [hw]; exact fun h => by cases h
theorem But.others {r : Nat} {W W' : World} (h : But r W.heap.size W W') (hc : ∃ o : Obj, W.heap[r]? = some o ∧ o.isCells = true) : KeepsOthers W W' := by
  refine ⟨h.size, fun k o hk ho => (h.block k (Array.getElem?_eq_some_iff.1 hk).1 ?_).trans hk⟩
  rintro rfl
  obtain ⟨o', h1, h2⟩ := hc
  rw [hk] at h1
  cases h1
  rw [ho] at h2
  cases h2

/-- Ahead of a function's text. -/
theorem At.enterA {fp : Fp} {h : H} {ν : Nu} {args : List V} {vs : List Value} {W : World} (hm : Mem (fun _ => True) ν W h) (hv : relV ν args vs) (hsz : args.length ≤ fp.nt) :
    At fp h W ν (argsL 0 args) { tmps := vs.toArray ++ Array.replicate (fp.nt - vs.toArray.size) undef, defers := [] } W := by
  have hlen := relV_length hv
  refine ⟨⟨hm, fun t v h => ?_, by simp; omega, rfl⟩, Below.refl _ _⟩
  refine argsL_rel args vs 0 hv (fun j hj => ?_) t v h
  simp [Array.getD_eq_getD_getElem?, Array.getElem?_append, hj]

theorem goes_butI {S : Nat → Prop} {ν ν' : Nu} {w w' : World} {h h' : H} {r i : Nat} (hm : Mem S ν w h.mark) (h0 : ν i = some (r, 0)) (hw : h'.wr = [i] ∨ h'.wr = []) (g : Goes S ν w h.mark ν' w' h') : But r w.heap.size w w' := by
  refine ⟨g.frm.os, g.frm.tape, g.frm.output, g.frm.size, fun k hk hkr => g.frm.block k hk fun id base hid => ⟨?_, ?_⟩⟩
  · rw [g.ext.lo]
    show id < h.next
    refine Classical.byContradiction fun hge => ?_
    rw [hm.nums.fresh id (show h.next ≤ id by omega)] at hid
    cases hid
  · rcases hw with hw | hw
    · rw [hw]
      intro hm'
      simp at hm'
      subst hm'
      rw [h0] at hid
      cases hid
      exact hkr rfl
    · rw [hw]; exact fun h => by cases h
def Out.nR : Out → Out
  | .node _ _ y => y
  | _ => .fail
theorem Out.nR_pick {o : Out} (h : o.cnd = some false) : o.pick = o.nR.pick := by
  cases o with
  | node y x z =>
    simp only [Out.cnd, Option.some.injEq] at h
    subst h
    rfl
  | _ => simp [Out.cnd] at h

section
variable {cx : Cx} {Γ : Gam} {fuel n : Nat} {fp : Fp} {c : Code} {l l' l'' : List (Nat × V)} {h : H} {ts : List Nat} {ok : A} {W : World} {ν : Nu} {a : Act} {w : World}
/-- As `At.growL`; new numbers are of new blocks. -/
theorem At.growN {h2 : H} (X : CxOK cx Γ) (hlam : fp.lam = fun _ _ => none) (hp : endOf fp.km ts (evalC cx (evalF cx Γ fuel n) fp fuel c (stOf l h)).pick = some ⟨.nrm, ok, l'⟩)
    (hh : ((evalC cx (evalF cx Γ fuel n) fp fuel c (stOf l h)).pick.map fun p => (p.2.h.m, p.2.h.next, p.2.h.gl)) = some (h2.m, h2.next, h2.gl)) (hlo : h2.lo = h2.next) (hok : okB ok = true) (hgl : codeGl c [] = [])
    (hI : At fp h W ν l a w) : c.wp cx.P (fun x a' w' => x = .normal ∧ ∃ ν', (ν.le ν' ∧ ∀ id r base, ν id = none → ν' id = some (r, base) → W.heap.size ≤ r) ∧ At fp h2 W ν' l' a' w') a w := by
  obtain ⟨hs, hbW⟩ := hI
  obtain ⟨s, h1, h2', h3, h4, h5⟩ := endOf_some hp
  refine phase X hlam h1 (by rw [h2']; exact hok) (gl_none hgl) hs fun ν' a' w' x hc hg hx => ?_
  have hb := goes_below h4 hs.mem hg
  rw [h1] at hh
  simp only [Option.map_some, Option.some.injEq, Prod.mk.injEq] at hh
  obtain ⟨e1, e2, e3⟩ := hh
  have hm := hc.mem
  refine ⟨hx, ν', ⟨hg.le, fun id r base e e' => Nat.le_trans hbW.size (hg.new id r base e e')⟩, ⟨⟨⟨hm.nums.lt, by rw [← e1]; exact hm.nums.inj, by rw [← e2]; exact hm.nums.fresh, by rw [← e1, ← e2]; exact hm.nums.bound, by rw [hlo]; exact Nat.le_refl _, by rw [← e3]; exact hm.nums.glob⟩, ?_⟩, fun t v htv => ?_, hc.size, ?_⟩, Below.base hbW hb⟩
  · intro id b hid _
    rw [← e1] at hid
    exact hm.seen id b hid (.inl (.inl trivial))
  · have h6 := (hc.slots t).1
    rw [vals_mem h3 t v htv] at h6
    exact h6 trivial
  · have := hc.defers
    rw [h5] at this
    cases hd : a'.defers with
    | nil => rfl
    | cons _ _ => rw [hd] at this; exact this.elim
end
theorem results_cell {P : Program} {fn : Func} {t : Tmp} {ty : TypeId} {tmps : Array Value} {adr : Addr} {v : Value} {w : World} (h : fn.results = #[.cell t ty]) (ht : tmps.getD t undef = .pointer (some adr)) (hy : isAggT P ty = some false) (hc : w.cell? adr = some v) :
    (results fn tmps).run P w = .ok v w := by
  have : (loadVar ty adr).run P w = .ok v w := by
    rw [loadVar, Sem.run_bind, run_isAgg' hy]
    simp only [Result.andThen_ok, Bool.false_eq_true, if_false]
    exact run_load_cell hc
  rw [Array.getD_eq_getD_getElem?] at ht
  simp [results, h, ht, asAddr, this]
theorem But.below {r n₀ n₁ : Nat} {w w' : World} (h : But r n₁ w w') (hn : n₀ ≤ n₁) (hr : n₀ ≤ r) : Below n₀ w w' := ⟨h.os, h.tape, h.output, h.size, fun k hk => h.block k (by omega) (by omega)⟩
end Go.WE
