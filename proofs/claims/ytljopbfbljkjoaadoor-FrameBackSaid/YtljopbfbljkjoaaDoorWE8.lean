/- WE8: operands; types; what is loaded and stored. -/
import Derived.Test.YtljopbfbljkjoaaDoorWE7
namespace Go.WE
open Go

/-! ### constants and operands -/

theorem ofAtom_rel (ν : Nu) (v : Value) : (ofAtom v).rel ν v := by
  unfold ofAtom
  split
  · split
    · simp only [A.rel]; exact ⟨trivial, by assumption⟩
    · simp only [A.rel]
  · exact ofDec_rel _ _
  · simp only [A.rel]
  · simp only [A.rel]
  · simp only [A.rel]
  · simp only [A.rel]
  · simp only [A.rel]
  · simp only [A.rel]

def holds (tmps : Array Value) : Cond → Prop
  | none => True
  | some (s, want) => tmps.getD s undef = .bool want

/-- The slots that an operation looks at hold what the evaluator says. -/
def Slots (ν : Nu) (tmps : Array Value) (gt : Nat → Ent) (l : List Operand) : Prop :=
  ∀ s, .tmp s ∈ l → holds tmps (gt s).c → (gt s).v.rel ν (tmps.getD s undef)

theorem Slots.sub {ν : Nu} {tmps : Array Value} {gt : Nat → Ent} {l l' : List Operand} (h : Slots ν tmps gt l) (hs : ∀ x ∈ l', x ∈ l) : Slots ν tmps gt l' :=
  fun s hm => h s (hs _ hm)

/-- The globals: the block `g` of the evaluator is the block `g` of the world. -/
def Glob (ν : Nu) (ops : List Operand) : Prop := ∀ g, .global g ∈ ops → ν g = some (g, 0)

theorem opV_sound {ν : Nu} {a : Act} {G X : Cond} {gt : Nat → Ent} {x : Operand} {v : V} (h : opV G X gt x = some v) (hG : holds a.tmps G) (hX : holds a.tmps X)
    (hs : Slots ν a.tmps gt [x]) (hg : Glob ν [x]) : v.rel ν (a.eval x) := by
  cases x with
  | tmp s =>
    simp only [opV] at h
    split at h
    · rename_i hc
      simp at h; subst h
      exact hs s (by simp) (by rw [hc]; trivial)
    · rename_i c hc
      split at h
      · rename_i ho
        simp at h; subst h
        refine hs s (by simp) ?_
        rw [hc]
        simp only [Bool.or_eq_true] at ho
        rcases ho with ho | ho
        · rw [← condEq_some ho]; exact hG
        · rw [← condEq_some ho]; exact hX
      · cases h
  | const v => simp only [opV] at h; simp at h; subst h; exact ofAtom_rel ν v
  | global g =>
    simp only [opV] at h; simp at h; subst h
    show (A.ptr g []).rel ν _
    simp only [A.rel]
    exact ⟨g, 0, hg g (by simp), rfl⟩
  | func f =>
    simp only [opV] at h; simp at h; subst h
    show (A.fn f []).rel ν _
    simp only [A.rel, relL]
    exact ⟨#[], rfl, rfl⟩

theorem bind_some {α β : Type} {x : Option α} {f : α → Option β} {y : β} (h : x.bind f = some y) : ∃ z, x = some z ∧ f z = some y := by
  cases x with
  | none => cases h
  | some z => exact ⟨z, rfl, h⟩

theorem V.one_eq {v : V} {x : A} (h : v.one = some x) : v = .t (.a x) := by
  unfold V.one at h
  split at h
  · simp at h; subst h; rfl
  · cases h

theorem opA_sound {ν : Nu} {a : Act} {G : Cond} {gt : Nat → Ent} {x : Operand} {v : A} (h : opA G gt x = some v) (hG : holds a.tmps G) (hs : Slots ν a.tmps gt [x]) (hg : Glob ν [x]) : v.rel ν (a.eval x) := by
  obtain ⟨u, h1, h2⟩ := bind_some h
  have := V.one_eq h2
  subst this
  exact opV_sound (X := none) h1 hG trivial hs hg

theorem opVs_sound {ν : Nu} {a : Act} {G : Cond} {gt : Nat → Ent} (hG : holds a.tmps G) : ∀ {xs : List Operand} {vs : List V}, opVs G gt xs = some vs →
    Slots ν a.tmps gt xs → Glob ν xs → relV ν vs (xs.map a.eval)
  | [], vs, h, _, _ => by simp [opVs] at h; subst h; trivial
  | x :: xs, vs, h, hs, hg => by
    simp only [opVs] at h
    split at h <;> simp at h
    rename_i v vs' h1 h2
    subst h
    exact ⟨opV_sound h1 hG (X := none) trivial (fun s hm => hs s (by simp at hm; subst hm; simp)) (fun g hm => hg g (by simp at hm; subst hm; simp)),
      opVs_sound hG h2 (fun s hm => hs s (by simp [hm])) (fun g hm => hg g (by simp [hm]))⟩

theorem opAs_sound {ν : Nu} {a : Act} {G : Cond} {gt : Nat → Ent} (hG : holds a.tmps G) : ∀ {xs : List Operand} {vs : List A}, opAs G gt xs = some vs →
    Slots ν a.tmps gt xs → Glob ν xs → relL ν vs (xs.map a.eval)
  | [], vs, h, _, _ => by simp [opAs] at h; subst h; simp [relL]
  | x :: xs, vs, h, hs, hg => by
    simp only [opAs] at h
    split at h <;> simp at h
    rename_i v vs' h1 h2
    subst h
    simp only [relL, List.map_cons]
    exact ⟨_, _, rfl, opA_sound h1 hG (fun s hm => hs s (by simp at hm; subst hm; simp)) (fun g hm => hg g (by simp at hm; subst hm; simp)),
      opAs_sound hG h2 (fun s hm => hs s (by simp [hm])) (fun g hm => hg g (by simp [hm]))⟩

/-! ### types -/

section
variable {P : Program} {w : World} {ν : Nu}

theorem run_underlying' {t : TypeId} {d : TypeDesc} (h : P.underlying t = some d) : (underlying t).run P w = .ok d w := by
  simp [underlying, h]

theorem run_sizeOf' {t : TypeId} {n : Nat} (h : sizeT P t = some n) : (Go.sizeOf t).run P w = .ok n w := by
  unfold sizeT at h
  cases hi : P.info? t with
  | none => simp [hi] at h
  | some i => simp [hi] at h; simp [Go.sizeOf, typeInfo, hi, h]

theorem run_isAgg' {t : TypeId} {x : Bool} (h : isAggT P t = some x) : (isAgg t).run P w = .ok x w := by
  unfold isAggT at h
  split at h <;> simp at h <;> subst h
  · rename_i e; simp [isAgg, run_underlying' e]
  · rename_i e; simp [isAgg, run_underlying' e]
  · rename_i d h1 h2 e
    rw [isAgg, Sem.run_bind, run_underlying' e]
    simp only [Result.andThen_ok]
    cases d <;> first | rfl | exact absurd rfl (h1 _) | exact absurd rfl (h2 _ _)

/-! ### values that stand in cells -/

theorem A.solid_cell {a : A} {v : Value} (hs : a.solid = true) (h : a.rel ν v) : Cell v := by
  cases a <;> simp [A.solid] at hs <;> simp only [A.rel] at h
  case lit => obtain ⟨rfl, _⟩ := h; trivial
  case i => subst h; trivial
  case tt => subst h; trivial
  case ff => subst h; trivial
  case b => subst h; trivial
  case nilp => subst h; trivial
  case ptr => obtain ⟨_, _, _, rfl⟩ := h; trivial
  case nils => subst h; trivial
  case sl => obtain ⟨_, _, _, _, _, rfl, _⟩ := h; trivial
  case nilf => subst h; trivial
  case fn => obtain ⟨_, rfl, _⟩ := h; trivial
  case iface => obtain ⟨_, rfl, _⟩ := h; trivial
  case mapp => obtain ⟨_, _, rfl⟩ := h; trivial
  case raw u => subst h; cases v <;> first | trivial | (exfalso; simp at hs)

theorem cells_of {v : Value} (h : Cell v) : v.cells = #[v] := by cases v <;> first | rfl | exact h.elim

/-- What may be stored: its cells. -/
theorem V.cells_rel {v : V} {t : T} {u : Value} (h : v.cells = some t) (hr : v.rel ν u) (hb : t ≠ .bad) : t.rel ν u.cells.toList := by
  unfold V.cells at h
  split at h
  · rename_i x
    split at h
    · rename_i hs
      simp at h; subst h
      have hr : x.rel ν u := hr
      have hc := A.solid_cell hs hr
      rw [cells_of hc]
      simp only [T.rel]
      exact ⟨u, rfl, hr, hc⟩
    · cases h
  · rename_i t' hna
    have hna' : ∀ y, t' = .a y → False := by
      intro y e; subst e; simp at hna
    simp at h; subst h
    have hr : t'.relV ν u := hr
    cases t' with
    | a y => exact (hna' y rfl).elim
    | bad => exact absurd rfl hb
    | st fs => obtain ⟨vs, rfl, h2⟩ := hr; exact h2
    | lst s ts => obtain ⟨vs, rfl, h2⟩ := hr; exact h2
    | arr s n sh => obtain ⟨vs, rfl, h2⟩ := hr; exact h2
    | mp k ks ts => obtain ⟨vs, rfl, h2⟩ := hr; exact h2
  · cases h

theorem size_ne_bad {t : T} {n : Nat} (h : t.size = some n) : t ≠ .bad := by
  rintro rfl
  simp only [T.size] at h
  cases h

/-! ### a load -/

theorem fitsT_run {t : TypeId} {u : T} {us pre post : List Value} {r : Nat} {cs : Array Value} {ty : TypeId} {fr : Nat × Nat} (hf : fitsT P t u = true) (hu : u.rel ν us)
    (hh : w.heap[r]? = some (.cells cs ty fr)) (e : cs.toList = pre ++ us ++ post) {off : Nat} (ho : pre.length = off) :
    ∃ v, (loadVar t ⟨r, off, none⟩).run P w = .ok v w ∧ u.relV ν v := by
  unfold fitsT at hf
  split at hf
  · rename_i ha
    have key : optEqN u.size (sizeT P t) = true → (∀ x, u ≠ .a x) → u ≠ .bad → ∃ v, (loadVar t ⟨r, off, none⟩).run P w = .ok v w ∧ u.relV ν v := by
      intro hs h1 h2
      obtain ⟨e1, n, hn⟩ := optEqN_eq hs
      have hl := size_length hn hu
      refine ⟨.agg us.toArray, ?_, ?_⟩
      · rw [loadVar, Sem.run_bind, run_isAgg' ha]
        simp only [Result.andThen_ok, if_true]
        rw [Sem.run_bind, run_sizeOf' (e1 ▸ hn)]
        simp only [Result.andThen_ok]
        rw [Sem.run_bind, ← hl, loadCells_run hh e ho]
        rfl
      · cases u
        case a x => exact absurd rfl (h1 x)
        case bad => exact absurd rfl h2
        all_goals exact ⟨_, rfl, by simpa using hu⟩
    split at hf
    · cases hf
    · cases hf
    · rename_i h1 h2
      exact key hf h1 h2
  · rename_i ha
    split at hf
    · rename_i x
      simp only [T.rel] at hu
      obtain ⟨v, rfl, h2, _⟩ := hu
      refine ⟨v, ?_, h2⟩
      rw [loadVar, Sem.run_bind, run_isAgg' ha]
      simp only [Result.andThen_ok, Bool.false_eq_true, if_false]
      exact run_load_cell (cell_at hh (post := post) (by rw [e]; simp) ho)
    · cases hf
  · cases hf

theorem fits_not {t : TypeId} {u b : T} {p : List Step} (hf : fitsT P t u = true) (hu : subT p b = some u) : notMp b = true := by
  cases b with
  | bad => cases p with
    | nil => simp only [subT, Option.some.injEq] at hu; subst hu; unfold fitsT at hf; split at hf <;> cases hf
    | cons s p => cases s <;> simp [subT] at hu
  | mp k ks ts => cases p with
    | nil =>
      simp only [subT, Option.some.injEq] at hu; subst hu; unfold fitsT at hf
      split at hf
      · simp only [T.size, optEqN] at hf
        cases hf
      · cases hf
      · cases hf
    | cons s p => cases s <;> simp [subT] at hu
  | _ => rfl
theorem upd_not {v b t' : T} {p : List Step} (hu : updT v p b = some t') : notMp b = true := by
  cases b with
  | bad => cases p with
    | nil => simp [updT, T.size, optEqN] at hu
    | cons s p => cases s <;> simp [updT] at hu
  | mp k ks ts => cases p with
    | nil => simp [updT, T.size, optEqN] at hu
    | cons s p => cases s <;> simp [updT] at hu
  | _ => rfl

theorem evalLoad_sound {S : Nat → Prop} {h : H} {t : TypeId} {x : A} {vx : Value} {r : OpR} (he : evalLoad P h t x = some r) (hok : okB r.ok = true) (m : Mem S ν w h) (hS : ∀ i, i ∈ r.h.rd → S i)
    (hx : x.rel ν vx) : ∃ v, (Instr.loadAt t vx).run P w = .ok v w ∧ r.v.rel ν v ∧ Goes S ν w h ν w r.h := by
  unfold evalLoad at he
  split at he
  · rename_i id p
    split at he
    · rename_i b hb
      split at he
      · rename_i u hu
        split at he
        · rename_i hf
          simp only [Option.some.injEq] at he
          subst he
          obtain ⟨q, base, cs, ty, fr, pre, vs, post, h1, h2, h3, h4, h5, h6⟩ := (m.seen id b hb (see_seen hS)).cells (fits_not hf hu)
          simp only [A.rel] at hx
          obtain ⟨q', base', e1, rfl⟩ := hx
          rw [h1] at e1
          cases e1
          obtain ⟨a, us, z, rfl, g1, g2⟩ := subT_rel hu hok h5
          obtain ⟨v, k1, k2⟩ := fitsT_run (P := P) (w := w) (pre := pre ++ a) (post := z ++ post) hf g2 h2 (by rw [h3]; simp) (off := base + pathOff p) (by rw [List.length_append, h4, g1])
          refine ⟨v, ?_, k2, m.see id⟩
          rw [Instr.loadAt, Instr.sureAddr, Sem.run_bind]
          simp only [Sem.run_pure, Result.andThen_ok]
          exact k1
        · cases he
      · cases he
    · cases he
  · cases he

/-! ### a store -/

theorem evalStore_sound {S : Nat → Prop} {h : H} {t : TypeId} {x : A} {y : V} {vx vy : Value} {r : OpR} (he : evalStore P h t x y = some r) (hok : okB r.ok = true) (m : Mem S ν w h) (hS : ∀ i, i ∈ r.h.rd → S i)
    (hx : x.rel ν vx) (hy : y.rel ν vy) : ∃ w', (Instr.storeAt t vx vy).run P w = .ok () w' ∧ r.v = .t (.a .undef) ∧ Goes S ν w h ν w' r.h := by
  unfold evalStore at he
  split at he
  · rename_i id p
    split at he
    · rename_i b v hb hv
      split at he
      · rename_i hc
        simp only [Bool.and_eq_true] at hc
        obtain ⟨hrw, hs⟩ := hc
        split at he
        · rename_i t' ht'
          simp only [Option.some.injEq] at he
          subst he
          obtain ⟨e1, n, hn⟩ := optEqN_eq hs
          have hvr := V.cells_rel hv hy (size_ne_bad hn)
          obtain ⟨q, base, cs, ty, fr, pre, vs, post, h1, h2, h3, h4, h5, h6⟩ := (m.seen id b hb (see_seen (h := h) hS)).cells (upd_not ht')
          obtain ⟨rfl, rfl⟩ := h6 hrw
          have hpre : pre = [] := List.length_eq_zero_iff.1 h4
          subst hpre
          simp only [A.rel] at hx
          obtain ⟨q', base', e2, rfl⟩ := hx
          rw [h1] at e2
          cases e2
          obtain ⟨a, us, z, rfl, g1, g2, g3⟩ := updT_rel hvr ht' hok h5
          obtain ⟨cs', k1, k2⟩ := storeCells_run (P := P) vy.cells.toList us a (z ++ post) w q (pathOff p) 0 cs ty h2 (by rw [h3]; simp) (by omega) g2 (rel_cells hvr)
          refine ⟨_, ?_, rfl, (m.see id).trans ((m.see id).mem.store (id := id) (b := b) hb hrw h1 (cs := cs') (ty := ty) ⟨a ++ vy.cells.toList ++ z, post, by rw [k1]; simp, g3⟩)⟩
          rw [Instr.storeAt, Instr.sureAddr, Sem.run_bind]
          simp only [Sem.run_pure, Result.andThen_ok]
          rw [storeVar, Sem.run_bind, run_sizeOf' (e1 ▸ hn)]
          simp only [Result.andThen_ok]
          have hsz : vy.cells.size = n := by rw [← size_length hn hvr]; simp
          rw [if_neg (by simp [hsz])]
          simp only [Nat.zero_add] at k2 ⊢
          exact k2
        · cases he
      · cases he
    · cases he
  · cases he
end
end Go.WE
