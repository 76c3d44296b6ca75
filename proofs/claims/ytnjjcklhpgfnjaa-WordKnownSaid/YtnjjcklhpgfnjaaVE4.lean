/- VE4: the evaluator's memory, and what an operation leaves. -/
import Derived.Test.YtnjjcklhpgfnjaaVE3
namespace Go.VE
open Go
open Go.RowKit (Below)

def holds (tmps : Array Value) : Cond → Prop
  | none => True
  | some (s, want) => tmps.getD s undef = .bool want

/-- The log's block is there, and its cells are what the log says. -/
def SeesAt (ν : Nu) (h : List HE) (w : World) (id : Nat) : Prop :=
  ∃ c ty n b vs, blk h id = some (c, ty, n) ∧ ν id = some b ∧ w.heap[b]? = some (.cells vs ty (0, 0)) ∧ vs.size = n ∧
    ∀ off, off < n → (readCell h id off).rel ν (vs.getD off undef)

def upd (ν : Nu) (id b : Nat) : Nu := fun j => if j = id then some b else ν j

theorem le_upd {ν : Nu} {id b : Nat} (h : ν id = none) : ν.le (upd ν id b) := fun j c e => by
  unfold upd; split
  · subst_vars; rw [h] at e; cases e
  · exact e

/-- What is kept of the world: the blocks that are no block of the evaluator's from `lo` on. -/
structure Frm (ν : Nu) (lo : Nat) (w w' : World) : Prop where
  os : w'.os = w.os
  tape : w'.tape = w.tape
  output : w'.output = w.output
  size : w.heap.size ≤ w'.heap.size
  block : ∀ b, b < w.heap.size → (∀ j, lo ≤ j → ν j ≠ some b) → w'.heap[b]? = w.heap[b]?

theorem Frm.refl (ν : Nu) (lo : Nat) (w : World) : Frm ν lo w w := ⟨rfl, rfl, rfl, Nat.le_refl _, fun _ _ _ => rfl⟩

theorem Frm.of_below {ν : Nu} {lo : Nat} {w w' : World} (h : Below w.heap.size w w') : Frm ν lo w w' :=
  ⟨h.os, h.tape, h.output, h.size, fun b hb _ => h.block b hb⟩

/-- The state of affairs between the evaluator's numbers of blocks and the world's. -/
structure Map (ν : Nu) (w : World) : Prop where
  lt : ∀ j b, ν j = some b → b < w.heap.size
  inj : ∀ i j b, ν i = some b → ν j = some b → i = j

structure Post (ν : Nu) (w : World) (lo : Nat) (h h' : List HE) (id : Nat) (nb : Bool) (ws : List (Nat × Nat × A)) (v : V) (ν' : Nu) (w' : World) (v' : Value) : Prop where
  val : v.rel ν' v'
  le : ν.le ν'
  dom : ∀ j, ν j = none → (nb = true → j ≠ id) → ν' j = none
  map : Map ν' w'
  sees : ∀ j, SeesAt ν h w j → SeesAt ν' h' w' j
  new : nb = true → SeesAt ν' h' w' id
  fresh : ∀ j b, ν j = none → ν' j = some b → w.heap.size ≤ b
  frm : Frm ν lo w w'
  calm : ∀ b, b < w.heap.size → (∀ x, x ∈ ws → ν x.1 ≠ some b) → w'.heap[b]? = w.heap[b]?

theorem Post.same {ν : Nu} {w : World} {lo : Nat} {h : List HE} {id : Nat} {v : V} {v' : Value} (hm : Map ν w) (hv : v.rel ν v') :
    Post ν w lo h h id false [] v ν w v' :=
  ⟨hv, Nu.le_refl _, fun _ h _ => h, hm, fun _ h => h, fun h => (by cases h), fun _ _ h h' => (by rw [h] at h'; cases h'), Frm.refl _ _ _, fun _ _ _ => rfl⟩

theorem SeesAt.below {ν : Nu} {h : List HE} {w w' : World} {j : Nat} (hm : Map ν w) (hb : Below w.heap.size w w') (hs : SeesAt ν h w j) : SeesAt ν h w' j := by
  obtain ⟨c, ty, n, b, vs, h1, h2, h3, h4, h5⟩ := hs
  exact ⟨c, ty, n, b, vs, h1, h2, by rw [hb.block b (hm.lt _ _ h2)]; exact h3, h4, h5⟩

theorem Map.below {ν : Nu} {w w' : World} (hm : Map ν w) (hs : w.heap.size ≤ w'.heap.size) : Map ν w' :=
  ⟨fun j b h => Nat.lt_of_lt_of_le (hm.lt j b h) hs, hm.inj⟩

theorem Post.below {ν : Nu} {w w' : World} {lo : Nat} {h : List HE} {id : Nat} {v : V} {v' : Value} (hm : Map ν w) (hb : Below w.heap.size w w') (hv : v.rel ν v') :
    Post ν w lo h h id false [] v ν w' v' :=
  ⟨hv, Nu.le_refl _, fun _ h _ => h, hm.below hb.size, fun _ h => h.below hm hb, fun h => (by cases h), fun _ _ h h' => (by rw [h] at h'; cases h'), Frm.of_below hb, fun b h _ => hb.block b h⟩

/-! ### a new block -/

theorem blk_new (id : Nat) (c : Cond) (ty : TypeId) (cs : List A) (h : List HE) (j : Nat) :
    blk (.new id c ty cs :: h) j = if id = j then some (c, ty, cs.length) else blk h j := by
  rw [blk]
  cases hb : Nat.beq id j
  · rw [if_neg (beq_false hb)]
  · rw [if_pos (beq_true hb)]

theorem readCell_new (id : Nat) (c : Cond) (ty : TypeId) (cs : List A) (h : List HE) (j off : Nat) :
    readCell (.new id c ty cs :: h) j off = if id = j then cs.getD off .poison else readCell h j off := by
  rw [readCell]
  cases hb : Nat.beq id j
  · rw [if_neg (beq_false hb)]
  · rw [if_pos (beq_true hb)]

theorem heap_alloc_old {w : World} {o : Obj} {b : Nat} (h : b < w.heap.size) : (w.alloc o).heap[b]? = w.heap[b]? := by
  show (w.heap.push o)[b]? = _
  rw [Array.getElem?_push, if_neg (by omega)]

theorem heap_alloc_new (w : World) (o : Obj) : (w.alloc o).heap[w.heap.size]? = some o := by
  show (w.heap.push o)[w.heap.size]? = _
  simp

theorem below_alloc (w : World) (o : Obj) : Below w.heap.size w (w.alloc o) := (Below.refl _ _).alloc (Nat.le_refl _) _

theorem Post.alloc {ν : Nu} {w : World} {lo : Nat} {h : List HE} {id : Nat} {c : Cond} {ty : TypeId} {cs : List A} {vs : Array Value} {v : V} {v' : Value}
    (hm : Map ν w) (hid : ν id = none) (hcs : relL ν cs vs.toList) (hv : v.rel (upd ν id w.heap.size) v') :
    Post ν w lo h (.new id c ty cs :: h) id true [] v (upd ν id w.heap.size) (w.alloc (.cells vs ty)) v' where
  val := hv
  le := le_upd hid
  dom := fun j hj hne => by unfold upd; rw [if_neg (hne rfl)]; exact hj
  map := by
    constructor
    · intro j b hb
      simp only [World.size_alloc]
      unfold upd at hb
      split at hb
      · simp at hb; omega
      · have := hm.lt j b hb; omega
    · intro i j b hi hj
      unfold upd at hi hj
      split at hi <;> split at hj
      · omega
      · simp at hi; have := hm.lt j b hj; omega
      · simp at hj; have := hm.lt i b hi; omega
      · exact hm.inj i j b hi hj
  sees := by
    intro j ⟨c', ty', n, b, us, h1, h2, h3, h4, h5⟩
    have hne : id ≠ j := by intro e; subst e; rw [hid] at h2; cases h2
    refine ⟨c', ty', n, b, us, by rw [blk_new, if_neg hne]; exact h1, le_upd hid _ _ h2, by rw [heap_alloc_old (hm.lt _ _ h2)]; exact h3, h4, ?_⟩
    intro off ho
    rw [readCell_new, if_neg hne]
    exact A.rel_mono (le_upd hid) (h5 off ho)
  new := fun _ => by
    refine ⟨c, ty, cs.length, w.heap.size, vs, by rw [blk_new, if_pos rfl], by simp [upd], heap_alloc_new _ _, by rw [relL_length hcs]; simp, ?_⟩
    intro off ho
    rw [readCell_new, if_pos rfl]
    have := relL_get (relL_mono (le_upd (b := w.heap.size) hid) hcs) off
    simpa [Array.getD_eq_getD_getElem?, List.getD_eq_getElem?_getD] using this
  fresh := by
    intro j b hj hb
    unfold upd at hb
    split at hb
    · simp at hb; omega
    · rw [hj] at hb; cases hb
  frm := Frm.of_below (below_alloc _ _)
  calm := fun _ h _ => heap_alloc_old h

/-! ### a store -/

theorem blk_pushW : ∀ (l : List (Nat × Nat × A)) (h : List HE) (j : Nat), blk (pushW h l) j = blk h j
  | [], _, _ => rfl
  | (id, off, x) :: r, h, j => by rw [pushW, blk_pushW r]; rfl

theorem readCell_wr (id off : Nat) (x : A) (h : List HE) (j o : Nat) :
    readCell (.wr id off x :: h) j o = if id = j ∧ off = o then x else readCell h j o := by
  rw [readCell]
  cases h1 : Nat.beq id j
  · rw [if_neg (fun e => beq_false h1 e.1)]; rfl
  · cases h2 : Nat.beq off o
    · rw [if_neg (fun e => beq_false h2 e.2)]; rfl
    · rw [if_pos ⟨beq_true h1, beq_true h2⟩]; rfl

theorem readCell_wrs (id : Nat) : ∀ (cs : List A) (off : Nat) (h : List HE) (j o : Nat),
    readCell (pushW h (wrs id off cs)) j o = if id = j ∧ off ≤ o ∧ o < off + cs.length then cs.getD (o - off) .poison else readCell h j o
  | [], off, h, j, o => by rw [if_neg (by simp only [List.length_nil]; omega)]; rfl
  | c :: cs, off, h, j, o => by
    rw [wrs, pushW, readCell_wrs id cs (off + 1)]
    by_cases hj : id = j
    · by_cases ho : off = o
      · subst ho
        rw [if_neg (by omega), readCell_wr, if_pos ⟨hj, rfl⟩, if_pos ⟨hj, Nat.le_refl _, by simp⟩]
        simp
      · by_cases hr : off + 1 ≤ o ∧ o < off + 1 + cs.length
        · rw [if_pos ⟨hj, hr⟩, if_pos ⟨hj, by omega, by simp; omega⟩]
          have : o - off = (o - (off + 1)) + 1 := by omega
          rw [this]; simp
        · rw [if_neg (fun e => hr e.2), readCell_wr, if_neg (fun e => ho e.2), if_neg (by simp; omega)]
    · rw [if_neg (fun e => hj e.1), readCell_wr, if_neg (fun e => hj e.1), if_neg (fun e => hj e.1)]

def wset (w : World) (b : Nat) (o : Obj) : World := { w with heap := w.heap.setIfInBounds b o }

theorem setCell_wset {w : World} {b off : Nat} {vs : Array Value} {ty : TypeId} {v : Value} (h : w.heap[b]? = some (.cells vs ty (0, 0))) :
    w.setCell ⟨b, off, none⟩ v = wset w b (.cells (vs.setIfInBounds off v) ty (0, 0)) := by
  unfold World.setCell wset
  congr 1
  apply Array.ext_getElem?
  intro i
  rw [Array.getElem?_modify, Array.getElem?_setIfInBounds]
  have hlt : b < w.heap.size := (Array.getElem?_eq_some_iff.1 h).1
  by_cases e : b = i
  · subst e
    rw [if_pos rfl, if_pos rfl, h]
    simp [hlt]
  · rw [if_neg e, if_neg e]

theorem wset_wset (w : World) (b : Nat) (o o' : Obj) : wset (wset w b o) b o' = wset w b o' := by
  unfold wset; simp

theorem wset_get {w : World} {b : Nat} {o : Obj} (h : b < w.heap.size) : (wset w b o).heap[b]? = some o := by
  unfold wset; simp [h]

theorem wset_get_ne {w : World} {b b' : Nat} {o : Obj} (h : b ≠ b') : (wset w b o).heap[b']? = w.heap[b']? := by
  unfold wset
  rw [Array.getElem?_setIfInBounds, if_neg h]

/-- A row with some of its cells written. -/
def setL (vs : Array Value) (off : Nat) : List Value → Array Value
  | [] => vs
  | v :: r => setL (vs.setIfInBounds off v) (off + 1) r

theorem size_setL : ∀ (l : List Value) (vs : Array Value) (off : Nat), (setL vs off l).size = vs.size
  | [], _, _ => rfl
  | v :: r, vs, off => by rw [setL, size_setL r]; simp

theorem getD_setL : ∀ (l : List Value) (vs : Array Value) (off o : Nat), off + l.length ≤ vs.size →
    (setL vs off l).getD o undef = if off ≤ o ∧ o < off + l.length then l.getD (o - off) undef else vs.getD o undef
  | [], vs, off, o, _ => by rw [if_neg (by simp only [List.length_nil]; omega)]; rfl
  | v :: r, vs, off, o, hs => by
    simp at hs
    rw [setL, getD_setL r _ _ _ (by simp; omega)]
    by_cases ho : off = o
    · subst ho
      rw [if_neg (by omega), if_pos ⟨Nat.le_refl _, by simp⟩]
      simp [Array.getD_eq_getD_getElem?, show off < vs.size by omega]
    · by_cases hr : off + 1 ≤ o ∧ o < off + 1 + r.length
      · rw [if_pos hr, if_pos ⟨by omega, by simp; omega⟩]
        have : o - off = (o - (off + 1)) + 1 := by omega
        rw [this]; simp
      · rw [if_neg hr, if_neg (by simp; omega)]
        simp [Array.getD_eq_getD_getElem?, Array.getElem?_setIfInBounds_ne ho]

theorem add_addr (b off n : Nat) : (⟨b, off, none⟩ : Addr).add n = ⟨b, off + n, none⟩ := by
  unfold Addr.add; split
  · subst_vars; rfl
  · rfl

theorem cell_of {w : World} {b o : Nat} {vs : Array Value} {ty : TypeId} {fr : Nat × Nat} (h : w.heap[b]? = some (.cells vs ty fr)) (ho : o < vs.size) :
    w.cell? ⟨b, o, none⟩ = some (vs.getD o undef) := by
  simp [World.cell?, h, Array.getD_eq_getD_getElem?, ho]

theorem frozen_of {w : World} {b o : Nat} {vs : Array Value} {ty : TypeId} (h : w.heap[b]? = some (.cells vs ty (0, 0))) : w.frozen? ⟨b, o, none⟩ = false := by
  simp [World.frozen?, h]

theorem storeCells_run {P : Program} : ∀ (l : List Value) (w : World) (b off i : Nat) (vs : Array Value) (ty : TypeId), w.heap[b]? = some (.cells vs ty (0, 0)) →
    off + i + l.length ≤ vs.size → (∀ v ∈ l, v.oneCell' = true) → (storeCells ⟨b, off, none⟩ l i).run P w = .ok () (wset w b (.cells (setL vs (off + i) l) ty (0, 0)))
  | [], w, b, off, i, vs, ty, h, _, _ => by
    unfold storeCells setL
    simp only [Sem.run_pure]
    congr 1
    unfold wset
    have hlt : b < w.heap.size := (Array.getElem?_eq_some_iff.1 h).1
    have : w.heap.setIfInBounds b (.cells vs ty (0, 0)) = w.heap := by
      apply Array.ext_getElem?
      intro j
      rw [Array.getElem?_setIfInBounds]
      split
      · subst_vars; rw [h]
      · rfl
    rw [this]
  | v :: r, w, b, off, i, vs, ty, h, hs, hv => by
    simp at hs
    have hlt : b < w.heap.size := (Array.getElem?_eq_some_iff.1 h).1
    have hc := cell_of h (show off + i < vs.size by omega)
    have hf := frozen_of (o := off + i) h
    unfold storeCells
    rw [Sem.run_bind, add_addr, run_store P w _ v _ (hv v (by simp)), hc]
    simp only [hf, Bool.false_eq_true, if_false, Result.andThen_ok]
    rw [setCell_wset h, storeCells_run r _ b off (i + 1) (vs.setIfInBounds (off + i) v) ty (wset_get hlt) (by simp; omega) (fun u hu => hv u (by simp [hu])), wset_wset]
    rw [setL, Nat.add_assoc off i 1]

theorem A.solid_one {ν : Nu} {a : A} {v : Value} (hs : a.solid = true) (h : a.rel ν v) : v.oneCell' = true ∧ v.cells = #[v] := by
  cases a <;> simp [A.solid] at hs <;> simp only [A.rel] at h
  case lit => obtain ⟨rfl, _⟩ := h; exact ⟨rfl, rfl⟩
  case i => subst h; exact ⟨rfl, rfl⟩
  case tt => subst h; exact ⟨rfl, rfl⟩
  case ff => subst h; exact ⟨rfl, rfl⟩
  case b => subst h; exact ⟨rfl, rfl⟩
  case nilp => subst h; exact ⟨rfl, rfl⟩
  case ptr => obtain ⟨_, _, rfl⟩ := h; exact ⟨rfl, rfl⟩
  case nils => subst h; exact ⟨rfl, rfl⟩
  case sl => obtain ⟨_, _, rfl⟩ := h; exact ⟨rfl, rfl⟩
  case raw u => subst h; cases v <;> first | exact ⟨rfl, rfl⟩ | (exfalso; simp at hs)

theorem relL_solid {ν : Nu} : ∀ {cs : List A} {vs : List Value}, relL ν cs vs → cs.all A.solid = true → ∀ v ∈ vs, v.oneCell' = true
  | [], [], _, _, _, hv => by cases hv
  | c :: cs, u :: vs, h, hs, v, hv => by
    simp only [List.all_cons, Bool.and_eq_true] at hs
    rcases List.mem_cons.1 hv with rfl | hv
    · exact (A.solid_one hs.1 h.1).1
    · exact relL_solid h.2 hs.2 v hv
  | [], _ :: _, h, _, _, _ => h.elim
  | _ :: _, [], h, _, _, _ => h.elim

/-- A value's cells. -/
theorem solidCells_rel {ν : Nu} {x : V} {v : Value} {cs : List A} (h : x.rel ν v) (hs : x.solidCells = some cs) :
    relL ν cs v.cells.toList ∧ ∀ u ∈ v.cells.toList, u.oneCell' = true := by
  cases x with
  | a x =>
    simp only [V.solidCells] at hs
    split at hs <;> simp at hs
    rename_i hx
    subst hs
    have := A.solid_one hx h
    rw [this.2]
    exact ⟨⟨h, trivial⟩, by simp [this.1]⟩
  | g xs =>
    simp only [V.solidCells] at hs
    split at hs <;> simp at hs
    rename_i hx
    subst hs
    obtain ⟨vs, rfl, hr⟩ := h
    exact ⟨hr, relL_solid hr hx⟩
  | t ws => simp [V.solidCells] at hs

theorem Post.store {ν : Nu} {w : World} {lo : Nat} {h : List HE} {id off : Nat} {cs : List A} {vs : List Value} {id' : Nat}
    (hm : Map ν w) (hlo : lo ≤ id) {c : Cond} {ty : TypeId} {n b : Nat} {us : Array Value} (h1 : blk h id = some (c, ty, n)) (h2 : ν id = some b)
    (h3 : w.heap[b]? = some (.cells us ty (0, 0))) (h4 : us.size = n) (h5 : ∀ o, o < n → (readCell h id o).rel ν (us.getD o undef))
    (hcs : relL ν cs vs) (hle : off + cs.length ≤ n) :
    Post ν w lo h (pushW h (wrs id off cs)) id' false (wrs id off cs) (.a .undef) ν (wset w b (.cells (setL us off vs) ty (0, 0))) undef where
  val := rfl
  le := Nu.le_refl _
  dom := fun _ h _ => h
  map := by
    refine hm.below ?_
    show w.heap.size ≤ (w.heap.setIfInBounds b _).size
    simp
  sees := by
    intro j ⟨c', ty', n', b', us', g1, g2, g3, g4, g5⟩
    have hlen := relL_length hcs
    by_cases hj : id = j
    · subst hj
      rw [h1] at g1; simp at g1; obtain ⟨rfl, rfl, rfl⟩ := g1
      rw [h2] at g2; simp at g2; subst g2
      rw [h3] at g3; simp at g3; subst g3
      refine ⟨c, ty, n, b, setL us off vs, by rw [blk_pushW]; exact h1, h2, wset_get (hm.lt _ _ h2), by rw [size_setL]; exact h4, ?_⟩
      intro o ho
      rw [readCell_wrs, getD_setL _ _ _ _ (by omega)]
      by_cases hr : off ≤ o ∧ o < off + cs.length
      · rw [if_pos ⟨rfl, hr⟩, if_pos (by omega)]
        exact relL_get hcs _
      · rw [if_neg (fun e => hr e.2), if_neg (by omega)]
        exact h5 o ho
    · have hb : b ≠ b' := fun e => hj (hm.inj _ _ _ h2 (e ▸ g2))
      refine ⟨c', ty', n', b', us', by rw [blk_pushW]; exact g1, g2, by rw [wset_get_ne hb]; exact g3, g4, ?_⟩
      intro o ho
      rw [readCell_wrs, if_neg (fun e => hj e.1)]
      exact g5 o ho
  new := fun h => by cases h
  fresh := fun _ _ h h' => by rw [h] at h'; cases h'
  frm := by
    refine ⟨rfl, rfl, rfl, ?_, fun b' hb' hno => ?_⟩
    · show w.heap.size ≤ (w.heap.setIfInBounds b _).size
      simp
    · exact wset_get_ne (fun e => hno id hlo (e ▸ h2))
  calm := by
    intro k hk hno
    cases hc : cs with
    | nil =>
      subst hc
      cases vs with
      | cons v vs => exact hcs.elim
      | nil =>
        by_cases hk : b = k
        · subst hk; rw [wset_get (hm.lt _ _ h2), h3]; rfl
        · exact wset_get_ne hk
    | cons c cs' =>
      subst hc
      refine wset_get_ne (fun e => ?_)
      subst e
      exact hno (id, off, c) (by simp [wrs]) h2
end Go.VE
