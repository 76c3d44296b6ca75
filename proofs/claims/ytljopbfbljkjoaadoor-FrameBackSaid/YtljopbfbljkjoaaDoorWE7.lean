/- WE7: the evaluator's memory and the world's. -/
import Derived.Test.YtljopbfbljkjoaaDoorWE6
namespace Go.WE
open Go
open Go.RowKit (Below)

/-- Entries of a map, as they are told. -/
def entsRel (ν : Nu) (k : IntKind) : List Int → List T → List MapEntry → Prop
  | [], [], [] => True
  | n :: ks, t :: ts, e :: es => (e.key = .int k n ∧ k.wrap n = n) ∧ t.relV ν e.val ∧ entsRel ν k ks ts es
  | _, _, _ => False

def mpRel (ν : Nu) : T → List MapEntry → Prop
  | .bad, _ => True
  | .mp k ks ts, es => entsRel ν k ks ts es
  | _, _ => False

theorem entsRel_mono {ν ν' : Nu} (hl : ν.le ν') {k : IntKind} : ∀ {ks : List Int} {ts : List T} {es : List MapEntry}, entsRel ν k ks ts es → entsRel ν' k ks ts es
  | [], [], [], _ => trivial
  | _ :: _, _ :: _, _ :: _, h => ⟨h.1, T.relV_mono hl h.2.1, entsRel_mono hl h.2.2⟩
  | [], [], _ :: _, h => h.elim
  | [], _ :: _, _, h => h.elim
  | _ :: _, [], _, h => h.elim
  | _ :: _, _ :: _, [], h => h.elim
theorem mpRel_mono {ν ν' : Nu} (hl : ν.le ν') {t : T} {es : List MapEntry} (h : mpRel ν t es) : mpRel ν' t es := by
  cases t <;> first | exact entsRel_mono hl h | exact h
theorem mpRel_not {ν : Nu} {t : T} {es : List MapEntry} (h : mpRel ν t es) : notMp t = false := by
  cases t <;> first | rfl | exact h.elim

/-- A block of cells stands in the world as it is told. -/
def SeenC (ν : Nu) (w : World) (id : Nat) (b : Blk) : Prop :=
  ∃ r base cs ty fr pre vs post, ν id = some (r, base) ∧ w.heap[r]? = some (.cells cs ty fr) ∧ cs.toList = pre ++ vs ++ post ∧ pre.length = base ∧ b.t.rel ν vs ∧ (b.rw = true → base = 0 ∧ fr = (0, 0))
/-- A map. -/
def SeenM (ν : Nu) (w : World) (id : Nat) (b : Blk) : Prop :=
  ∃ r es c, ν id = some (r, 0) ∧ w.heap[r]? = some (.map es c) ∧ mpRel ν b.t es.toList

/-- A block of the evaluator stands in the world as it is told. -/
def Seen (ν : Nu) (w : World) (id : Nat) (b : Blk) : Prop := SeenC ν w id b ∨ SeenM ν w id b

theorem Seen.cells {ν : Nu} {w : World} {id : Nat} {b : Blk} (h : Seen ν w id b) (hn : notMp b.t = true) : SeenC ν w id b := by
  rcases h with h | ⟨r, es, c, _, _, h3⟩
  · exact h
  · rw [mpRel_not h3] at hn; cases hn

/-- What becomes of a memory: what was noted stays noted; what was there, and is not noted as written, is as it was. -/
structure Ext (h h' : H) : Prop where
  lo : h'.lo = h.lo
  next : h.next ≤ h'.next
  rd : ∀ id, id ∈ h.rd → id ∈ h'.rd
  wr : ∀ id, id ∈ h.wr → id ∈ h'.wr
  same : ∀ id, id < h.lo → id ∉ h'.wr → h'.m.get id = h.m.get id
  rw : ∀ id b', id < h.next → h'.m.get id = some b' → ∃ b, h.m.get id = some b ∧ b.rw = b'.rw
  wrw : ∀ id, id ∈ h'.wr → id ∈ h.wr ∨ (∃ b, h.m.get id = some b ∧ b.rw = true) ∨ h.next ≤ id
  gl : h'.gl = h.gl
  bnd : (∀ id b, h.m.get id = some b → id < h.next) → ∀ id b, h'.m.get id = some b → id < h'.next
  wlo : (∀ id, id ∈ h.wr → id < h.lo) → ∀ id, id ∈ h'.wr → id < h.lo

theorem Ext.refl (h : H) : Ext h h := ⟨rfl, Nat.le_refl _, fun _ h => h, fun _ h => h, fun _ _ _ => rfl, fun _ b _ hb => ⟨b, hb, rfl⟩, fun _ h => .inl h, rfl, fun h => h, fun h => h⟩
theorem Ext.trans {h h' h'' : H} (a : Ext h h') (b : Ext h' h'') : Ext h h'' where
  lo := b.lo.trans a.lo
  next := Nat.le_trans a.next b.next
  rd := fun id hi => b.rd id (a.rd id hi)
  wr := fun id hi => b.wr id (a.wr id hi)
  same := fun id hi hn => by
    rw [b.same id (by rw [a.lo]; exact hi) hn, a.same id hi (fun h => hn (b.wr id h))]
  rw := fun id b' hi hb => by
    obtain ⟨b1, h1, h2⟩ := b.rw id b' (Nat.lt_of_lt_of_le hi a.next) hb
    obtain ⟨b0, h3, h4⟩ := a.rw id b1 hi h1
    exact ⟨b0, h3, h4.trans h2⟩
  wrw := fun id hi => by
    rcases b.wrw id hi with h1 | ⟨b1, h1, h2⟩ | h1
    · exact a.wrw id h1
    · by_cases hl : id < h.next
      · obtain ⟨b0, h3, h4⟩ := a.rw id b1 hl h1
        exact .inr (.inl ⟨b0, h3, h4.trans h2⟩)
      · exact .inr (.inr (by omega))
    · exact .inr (.inr (Nat.le_trans a.next h1))
  gl := b.gl.trans a.gl
  bnd := fun h => b.bnd (a.bnd h)
  wlo := fun h id hi => by rw [← a.lo]; exact b.wlo (fun j hj => by rw [a.lo]; exact a.wlo h j hj) id hi

structure Frm (ν : Nu) (h' : H) (w w' : World) : Prop where
  os : w'.os = w.os
  tape : w'.tape = w.tape
  output : w'.output = w.output
  size : w.heap.size ≤ w'.heap.size
  block : ∀ r, r < w.heap.size → (∀ id base, ν id = some (r, base) → id < h'.lo ∧ id ∉ h'.wr) → w'.heap[r]? = w.heap[r]?

/-- The numbers of blocks: each writable one has a block of the world of its own. -/
structure Nums (ν : Nu) (w : World) (h : H) : Prop where
  lt : ∀ id r base, ν id = some (r, base) → r < w.heap.size
  inj : ∀ id b, h.m.get id = some b → b.rw = true → ∀ id' r base base', ν id = some (r, base) → ν id' = some (r, base') → id' = id
  fresh : ∀ id, h.next ≤ id → ν id = none
  bound : ∀ id b, h.m.get id = some b → id < h.next
  lo : h.lo ≤ h.next
  glob : ∀ g, g ∈ h.gl → ν g = some (g, 0)

/-- `S`: the blocks below `lo` that are looked at. -/
structure Mem (S : Nat → Prop) (ν : Nu) (w : World) (h : H) : Prop where
  nums : Nums ν w h
  seen : ∀ id b, h.m.get id = some b → (S id ∨ h.lo ≤ id) → Seen ν w id b

structure Goes (S : Nat → Prop) (ν : Nu) (w : World) (h : H) (ν' : Nu) (w' : World) (h' : H) : Prop where
  le : ν.le ν'
  mem : Mem S ν' w' h'
  frm : Frm ν h' w w'
  new : ∀ id r base, ν id = none → ν' id = some (r, base) → w.heap.size ≤ r
  ext : Ext h h'
  old : ∀ id, id < h.next → ν' id = ν id

theorem Frm.refl (ν : Nu) (h : H) (w : World) : Frm ν h w w := ⟨rfl, rfl, rfl, Nat.le_refl _, fun _ _ _ => rfl⟩

theorem Goes.refl {S : Nat → Prop} {ν : Nu} {w : World} {h : H} (m : Mem S ν w h) : Goes S ν w h ν w h :=
  ⟨Nu.le_refl _, m, Frm.refl _ _ _, fun _ _ _ h h' => (by rw [h] at h'; cases h'), Ext.refl _, fun _ _ => rfl⟩

theorem Goes.trans {S : Nat → Prop} {ν ν' ν'' : Nu} {w w' w'' : World} {h h' h'' : H} (a : Goes S ν w h ν' w' h') (b : Goes S ν' w' h' ν'' w'' h'') : Goes S ν w h ν'' w'' h'' where
  le := Nu.le_trans a.le b.le
  mem := b.mem
  frm := {
    os := b.frm.os.trans a.frm.os
    tape := b.frm.tape.trans a.frm.tape
    output := b.frm.output.trans a.frm.output
    size := Nat.le_trans a.frm.size b.frm.size
    block := fun r hr hn => by
      rw [b.frm.block r (Nat.lt_of_lt_of_le hr a.frm.size) ?_, a.frm.block r hr ?_]
      · intro id base hi
        obtain ⟨h1, h2⟩ := hn id base hi
        exact ⟨by rw [← b.ext.lo]; exact h1, fun h => h2 (b.ext.wr id h)⟩
      · intro id base hi
        cases hν : ν id with
        | none => have := a.new id r base hν hi; omega
        | some p =>
          have := a.le id p hν
          rw [hi] at this
          cases this
          exact hn id base hν }
  new := fun id r base hn hi => by
    cases hν : ν' id with
    | none => exact Nat.le_trans a.frm.size (b.new id r base hν hi)
    | some p =>
      have := b.le id p hν
      rw [hi] at this
      cases this
      exact a.new id r base hn hν
  ext := a.ext.trans b.ext
  old := fun id hi => (b.old id (Nat.lt_of_lt_of_le hi a.ext.next)).trans (a.old id hi)

theorem Seen.mono {ν ν' : Nu} {w w' : World} {id : Nat} {b : Blk} (hl : ν.le ν') (hs : Seen ν w id b) (hw : ∀ r base, ν id = some (r, base) → w'.heap[r]? = w.heap[r]?) : Seen ν' w' id b := by
  rcases hs with ⟨r, base, cs, ty, fr, pre, vs, post, h1, h2, h3, h4, h5, h6⟩ | ⟨r, es, c, h1, h2, h3⟩
  · exact .inl ⟨r, base, cs, ty, fr, pre, vs, post, hl _ _ h1, by rw [hw r base h1]; exact h2, h3, h4, T.rel_mono hl h5, h6⟩
  · exact .inr ⟨r, es, c, hl _ _ h1, by rw [hw r 0 h1]; exact h2, mpRel_mono hl h3⟩

/-! ### a look -/

theorem mem_addN {x y : Nat} {l : List Nat} : y ∈ addN x l ↔ y = x ∨ y ∈ l := by
  unfold addN
  cases h : memB x l
  · simp
  · have : x ∈ l := by
      unfold memB at h
      obtain ⟨z, hz, e⟩ := List.any_eq_true.1 h
      rw [beq_true e]; exact hz
    constructor
    · exact .inr
    · rintro (rfl | h)
      · exact this
      · exact h

theorem mem_noteB {lo x y : Nat} {l : List Nat} : y ∈ noteB lo x l ↔ (y = x ∧ x < lo) ∨ y ∈ l := by
  unfold noteB
  cases h : Nat.blt x lo
  · have : ¬ x < lo := fun hlt => by
      have h2 : Nat.blt x lo = true := Nat.ble_eq_true_of_le hlt
      rw [h] at h2; cases h2
    simp [this]
  · have := blt_lt h
    simp only [mem_addN]
    simp [this]

theorem see_ext (h : H) (id : Nat) : Ext h (h.see id) := ⟨rfl, Nat.le_refl _, fun _ hi => mem_noteB.2 (.inr hi), fun _ hi => hi, fun _ _ _ => rfl, fun _ b _ hb => ⟨b, hb, rfl⟩, fun _ h => .inl h, rfl, fun h => h, fun h => h⟩

theorem Mem.see {S : Nat → Prop} {ν : Nu} {w : World} {h : H} (m : Mem S ν w h) (id : Nat) : Goes S ν w h ν w (h.see id) :=
  ⟨Nu.le_refl _, ⟨⟨m.nums.lt, m.nums.inj, m.nums.fresh, m.nums.bound, m.nums.lo, m.nums.glob⟩, m.seen⟩, Frm.refl _ _ _, fun _ _ _ h h' => (by rw [h] at h'; cases h'), see_ext h id, fun _ _ => rfl⟩

/-- What is noted as read is looked at. -/
theorem see_seen {S : Nat → Prop} {h : H} {id : Nat} (hS : ∀ i, i ∈ (h.see id).rd → S i) : S id ∨ h.lo ≤ id := by
  by_cases hlt : id < h.lo
  · exact .inl (hS id (mem_noteB.2 (.inl ⟨rfl, hlt⟩)))
  · exact .inr (by omega)

/-! ### a new block -/

def upd (ν : Nu) (id : Nat) (p : Nat × Nat) : Nu := fun j => if j = id then some p else ν j

theorem le_upd {ν : Nu} {id : Nat} {p : Nat × Nat} (h : ν id = none) : ν.le (upd ν id p) := fun j c e => by
  unfold upd; split
  · subst_vars; rw [h] at e; cases e
  · exact e

theorem heap_alloc_old {w : World} {o : Obj} {b : Nat} (h : b < w.heap.size) : (w.alloc o).heap[b]? = w.heap[b]? := by
  show (w.heap.push o)[b]? = _
  rw [Array.getElem?_push, if_neg (by omega)]

theorem heap_alloc_new (w : World) (o : Obj) : (w.alloc o).heap[w.heap.size]? = some o := by
  show (w.heap.push o)[w.heap.size]? = _
  simp

theorem new_ext {h : H} (hlo : h.lo ≤ h.next) (b : Blk) : Ext h (h.new b) :=
  ⟨rfl, Nat.le_succ _, fun _ hi => hi, fun _ hi => hi, fun id hi _ => by
    show (h.m.set h.next b).get id = _
    rw [Tr.get_set, if_neg (by omega)], fun id b' hi hb => by
    replace hb : (h.m.set h.next b).get id = some b' := hb
    rw [Tr.get_set, if_neg (by omega)] at hb
    exact ⟨b', hb, rfl⟩, fun _ h => .inl h, rfl, fun hb id b' hg => by
    replace hg : (h.m.set h.next b).get id = some b' := hg
    rw [Tr.get_set] at hg
    show id < h.next + 1
    split at hg
    · omega
    · have := hb id b' hg; omega, fun h => h⟩

theorem Mem.allocO {S : Nat → Prop} {ν : Nu} {w : World} {h : H} (m : Mem S ν w h) {t : T} {ob : Obj} (ht : Nu.le ν (upd ν h.next (w.heap.size, 0)) → Seen (upd ν h.next (w.heap.size, 0)) (w.alloc ob) h.next ⟨true, t⟩) :
    Goes S ν w h (upd ν h.next (w.heap.size, 0)) (w.alloc ob) (h.new ⟨true, t⟩) := by
  have hn : ν h.next = none := m.nums.fresh _ (Nat.le_refl _)
  have hle := le_upd (p := (w.heap.size, 0)) hn
  have hget : ∀ id, (h.new ⟨true, t⟩).m.get id = if h.next = id then some ⟨true, t⟩ else h.m.get id := fun id => Tr.get_set _ _ _ _
  refine ⟨hle, ⟨⟨?_, ?_, ?_, ?_, ?_, fun g hg => hle _ _ (m.nums.glob g hg)⟩, ?_⟩, ⟨rfl, rfl, rfl, by simp [World.size_alloc], ?_⟩, ?_, new_ext m.nums.lo _, ?_⟩
  · intro id r base hi
    simp only [World.size_alloc]
    unfold upd at hi
    split at hi
    · simp at hi; omega
    · have := m.nums.lt id r base hi; omega
  · intro id b hb hrw id' r base base' h1 h2
    rw [hget] at hb
    unfold upd at h1 h2
    split at h1 <;> split at h2
    · omega
    · simp at h1; have := m.nums.lt _ _ _ h2; omega
    · simp at h2; have := m.nums.lt _ _ _ h1; omega
    · rename_i e1 e2
      rw [if_neg (fun e => e1 e.symm)] at hb
      exact m.nums.inj id b hb hrw id' r base base' h1 h2
  · intro id hi
    have hi : h.next + 1 ≤ id := hi
    unfold upd
    rw [if_neg (by omega)]
    exact m.nums.fresh id (by omega)
  · intro id b hb
    show id < h.next + 1
    rw [hget] at hb
    split at hb
    · omega
    · have := m.nums.bound id b hb; omega
  · have := m.nums.lo
    show h.lo ≤ h.next + 1
    omega
  · intro id b hb hS
    rw [hget] at hb
    split at hb
    · rename_i e
      subst e
      simp at hb
      subst hb
      exact ht hle
    · exact (m.seen id b hb hS).mono hle fun r base hi => heap_alloc_old (m.nums.lt _ _ _ hi)
  · intro r hr _
    exact heap_alloc_old hr
  · intro id r base hn' hi
    unfold upd at hi
    split at hi
    · simp at hi; omega
    · rw [hn'] at hi; cases hi
  · intro id hi
    unfold upd
    rw [if_neg (by omega)]

theorem Mem.alloc {S : Nat → Prop} {ν : Nu} {w : World} {h : H} (m : Mem S ν w h) {t : T} {vs : Array Value} (ty : TypeId) (ht : t.rel ν vs.toList) :
    Goes S ν w h (upd ν h.next (w.heap.size, 0)) (w.alloc (.cells vs ty)) (h.new ⟨true, t⟩) :=
  m.allocO fun hle => .inl ⟨w.heap.size, 0, vs, ty, (0, 0), [], vs.toList, [], by simp [upd], heap_alloc_new _ _, by simp, rfl, T.rel_mono hle ht, fun _ => ⟨rfl, rfl⟩⟩

/-! ### a store -/

theorem put_ext {h : H} {id : Nat} {b b0 : Blk} (h0 : h.m.get id = some b0) (h1 : b0.rw = true) (h2 : b.rw = true) : Ext h (h.put id b) :=
  ⟨rfl, Nat.le_refl _, fun _ hi => hi, fun _ hi => mem_noteB.2 (.inr hi), fun j hj hn => by
    show (h.m.set id b).get j = _
    rw [Tr.get_set, if_neg]
    rintro rfl
    exact hn (mem_noteB.2 (.inl ⟨rfl, hj⟩)), fun j b' _ hb => by
    replace hb : (h.m.set id b).get j = some b' := hb
    rw [Tr.get_set] at hb
    split at hb
    · rename_i e
      subst e
      cases hb
      exact ⟨b0, h0, h1.trans h2.symm⟩
    · exact ⟨b', hb, rfl⟩, fun j hj => by
    rcases mem_noteB.1 hj with ⟨rfl, _⟩ | hj
    · exact .inr (.inl ⟨b0, h0, h1⟩)
    · exact .inl hj, rfl, fun hb j b' hg => by
    replace hg : (h.m.set id b).get j = some b' := hg
    rw [Tr.get_set] at hg
    split at hg
    · rename_i e; subst e; exact hb id b0 h0
    · exact hb j b' hg, fun h j hj => by
    rcases mem_noteB.1 hj with ⟨rfl, h3⟩ | h3
    · exact h3
    · exact h j h3⟩

theorem Mem.storeO {S : Nat → Prop} {ν : Nu} {w : World} {h : H} (m : Mem S ν w h) {id r : Nat} {t' : T} {b : Blk} {ob : Obj} (hb : h.m.get id = some b) (hrw : b.rw = true) (hν : ν id = some (r, 0))
    (ht : (wset w r ob).heap[r]? = some ob → Seen ν (wset w r ob) id ⟨true, t'⟩) : Goes S ν w h ν (wset w r ob) (h.put id ⟨true, t'⟩) := by
  have hget : ∀ j, (h.put id ⟨true, t'⟩).m.get j = if id = j then some ⟨true, t'⟩ else h.m.get j := fun j => Tr.get_set _ _ _ _
  refine ⟨Nu.le_refl _, ⟨⟨?_, ?_, m.nums.fresh, ?_, m.nums.lo, m.nums.glob⟩, ?_⟩, ⟨rfl, rfl, rfl, by rw [wset_size]; exact Nat.le_refl _, ?_⟩, fun _ _ _ h h' => (by rw [h] at h'; cases h'), put_ext hb hrw rfl, fun _ _ => rfl⟩
  · intro j r' base hj
    rw [wset_size]
    exact m.nums.lt j r' base hj
  · intro j b' hb' hrw' j' r' base base' h1 h2
    rw [hget] at hb'
    split at hb'
    · rename_i e
      subst e
      exact m.nums.inj id b hb hrw j' r' base base' h1 h2
    · exact m.nums.inj j b' hb' hrw' j' r' base base' h1 h2
  · intro j b' hb'
    rw [hget] at hb'
    split at hb'
    · rename_i e
      subst e
      exact m.nums.bound id b hb
    · exact m.nums.bound j b' hb'
  · intro j b' hb' hS
    rw [hget] at hb'
    split at hb'
    · rename_i e
      subst e
      simp at hb'
      subst hb'
      exact ht (wset_get (m.nums.lt _ _ _ hν))
    · rename_i hne
      refine (m.seen j b' hb' hS).mono (Nu.le_refl _) fun r' base hj => wset_get_ne ?_
      rintro rfl
      exact hne (m.nums.inj id b hb hrw j r 0 base hν hj).symm
  · intro r' hr' hn
    refine wset_get_ne ?_
    rintro rfl
    have := hn id 0 hν
    exact this.2 (mem_noteB.2 (.inl ⟨rfl, this.1⟩))
theorem Mem.store {S : Nat → Prop} {ν : Nu} {w : World} {h : H} (m : Mem S ν w h) {id r : Nat} {t' : T} {b : Blk} {cs : Array Value} {ty : TypeId} (hb : h.m.get id = some b) (hrw : b.rw = true) (hν : ν id = some (r, 0))
    (ht : ∃ vs post, cs.toList = vs ++ post ∧ t'.rel ν vs) : Goes S ν w h ν (wset w r (.cells cs ty (0, 0))) (h.put id ⟨true, t'⟩) :=
  m.storeO hb hrw hν fun hg => by
    obtain ⟨vs, post, e1, e2⟩ := ht
    exact .inl ⟨r, 0, cs, ty, (0, 0), [], vs, post, hν, hg, by simpa using e1, rfl, e2, fun _ => ⟨rfl, rfl⟩⟩
end Go.WE
