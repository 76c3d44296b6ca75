/- WE20: a memory that is marked, and gone back to; memories that meet. -/
import Derived.Test.YtljopbfbljkjoaaDoorWE19
namespace Go.WE
open Go

theorem mergeT_mp {ν : Nu} {x : Bool} {t u : T} {es : List MapEntry} (h : mpRel ν (bif x then t else u) es) : mpRel ν (mergeT x t u) es := by
  cases x
  · replace h : mpRel ν u es := h
    cases u with
    | bad => cases t <;> first | (simp only [mergeT]; trivial) | (simp [mergeT, mpRel])
    | mp k ks ts => cases t <;> first | (simp only [mergeT]; trivial) | (simp [mergeT, mpRel])
    | _ => exact h.elim
  · replace h : mpRel ν t es := h
    cases t with
    | bad => simp only [mergeT]; trivial
    | mp k ks ts => simp only [mergeT]; trivial
    | _ => exact h.elim

theorem memB_iff {x : Nat} {l : List Nat} : memB x l = true ↔ x ∈ l := by
  simp only [memB, List.any_eq_true]
  constructor
  · rintro ⟨y, hy, hb⟩; rw [beq_true hb]; exact hy
  · intro h; exact ⟨x, h, by simp⟩

theorem mem_noteAll {lo y : Nat} : ∀ {l l0 : List Nat}, y ∈ noteAll lo l l0 ↔ (y ∈ l ∧ y < lo) ∨ y ∈ l0
  | [], l0 => by simp [noteAll]
  | x :: r, l0 => by
    rw [noteAll, mem_noteAll, mem_noteB, List.mem_cons]
    constructor
    · rintro (⟨h1, h2⟩ | ⟨rfl, h⟩ | h)
      · exact .inl ⟨.inr h1, h2⟩
      · exact .inl ⟨.inl rfl, h⟩
      · exact .inr h
    · rintro (⟨rfl | h1, h2⟩ | h)
      · exact .inr (.inl ⟨rfl, h2⟩)
      · exact .inl ⟨h1, h2⟩
      · exact .inr (.inr h)

theorem mem_unionN {x : Nat} : ∀ {l l' : List Nat}, x ∈ unionN l l' ↔ x ∈ l ∨ x ∈ l'
  | [], l' => by simp [unionN]
  | y :: r, l' => by
    rw [unionN, mem_unionN, mem_addN, List.mem_cons]
    constructor
    · rintro (h | rfl | h) <;> simp [*]
    · rintro ((rfl | h) | h) <;> simp [*]

/-- What is looked at, when all that is there is marked. -/
def markS (S : Nat → Prop) (h : H) : Nat → Prop := fun i => S i ∨ h.lo ≤ i

theorem mark_lo (h : H) : h.mark.lo = h.next := rfl
theorem mark_next (h : H) : h.mark.next = h.next := rfl
theorem mark_m (h : H) : h.mark.m = h.m := rfl

theorem Mem.mark {S : Nat → Prop} {ν : Nu} {w : World} {h : H} (m : Mem S ν w h) : Mem (markS S h) ν w h.mark :=
  ⟨⟨m.nums.lt, m.nums.inj, m.nums.fresh, m.nums.bound, Nat.le_refl _, m.nums.glob⟩, fun id b hb hs => m.seen id b hb (by
    rcases hs with hs | hs
    · exact hs
    · exact .inr (Nat.le_trans m.nums.lo hs))⟩

theorem back_ext {h h' : H} (hlo : h.lo ≤ h.next) (e : Ext h.mark h') : Ext h (h.back h') where
  lo := rfl
  next := e.next
  rd := fun _ hi => mem_noteAll.2 (.inr hi)
  wr := fun _ hi => mem_noteAll.2 (.inr hi)
  same := fun id hi hn => e.same id (Nat.lt_of_lt_of_le hi hlo) (fun hw => hn (mem_noteAll.2 (.inl ⟨hw, hi⟩)))
  rw := e.rw
  wrw := fun id hi => by
    rcases mem_noteAll.1 hi with ⟨h1, _⟩ | h1
    · rcases e.wrw id h1 with h2 | h2
      · cases h2
      · exact .inr h2
    · exact .inl h1
  gl := e.gl
  bnd := e.bnd
  wlo := fun h id hi => by
    rcases mem_noteAll.1 hi with ⟨_, h1⟩ | h1
    · exact h1
    · exact h id h1

theorem back_goes {S : Nat → Prop} {ν ν' : Nu} {w w' : World} {h h' : H} (hlo : h.lo ≤ h.next) (g : Goes (markS S h) ν w h.mark ν' w' h') : Goes S ν w h ν' w' (h.back h') where
  le := g.le
  mem := by
    have m := g.mem
    refine ⟨⟨m.nums.lt, m.nums.inj, m.nums.fresh, m.nums.bound, ?_, m.nums.glob⟩, fun id b hb hs => m.seen id b hb ?_⟩
    · exact Nat.le_trans hlo g.ext.next
    · exact .inl hs
  frm := ⟨g.frm.os, g.frm.tape, g.frm.output, g.frm.size, fun r hr hn => g.frm.block r hr fun id base hi => by
    obtain ⟨h1, h2⟩ := hn id base hi
    have h1 : id < h.lo := h1
    exact ⟨by rw [g.ext.lo]; exact Nat.lt_of_lt_of_le h1 hlo, fun hw => h2 (mem_noteAll.2 (.inl ⟨hw, h1⟩))⟩⟩
  new := g.new
  ext := back_ext hlo g.ext
  old := g.old

/-- What was noted while it was marked is looked at. -/
theorem back_rd {S : Nat → Prop} {h h' : H} (hS : ∀ i, i ∈ (h.back h').rd → S i) : ∀ i, i ∈ h'.rd → markS S h i := fun i hi => by
  by_cases hl : i < h.lo
  · exact .inl (hS i (mem_noteAll.2 (.inl ⟨hi, hl⟩)))
  · exact .inr (by omega)
theorem back_wr {S : Nat → Prop} {h h' : H} (hS : ∀ i, i ∈ (h.back h').wr → S i) : ∀ i, i ∈ h'.wr → markS S h i := fun i hi => by
  by_cases hl : i < h.lo
  · exact .inl (hS i (mem_noteAll.2 (.inl ⟨hi, hl⟩)))
  · exact .inr (by omega)

/-! ### memories meet -/

theorem get_mergeBlks (x : Bool) (m1 m2 : Tr Blk) : ∀ (l : List Nat) (m : Tr Blk) (id : Nat),
    (mergeBlks x m1 m2 l m).get id = if id ∈ l then (match m1.get id, m2.get id with
      | some b1, some b2 => some ⟨b1.rw && b2.rw, mergeT x b1.t b2.t⟩
      | _, _ => none) else m.get id
  | [], m, id => by simp [mergeBlks]
  | j :: r, m, id => by
    rw [mergeBlks, get_mergeBlks x m1 m2 r]
    by_cases hr : id ∈ r
    · rw [if_pos hr, if_pos (by simp [hr])]
    · rw [if_neg hr]
      by_cases hj : j = id
      · subst hj
        rw [if_pos (by simp)]
        cases m1.get j <;> cases m2.get j <;> simp only [Tr.get_set, Tr.get_del, if_true]
      · rw [if_neg (by simp [hr]; exact fun h => hj h.symm)]
        split
        · rw [Tr.get_set, if_neg hj]
        · rw [Tr.get_del, if_neg hj]

theorem mergeH_ext {x : Bool} {h h1 h2 : H} (e1 : Ext h h1) (e2 : Ext h h2) : Ext h (mergeH x h h1 h2) where
  lo := rfl
  next := Nat.le_trans e1.next (Nat.le_max_left _ _)
  rd := fun id hi => mem_unionN.2 (.inl (e1.rd id hi))
  wr := fun id hi => mem_unionN.2 (.inl (e1.wr id hi))
  same := fun id _ hn => by
    show (mergeBlks _ _ _ _ _).get id = _
    replace hn : id ∉ unionN h1.wr h2.wr := hn
    rw [get_mergeBlks, if_neg hn]
  rw := fun id b' hi hb => by
    replace hb : (mergeBlks _ _ _ _ _).get id = some b' := hb
    rw [get_mergeBlks] at hb
    split at hb
    · split at hb
      · rename_i b1 b2 g1 g2
        cases hb
        obtain ⟨b, q1, q2⟩ := e1.rw id b1 hi g1
        obtain ⟨b0, q3, q4⟩ := e2.rw id b2 hi g2
        rw [q1] at q3
        cases q3
        exact ⟨b, q1, by simp [← q2, ← q4]⟩
      · cases hb
    · exact ⟨b', hb, rfl⟩
  wrw := fun id hi => by
    rcases mem_unionN.1 hi with h3 | h3
    · exact e1.wrw id h3
    · exact e2.wrw id h3
  gl := rfl
  bnd := fun hb id b hg => by
    replace hg : (mergeBlks _ _ _ _ _).get id = some b := hg
    rw [get_mergeBlks] at hg
    split at hg
    · split at hg
      · rename_i b1 b2 g1 g2
        exact Nat.lt_of_lt_of_le (e1.bnd hb id b1 g1) (Nat.le_max_left _ _)
      · cases hg
    · exact Nat.lt_of_lt_of_le (hb id b hg) (Nat.le_trans e1.next (Nat.le_max_left _ _))
  wlo := fun h id hi => by
    rcases mem_unionN.1 hi with h3 | h3
    · exact e1.wlo h id h3
    · exact e2.wlo h id h3

theorem mergeH_goes {S : Nat → Prop} {x : Bool} {h h1 h2 : H} (e1 : Ext h h1) (e2 : Ext h h2) {ν ν' : Nu} {w w' : World} (hm : Mem S ν w h)
    (hl : h.lo = h.next) (g : Goes S ν w h ν' w' (bif x then h1 else h2)) : Goes S ν w h ν' w' (mergeH x h h1 h2) := by
  have hnext : (bif x then h1 else h2).next ≤ (mergeH x h h1 h2).next := by
    cases x
    · exact Nat.le_max_right _ _
    · exact Nat.le_max_left _ _
  have hwr : ∀ id, id ∉ (mergeH x h h1 h2).wr → id ∉ (bif x then h1 else h2).wr := fun id hn hw => hn (by
    cases x
    · exact mem_unionN.2 (.inr hw)
    · exact mem_unionN.2 (.inl hw))
  -- a block of the table that meets
  have hblk : ∀ id b, (mergeH x h h1 h2).m.get id = some b → ∃ b', (bif x then h1 else h2).m.get id = some b' ∧ (b.rw = true → b'.rw = true) ∧ (∀ vs, b'.t.rel ν' vs → b.t.rel ν' vs) ∧ (∀ es, mpRel ν' b'.t es → mpRel ν' b.t es) := by
    intro id b hb
    replace hb : (mergeBlks _ _ _ _ _).get id = some b := hb
    rw [get_mergeBlks] at hb
    split at hb
    · split at hb
      · rename_i b1 b2 g1 g2
        cases hb
        cases x
        · exact ⟨b2, g2, fun hr => by simp at hr; exact hr.2, fun vs hv => mergeT_rel (x := false) hv, fun es he => mergeT_mp (x := false) he⟩
        · exact ⟨b1, g1, fun hr => by simp at hr; exact hr.1, fun vs hv => mergeT_rel (x := true) hv, fun es he => mergeT_mp (x := true) he⟩
      · cases hb
    · rename_i hn
      have hlt := hm.nums.bound id b hb
      refine ⟨b, ?_, fun h => h, fun _ h => h, fun _ h => h⟩
      rw [← hb]
      exact g.ext.same id (by omega) (hwr id hn)
  have m := g.mem
  constructor
  case le => exact g.le
  case mem =>
    refine ⟨⟨m.nums.lt, ?_, ?_, ?_, ?_, ?_⟩, ?_⟩
    · intro id b hb hrw
      obtain ⟨b', h3, h4, _⟩ := hblk id b hb
      exact m.nums.inj id b' h3 (h4 hrw)
    · exact fun id hi => m.nums.fresh id (Nat.le_trans hnext hi)
    · intro id b hb
      obtain ⟨b', h3, _⟩ := hblk id b hb
      exact Nat.lt_of_lt_of_le (m.nums.bound id b' h3) hnext
    · show h.lo ≤ _
      exact Nat.le_trans hm.nums.lo (mergeH_ext (x := x) e1 e2).next
    · intro gb hg
      refine m.nums.glob gb ?_
      rw [g.ext.gl]; exact hg
    · intro id b hb hs
      obtain ⟨b', h3, h4, h5⟩ := hblk id b hb
      have hs : S id ∨ h.lo ≤ id := hs
      rcases m.seen id b' h3 (by rw [g.ext.lo]; exact hs) with ⟨r, base, cs, ty, fr, pre, vs, post, q1, q2, q3, q4, q5, q6⟩ | ⟨r, es, c, q1, q2, q3⟩
      · exact .inl ⟨r, base, cs, ty, fr, pre, vs, post, q1, q2, q3, q4, h5.1 vs q5, fun hr => q6 (h4 hr)⟩
      · exact .inr ⟨r, es, c, q1, q2, h5.2 _ q3⟩
  case frm =>
    refine ⟨g.frm.os, g.frm.tape, g.frm.output, g.frm.size, fun r hr hn => g.frm.block r hr fun id base hi => ?_⟩
    obtain ⟨h3, h4⟩ := hn id base hi
    exact ⟨by rw [g.ext.lo]; exact h3, hwr id h4⟩
  case new => exact g.new
  case ext => exact mergeH_ext e1 e2
  case old => exact g.old

/-! ### a region's mark, while operations have no order of their own: see `underC` -/

/-- What an operation under a condition leaves. -/
theorem under_goes {S : Nat → Prop} {ν ν' : Nu} {w w' : World} {h h' : H} (m : Mem S ν w h) (hw : h'.wr = []) (g : Goes (markS S h) ν w h.mark ν' w' h') :
    Goes S ν w h ν' w' { h with rd := noteAll h.lo h'.rd h.rd, next := h'.next } := by
  have hlo := m.nums.lo
  have hnx : h.next ≤ h'.next := g.ext.next
  have hsame : ∀ id b, h.m.get id = some b → h'.m.get id = some b := fun id b hb => by
    rw [← hb]
    exact g.ext.same id (m.nums.bound id b hb) (by rw [hw]; exact List.not_mem_nil)
  constructor
  case le => exact g.le
  case mem =>
    refine ⟨⟨g.mem.nums.lt, ?_, g.mem.nums.fresh, ?_, ?_, ?_⟩, ?_⟩
    · exact fun id b hb hrw => g.mem.nums.inj id b (hsame id b hb) hrw
    · intro id b hb
      exact Nat.lt_of_lt_of_le (m.nums.bound id b hb) hnx
    · exact Nat.le_trans hlo hnx
    · exact fun gb hg => g.le _ _ (m.nums.glob gb hg)
    · exact fun id b hb hs => g.mem.seen id b (hsame id b hb) (.inl hs)
  case frm =>
    refine ⟨g.frm.os, g.frm.tape, g.frm.output, g.frm.size, fun r hr hn => g.frm.block r hr fun id base hi => ?_⟩
    obtain ⟨h1, _⟩ := hn id base hi
    have h1 : id < h.lo := h1
    exact ⟨by rw [g.ext.lo]; exact Nat.lt_of_lt_of_le h1 hlo, by rw [hw]; exact List.not_mem_nil⟩
  case new => exact g.new
  case ext => exact ⟨rfl, hnx, fun _ hi => mem_noteAll.2 (.inr hi), fun _ hi => hi, fun _ _ _ => rfl, fun _ b _ hb => ⟨b, hb, rfl⟩, fun _ hi => .inl hi, rfl, fun hb id b hg => Nat.lt_of_lt_of_le (hb id b hg) hnx, fun h => h⟩
  case old => exact g.old

theorem under_ext {h h' : H} (e : Ext h.mark h') : Ext h { h with rd := noteAll h.lo h'.rd h.rd, next := h'.next } :=
  ⟨rfl, e.next, fun _ hi => mem_noteAll.2 (.inr hi), fun _ hi => hi, fun _ _ _ => rfl, fun _ b _ hb => ⟨b, hb, rfl⟩, fun _ hi => .inl hi, rfl, fun hb id b hg => Nat.lt_of_lt_of_le (hb id b hg) e.next, fun h => h⟩
end Go.WE
