/- WE19: slots. -/
import Derived.Test.YtljopbfbljkjoaaDoorWE18
import Derived.Orders
namespace Go.WE
open Go

def EntOK (ν : Nu) (tmps : Array Value) (s : Nat) (e : Ent) : Prop :=
  (holds tmps e.c → e.v.rel ν (tmps.getD s undef)) ∧ (¬ holds tmps e.c → tmps.getD s undef = undef)

theorem holds_put {a : Act} {d : Option Nat} {v : Value} {c : Cond} (h : ∀ sj x, c = some (sj, x) → d ≠ some sj) : holds (a.put d v).tmps c ↔ holds a.tmps c := by
  cases c with
  | none => exact Iff.rfl
  | some p =>
    obtain ⟨sj, x⟩ := p
    cases d with
    | none => exact Iff.rfl
    | some d =>
      have hne : d ≠ sj := fun e => h sj x rfl (by rw [e])
      simp [holds, Act.put, Array.getD_eq_getD_getElem?, Array.getElem?_setIfInBounds_ne hne]

theorem getD_put_ne {a : Act} {d : Option Nat} {v : Value} {s : Nat} (h : d ≠ some s) : (a.put d v).tmps.getD s undef = a.tmps.getD s undef := by
  cases d with
  | none => rfl
  | some d =>
    have hne : d ≠ s := fun e => h (by rw [e])
    simp [Act.put, Array.getD_eq_getD_getElem?, Array.getElem?_setIfInBounds_ne hne]

theorem getD_put_eq {a : Act} {d : Nat} {v : Value} (h : d < a.tmps.size) : (a.put (some d) v).tmps.getD d undef = v := by
  simp [Act.put, Array.getD_eq_getD_getElem?, h]

theorem size_put {a : Act} {d : Option Nat} {v : Value} : (a.put d v).tmps.size = a.tmps.size := by cases d <;> simp [Act.put]

theorem put_defers {a : Act} {d : Option Nat} {v : Value} : (a.put d v).defers = a.defers := by cases d <;> rfl

theorem get_cons (s' : Nat) (e : Ent) (l : List (Nat × Ent)) (s : Nat) : getT ((s', e) :: l) s = if s' = s then e else getT l s := by
  rw [getT]
  cases hb : Nat.beq s' s
  · rw [if_neg (beq_false hb)]
  · rw [if_pos (beq_true hb)]

/-- What is laid into a slot that lives on. -/
def keepEnt (e : Ent) : Ent := match e.c with | none => e | some _ => ⟨none, .t (.a .poison)⟩

theorem put_true {km : Nat} {st : St} {d : Nat} {e : Ent} (h : bitB km d = true) : st.put km (some d) e = { st with vars := st.vars.set d (keepEnt e), vd := d :: st.vd } := by
  simp only [St.put, h]; rfl
theorem put_false {km : Nat} {st : St} {d : Nat} {e : Ent} (h : bitB km d = false) : st.put km (some d) e = { st with tmps := (d, e) :: st.tmps } := by
  simp only [St.put, h]
def varsGet (t : Tr Ent) (s : Nat) : Ent := match t.get s with
  | some e => e
  | none => ⟨none, .t (.a .poison)⟩

theorem get_true {km : Nat} {st : St} {d : Nat} (h : bitB km d = true) : st.get km d = varsGet st.vars d := by simp only [St.get, h]; rfl
theorem get_false {km : Nat} {st : St} {d : Nat} (h : bitB km d = false) : st.get km d = getT st.tmps d := by simp only [St.get, h]

theorem get_put_ne {km : Nat} {st : St} {d : Option Nat} {e : Ent} {s : Nat} (h : d ≠ some s) : (st.put km d e).get km s = st.get km s := by
  cases d with
  | none => rfl
  | some d =>
    have hne : ¬ d = s := fun e => h (by rw [e])
    cases hd : bitB km d <;> cases hs : bitB km s
    · rw [put_false hd, get_false hs, get_false hs, get_cons, if_neg hne]
    · rw [put_false hd, get_true hs, get_true hs]
    · rw [put_true hd, get_false hs, get_false hs]
    · rw [put_true hd, get_true hs, get_true hs]; simp only [varsGet, Tr.get_set, if_neg hne]

/-- What stands in the slot that was written. -/
def entPut (km d : Nat) (e : Ent) : Ent := match bitB km d with | true => keepEnt e | false => e

theorem get_put_eq {km : Nat} {st : St} {d : Nat} {e : Ent} : (st.put km (some d) e).get km d = entPut km d e := by
  unfold entPut
  cases hd : bitB km d
  · rw [put_false hd, get_false hd, get_cons, if_pos rfl]
  · rw [put_true hd, get_true hd]; simp only [varsGet, Tr.get_set, if_pos]

theorem put_h {km : Nat} {st : St} {d : Option Nat} {e : Ent} : (st.put km d e).h = st.h := by
  cases d with
  | none => rfl
  | some d => cases hd : bitB km d <;> first | rw [put_false hd] | rw [put_true hd]

theorem put_ok {km : Nat} {st : St} {d : Option Nat} {e : Ent} : (st.put km d e).ok = st.ok := by
  cases d with
  | none => rfl
  | some d => cases hd : bitB km d <;> first | rw [put_false hd] | rw [put_true hd]

theorem get_of_eq {km : Nat} {st st' : St} (h1 : st.vars = st'.vars) (h2 : st.tmps = st'.tmps) (s : Nat) : st.get km s = st'.get km s := by
  unfold St.get; rw [h1, h2]

theorem wanted_guard {ops : List Oper} {tmps : Array Value} {o : Oper} {j sj : Nat} {want : Bool} (hg : o.guard = some (j, want)) (hd : dstOf ops j = some sj) :
    Region.wanted o (yielded ops.toArray tmps) = true ↔ holds tmps (some (sj, want)) := by
  unfold Region.wanted
  rw [hg]
  simp only [beq_iff_eq]
  unfold dstOf at hd
  split at hd
  · rename_i oj hj
    unfold yielded
    have e : ((ops.toArray[j]?).bind fun x => x.dst) = some sj := by simp [hj, hd]
    rw [e]
    simp only [Option.bind_some, holds, Array.getD_eq_getD_getElem?]
    cases ht : tmps[sj]? with
    | none => simp [undef]
    | some v => cases v <;> simp
  · cases hd

theorem chkDst_spec {ops : List Oper} (h : chkDst ops = true) {i j : Nat} (hi : i < ops.length) (hj : j < i) {d : Nat} (h1 : dstOf ops i = some d) (h2 : dstOf ops j = some d) : False := by
  unfold chkDst allBelow at h
  rw [List.all_eq_true] at h
  have h3 := h i (List.mem_range.2 hi)
  rw [List.all_eq_true] at h3
  have h4 := h3 j (List.mem_range.2 hj)
  rw [h1, h2] at h4
  simp [optNe] at h4

theorem dstOf_lt {ops : List Oper} {i d : Nat} (h : dstOf ops i = some d) : i < ops.length := by
  unfold dstOf at h
  split at h
  · rename_i o ho; exact (List.getElem?_eq_some_iff.1 ho).1
  · cases h

theorem chkDst_inj {ops : List Oper} (h : chkDst ops = true) {i j d : Nat} (h1 : dstOf ops i = some d) (h2 : dstOf ops j = some d) : i = j := by
  rcases Nat.lt_trichotomy i j with hl | he | hl
  · exact (chkDst_spec h (dstOf_lt h2) hl h2 h1).elim
  · exact he
  · exact (chkDst_spec h (dstOf_lt h1) hl h1 h2).elim

end Go.WE
