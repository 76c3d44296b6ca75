/- WE6: tables; cells of the world that are read and written. -/
import Derived.Test.YtljopbfbljkjoaaDoorWE5
namespace Go.WE
open Go

/-! ### tables -/

theorem getF_succ {α : Type} (n : Nat) (t : Tr α) (k : Nat) : t.getF (n + 1) k = match Nat.beq k 0 with
    | true => t.v
    | false => match Nat.beq (k % 2) 0 with
      | true => t.l.getF n (k / 2)
      | false => t.r.getF n (k / 2) := rfl
theorem setF_succ {α : Type} (n : Nat) (t : Tr α) (k : Nat) (x : Option α) : t.setF (n + 1) k x = match Nat.beq k 0 with
    | true => .node x t.l t.r
    | false => match Nat.beq (k % 2) 0 with
      | true => .node t.v (t.l.setF n (k / 2) x) t.r
      | false => .node t.v t.l (t.r.setF n (k / 2) x) := rfl
theorem v_node {α : Type} (v : Option α) (l r : Tr α) : (Tr.node v l r).v = v := rfl
theorem l_node {α : Type} (v : Option α) (l r : Tr α) : (Tr.node v l r).l = l := rfl
theorem r_node {α : Type} (v : Option α) (l r : Tr α) : (Tr.node v l r).r = r := rfl

theorem getF_any {α : Type} : ∀ (n m : Nat) (t : Tr α) (k : Nat), k < 2 ^ n → k < 2 ^ m → t.getF (n + 1) k = t.getF (m + 1) k
  | 0, m, t, k, hn, _ => by
    have : k = 0 := by simpa using hn
    subst this
    rw [getF_succ 0 t 0, getF_succ m t 0]
  | n + 1, m, t, k, hn, hm => by
    rw [getF_succ (n + 1) t k, getF_succ m t k]
    cases hk : Nat.beq k 0
    · have hk := beq_false hk
      cases m with
      | zero => simp at hm; omega
      | succ m =>
        have h1 : k / 2 < 2 ^ n := by rw [Nat.pow_succ] at hn; omega
        have h2 : k / 2 < 2 ^ m := by rw [Nat.pow_succ] at hm; omega
        rw [getF_any n m t.l _ h1 h2, getF_any n m t.r _ h1 h2]
    · rfl

theorem setF_any {α : Type} (x : Option α) : ∀ (n m : Nat) (t : Tr α) (k : Nat), k < 2 ^ n → k < 2 ^ m → t.setF (n + 1) k x = t.setF (m + 1) k x
  | 0, m, t, k, hn, _ => by
    have : k = 0 := by simpa using hn
    subst this
    rw [setF_succ 0 t 0, setF_succ m t 0]
  | n + 1, m, t, k, hn, hm => by
    rw [setF_succ (n + 1) t k, setF_succ m t k]
    cases hk : Nat.beq k 0
    · have hk := beq_false hk
      cases m with
      | zero => simp at hm; omega
      | succ m =>
        have h1 : k / 2 < 2 ^ n := by rw [Nat.pow_succ] at hn; omega
        have h2 : k / 2 < 2 ^ m := by rw [Nat.pow_succ] at hm; omega
        rw [setF_any x n m t.l _ h1 h2, setF_any x n m t.r _ h1 h2]
    · rfl

theorem getF_nil {α : Type} : ∀ (n k : Nat), (Tr.nil : Tr α).getF n k = none
  | 0, _ => rfl
  | n + 1, k => by
    rw [getF_succ]
    cases Nat.beq k 0
    · cases Nat.beq (k % 2) 0
      · exact getF_nil n _
      · exact getF_nil n _
    · rfl

theorem getF_setF {α : Type} (x : Option α) : ∀ (n : Nat) (t : Tr α) (k k' : Nat), k < 2 ^ n → k' < 2 ^ n → (t.setF (n + 1) k x).getF (n + 1) k' = if k = k' then x else t.getF (n + 1) k'
  | 0, t, k, k', hn, hn' => by
    have : k = 0 := by simpa using hn
    have : k' = 0 := by simpa using hn'
    subst k k'
    rw [setF_succ, getF_succ]; rfl
  | n + 1, t, k, k', hn, hn' => by
    have h1 : k / 2 < 2 ^ n := by rw [Nat.pow_succ] at hn; omega
    have h2 : k' / 2 < 2 ^ n := by rw [Nat.pow_succ] at hn'; omega
    have ih := fun t => getF_setF x n t (k / 2) (k' / 2) h1 h2
    rw [setF_succ (n + 1) t k x, getF_succ (n + 1) t k', getF_succ (n + 1) _ k']
    cases hk : Nat.beq k 0
    · have hk' := beq_false hk
      cases hp : Nat.beq (k % 2) 0
      · have hp' := beq_false hp
        cases hj : Nat.beq k' 0
        · have hj' := beq_false hj
          cases hq : Nat.beq (k' % 2) 0
          · have hq' := beq_false hq
            simp only [r_node, ih]
            by_cases e : k / 2 = k' / 2
            · have : k = k' := by omega
              rw [if_pos e, if_pos this]
            · have : k ≠ k' := fun h => e (by rw [h])
              rw [if_neg e, if_neg this]
          · have hq' := beq_true hq
            simp only [l_node]
            rw [if_neg (by omega)]
        · have hj' := beq_true hj
          simp only [v_node]
          rw [if_neg (by omega)]
      · have hp' := beq_true hp
        cases hj : Nat.beq k' 0
        · have hj' := beq_false hj
          cases hq : Nat.beq (k' % 2) 0
          · have hq' := beq_false hq
            simp only [r_node]
            rw [if_neg (by omega)]
          · have hq' := beq_true hq
            simp only [l_node, ih]
            by_cases e : k / 2 = k' / 2
            · have : k = k' := by omega
              rw [if_pos e, if_pos this]
            · have : k ≠ k' := fun h => e (by rw [h])
              rw [if_neg e, if_neg this]
        · have hj' := beq_true hj
          simp only [v_node]
          rw [if_neg (by omega)]
    · have hk' := beq_true hk
      subst hk'
      cases hj : Nat.beq k' 0
      · have hj' := beq_false hj
        simp only [l_node, r_node]
        rw [if_neg (by omega)]
      · have hj' := beq_true hj
        simp only [v_node]
        rw [if_pos hj'.symm]

theorem Tr.get_set {α : Type} (t : Tr α) (k k' : Nat) (x : α) : (t.set k x).get k' = if k = k' then some x else t.get k' := by
  unfold Tr.get Tr.set
  have h1 : k < 2 ^ (Nat.log2 k + 1) := Nat.lt_log2_self
  have h2 : k' < 2 ^ (Nat.log2 k' + 1) := Nat.lt_log2_self
  let N := Nat.max (Nat.log2 k + 1) (Nat.log2 k' + 1)
  have g1 : k < 2 ^ N := Nat.lt_of_lt_of_le h1 (Nat.pow_le_pow_right (by omega) (Nat.le_max_left _ _))
  have g2 : k' < 2 ^ N := Nat.lt_of_lt_of_le h2 (Nat.pow_le_pow_right (by omega) (Nat.le_max_right _ _))
  rw [setF_any (some x) _ N t k h1 g1, getF_any _ N _ k' h2 g2, getF_setF (some x) N t k k' g1 g2, getF_any _ N t k' h2 g2]

theorem Tr.get_del {α : Type} (t : Tr α) (k k' : Nat) : (t.del k).get k' = if k = k' then none else t.get k' := by
  unfold Tr.get Tr.del
  have h1 : k < 2 ^ (Nat.log2 k + 1) := Nat.lt_log2_self
  have h2 : k' < 2 ^ (Nat.log2 k' + 1) := Nat.lt_log2_self
  let N := Nat.max (Nat.log2 k + 1) (Nat.log2 k' + 1)
  have g1 : k < 2 ^ N := Nat.lt_of_lt_of_le h1 (Nat.pow_le_pow_right (by omega) (Nat.le_max_left _ _))
  have g2 : k' < 2 ^ N := Nat.lt_of_lt_of_le h2 (Nat.pow_le_pow_right (by omega) (Nat.le_max_right _ _))
  rw [setF_any none _ N t k h1 g1, getF_any _ N _ k' h2 g2, getF_setF none N t k k' g1 g2, getF_any _ N t k' h2 g2]

theorem Tr.get_nil {α : Type} (k : Nat) : (Tr.nil : Tr α).get k = none := getF_nil _ _

/-! ### cells -/

theorem add_addr (b off n : Nat) : (⟨b, off, none⟩ : Addr).add n = ⟨b, off + n, none⟩ := by
  unfold Addr.add; split
  · subst_vars; rfl
  · rfl

theorem cell_at {w : World} {b o : Nat} {cs : Array Value} {ty : TypeId} {fr : Nat × Nat} {pre post : List Value} {v : Value} (h : w.heap[b]? = some (.cells cs ty fr)) (e : cs.toList = pre ++ v :: post) (ho : pre.length = o) :
    w.cell? ⟨b, o, none⟩ = some v := by
  have : cs[o]? = some v := by
    rw [← Array.getElem?_toList, e, ← ho, List.getElem?_append_right (Nat.le_refl _), Nat.sub_self]; rfl
  simp [World.cell?, h, this]

theorem frozen_of {w : World} {b o : Nat} {vs : Array Value} {ty : TypeId} (h : w.heap[b]? = some (.cells vs ty (0, 0))) : w.frozen? ⟨b, o, none⟩ = false := by
  simp [World.frozen?, h]

section
variable {P : Program}

theorem run_load_cell {w : World} {a : Addr} {v : Value} (h : w.cell? a = some v) : (load a).run P w = .ok v w := by
  simp [load, Sem.run, h]

theorem loadCellsFrom_run {w : World} {b : Nat} {cs : Array Value} {ty : TypeId} {fr : Nat × Nat} (h : w.heap[b]? = some (.cells cs ty fr)) : ∀ (us pre post : List Value) (off i : Nat) (acc : Array Value),
    cs.toList = pre ++ us ++ post → pre.length = off + i → (loadCellsFrom ⟨b, off, none⟩ i us.length acc).run P w = .ok (acc ++ us.toArray) w
  | [], _, _, _, _, _, _, _ => by simp [loadCellsFrom]
  | u :: us, pre, post, off, i, acc, e, hl => by
    rw [List.length_cons, loadCellsFrom, Sem.run_bind, add_addr, run_load_cell (cell_at h (pre := pre) (v := u) (post := us ++ post) (by rw [e]; simp) hl)]
    simp only [Result.andThen_ok]
    rw [loadCellsFrom_run h us (pre ++ [u]) post off (i + 1) (acc.push u) (by rw [e]; simp) (by simp [hl]; omega)]
    congr 1
    apply Array.ext'
    simp

theorem loadCells_run {w : World} {b off : Nat} {cs : Array Value} {ty : TypeId} {fr : Nat × Nat} {us pre post : List Value} (h : w.heap[b]? = some (.cells cs ty fr)) (e : cs.toList = pre ++ us ++ post) (hl : pre.length = off) :
    (loadCells ⟨b, off, none⟩ us.length).run P w = .ok us.toArray w := by
  rw [loadCells, loadCellsFrom_run h us pre post off 0 #[] e (by omega)]
  simp

/-! ### a store -/

def wset (w : World) (b : Nat) (o : Obj) : World := { w with heap := w.heap.setIfInBounds b o }

theorem setCell_wset {w : World} {b off : Nat} {vs : Array Value} {ty : TypeId} {v : Value} (h : w.heap[b]? = some (.cells vs ty (0, 0))) :
    w.setCell ⟨b, off, none⟩ v = wset w b (.cells (vs.setIfInBounds off v) ty (0, 0)) := by
  unfold World.setCell wset
  congr 1
  apply Array.ext_getElem?
  intro i
  rw [Array.getElem?_modify, Array.getElem?_setIfInBounds]
  have hlt : b < w.heap.size := (Array.getElem?_eq_some_iff.1 h).1
  by_cases e : b = i
  · subst e
    rw [if_pos rfl, if_pos rfl, h]
    simp [hlt]
  · rw [if_neg e, if_neg e]

theorem wset_wset (w : World) (b : Nat) (o o' : Obj) : wset (wset w b o) b o' = wset w b o' := by
  unfold wset; simp

theorem wset_get {w : World} {b : Nat} {o : Obj} (h : b < w.heap.size) : (wset w b o).heap[b]? = some o := by
  unfold wset; simp [h]

theorem wset_get_ne {w : World} {b b' : Nat} {o : Obj} (h : b ≠ b') : (wset w b o).heap[b']? = w.heap[b']? := by
  unfold wset
  rw [Array.getElem?_setIfInBounds, if_neg h]

theorem wset_size (w : World) (b : Nat) (o : Obj) : (wset w b o).heap.size = w.heap.size := by unfold wset; simp

theorem wset_self {w : World} {b : Nat} {o : Obj} (h : w.heap[b]? = some o) : wset w b o = w := by
  unfold wset
  have : w.heap.setIfInBounds b o = w.heap := by
    apply Array.ext_getElem?
    intro j
    rw [Array.getElem?_setIfInBounds]
    split
    · rename_i e; subst e
      split
      · rw [h]
      · rename_i hlt; rw [Array.getElem?_eq_none (by omega)]
    · rfl
  rw [this]

theorem run_store_cell {w : World} {b off : Nat} {cs : Array Value} {ty : TypeId} {v u : Value} {pre post : List Value} (h : w.heap[b]? = some (.cells cs ty (0, 0))) (e : cs.toList = pre ++ u :: post) (hl : pre.length = off) (hv : Cell v) :
    (store ⟨b, off, none⟩ v).run P w = .ok () (wset w b (.cells (cs.setIfInBounds off v) ty (0, 0))) := by
  have hc := cell_at h e hl
  have hf : w.frozen? ⟨b, off, none⟩ = false := frozen_of h
  have : (store ⟨b, off, none⟩ v).run P w = .ok () (w.setCell ⟨b, off, none⟩ v) := by
    cases v <;> first | exact hv.elim | simp [store, Sem.run, hc, hf]
  rw [this, setCell_wset h]

theorem storeCells_run : ∀ (ws us pre post : List Value) (w : World) (b off i : Nat) (cs : Array Value) (ty : TypeId), w.heap[b]? = some (.cells cs ty (0, 0)) → cs.toList = pre ++ us ++ post → pre.length = off + i →
    us.length = ws.length → (∀ v, v ∈ ws → Cell v) → ∃ cs' : Array Value, cs'.toList = pre ++ ws ++ post ∧ (storeCells ⟨b, off, none⟩ ws i).run P w = .ok () (wset w b (.cells cs' ty (0, 0)))
  | [], us, pre, post, w, b, off, i, cs, ty, h, e, _, hus, _ => by
    have : us = [] := List.length_eq_zero_iff.1 hus
    subst this
    exact ⟨cs, by simpa using e, by rw [wset_self h]; rfl⟩
  | v :: ws, [], _, _, _, _, _, _, _, _, _, _, _, hus, _ => by simp at hus
  | v :: ws, u :: us, pre, post, w, b, off, i, cs, ty, h, e, hl, hus, hc => by
    have e1 : cs.toList = pre ++ u :: (us ++ post) := by rw [e]; simp
    have hlt : b < w.heap.size := (Array.getElem?_eq_some_iff.1 h).1
    have e2 : (cs.setIfInBounds (off + i) v).toList = (pre ++ [v]) ++ us ++ post := by
      rw [Array.toList_setIfInBounds, e1, ← hl, List.set_append_right _ _ (Nat.le_refl _), Nat.sub_self]
      simp
    obtain ⟨cs', g1, g2⟩ := storeCells_run ws us (pre ++ [v]) post (wset w b (.cells (cs.setIfInBounds (off + i) v) ty (0, 0))) b off (i + 1) _ ty (wset_get hlt) e2 (by simp [hl]; omega) (by simpa using hus) (fun x hx => hc x (by simp [hx]))
    refine ⟨cs', by rw [g1]; simp, ?_⟩
    unfold storeCells
    rw [Sem.run_bind, add_addr, run_store_cell h e1 hl (hc v (by simp))]
    simp only [Result.andThen_ok]
    rw [g2, wset_wset]
end
end Go.WE
