/- VE9: code, and functions. -/
import Derived.Test.YtnjjcklhpgfnjaaVE8
import Derived.LoopN
namespace Go.VE
open Go
open Go.RowKit (Below)

/-! ### what grows -/

def newsGe (k : Nat) (p : List HE) : Prop := ∀ id c ty cs, HE.new id c ty cs ∈ p → k ≤ id

/-- The second state goes on from the first. -/
structure Ext (s s' : St) : Prop where
  heap : ∃ p, s'.heap = p ++ s.heap ∧ newsGe s.next p
  vars : ∃ q, s'.vars = q ++ s.vars
  next : s.next ≤ s'.next

theorem Ext.refl (s : St) : Ext s s := ⟨⟨[], rfl, fun _ _ _ _ h => by cases h⟩, ⟨[], rfl⟩, Nat.le_refl _⟩

theorem Ext.trans {s s1 s2 : St} (h : Ext s s1) (h' : Ext s1 s2) : Ext s s2 := by
  obtain ⟨⟨p, hp, np⟩, ⟨q, hq⟩, hn⟩ := h
  obtain ⟨⟨p', hp', np'⟩, ⟨q', hq'⟩, hn'⟩ := h'
  refine ⟨⟨p' ++ p, by rw [hp', hp, List.append_assoc], fun id c ty cs hm => ?_⟩, ⟨q' ++ q, by rw [hq', hq, List.append_assoc]⟩, Nat.le_trans hn hn'⟩
  rcases List.mem_append.1 hm with hm | hm
  · exact Nat.le_trans hn (np' id c ty cs hm)
  · exact np id c ty cs hm

theorem pushW_append : ∀ (l : List (Nat × Nat × A)) (h : List HE), ∃ p, pushW h l = p ++ h ∧ ∀ k, newsGe k p
  | [], h => ⟨[], rfl, fun _ _ _ _ _ h => by cases h⟩
  | (id, off, x) :: r, h => by
    obtain ⟨p, hp, np⟩ := pushW_append r (.wr id off x :: h)
    refine ⟨p ++ [.wr id off x], by rw [pushW, hp]; simp, fun k id' c ty cs hm => ?_⟩
    rcases List.mem_append.1 hm with hm | hm
    · exact np k id' c ty cs hm
    · simp at hm

theorem heap_append (r : OpR) (id k : Nat) (G : Cond) (h : List HE) (hk : k ≤ id) : ∃ p, r.heap id G h = p ++ h ∧ newsGe k p := by
  obtain ⟨p, hp, np⟩ := pushW_append r.wr h
  unfold OpR.heap
  split
  · exact ⟨p, hp, np k⟩
  · rename_i ty cs _
    refine ⟨.new id G ty cs :: p, by rw [hp]; rfl, fun id' c ty cs hm => ?_⟩
    rcases List.mem_cons.1 hm with hm | hm
    · simp at hm; omega
    · exact np k id' c ty cs hm

/-- Like `Ext`, inside a region whose first block is `base`. -/
structure ExtR (base : Nat) (s s' : St) : Prop where
  heap : ∃ p, s'.heap = p ++ s.heap ∧ newsGe base p
  vars : ∃ q, s'.vars = q ++ s.vars
  conds : (∀ x, (get s.vars x).c = none) → ∀ x, (get s'.vars x).c = none

theorem keepEnt_c (e : Ent) : (keepEnt e).c = none := by
  unfold keepEnt
  cases h : e.c with
  | none => exact h
  | some _ => rfl

theorem ExtR.put {base km : Nat} {s : St} {d : Option Nat} {e : Ent} : ExtR base s (s.put km d e) := by
  refine ⟨⟨[], by rw [put_heap]; rfl, fun _ _ _ _ h => by cases h⟩, ?_, ?_⟩
  · cases d with
    | none => exact ⟨[], rfl⟩
    | some d => cases hd : Nat.testBit km d
                · exact ⟨[], by rw [put_false hd]; rfl⟩
                · exact ⟨[(d, keepEnt e)], by rw [put_true hd]; rfl⟩
  · intro h x
    cases d with
    | none => exact h x
    | some d => cases hd : Nat.testBit km d
                · rw [put_false hd]; exact h x
                · rw [put_true hd]
                  simp only
                  rw [get_cons]
                  split
                  · exact keepEnt_c e
                  · exact h x

theorem ExtR.trans {base : Nat} {s s1 s2 : St} (h : ExtR base s s1) (h' : ExtR base s1 s2) : ExtR base s s2 := by
  obtain ⟨⟨p, hp, np⟩, ⟨q, hq⟩, hn⟩ := h
  obtain ⟨⟨p', hp', np'⟩, ⟨q', hq'⟩, hn'⟩ := h'
  refine ⟨⟨p' ++ p, by rw [hp', hp, List.append_assoc], fun id c ty cs hm => ?_⟩, ⟨q' ++ q, by rw [hq', hq, List.append_assoc]⟩, fun h x => hn' (hn h) x⟩
  rcases List.mem_append.1 hm with hm | hm
  · exact np' id c ty cs hm
  · exact np id c ty cs hm

theorem stepOp_ext {cx : Cx} {call : CallE} {fp : Fp} {sg : Sight} {i : Nat} {noWr : Lim} {ops : List Oper} {st st' : St} {o : Oper} (he : stepOp cx call fp sg i noWr ops st o = some st') :
    ExtR sg.base st st' := by
  have run : ∀ {G gb}, runOp cx call fp sg i noWr G gb st o = some st' → ExtR sg.base st st' := by
    intro G gb he
    unfold runOp at he
    split at he
    · cases he
    · rename_i r hr
      split at he
      · cases he
      · simp at he
        subst he
        refine ExtR.trans (s1 := { st with ok := andOk st.ok (condOk G gb r.ok), heap := r.heap (sg.base + i) G st.heap }) ?_ ExtR.put
        obtain ⟨p, hp, np⟩ := heap_append r (sg.base + i) sg.base G st.heap (by omega)
        exact ⟨⟨p, hp, np⟩, ⟨[], rfl⟩, fun h => h⟩
  unfold stepOp at he
  (repeat' split at he) <;> first | exact run he | (simp at he; subst he; exact ExtR.put) | cases he

theorem evalOps_ext {cx : Cx} {call : CallE} {fp : Fp} {base : Nat} {qf : Nat → Nat → Bool} {m : Nat → Lim} {ops : List Oper} : ∀ {l : List Oper} {i : Nat} {st st' : St},
    evalOps cx call fp base qf m ops i l st = some st' → ExtR base st st'
  | [], _, _, _, he => by simp [evalOps] at he; subst he; exact ⟨⟨[], rfl, fun _ _ _ _ h => by cases h⟩, ⟨[], rfl⟩, fun h => h⟩
  | o :: l, _, _, _, he => by
    simp only [evalOps] at he
    split at he
    · cases he
    · rename_i st1 h1
      exact (stepOp_ext h1).trans (evalOps_ext he)

theorem evalRegion_ext {cx : Cx} {call : CallE} {fp : Fp} {ops : List Oper} {draw : Bool} {st st' : St} (he : evalRegion cx call fp ops draw st = some st') :
    Ext st st' ∧ ((∀ x, (get st.vars x).c = none) → ∀ x, (get st'.vars x).c = none) := by
  have fin : ∀ {s : St}, ExtR st.next { st with tmps := [] } s → Ext st { s with next := st.next + ops.length } ∧ ((∀ x, (get st.vars x).c = none) → ∀ x, (get s.vars x).c = none) := by
    intro s ⟨h1, h2, h3⟩
    exact ⟨⟨h1, h2, by simp⟩, h3⟩
  unfold evalRegion at he
  split at he
  · cases he
  · split at he
    · split at he
      · cases he
      · rename_i h
        simp at he
        subst he
        exact fin (evalOps_ext h)
    · split at he
      · cases he
      · split at he
        · cases he
        · rename_i h
          simp at he
          subst he
          exact fin (evalOps_ext h)

/-! ### where the run stands between two regions -/

structure CRel (gw : GW) (fp : Fp) (W0 : World) (st : St) (ν : Nu) (a : Act) (w : World) : Prop where
  base0 : Base gw fp.lo W0 ν w
  slots : ∀ s, EntOK ν a.tmps s (st.get fp.km s)
  vconds : ∀ s, (get st.vars s).c = none
  sees : ∀ id x, blk st.heap id = some (none, x) → SeesAt ν st.heap w id
  bound : ∀ id, blk st.heap id ≠ none → id < st.next
  fresh : ∀ id, st.next ≤ id → ν id = none
  lo : fp.lo ≤ st.next
  size : a.tmps.size = fp.nt
  defers : a.defers = []

section
variable {cx : Cx} {gw : GW} {call : CallE} {fp : Fp} {W0 : World} {st st' : St} {ν : Nu} {a : Act} {w : World} {Q : Exit → Act → World → Prop}

theorem CRel.start (h : CRel gw fp W0 st ν a w) (ops : List Oper) : Rel gw fp W0 ops st.next 0 { st with tmps := [] } ν a w where
  base0 := h.base0
  slots := by
    intro s
    cases hd : Nat.testBit fp.km s
    · rw [get_false hd]
      exact ⟨fun _ => trivial, fun hno => absurd trivial hno⟩
    · rw [get_true hd]
      have := h.slots s
      rw [get_true hd] at this
      exact this
  conds := by
    intro s sj x hc
    cases hd : Nat.testBit fp.km s
    · rw [get_false hd] at hc; cases hc
    · rw [get_true hd, h.vconds] at hc; cases hc
  sees := by
    intro id c x hb hc
    rcases hc with rfl | ⟨hle, _⟩
    · exact h.sees id x hb
    · have := h.bound id (by rw [hb]; simp); omega
  bconds := by
    intro id sj x y hb hle
    have := h.bound id (by rw [hb]; simp); omega
  bound := h.bound
  fresh := h.fresh
  size := h.size
  defers := h.defers

theorem CRel.drew (h : CRel gw fp W0 st ν a w) : CRel gw fp W0 st ν a { w with drawn := w.drawn + 1 } where
  base0 := ⟨⟨h.base0.map.lt, h.base0.map.inj⟩, h.base0.own, h.base0.low.drew, h.base0.gw0⟩
  slots := h.slots
  vconds := h.vconds
  sees := h.sees
  bound := h.bound
  fresh := h.fresh
  lo := h.lo
  size := h.size
  defers := h.defers

theorem Rel.stop {ops : List Oper} {s : St} {base n : Nat} (h : Rel gw fp W0 ops base n s ν a w) (hv : ∀ x, (get s.vars x).c = none) (hlo : fp.lo ≤ base) : CRel gw fp W0 { s with next := base + n } ν a w where
  base0 := h.base0
  slots := h.slots
  vconds := hv
  sees := fun id x hb => h.sees id none x hb (.inl rfl)
  bound := h.bound
  fresh := h.fresh
  lo := by simp only; omega
  size := h.size
  defers := h.defers

theorem tailFrom_le (D : Array Nat) : ∀ n, tailFrom n D ≤ n := by
  intro n
  unfold tailFrom
  induction n with
  | zero => simp
  | succ n ih =>
    rw [List.range_succ, List.foldl_append]
    simp only [List.foldl_cons, List.foldl_nil]
    split
    · omega
    · omega

theorem evalRegion_sound (hE : EqOK cx) (hC : CallOK cx.P gw call) {ops : Array Oper} {draw : Bool} {id : Nat} (he : evalRegion cx call fp ops.toList draw st = some st') (hok : okB st'.ok = true)
    (hr : CRel gw fp W0 st ν a w) (hQ : ∀ ν' a' w', CRel gw fp W0 st' ν' a' w' → ν.le ν' → Q .normal a' w') : (Code.region id ops draw).wp cx.P Q a w := by
  have hv := (evalRegion_ext he).2 hr.vconds
  unfold evalRegion at he
  split at he
  · cases he
  · rename_i hd
    split at he
    · split at he
      · cases he
      · rename_i s hs
        simp at he
        subst he
        refine wp_region_list ?_
        have := evalOps_seq (Q := Q) (cx := cx) hE hC hr.lo hd ops.toList 0 _ ν a w (by simp) hs hok (hr.start _) (fun ν' a' w' hr' hle => ?_)
        · simpa using this
        · rw [Nat.zero_add] at hr'
          exact hQ ν' a' w' (hr'.stop hv hr.lo) hle
    · split at he
      · cases he
      · rename_i hc
        simp only [Bool.and_eq_true] at hc
        obtain ⟨⟨⟨⟨c1, c2⟩, c3⟩, c5⟩, c4⟩ := hc
        split at he
        · cases he
        · rename_i s hs
          simp at he
          subst he
          have hr := hr.drew
          generalize hD : Region.before ops.toList.toArray = D at *
          generalize hm : tailFrom ops.toList.length D = m at *
          obtain ⟨σ, e1, e2, e3⟩ := evalOps_states ops.toList 0 _ _ hs
          simp only [Nat.zero_add] at e1 e2 e3
          have hmle : m ≤ ops.toList.length := by rw [← hm]; exact tailFrom_le D _
          have R : Reg cx call fp ops.toList D (tgts m ops.toList) st.next m σ := ⟨e3, c1, c2, c3, hd, hmle, c5⟩
          refine wp_region_any c4 ?_
          have hst := hr.start ops.toList
          rw [← e1] at hst
          have hokj : ∀ j, j ≤ ops.toList.length → okB (σ j).ok = true := by
            have hdown : ∀ k, k ≤ ops.toList.length → okB (σ (ops.toList.length - k)).ok = true := by
              intro k
              induction k with
              | zero => intro _; rw [Nat.sub_zero, e2]; exact hok
              | succ k ih =>
                intro hk
                have hl : ops.toList.length - (k + 1) < ops.toList.length := by omega
                have h1 := e3 _ _ (List.getElem?_eq_getElem hl)
                rw [show ops.toList.length - (k + 1) + 1 = ops.toList.length - k by omega] at h1
                exact stepOp_ok h1 (ih (by omega))
            intro j hj
            have := hdown (ops.toList.length - j) (by omega)
            rwa [show ops.toList.length - (ops.toList.length - j) = j by omega] at this
          have := anyA (Q := Q) hE hC R hr.lo hokj hst (fun ν' a' w' hr' hle => hQ ν' a' w' (by
            rw [e2] at hr'
            exact hr'.stop hv hr.lo) hle) ops.size (Array.replicate ops.size false) ν a { w with drawn := w.drawn + 1 } (by simp) ?_
          · simpa using this
          · have hrep : ∀ j, (Array.replicate ops.size false).getD j false = false := fun j => by
              by_cases hl : j < ops.size <;> simp [Array.getD_eq_getD_getElem?, hl]
            have hno : ∀ j, (Array.replicate ops.size false).getD j false = true → False := fun j hj => by rw [hrep] at hj; cases hj
            exact ⟨hst.base0, Nu.le_refl _, fun i hi => (hno i hi).elim, fun i hi => (hno i hi).elim, by simp, fun _ _ => rfl, fun j _ hj => (hno j hj).elim,
              fun id x _ hb => hst.sees id none x hb (.inl rfl), fun j hj => (hno j hj).elim, fun j _ => hst.fresh _ (by omega), hst.size, hst.defers⟩
end
end Go.VE
