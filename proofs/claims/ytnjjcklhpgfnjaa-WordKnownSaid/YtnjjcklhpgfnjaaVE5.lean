/- VE5: each operation is carried out as the evaluator says. -/
import Derived.Test.YtnjjcklhpgfnjaaVE4
namespace Go.VE
open Go
open Go.RowKit (Below)

/-- What is known of the types that are struct or array of numbers and bools. -/
def EqOK (cx : Cx) : Prop := ∀ t sh xs ys r, cx.eqT t = some sh → eqVs sh xs ys = some r →
  ∀ (w : World) (X Y : Operand), (do eqGuard .eql t X Y (.agg xs.toArray) (.agg ys.toArray); binOp .eql t (.agg xs.toArray) (.agg ys.toArray)).run cx.P w = .ok (.bool r) w ∧
    (do eqGuard .neq t X Y (.agg xs.toArray) (.agg ys.toArray); binOp .neq t (.agg xs.toArray) (.agg ys.toArray)).run cx.P w = .ok (.bool (!r)) w

/-- Facts of the world that a contract may lean on: of the first blocks. -/
structure GW where
  holds : World → Prop
  n : Nat
  le : ∀ w, holds w → n ≤ w.heap.size
  keep : ∀ w w', holds w → (∀ b, b < n → w'.heap[b]? = w.heap[b]?) → w.heap.size ≤ w'.heap.size → holds w'

/-- A call gives what is said, and leaves all that was there. -/
def PureOK (P : Program) (gw : GW) (f : FuncId) (args : List V) (h : List HE) (v : V) : Prop :=
  ∀ (ν : Nu) (w : World) (vs : List Value), gw.holds w → Map ν w → relV ν args vs → (∀ j, blk h j ≠ none → SeesAt ν h w j) →
    Calls P f vs.toArray w (fun e w' => ∃ v', e = .returned v' ∧ v.rel ν v' ∧ Below w.heap.size w w')

def Enters (P : Program) (f : FuncId) : Prop := ∀ (args : Array Value) (w : World), (callFunc f args).run P w = .ok (.enter f args) w

/-- A call of a function that has no text gives what is said at once. -/
def AtOnce (P : Program) (f : FuncId) (args : List V) (v : V) : Prop :=
  ∀ (ν : Nu) (w : World) (vs : List Value), relV ν args vs → ∃ v', (callFunc f vs.toArray).run P w = .ok (.value v') w ∧ v.rel ν v'

def CallOK (P : Program) (gw : GW) (call : CallE) : Prop :=
  ∀ f args h ok v, call f args h = some (ok, v) → okB ok = true → (Enters P f ∧ PureOK P gw f args h v) ∨ AtOnce P f args v

theorem ofAtom_rel (ν : Nu) (v : Value) : (ofAtom v).rel ν v := by
  unfold ofAtom
  split
  · split
    · exact ⟨rfl, by assumption⟩
    · trivial
  · exact ofDec_rel _ _
  · rfl
  · rfl
  · trivial
  · trivial
  · rfl

theorem ofAtoms_rel (ν : Nu) : ∀ (vs : List Value), relL ν (ofAtoms vs) vs
  | [] => trivial
  | v :: vs => ⟨ofAtom_rel ν v, ofAtoms_rel ν vs⟩

theorem ofConst_rel (ν : Nu) (v : Value) : (ofConst v).rel ν v := by
  unfold ofConst
  split
  · exact ⟨_, rfl, ofAtoms_rel ν _⟩
  · exact ofAtom_rel ν v

/-- The slots that an operation looks at hold what the evaluator says. -/
def Slots (ν : Nu) (tmps : Array Value) (gt : Nat → Ent) (l : List Operand) : Prop :=
  ∀ s, .tmp s ∈ l → holds tmps (gt s).c → (gt s).v.rel ν (tmps.getD s undef)

theorem opV_sound {ν : Nu} {a : Act} {G X : Cond} {gt : Nat → Ent} {x : Operand} {v : V} (h : opV G X gt x = some v) (hG : holds a.tmps G) (hX : holds a.tmps X)
    (hs : Slots ν a.tmps gt [x]) : v.rel ν (a.eval x) := by
  cases x with
  | tmp s =>
    simp only [opV] at h
    split at h
    · rename_i hc
      simp at h; subst h
      exact hs s (by simp) (by rw [hc]; trivial)
    · rename_i c hc
      split at h
      · rename_i ho
        simp at h; subst h
        refine hs s (by simp) ?_
        rw [hc]
        simp only [Bool.or_eq_true] at ho
        rcases ho with ho | ho
        · rw [← condEq_some ho]; exact hG
        · rw [← condEq_some ho]; exact hX
      · cases h
  | const v => simp only [opV] at h; simp at h; subst h; exact ofConst_rel ν v
  | global g => simp only [opV] at h; simp at h; subst h; rfl
  | func f => simp only [opV] at h; simp at h; subst h; rfl

theorem opVs_sound {ν : Nu} {a : Act} {G : Cond} {gt : Nat → Ent} (hG : holds a.tmps G) : ∀ {xs : List Operand} {vs : List V}, opVs G gt xs = some vs →
    Slots ν a.tmps gt xs → relV ν vs (xs.map a.eval)
  | [], vs, h, _ => by simp [opVs] at h; subst h; trivial
  | x :: xs, vs, h, hs => by
    simp only [opVs] at h
    split at h <;> simp at h
    rename_i v vs' h1 h2
    subst h
    exact ⟨opV_sound h1 hG trivial (fun s hm => hs s (by simp at hm; subst hm; simp)), opVs_sound hG h2 (fun s hm => hs s (by simp [hm]))⟩

section
variable {cx : Cx} {gw : GW} {call : CallE} {ν : Nu} {w : World} {a : Act} {o : Oper} {K : Act → World → Prop} {Q : Exit → Act → World → Prop}

theorem wp_of_value {v : Value} {w' : World} (h : (execOp a.eval o).run cx.P w = .ok (.value v) w') (hK : K (a.put o.dst v) w') : o.wp cx.P a w K Q := by
  unfold Oper.wp; rw [h]; exact hK

theorem wp_of_skip {w' : World} (h : (execOp a.eval o).run cx.P w = .ok .skip w') (hK : K (a.put o.dst undef) w') : o.wp cx.P a w K Q := by
  unfold Oper.wp; rw [h]; exact hK

theorem wp_of_enter {f : FuncId} {args : Array Value} (h : (execOp a.eval o).run cx.P w = .ok (.enter f args) w)
    (hc : Calls cx.P f args w (fun e w' => ∃ v', e = .returned v' ∧ K (a.put o.dst v') w')) : o.wp cx.P a w K Q := by
  unfold Oper.wp; rw [h]
  refine hc.mono ?_
  rintro e w' ⟨v', rfl, hk⟩
  exact hk

/-- All that is asked of what follows an operation. -/
def Goes (ν : Nu) (w : World) (lo : Nat) (h : List HE) (id : Nat) (G : Cond) (a : Act) (o : Oper) (K : Act → World → Prop) (r : OpR) : Prop :=
  ∀ ν' w' v', Post ν w lo h (r.heap id G h) id r.nb.isSome r.wr r.v ν' w' v' → K (a.put o.dst v') w'

theorem goes_value {lo : Nat} {h : List HE} {id : Nat} {G : Cond} {v : V} {v' : Value} (hm : Map ν w) (hK : Goes ν w lo h id G a o K ⟨.tt, v, none, []⟩)
    (hr : (execOp a.eval o).run cx.P w = .ok (.value v') w) (hv : v.rel ν v') : o.wp cx.P a w K Q :=
  wp_of_value hr (hK ν w v' (Post.same hm hv))

theorem mkR_eq {v : V} {r : OpR} (h : mkR v = some r) : r = ⟨.tt, v, none, []⟩ := by simp [mkR] at h; exact h.symm

theorem relV_length : ∀ {xs : List V} {vs : List Value}, relV ν xs vs → xs.length = vs.length
  | [], [], _ => rfl
  | _ :: _, _ :: _, h => by simp [relV_length h.2]
  | [], _ :: _, h => h.elim
  | _ :: _, [], h => h.elim

theorem kindEq : ∀ k : IntKind, kEq k k = true := by intro k; simp [kEq]

/-! ### the ways meet -/

theorem mergeInt_rel {x : Bool} {p q : A} {v : Value} (h : (bif x then p else q).rel ν v) : (mergeInt x p q).rel ν v := by
  unfold mergeInt
  split
  · rename_i e1 e2
    split
    · rename_i hk
      have := kEq_true hk
      subst this
      cases x
      · exact A.rel_bv h e2
      · exact A.rel_bv h e1
    · trivial
  · trivial

theorem mergeBool_rel {x : Bool} {p q : A} {v : Value} (h : (bif x then p else q).rel ν v) : (mergeBool x p q).rel ν v := by
  unfold mergeBool
  split
  · rename_i e1 e2
    cases x
    · exact A.rel_bool h e2
    · exact A.rel_bool h e1
  · exact mergeInt_rel h

theorem mergeA_rel {x : Bool} {p q : A} {v : Value} (h : (bif x then p else q).rel ν v) : (mergeA x p q).rel ν v := by
  unfold mergeA
  split
  · split
    · rename_i hk
      simp at hk
      obtain ⟨h1, rfl⟩ := hk
      have := kEq_true h1
      subst this
      cases x <;> exact h
    · exact mergeInt_rel h
  · cases x <;> exact h
  · cases x <;> exact h
  · cases x <;> exact h
  · cases x <;> exact h
  · cases x <;> exact h
  · split
    · rename_i hk
      simp at hk
      obtain ⟨rfl, rfl⟩ := hk
      cases x <;> exact h
    · trivial
  · split
    · rename_i hk
      simp [natEq4] at hk
      obtain ⟨⟨⟨rfl, rfl⟩, rfl⟩, rfl⟩ := hk
      cases x <;> exact h
    · trivial
  · exact mergeBool_rel h

theorem mergeL_rel {x : Bool} : ∀ {p q r : List A} {vs : List Value}, mergeL x p q = some r → relL ν (bif x then p else q) vs → relL ν r vs
  | [], [], r, vs, h, hr => by simp [mergeL] at h; subst h; cases x <;> exact hr
  | a1 :: r1, a2 :: r2, r, vs, h, hr => by
    simp only [mergeL] at h
    split at h <;> simp at h
    rename_i r' he
    subst h
    cases vs with
    | nil => cases x <;> exact hr.elim
    | cons v vs => cases x <;> exact ⟨mergeA_rel hr.1, mergeL_rel he hr.2⟩
  | [], _ :: _, _, _, h, _ => by simp [mergeL] at h
  | _ :: _, [], _, _, h, _ => by simp [mergeL] at h

theorem mergeW_rel {x : Bool} {p q : W} {v : Value} (h : (bif x then p else q).rel ν v) : (mergeW x p q).rel ν v := by
  unfold mergeW
  split
  · exact mergeA_rel (by cases x <;> exact h)
  · rename_i p q
    split
    · rename_i he
      have : ∃ vs, v = .agg vs ∧ relL ν (bif x then p else q) vs.toList := by cases x <;> exact h
      obtain ⟨vs, rfl, hr⟩ := this
      exact ⟨vs, rfl, mergeL_rel he hr⟩
    · trivial
  · trivial

theorem mergeWs_rel {x : Bool} : ∀ {p q r : List W} {vs : List Value}, mergeWs x p q = some r → relW ν (bif x then p else q) vs → relW ν r vs
  | [], [], r, vs, h, hr => by simp [mergeWs] at h; subst h; cases x <;> exact hr
  | a1 :: r1, a2 :: r2, r, vs, h, hr => by
    simp only [mergeWs] at h
    split at h <;> simp at h
    rename_i r' he
    subst h
    cases vs with
    | nil => cases x <;> exact hr.elim
    | cons v vs => cases x <;> exact ⟨mergeW_rel hr.1, mergeWs_rel he hr.2⟩
  | [], _ :: _, _, _, h, _ => by simp [mergeWs] at h
  | _ :: _, [], _, _, h, _ => by simp [mergeWs] at h

theorem mergeV_rel {x : Bool} {p q : V} {v : Value} (h : (bif x then p else q).rel ν v) : (mergeV x p q).rel ν v := by
  unfold mergeV
  split
  · exact mergeA_rel (by cases x <;> exact h)
  · rename_i p q
    split
    · rename_i he
      have : ∃ vs, v = .agg vs ∧ relL ν (bif x then p else q) vs.toList := by cases x <;> exact h
      obtain ⟨vs, rfl, hr⟩ := this
      exact ⟨vs, rfl, mergeL_rel he hr⟩
    · trivial
  · rename_i p q
    split
    · rename_i he
      have : ∃ vs, v = .tuple vs ∧ relW ν (bif x then p else q) vs.toList := by cases x <;> exact h
      obtain ⟨vs, rfl, hr⟩ := this
      exact ⟨vs, rfl, mergeWs_rel he hr⟩
    · trivial
  · trivial

theorem Slots.sub {tmps : Array Value} {gt : Nat → Ent} {l l' : List Operand} (h : Slots ν tmps gt l) (hs : ∀ x ∈ l', x ∈ l) : Slots ν tmps gt l' :=
  fun s hm => h s (hs _ hm)

theorem execOp_value {ρ : Operand → Value} {o : Oper} {s : Sem Value} {v : Value} (he : execOp ρ o = (do pure (.value (← s)))) {w' : World} (h : s.run cx.P w = .ok v w') :
    (execOp ρ o).run cx.P w = .ok (.value v) w' := by
  rw [he, Sem.run_bind, h]; rfl

theorem run_underlying' {t : TypeId} {d : TypeDesc} (h : cx.P.underlying t = some d) : (underlying t).run cx.P w = .ok d w := by
  simp [underlying, h]

theorem run_sizeOf' {t : TypeId} {n : Nat} (h : sizeT cx.P t = some n) : (Go.sizeOf t).run cx.P w = .ok n w := by
  unfold sizeT at h
  cases hi : cx.P.info? t with
  | none => simp [hi] at h
  | some i => simp [hi] at h; simp [Go.sizeOf, typeInfo, hi, h]

theorem run_isAgg' {t : TypeId} {x : Bool} (h : isAggT cx.P t = some x) : (isAgg t).run cx.P w = .ok x w := by
  unfold isAggT at h
  split at h <;> simp at h <;> subst h
  · rename_i e; simp [isAgg, run_underlying' e]
  · rename_i e; simp [isAgg, run_underlying' e]
  · rename_i d h1 h2 e
    rw [isAgg, Sem.run_bind, run_underlying' e]
    cases d <;> first | rfl | exact absurd rfl (h1 _) | exact absurd rfl (h2 _ _)

theorem run_zero' {t : TypeId} {cs : List A} (h : zeroT cx.P t = some cs) : ∃ v, (zeroValue t).run cx.P w = .ok v w ∧ relL ν cs v.cells.toList := by
  unfold zeroT at h
  split at h
  · rename_i i hi
    split at h <;> simp at h
    rename_i v hz
    subst h
    exact ⟨v, by simp [zeroValue, typeInfo, hi, hz], ofAtoms_rel ν _⟩
  · cases h

theorem bind_some {α β : Type} {x : Option α} {f : α → Option β} {y : β} (h : x.bind f = some y) : ∃ z, x = some z ∧ f z = some y := by
  cases x with
  | none => cases h
  | some z => exact ⟨z, rfl, h⟩

/-! ### loads -/

theorem loadCellsFrom_run {P : Program} : ∀ (n : Nat) (w : World) (b off i : Nat) (vs : Array Value) (ty : TypeId) (acc : Array Value), w.heap[b]? = some (.cells vs ty (0, 0)) →
    off + i + n ≤ vs.size → (loadCellsFrom ⟨b, off, none⟩ i n acc).run P w = .ok (acc ++ ((List.range' (off + i) n).map fun j => vs.getD j undef).toArray) w
  | 0, w, b, off, i, vs, ty, acc, _, _ => by simp [loadCellsFrom]
  | n + 1, w, b, off, i, vs, ty, acc, h, hs => by
    have hc := cell_of h (show off + i < vs.size by omega)
    rw [loadCellsFrom, Sem.run_bind, add_addr, run_load, hc]
    simp only [Result.andThen_ok]
    rw [loadCellsFrom_run n w b off (i + 1) vs ty _ h (by omega)]
    simp [List.range'_succ, Nat.add_assoc]

theorem readN_rel {h : List HE} {id : Nat} {vs : Array Value} {n : Nat} : ∀ (m off : Nat), off + m ≤ n → (∀ o, o < n → (readCell h id o).rel ν (vs.getD o undef)) →
    relL ν (readN h id off m) ((List.range' off m).map fun j => vs.getD j undef)
  | 0, _, _, _ => by simp [readN, relL]
  | m + 1, off, hs, hr => by
    rw [readN, List.range'_succ, List.map_cons]
    exact ⟨hr off (by omega), readN_rel m (off + 1) (by omega) hr⟩

theorem evalLoad_sound {sg : Sight} {G : Cond} {h : List HE} {t : TypeId} {x : V} {vx : Value} {r : OpR} (he : evalLoad cx.P sg G h t x = some r)
    (hv : ∀ j, vis sg G h j = true → SeesAt ν h w j) (hx : x.rel ν vx) : ∃ v' v, r = ⟨.tt, v, none, []⟩ ∧ (Instr.loadAt t vx).run cx.P w = .ok v' w ∧ v.rel ν v' := by
  unfold evalLoad at he
  split at he
  · rename_i id off
    split at he
    · rename_i c ty len hvis hblk
      obtain ⟨c', ty', n, b, vs, h1, h2, h3, h4, h5⟩ := hv id hvis
      rw [hblk] at h1; simp at h1; obtain ⟨rfl, rfl, rfl⟩ := h1
      obtain ⟨b', e1, rfl⟩ := hx
      rw [h2] at e1; simp at e1; subst e1
      split at he
      · rename_i ha
        split at he
        · rename_i m hsz
          split at he
          · rename_i hle
            have hle := Nat.le_of_ble_eq_true hle
            have e := mkR_eq he
            refine ⟨.agg (#[] ++ ((List.range' (off + 0) m).map fun j => vs.getD j undef).toArray), _, e, ?_, _, rfl, ?_⟩
            · rw [Instr.loadAt, Instr.sureAddr, Sem.run_bind]
              simp only [Sem.run_pure, Result.andThen_ok]
              rw [loadVar, Sem.run_bind, run_isAgg' ha]
              simp only [Result.andThen_ok, if_true]
              rw [Sem.run_bind, run_sizeOf' hsz]
              simp only [Result.andThen_ok]
              rw [Sem.run_bind, loadCells, loadCellsFrom_run m w b off 0 vs ty #[] h3 (by omega)]
              rfl
            · have := readN_rel (ν := ν) (h := h) (id := id) (vs := vs) (n := len) m off hle h5
              simpa using this
          · cases he
        · cases he
      · rename_i ha
        split at he
        · rename_i hlt
          have hlt : off < len := by have h0 := hlt; simp [Nat.blt] at h0; omega
          have e := mkR_eq he
          refine ⟨_, _, e, ?_, h5 off hlt⟩
          rw [Instr.loadAt, Instr.sureAddr, Sem.run_bind]
          simp only [Sem.run_pure, Result.andThen_ok]
          rw [loadVar, Sem.run_bind, run_isAgg' ha]
          simp only [Result.andThen_ok, Bool.false_eq_true, if_false]
          rw [run_load, cell_of h3 (by omega)]
        · cases he
      · cases he
    · cases he
  · cases he

/-! ### fill -/

theorem relL_set : ∀ {cs : List A} {vs : List Value} (i : Nat) {c : A} {v : Value}, relL ν cs vs → c.rel ν v → relL ν (cs.set i c) (vs.set i v)
  | [], [], _, _, _, _, _ => trivial
  | _ :: _, _ :: _, 0, _, _, h, hc => ⟨hc, h.2⟩
  | _ :: _, _ :: _, i + 1, _, _, h, hc => ⟨h.1, relL_set i h.2 hc⟩
  | [], _ :: _, _, _, _, h, _ => h.elim
  | _ :: _, [], _, _, _, h, _ => h.elim

theorem fold_setMany : ∀ (l : List Value) (us : List A) (cs : List A) (vs : Array Value) (off k : Nat), relL ν us l → relL ν cs vs.toList →
    relL ν (setMany cs (off + k) us) (((l.zipIdx k).foldl (fun cs (c, j) => cs.setIfInBounds (off + j) c) vs).toList)
  | [], [], cs, vs, off, k, _, h => h
  | v :: l, u :: us, cs, vs, off, k, hu, h => by
    rw [setMany, List.zipIdx_cons, List.foldl_cons]
    have := fold_setMany l us (cs.set (off + k) u) (vs.setIfInBounds (off + k) v) off (k + 1) hu.2 (by
      rw [Array.toList_setIfInBounds]; exact relL_set _ h hu.1)
    rw [Nat.add_assoc]
    exact this
  | [], _ :: _, _, _, _, _, h, _ => h.elim
  | _ :: _, [], _, _, _, _, h, _ => h.elim

def relP (ν : Nu) : List (Nat × V) → List (Nat × Value) → Prop
  | [], [] => True
  | a :: as, v :: vs => a.1 = v.1 ∧ a.2.rel ν v.2 ∧ relP ν as vs
  | _, _ => False

theorem fillA_sound (place : Nat → Option (Nat × Nat)) : ∀ {ps : List (Nat × V)} {qs : List (Nat × Value)} {cs cs' : List A} {vs : Array Value}, fillA place cs ps = some cs' →
    relP ν ps qs → relL ν cs vs.toList → ∃ vs', Instr.fill place vs qs = some vs' ∧ relL ν cs' vs'.toList
  | [], [], cs, cs', vs, h, _, hr => by simp [fillA] at h; subst h; exact ⟨vs, rfl, hr⟩
  | (i, x) :: ps, (j, v) :: qs, cs, cs', vs, h, hp, hr => by
    obtain ⟨rfl, hx, hp'⟩ := hp
    simp only [fillA] at h
    split at h
    · rename_i us off size hs hpl
      split at h
      · rename_i hc
        simp only [Bool.and_eq_true] at hc
        have hsz := Nat.eq_of_beq_eq_true hc.1
        have hle := Nat.le_of_ble_eq_true hc.2
        have hcells := (solidCells_rel hx hs).1
        have hl1 := relL_length hcells
        have hl2 := relL_length hr
        simp at hl1 hl2
        have hstep := fold_setMany v.cells.toList us cs vs off 0 hcells hr
        obtain ⟨vs', h1, h2⟩ := fillA_sound place h hp' hstep
        refine ⟨vs', ?_, h2⟩
        have key : (v.cells.zipIdx.foldl (fun cs (c, j) => cs.setIfInBounds (off + j) c) vs) = ((v.cells.toList.zipIdx 0).foldl (fun cs (c, j) => cs.setIfInBounds (off + j) c) vs) := by
          rw [← Array.foldl_toList, Array.toList_zipIdx]
        simp only [Instr.fill, hpl]
        rw [if_neg (by simp; omega), key]
        exact h1
      · cases h
    · cases h
  | [], _ :: _, _, _, _, _, h, _ => h.elim
  | _ :: _, [], _, _, _, _, h, _ => h.elim

theorem opParts_sound {G : Cond} {gt : Nat → Ent} (hG : holds a.tmps G) : ∀ {xs : List (Nat × Operand)} {vs : List (Nat × V)}, opParts G gt xs = some vs →
    Slots ν a.tmps gt (xs.map (·.2)) → relP ν vs (xs.map fun (i, x) => (i, a.eval x))
  | [], vs, h, _ => by simp [opParts] at h; subst h; trivial
  | (i, x) :: xs, vs, h, hs => by
    simp only [opParts] at h
    split at h <;> simp at h
    rename_i v vs' h1 h2
    subst h
    exact ⟨rfl, opV_sound h1 hG trivial (hs.sub (by simp)), opParts_sound hG h2 (hs.sub (by intro y hy; simp at hy ⊢; exact .inr hy))⟩

theorem placesOf_sound : ∀ {fs : List Field} {pl : List (Nat × Nat)}, placesOf cx.P fs = some pl →
    (fs.mapM fun f => (do pure (f.offset, ← Go.sizeOf f.type) : Sem (Nat × Nat))).run cx.P w = .ok pl w
  | [], pl, h => by simp [placesOf] at h; subst h; rfl
  | f :: fs, pl, h => by
    simp only [placesOf] at h
    split at h <;> simp at h
    rename_i n r h1 h2
    subst h
    rw [List.mapM_cons, Sem.run_bind, Sem.run_bind, run_sizeOf' h1]
    simp only [Result.andThen_ok, Sem.run_pure]
    rw [Sem.run_bind, placesOf_sound h2]
    rfl

theorem eqGuard_int (op : BinOp) (t : TypeId) (X Y : Operand) (k k' : IntKind) (m n : Int) : (eqGuard op t X Y (.int k m) (.int k' n)).run cx.P w = .ok () w := by
  unfold eqGuard; cases op <;> simp
theorem eqGuard_bool (op : BinOp) (t : TypeId) (X Y : Operand) (p q : Bool) : (eqGuard op t X Y (.bool p) (.bool q)).run cx.P w = .ok () w := by
  unfold eqGuard; cases op <;> simp

theorem run_equalIn_bool (d : Nat) {t : TypeId} (h : cx.P.underlying t = some .bool) (p q : Bool) : (Op.equalIn (d + 1) t (.bool p) (.bool q)).run cx.P w = .ok (p == q) w := by
  rw [Op.equalIn, Sem.run_bind, run_underlying' h]; rfl

theorem run_equal_bool {t : TypeId} (h : cx.P.underlying t = some .bool) (p q : Bool) : (Op.equal t (.bool p) (.bool q)).run cx.P w = .ok (p == q) w :=
  run_equalIn_bool 9999 h p q

theorem run_equal_slice {t e : TypeId} (h : cx.P.underlying t = some (.slice e)) (o1 o2 : Option Addr) (l1 c1 l2 c2 : Nat) (r : Bool)
    (hr : (o1 = none ∧ o2.isNone = r) ∨ (o1.isSome = true ∧ o2 = none ∧ r = false)) :
    (Op.equal t (.slice o1 l1 c1) (.slice o2 l2 c2)).run cx.P w = .ok r w := by
  show (Op.equalIn (9999 + 1) t _ _).run cx.P w = _
  unfold Op.equalIn
  rw [Sem.run_bind, run_underlying' h]
  rcases hr with ⟨rfl, rfl⟩ | ⟨h1, rfl, rfl⟩
  · rfl
  · cases o1 with
    | none => cases h1
    | some a => rfl

theorem nilEq_sound (op : BinOp) {t : TypeId} {x y : A} {e : Bool} {vx vy : Value} (h : nilEq cx.P t x y = some e) (hx : x.rel ν vx) (hy : y.rel ν vy) (X Y : Operand) :
    (eqGuard op t X Y vx vy).run cx.P w = .ok () w ∧ (binOp .eql t vx vy).run cx.P w = .ok (.bool e) w ∧ (binOp .neq t vx vy).run cx.P w = .ok (.bool (!e)) w := by
  have key : ∀ o1 o2 l1 c1 l2 c2, vx = .slice o1 l1 c1 → vy = .slice o2 l2 c2 → (Op.equal t vx vy).run cx.P w = .ok e w →
      (eqGuard op t X Y vx vy).run cx.P w = .ok () w ∧ (binOp .eql t vx vy).run cx.P w = .ok (.bool e) w ∧ (binOp .neq t vx vy).run cx.P w = .ok (.bool (!e)) w := by
    intro o1 o2 l1 c1 l2 c2 e1 e2 hr
    subst e1 e2
    refine ⟨by cases op <;> rfl, ?_, ?_⟩
    · show (Op.equal t _ _ >>= fun z => (pure (Value.bool z) : Sem Value)).run cx.P w = _
      rw [Sem.run_bind, hr]; rfl
    · show (Op.equal t _ _ >>= fun z => (pure (Value.bool (!z)) : Sem Value)).run cx.P w = _
      rw [Sem.run_bind, hr]; rfl
  unfold nilEq at h
  split at h
  · rename_i el hu
    split at h
    · simp at h; subst h
      exact key _ _ _ _ _ _ hx hy (by rw [show vx = _ from hx, show vy = _ from hy]; exact run_equal_slice hu _ _ _ _ _ _ _ (.inl ⟨rfl, rfl⟩))
    · simp at h; subst h
      obtain ⟨b, _, e1⟩ := hx
      exact key _ _ _ _ _ _ e1 hy (by rw [e1, show vy = _ from hy]; exact run_equal_slice hu _ _ _ _ _ _ _ (.inr ⟨rfl, rfl, rfl⟩))
    · simp at h; subst h
      obtain ⟨b, _, e1⟩ := hy
      exact key _ _ _ _ _ _ hx e1 (by rw [e1, show vx = _ from hx]; exact run_equal_slice hu _ _ _ _ _ _ _ (.inl ⟨rfl, rfl⟩))
    · cases h
  · cases h

theorem evalBin_sound (hE : EqOK cx) {op : BinOp} {t : TypeId} {x y : V} {r : OpR} (he : evalBin cx op t x y = some r) (hok : okB r.ok = true) {vx vy : Value}
    (hx : x.rel ν vx) (hy : y.rel ν vy) (X Y : Operand) :
    ∃ v v' ok, r = ⟨ok, v, none, []⟩ ∧ (do eqGuard op t X Y vx vy; binOp op t vx vy).run cx.P w = .ok v' w ∧ v.rel ν v' := by
  unfold evalBin at he
  split at he
  · split at he
    · rename_i ok z hb
      simp at he; subst he
      obtain ⟨⟨k, m, k', n, rfl, rfl⟩, v', hr, hz⟩ := binInt_sound (P := cx.P) (w := w) t hb hok hx hy
      exact ⟨_, v', _, rfl, by rw [Sem.run_bind, eqGuard_int]; exact hr, hz⟩
    · split at he
      · rename_i e hn
        obtain ⟨g1, g2, g3⟩ := nilEq_sound (w := w) op hn hx hy X Y
        split at he
        · have e := mkR_eq he
          exact ⟨_, .bool _, _, e, by rw [Sem.run_bind, g1]; exact g2, ofDec_rel _ _⟩
        · have e := mkR_eq he
          exact ⟨_, .bool _, _, e, by rw [Sem.run_bind, g1]; exact g3, ofDec_rel _ _⟩
        · cases he
      split at he
      · rename_i hu hp hq
        have a1 := A.rel_bool hx hp
        have a2 := A.rel_bool hy hq
        subst a1 a2
        split at he
        · have e := mkR_eq he
          exact ⟨_, .bool _, _, e, by rw [Sem.run_bind, eqGuard_bool]; simp [binOp, run_equal_bool hu], rfl⟩
        · have e := mkR_eq he
          exact ⟨_, .bool _, _, e, by rw [Sem.run_bind, eqGuard_bool]; simp [binOp, run_equal_bool hu], rfl⟩
        · cases he
      · cases he
  · split at he
    · rename_i sh hsh
      split at he
      · rename_i z hz
        obtain ⟨xs, rfl, hx'⟩ := hx
        obtain ⟨ys, rfl, hy'⟩ := hy
        obtain ⟨q, hq, hzq⟩ := eqL_sound hz hx' hy'
        have hrun := hE t sh xs.toList ys.toList q hsh hq w X Y
        simp only [Array.toArray_toList] at hrun
        split at he
        · have e := mkR_eq he
          exact ⟨_, .bool _, _, e, hrun.1, hzq⟩
        · split at he
          · rename_i z' hn
            have e := mkR_eq he
            exact ⟨_, .bool _, _, e, hrun.2, notA_sound hn hzq⟩
          · cases he
        · cases he
      · cases he
    · cases he
  · cases he

/-! ### calls -/

theorem hsub_blk (q : Nat → Bool) : ∀ (h : List HE) (j : Nat), blk (hsub q h) j = if q j then (blk h j).map fun x => (none, x.2) else none
  | [], j => by simp [hsub, blk]
  | .new id c ty cs :: h, j => by
    rw [hsub]
    cases hq : q id
    · simp only
      rw [hsub_blk q h j, blk_new]
      by_cases e : id = j
      · subst e; simp [hq]
      · rw [if_neg e]
    · simp only
      rw [blk_new, blk_new, hsub_blk q h j]
      by_cases e : id = j
      · subst e; simp [hq]
      · rw [if_neg e, if_neg e]
  | .wr id off x :: h, j => by
    rw [hsub]
    cases hq : q id
    · simp only; rw [hsub_blk q h j]; rfl
    · simp only; rw [show blk (.wr id off x :: hsub q h) j = blk (hsub q h) j from rfl, hsub_blk q h j]; rfl

theorem hsub_cell (q : Nat → Bool) : ∀ (h : List HE) (j o : Nat), q j = true → readCell (hsub q h) j o = readCell h j o
  | [], j, o, _ => rfl
  | .new id c ty cs :: h, j, o, hj => by
    rw [hsub]
    cases hq : q id
    · simp only
      rw [hsub_cell q h j o hj, readCell_new, if_neg (by intro e; subst e; rw [hj] at hq; cases hq)]
    · simp only
      rw [readCell_new, readCell_new, hsub_cell q h j o hj]
  | .wr id off x :: h, j, o, hj => by
    rw [hsub]
    cases hq : q id
    · simp only
      rw [hsub_cell q h j o hj, readCell_wr, if_neg (by rintro ⟨rfl, _⟩; rw [hj] at hq; cases hq)]
    · simp only
      rw [readCell_wr, readCell_wr, hsub_cell q h j o hj]

theorem sees_hsub {q : Nat → Bool} {h : List HE} {j : Nat} (hq : q j = true) (hs : SeesAt ν h w j) : SeesAt ν (hsub q h) w j := by
  obtain ⟨c, ty, n, b, vs, h1, h2, h3, h4, h5⟩ := hs
  refine ⟨none, ty, n, b, vs, by rw [hsub_blk, hq, h1]; rfl, h2, h3, h4, fun o ho => ?_⟩
  rw [hsub_cell q h j o hq]; exact h5 o ho

theorem foldl_min {P : Program} : ∀ {xs : List V} {vs : List Value} {x z : A} {v : Value}, foldA minA x xs = some z → x.rel ν v → relV ν xs vs →
    ∃ v', (vs.foldlM Builtin.min2 v).run P w = .ok v' w ∧ z.rel ν v'
  | [], [], x, z, v, h, hx, _ => by simp [foldA] at h; subst h; exact ⟨v, rfl, hx⟩
  | .a y :: xs, u :: vs, x, z, v, h, hx, hs => by
    simp only [foldA] at h
    split at h
    · rename_i m hm
      obtain ⟨k, p, k', q, rfl, rfl, hr⟩ := minA_sound hm hx hs.1
      obtain ⟨v', h1, h2⟩ := foldl_min h hr hs.2
      exact ⟨v', by rw [List.foldlM_cons, Sem.run_bind]; simp only [Builtin.min2, Sem.run_pure, Result.andThen_ok]; exact h1, h2⟩
    · cases h
  | .g _ :: _, _, _, _, _, h, _, _ => by simp [foldA] at h
  | .t _ :: _, _, _, _, _, h, _, _ => by simp [foldA] at h
  | [], _ :: _, _, _, _, _, _, h => h.elim
  | .a _ :: _, [], _, _, _, _, _, h => h.elim

theorem foldl_max {P : Program} : ∀ {xs : List V} {vs : List Value} {x z : A} {v : Value}, foldA maxA x xs = some z → x.rel ν v → relV ν xs vs →
    ∃ v', (vs.foldlM Builtin.max2 v).run P w = .ok v' w ∧ z.rel ν v'
  | [], [], x, z, v, h, hx, _ => by simp [foldA] at h; subst h; exact ⟨v, rfl, hx⟩
  | .a y :: xs, u :: vs, x, z, v, h, hx, hs => by
    simp only [foldA] at h
    split at h
    · rename_i m hm
      obtain ⟨k, p, k', q, rfl, rfl, hr⟩ := maxA_sound hm hx hs.1
      obtain ⟨v', h1, h2⟩ := foldl_max h hr hs.2
      exact ⟨v', by rw [List.foldlM_cons, Sem.run_bind]; simp only [Builtin.max2, Sem.run_pure, Result.andThen_ok]; exact h1, h2⟩
    · cases h
  | .g _ :: _, _, _, _, _, h, _, _ => by simp [foldA] at h
  | .t _ :: _, _, _, _, _, h, _, _ => by simp [foldA] at h
  | [], _ :: _, _, _, _, _, _, h => h.elim
  | .a _ :: _, [], _, _, _, _, _, h => h.elim

theorem evalCall_sound (hC : CallOK cx.P gw call) (hgw : gw.holds w) {sg : Sight} {G : Cond} {gt : Nat → Ent} {h : List HE} {id : Nat} {c : Call} {r : OpR}
    (he : evalCall cx call sg G gt h c = some r) (hok : okB r.ok = true) (hop : o.op = .call c) (hG : holds a.tmps G) (hs : Slots ν a.tmps gt c.operands.toList)
    (hv : ∀ j, vis sg G h j = true → SeesAt ν h w j) (hm : Map ν w) (hK : Goes ν w sg.lo h id G a o K r) : o.wp cx.P a w K Q := by
  unfold evalCall at he
  split at he
  · cases he
  · rename_i vs hvs
    have hargs := opVs_sound (a := a) hG hvs (hs.sub (by intro x hx; simp [Call.operands]; exact .inr (by simpa using hx)))
    have harr : (c.args.map a.eval).toList = c.args.toList.map a.eval := by simp
    have hex : ∀ (b : Builtin) (v' : Value), c.callee = .builtin b → (builtin b c.argTypes o.type (c.args.map fun | .const _ => true | _ => false) (c.args.map a.eval)).run cx.P w = .ok (.value v') w →
        (execOp a.eval o).run cx.P w = .ok (.value v') w := by
      intro b v' hc hr
      have : execOp a.eval o = (do let d ← resolve a.eval c o.type; invoke d.target d.args) := by unfold execOp; rw [hop]
      rw [this, Sem.run_bind]
      simp only [resolve, hc, Sem.run_pure, Result.andThen_ok, invoke]
      exact hr
    split at he
    · rename_i f hcal
      split at he
      · rename_i f' first captured hf
        split at he
        · rename_i hsz
          simp only [Bool.and_eq_true] at hsz
          have z1 := Array.eq_empty_of_size_eq_zero (Nat.eq_of_beq_eq_true hsz.1)
          have z2 := Array.eq_empty_of_size_eq_zero (Nat.eq_of_beq_eq_true hsz.2)
          subst z1 z2
          split at he
          · rename_i ok v hcall
            simp at he; subst he
            have hfv : a.eval f = .func (.func f') #[] #[] := opV_sound (a := a) hf hG trivial (hs.sub (by intro x hx; simp [Call.operands, hcal]; simp at hx; exact .inl hx))
            have e : c.args.map a.eval = (c.args.toList.map a.eval).toArray := by rw [← harr]
            rcases hC _ _ _ _ _ hcall hok with ⟨hent, hpure⟩ | hnow
            case inr =>
              obtain ⟨v', h1, h2⟩ := hnow ν w _ hargs
              refine wp_of_value (v := v') ?_ (hK ν w v' (Post.same hm h2))
              have : execOp a.eval o = (do let d ← resolve a.eval c o.type; invoke d.target d.args) := by unfold execOp; rw [hop]
              rw [this, Sem.run_bind]
              simp only [resolve, hcal, hfv, Deferred.ofValue, Sem.run_pure, Result.andThen_ok, invoke]
              rw [← e] at h1
              simpa using h1
            refine wp_of_enter (f := f') (args := c.args.map a.eval) ?_ ?_
            · have : execOp a.eval o = (do let d ← resolve a.eval c o.type; invoke d.target d.args) := by unfold execOp; rw [hop]
              rw [this, Sem.run_bind]
              simp only [resolve, hcal, hfv, Deferred.ofValue, Sem.run_pure, Result.andThen_ok, invoke]
              simpa using hent _ w
            · have hp := hpure ν w (c.args.toList.map a.eval) hgw hm hargs (by
                intro j hj
                rw [hsub_blk] at hj
                by_cases hq : vis sg G h j = true
                · exact sees_hsub hq (hv j hq)
                · simp [hq] at hj)
              rw [e]
              refine hp.mono ?_
              rintro e w' ⟨v', rfl, hrel, hb⟩
              exact ⟨v', rfl, hK ν w' v' (Post.below hm hb hrel)⟩
          · cases he
        · cases he
      · cases he
    · rename_i hcal
      split at he
      · rename_i id' off len cap t ht
        split at he
        · rename_i elem hu
          split at he
          · rename_i hw
            have e := mkR_eq he
            subst e
            cases hl : c.args.toList with
            | nil => rw [hl] at hargs; exact hargs.elim
            | cons x xs =>
              rw [hl] at hargs
              obtain ⟨⟨b, hb1, hb2⟩, hrest⟩ := hargs
              have e0 : (c.args.map a.eval)[0]? = some (a.eval x) := by rw [← Array.getElem?_toList, harr, hl]; rfl
              refine goes_value hm hK (hex .len (.int .i64 len) hcal ?_) ⟨rfl, of_decide_eq_true hw⟩
              simp [builtin, Builtin.len_, ht, e0, run_underlying' hu, hb2, goInt]
          · cases he
        · cases he
      · rename_i t ht
        split at he
        · rename_i elem hu
          have e := mkR_eq he
          subst e
          cases hl : c.args.toList with
          | nil => rw [hl] at hargs; exact hargs.elim
          | cons x xs =>
            rw [hl] at hargs
            have hb2 := hargs.1
            simp only [V.rel, A.rel] at hb2
            have e0 : (c.args.map a.eval)[0]? = some (a.eval x) := by rw [← Array.getElem?_toList, harr, hl]; rfl
            refine goes_value hm hK (hex .len (.int .i64 0) hcal ?_) ⟨rfl, by decide⟩
            simp [builtin, Builtin.len_, ht, e0, run_underlying' hu, hb2, goInt]
        · cases he
      · cases he
    · rename_i hcal
      split at he
      · rename_i x r
        obtain ⟨z, hz, he⟩ := bind_some he
        have e := mkR_eq he
        subst e
        cases hl : c.args.toList with
        | nil => rw [hl] at hargs; exact hargs.elim
        | cons y ys =>
          rw [hl] at hargs
          obtain ⟨v', h1, h2⟩ := foldl_min (P := cx.P) (w := w) hz hargs.1 hargs.2
          refine goes_value hm hK (hex .min v' hcal ?_) h2
          simp only [builtin, Builtin.min_]
          rw [harr, hl]
          simp only [List.map_cons]
          rw [Sem.run_bind, h1]; rfl
      · cases he
    · rename_i hcal
      split at he
      · rename_i x r
        obtain ⟨z, hz, he⟩ := bind_some he
        have e := mkR_eq he
        subst e
        cases hl : c.args.toList with
        | nil => rw [hl] at hargs; exact hargs.elim
        | cons y ys =>
          rw [hl] at hargs
          obtain ⟨v', h1, h2⟩ := foldl_max (P := cx.P) (w := w) hz hargs.1 hargs.2
          refine goes_value hm hK (hex .max v' hcal ?_) h2
          simp only [builtin, Builtin.max_]
          rw [harr, hl]
          simp only [List.map_cons]
          rw [Sem.run_bind, h1]; rfl
      · cases he
    · cases he
end
end Go.VE
