/- VE7: a region, in whatever order. -/
import Derived.Test.YtnjjcklhpgfnjaaVE6
import Derived.Orders
namespace Go.VE
open Go
open Go.RowKit (Below)

def EntOK (ν : Nu) (tmps : Array Value) (s : Nat) (e : Ent) : Prop :=
  (holds tmps e.c → e.v.rel ν (tmps.getD s undef)) ∧ (¬ holds tmps e.c → tmps.getD s undef = undef)

/-- Where a function's run stands. `W0`: the world in which it began; all blocks of its own lie behind that one's. -/
structure Base (gw : GW) (lo : Nat) (W0 : World) (ν : Nu) (w : World) : Prop where
  map : Map ν w
  own : ∀ j b, lo ≤ j → ν j = some b → W0.heap.size ≤ b
  low : Below W0.heap.size W0 w
  gw0 : gw.holds W0

theorem Base.gw {gw : GW} {lo : Nat} {W0 : World} {ν : Nu} {w : World} (h : Base gw lo W0 ν w) : gw.holds w :=
  gw.keep W0 w h.gw0 (fun b hb => h.low.block b (Nat.lt_of_lt_of_le hb (gw.le _ h.gw0))) h.low.size

/-- Behind `i` operations of a region (`base`: the number of its first block). -/
structure Rel (gw : GW) (fp : Fp) (W0 : World) (ops : List Oper) (base i : Nat) (st : St) (ν : Nu) (a : Act) (w : World) : Prop where
  base0 : Base gw fp.lo W0 ν w
  slots : ∀ s, EntOK ν a.tmps s (st.get fp.km s)
  conds : ∀ s sj x, (st.get fp.km s).c = some (sj, x) → ∃ j, j < i ∧ dstOf ops j = some sj
  sees : ∀ id c x, blk st.heap id = some (c, x) → (c = none ∨ (base ≤ id ∧ holds a.tmps c)) → SeesAt ν st.heap w id
  bconds : ∀ id sj x y, blk st.heap id = some (some (sj, x), y) → base ≤ id → ∃ j, j < i ∧ dstOf ops j = some sj
  bound : ∀ id, blk st.heap id ≠ none → id < base + i
  fresh : ∀ id, base + i ≤ id → ν id = none
  size : a.tmps.size = fp.nt
  defers : a.defers = []

theorem holds_put {a : Act} {d : Option Nat} {v : Value} {c : Cond} (h : ∀ sj x, c = some (sj, x) → d ≠ some sj) : holds (a.put d v).tmps c ↔ holds a.tmps c := by
  cases c with
  | none => exact Iff.rfl
  | some p =>
    obtain ⟨sj, x⟩ := p
    cases d with
    | none => exact Iff.rfl
    | some d =>
      have hne : d ≠ sj := fun e => h sj x rfl (by rw [e])
      simp [holds, Act.put, Array.getD_eq_getD_getElem?, Array.getElem?_setIfInBounds_ne hne]

theorem getD_put_ne {a : Act} {d : Option Nat} {v : Value} {s : Nat} (h : d ≠ some s) : (a.put d v).tmps.getD s undef = a.tmps.getD s undef := by
  cases d with
  | none => rfl
  | some d =>
    have hne : d ≠ s := fun e => h (by rw [e])
    simp [Act.put, Array.getD_eq_getD_getElem?, Array.getElem?_setIfInBounds_ne hne]

theorem getD_put_eq {a : Act} {d : Nat} {v : Value} (h : d < a.tmps.size) : (a.put (some d) v).tmps.getD d undef = v := by
  simp [Act.put, Array.getD_eq_getD_getElem?, h]

theorem size_put {a : Act} {d : Option Nat} {v : Value} : (a.put d v).tmps.size = a.tmps.size := by cases d <;> simp [Act.put]

theorem put_defers {a : Act} {d : Option Nat} {v : Value} : (a.put d v).defers = a.defers := by cases d <;> rfl

theorem get_cons (s' : Nat) (e : Ent) (l : List (Nat × Ent)) (s : Nat) : get ((s', e) :: l) s = if s' = s then e else get l s := by
  rw [get]
  cases hb : Nat.beq s' s
  · rw [if_neg (beq_false hb)]
  · rw [if_pos (beq_true hb)]

/-- What is laid into a slot that lives on. -/
def keepEnt (e : Ent) : Ent := match e.c with | none => e | some _ => ⟨none, .a .poison⟩

theorem put_true {km : Nat} {st : St} {d : Nat} {e : Ent} (h : Nat.testBit km d = true) : st.put km (some d) e = { st with vars := (d, keepEnt e) :: st.vars } := by
  simp only [St.put, h]; rfl
theorem put_false {km : Nat} {st : St} {d : Nat} {e : Ent} (h : Nat.testBit km d = false) : st.put km (some d) e = { st with tmps := (d, e) :: st.tmps } := by
  simp only [St.put, h]
theorem get_true {km : Nat} {st : St} {d : Nat} (h : Nat.testBit km d = true) : st.get km d = get st.vars d := by simp only [St.get, h]
theorem get_false {km : Nat} {st : St} {d : Nat} (h : Nat.testBit km d = false) : st.get km d = get st.tmps d := by simp only [St.get, h]

theorem get_put_ne {km : Nat} {st : St} {d : Option Nat} {e : Ent} {s : Nat} (h : d ≠ some s) : (st.put km d e).get km s = st.get km s := by
  cases d with
  | none => rfl
  | some d =>
    have hne : ¬ d = s := fun e => h (by rw [e])
    cases hd : Nat.testBit km d <;> cases hs : Nat.testBit km s
    · rw [put_false hd, get_false hs, get_false hs, get_cons, if_neg hne]
    · rw [put_false hd, get_true hs, get_true hs]
    · rw [put_true hd, get_false hs, get_false hs]
    · rw [put_true hd, get_true hs, get_true hs, get_cons, if_neg hne]

/-- What stands in the slot that was written. -/
def entPut (km d : Nat) (e : Ent) : Ent := match Nat.testBit km d with | true => keepEnt e | false => e

theorem get_put_eq {km : Nat} {st : St} {d : Nat} {e : Ent} : (st.put km (some d) e).get km d = entPut km d e := by
  unfold entPut
  cases hd : Nat.testBit km d
  · rw [put_false hd, get_false hd, get_cons, if_pos rfl]
  · rw [put_true hd, get_true hd, get_cons, if_pos rfl]

theorem put_heap {km : Nat} {st : St} {d : Option Nat} {e : Ent} : (st.put km d e).heap = st.heap := by
  cases d with
  | none => rfl
  | some d => cases hd : Nat.testBit km d <;> first | rw [put_false hd] | rw [put_true hd]

theorem put_ok {km : Nat} {st : St} {d : Option Nat} {e : Ent} : (st.put km d e).ok = st.ok := by
  cases d with
  | none => rfl
  | some d => cases hd : Nat.testBit km d <;> first | rw [put_false hd] | rw [put_true hd]

theorem get_of_eq {km : Nat} {st st' : St} (h1 : st.vars = st'.vars) (h2 : st.tmps = st'.tmps) (s : Nat) : st.get km s = st'.get km s := by
  unfold St.get; rw [h1, h2]

theorem andOk_true {x y : A} (h : okB (andOk x y) = true) : okB x = true ∧ okB y = true := by
  unfold andOk at h
  split at h
  · exact ⟨rfl, h⟩
  · exact ⟨h, rfl⟩
  · simp only [okB, Bool.and_eq_true] at h; exact h

theorem wanted_guard {ops : List Oper} {tmps : Array Value} {o : Oper} {j sj : Nat} {want : Bool} (hg : o.guard = some (j, want)) (hd : dstOf ops j = some sj) :
    Region.wanted o (yielded ops.toArray tmps) = true ↔ holds tmps (some (sj, want)) := by
  unfold Region.wanted
  rw [hg]
  simp only [beq_iff_eq]
  unfold dstOf at hd
  split at hd
  · rename_i oj hj
    unfold yielded
    have e : ((ops.toArray[j]?).bind fun x => x.dst) = some sj := by simp [hj, hd]
    rw [e]
    simp only [Option.bind_some, holds, Array.getD_eq_getD_getElem?]
    cases ht : tmps[sj]? with
    | none => simp [undef]
    | some v => cases v <;> simp
  · cases hd

theorem chkDst_spec {ops : List Oper} (h : chkDst ops = true) {i j : Nat} (hi : i < ops.length) (hj : j < i) {d : Nat} (h1 : dstOf ops i = some d) (h2 : dstOf ops j = some d) : False := by
  unfold chkDst allBelow at h
  rw [List.all_eq_true] at h
  have h3 := h i (List.mem_range.2 hi)
  rw [List.all_eq_true] at h3
  have h4 := h3 j (List.mem_range.2 hj)
  rw [h1, h2] at h4
  simp [optNe] at h4

theorem dstOf_lt {ops : List Oper} {i d : Nat} (h : dstOf ops i = some d) : i < ops.length := by
  unfold dstOf at h
  split at h
  · rename_i o ho; exact (List.getElem?_eq_some_iff.1 ho).1
  · cases h

theorem chkDst_inj {ops : List Oper} (h : chkDst ops = true) {i j d : Nat} (h1 : dstOf ops i = some d) (h2 : dstOf ops j = some d) : i = j := by
  rcases Nat.lt_trichotomy i j with hl | he | hl
  · exact (chkDst_spec h (dstOf_lt h2) hl h2 h1).elim
  · exact he
  · exact (chkDst_spec h (dstOf_lt h1) hl h1 h2).elim

/-- What one operation needs. -/
structure Need (gw : GW) (fp : Fp) (W0 : World) (ops : List Oper) (sg : Sight) (i : Nat) (st : St) (o : Oper) (ν : Nu) (a : Act) (w : World) : Prop where
  base0 : Base gw fp.lo W0 ν w
  slots : ∀ s, (.tmp s ∈ o.op.operands.toList ∨ ∃ j want, o.guard = some (j, want) ∧ dstOf ops j = some s) → EntOK ν a.tmps s (st.get fp.km s)
  vis : ∀ G, holds a.tmps G → ∀ j, vis sg G st.heap j = true → SeesAt ν st.heap w j
  fresh : ν (sg.base + i) = none
  lo : sg.lo = fp.lo
  own : fp.lo ≤ sg.base + i
  size : a.tmps.size = fp.nt

/-- What an operation leaves: its own slot, its own block, and what was there. -/
structure Left (gw : GW) (fp : Fp) (W0 : World) (ops : List Oper) (sg : Sight) (i : Nat) (noWr : Lim) (st st' : St) (o : Oper) (ν ν' : Nu) (a a' : Act) (w w' : World) : Prop where
  base0 : Base gw fp.lo W0 ν' w'
  le : ν.le ν'
  dom : ∀ j, ν j = none → j ≠ sg.base + i → ν' j = none
  put : ∃ v, a' = a.put o.dst v
  own : ∀ d, o.dst = some d → EntOK ν' a'.tmps d (st'.get fp.km d)
  conds : ∀ d sj x, o.dst = some d → (st'.get fp.km d).c = some (sj, x) → ∃ j, j < i ∧ dstOf ops j = some sj
  get : ∀ s, o.dst ≠ some s → st'.get fp.km s = st.get fp.km s
  sees : ∀ j, SeesAt ν st.heap w j → SeesAt ν' st'.heap w' j
  blk : ∀ j, j ≠ sg.base + i → VE.blk st'.heap j = VE.blk st.heap j
  calm : ∀ h j, limOK noWr j = true → SeesAt ν h w j → SeesAt ν' h w' j
  new : ∀ c x, VE.blk st'.heap (sg.base + i) = some (c, x) → VE.blk st.heap (sg.base + i) = none → (holds a'.tmps c → SeesAt ν' st'.heap w' (sg.base + i)) ∧
    ∀ sj x, c = some (sj, x) → ∃ j, j < i ∧ dstOf ops j = some sj

theorem blk_heap_ne {r : OpR} {id : Nat} {G : Cond} {h : List HE} {j : Nat} (hj : j ≠ id) : blk (r.heap id G h) j = blk h j := by
  unfold OpR.heap
  split
  · rw [blk_pushW]
  · rw [blk_new, if_neg (Ne.symm hj), blk_pushW]

theorem entPut_c {km d : Nat} {G : Cond} {v : V} {c : Nat × Bool} (h : (entPut km d ⟨G, v⟩).c = some c) : G = some c := by
  unfold entPut keepEnt at h
  split at h
  · split at h
    · rename_i h1 h2; rw [h2] at h; cases h
    · cases h
  · exact h

section
variable {cx : Cx} {gw : GW} {call : CallE} {fp : Fp} {W0 : World} {ops : List Oper} {sg : Sight} {i : Nat} {st st' : St} {o : Oper} {ν : Nu} {w : World} {a : Act} {K : Act → World → Prop} {Q : Exit → Act → World → Prop}

theorem Base.post {v : V} {ν' : Nu} {w' : World} {v' : Value} {h h' : List HE} {id : Nat} {nb : Bool} {stl : List (Nat × Nat × A)} (hb : Base gw fp.lo W0 ν w)
    (p : Post ν w fp.lo h h' id nb stl v ν' w' v') : Base gw fp.lo W0 ν' w' where
  map := p.map
  own := by
    intro j b hj hb'
    cases hν : ν j with
    | none => exact Nat.le_trans hb.low.size (p.fresh j b hν hb')
    | some c => have := p.le j c hν; rw [hb'] at this; simp at this; subst this; exact hb.own j _ hj hν
  low := by
    refine ⟨p.frm.os.trans hb.low.os, p.frm.tape.trans hb.low.tape, p.frm.output.trans hb.low.output, Nat.le_trans hb.low.size p.frm.size, fun k hk => ?_⟩
    rw [p.frm.block k (Nat.lt_of_lt_of_le hk hb.low.size) (fun j hj e => by have := hb.own j k hj e; omega)]
    exact hb.low.block k hk
  gw0 := hb.gw0

theorem noWrOK_limOK {lim : Lim} {l : List (Nat × Nat × A)} (h : noWrOK lim l = true) {j : Nat} (hl : limOK lim j = true) : ∀ x, x ∈ l → x.1 ≠ j := by
  intro x hx
  cases l with
  | nil => cases hx
  | cons y r =>
    cases lim with
    | none => simp [limOK] at hl
    | some t => cases t with
      | none => simp [noWrOK] at h
      | some t =>
        have h1 := List.all_eq_true.1 h x hx
        have h2 := Nat.eq_of_beq_eq_true h1
        intro e
        simp only [limOK] at hl
        rw [← e, h2] at hl
        simp at hl

theorem runOp_sound (hE : EqOK cx) (hC : CallOK cx.P gw call) {noWr : Lim} {G : Cond} {gb : Bool} (he : runOp cx call fp sg i noWr G gb st o = some st') (hok : okB st'.ok = true)
    (hn : Need gw fp W0 ops sg i st o ν a w) (hd : chkDst ops = true) (ho : ops[i]? = some o) (hdst : dstFine fp.nt o.dst = true) (hG : holds a.tmps G) (hgb : G ≠ none → gb = true)
    (hGj : ∀ sj x, G = some (sj, x) → ∃ j, j < i ∧ dstOf ops j = some sj)
    (hK : ∀ ν' a' w', Left gw fp W0 ops sg i noWr st st' o ν ν' a a' w w' → K a' w') : o.wp cx.P a w K Q := by
  unfold runOp at he
  split at he
  · cases he
  · rename_i r hr
    split at he
    · cases he
    · rename_i hwr
      simp at he
      subst he
      have hdi : dstOf ops i = o.dst := by unfold dstOf; rw [ho]
      have hne : ∀ sj x, G = some (sj, x) → o.dst ≠ some sj := by
        intro sj x hGe hds
        obtain ⟨j, hj, hdj⟩ := hGj sj x hGe
        have := chkDst_inj hd (hdi.trans hds) hdj
        omega
      rw [put_ok] at hok
      have hok2 := (andOk_true hok).2
      have hrok : okB r.ok = true := by
        unfold condOk at hok2
        split at hok2
        · exact hok2
        · have := hgb (by simp)
          subst this
          split at hok2
          · rename_i e; rw [e]; rfl
          · simpa [okB] using hok2
      refine evalOp_sound (ν := ν) hE hC hn.base0.gw hr hrok hG (fun s hs hc => (hn.slots s (.inl hs)).1 hc) (fun j hj => hn.vis G hG j hj) hn.base0.map hn.fresh ?_
      intro ν' w' v' p
      rw [hn.lo] at p
      have hlt : ∀ d, o.dst = some d → d < a.tmps.size := by
        intro d hd'
        rw [hd'] at hdst
        rw [hn.size]
        exact blt_lt hdst
      refine hK ν' _ w' ?_
      have hget : ∀ s, o.dst ≠ some s → (({ st with ok := andOk st.ok (condOk G gb r.ok), heap := r.heap (sg.base + i) G st.heap } : St).put fp.km o.dst ⟨G, r.v⟩).get fp.km s = st.get fp.km s := by
        intro s hs
        rw [get_put_ne hs]
        exact get_of_eq rfl rfl s
      constructor
      case base0 => exact Base.post hn.base0 p
      case le => exact p.le
      case dom => exact fun j hj hne => p.dom j hj (fun _ => hne)
      case put => exact ⟨v', rfl⟩
      case own =>
        intro d hds
        have hsz := hlt d hds
        rw [hds, get_put_eq]
        have hval : r.v.rel ν' ((a.put (some d) v').tmps.getD d undef) := by rw [getD_put_eq hsz]; exact p.val
        have hG' : holds (a.put (some d) v').tmps G := (holds_put (fun sj x hg => by rw [← hds]; exact hne sj x hg)).2 hG
        unfold entPut keepEnt
        split
        · split
          · exact ⟨fun _ => hval, fun hno => absurd hG' hno⟩
          · exact ⟨fun _ => trivial, fun hno => absurd trivial hno⟩
        · exact ⟨fun _ => hval, fun hno => absurd hG' hno⟩
      case conds =>
        intro d sj x hds hc
        rw [hds, get_put_eq] at hc
        exact hGj sj x (entPut_c hc)
      case get => exact hget
      case sees => intro j hj; rw [put_heap]; exact p.sees j hj
      case blk => intro j hj; rw [put_heap]; exact blk_heap_ne hj
      case calm =>
        intro h' j hl hs
        obtain ⟨c, ty, n, b, vs, h1, h2, h3, h4, h5⟩ := hs
        refine ⟨c, ty, n, b, vs, h1, p.le _ _ h2, ?_, h4, fun off ho => A.rel_mono p.le (h5 off ho)⟩
        rw [p.calm b (hn.base0.map.lt _ _ h2) ?_]
        · exact h3
        · intro x hx hν
          have hj := hn.base0.map.inj _ _ _ hν h2
          exact absurd (noWrOK_limOK hwr hl x hx) (fun h => h hj)
      case new =>
        intro c x hb hb0
        rw [put_heap] at hb ⊢
        cases hnb : r.nb with
        | none =>
          simp only [OpR.heap, hnb] at hb
          rw [blk_pushW, hb0] at hb
          cases hb
        | some y =>
          obtain ⟨ty, cs⟩ := y
          have hb' := hb
          simp only [OpR.heap, hnb] at hb'
          rw [blk_new, if_pos rfl] at hb'
          simp at hb'
          obtain ⟨rfl, _⟩ := hb'
          exact ⟨fun _ => p.new (by simp [hnb]), hGj⟩

theorem skip_left {noWr : Lim} (hn : Need gw fp W0 ops sg i st o ν a w) (hdst : dstFine fp.nt o.dst = true) :
    Left gw fp W0 ops sg i noWr st (st.put fp.km o.dst ⟨none, .a .undef⟩) o ν ν a (a.put o.dst undef) w w where
  base0 := hn.base0
  le := Nu.le_refl _
  dom := fun _ h _ => h
  put := ⟨undef, rfl⟩
  own := by
    intro d hds
    have hsz : d < a.tmps.size := by rw [hds] at hdst; rw [hn.size]; exact blt_lt hdst
    rw [hds, get_put_eq]
    unfold entPut keepEnt
    split
    · exact ⟨fun _ => getD_put_eq hsz, fun hno => absurd trivial hno⟩
    · exact ⟨fun _ => getD_put_eq hsz, fun hno => absurd trivial hno⟩
  conds := by
    intro d sj x hds hc
    rw [hds, get_put_eq] at hc
    exact absurd (entPut_c hc) (by simp)
  get := fun s hs => get_put_ne hs
  sees := fun j hj => by rw [put_heap]; exact hj
  blk := fun j _ => by rw [put_heap]
  calm := fun _ _ _ h => h
  new := fun c x h h0 => by rw [put_heap, h0] at h; cases h

/-- Where the condition does not hold the operation is passed over: what the evaluator says of it is said under the condition. -/
theorem cond_left {call : CallE} {noWr : Lim} {G : Cond} {gb : Bool} (he : runOp cx call fp sg i noWr G gb st o = some st')
    (hn : Need gw fp W0 ops sg i st o ν a w) (hd : chkDst ops = true) (ho : ops[i]? = some o) (hdst : dstFine fp.nt o.dst = true) (hG : ¬ holds a.tmps G)
    (hGj : ∀ sj x, G = some (sj, x) → ∃ j, j < i ∧ dstOf ops j = some sj) (hwr : ∀ j, SeesAt ν st.heap w j → SeesAt ν st'.heap w j) :
    Left gw fp W0 ops sg i noWr st st' o ν ν a (a.put o.dst undef) w w := by
  have hdi : dstOf ops i = o.dst := by unfold dstOf; rw [ho]
  have hne : ∀ sj x, G = some (sj, x) → o.dst ≠ some sj := by
    intro sj x hGe hds
    obtain ⟨j, hj, hdj⟩ := hGj sj x hGe
    have := chkDst_inj hd (hdi.trans hds) hdj
    omega
  have hG' : ¬ holds (a.put o.dst undef).tmps G := fun h => hG ((holds_put hne).1 h)
  unfold runOp at he
  split at he
  · cases he
  · rename_i r hr
    split at he
    · cases he
    · simp at he
      subst he
      constructor
      case base0 => exact hn.base0
      case le => exact Nu.le_refl _
      case dom => exact fun _ h _ => h
      case put => exact ⟨undef, rfl⟩
      case own =>
        intro d hds
        have hsz : d < a.tmps.size := by rw [hds] at hdst; rw [hn.size]; exact blt_lt hdst
        rw [hds, get_put_eq]
        rw [hds] at hG'
        unfold entPut keepEnt
        split
        · split
          · rename_i hc; simp only at hc; subst hc; exact absurd trivial hG'
          · exact ⟨fun _ => trivial, fun hno => absurd trivial hno⟩
        · exact ⟨fun h => absurd h hG', fun _ => getD_put_eq hsz⟩
      case conds =>
        intro d sj x hds hc
        rw [hds, get_put_eq] at hc
        exact hGj sj x (entPut_c hc)
      case get =>
        intro s hs
        rw [get_put_ne hs]
        exact get_of_eq rfl rfl s
      case sees => exact hwr
      case blk => intro j hj; rw [put_heap]; exact blk_heap_ne hj
      case calm => exact fun _ _ _ h => h
      case new =>
        intro c x hb hb0
        rw [put_heap] at hb
        cases hnb : r.nb with
        | none =>
          simp only [OpR.heap, hnb] at hb
          rw [blk_pushW, hb0] at hb
          cases hb
        | some y =>
          obtain ⟨ty, cs⟩ := y
          simp only [OpR.heap, hnb] at hb
          rw [blk_new, if_pos rfl] at hb
          simp at hb
          obtain ⟨rfl, _⟩ := hb
          exact ⟨fun h => absurd h hG', hGj⟩

/-- Under a condition nothing is stored. -/
theorem evalOp_wr {call : CallE} {G : Cond} {gt : Nat → Ent} {h : List HE} {id : Nat} {op : Op} {r : OpR} (he : evalOp cx call sg G gt h id op = some r) (hG : G ≠ none) : r.wr = [] := by
  have mk : ∀ {v : V} {r : OpR}, mkR v = some r → r.wr = [] := fun h => by rw [mkR_eq h]
  have mkb : ∀ {α : Type} {x : Option α} {f : α → V} {r : OpR}, (x.bind fun z => mkR (f z)) = some r → r.wr = [] := fun h => by
    obtain ⟨z, _, h⟩ := bind_some h; exact mk h
  cases op <;> simp only [evalOp] at he
  case move => exact mkb he
  case assign => exact mkb he
  case pick =>
    unfold evalPick at he
    split at he
    · exact mkb he
    · exact mkb he
    · split at he
      · exact mk he
      · cases he
    · cases he
  case load =>
    obtain ⟨z, _, he⟩ := bind_some he
    unfold evalLoad at he
    (repeat' split at he) <;> first | exact mk he | cases he
  case store =>
    split at he
    · unfold evalStore at he
      split at he
      · split at he
        · exact absurd rfl hG
        · cases he
      · cases he
    · cases he
  case binOp =>
    split at he
    · unfold evalBin at he
      (repeat' split at he) <;> first | exact mk he | (simp at he; subst he; rfl) | cases he
    · cases he
  case call =>
    unfold evalCall at he
    (repeat' split at he) <;> first | exact mk he | exact mkb he | (simp at he; subst he; rfl) | cases he
  case slice =>
    (repeat' split at he) <;> first | exact (cutA_eq he).2.2 ▸ rfl | cases he
  all_goals ((repeat' split at he) <;> first | exact mk he | exact mkb he | (simp at he; subst he; rfl) | cases he)

/-- At a condition that does not hold the log has grown by a block at the most. -/
theorem runOp_sees {call : CallE} {noWr : Lim} {G : Cond} {gb : Bool} (he : runOp cx call fp sg i noWr G gb st o = some st') (hG : G ≠ none) (hf : ν (sg.base + i) = none) :
    ∀ j, SeesAt ν st.heap w j → SeesAt ν st'.heap w j := by
  unfold runOp at he
  split at he
  · cases he
  · rename_i r hr
    split at he
    · cases he
    · simp at he
      subst he
      have hw := evalOp_wr hr hG
      intro j ⟨c, ty, n, b, vs, h1, h2, h3, h4, h5⟩
      have hne : sg.base + i ≠ j := by intro e; rw [← e, hf] at h2; cases h2
      rw [put_heap]
      refine ⟨c, ty, n, b, vs, by rw [← h1]; exact blk_heap_ne (Ne.symm hne), h2, h3, h4, fun off ho => ?_⟩
      simp only [OpR.heap, hw, pushW]
      split
      · exact h5 off ho
      · rw [readCell_new, if_neg hne]; exact h5 off ho

theorem stepOp_sound (hE : EqOK cx) (hC : CallOK cx.P gw call) {noWr : Lim} (he : stepOp cx call fp sg i noWr ops st o = some st') (hok : okB st'.ok = true)
    (hn : Need gw fp W0 ops sg i st o ν a w) (hd : chkDst ops = true) (ho : ops[i]? = some o)
    (hK : ∀ ν' a' w', Left gw fp W0 ops sg i noWr st st' o ν ν' a a' w w' → K a' w') :
    if Region.wanted o (yielded ops.toArray a.tmps) then o.wp cx.P a w K Q else K (a.put o.dst undef) w := by
  unfold stepOp at he
  split at he
  · cases he
  · rename_i hdst
    split at he
    · rename_i hg
      rw [if_pos (by simp [Region.wanted, hg])]
      exact runOp_sound hE hC he hok hn hd ho hdst trivial (fun h => absurd rfl h) (fun _ _ h => by cases h) hK
    · rename_i j want hg
      split at he
      · rename_i sj hji hsj
        have hji := blt_lt hji
        have hw := fun t => wanted_guard (tmps := t) hg hsj
        have hent := hn.slots sj (.inr ⟨j, want, hg, hsj⟩)
        have dyn : ∀ gb, runOp cx call fp sg i noWr (some (sj, want)) gb st o = some st' → (holds a.tmps (some (sj, want)) → gb = true) →
            if Region.wanted o (yielded ops.toArray a.tmps) then o.wp cx.P a w K Q else K (a.put o.dst undef) w := by
          intro gb he hgb
          have hGj : ∀ s x, (some (sj, want) : Cond) = some (s, x) → ∃ j, j < i ∧ dstOf ops j = some s := by
            intro s x h; simp at h; exact ⟨j, hji, by rw [hsj, h.1]⟩
          by_cases hh : holds a.tmps (some (sj, want))
          · rw [if_pos ((hw _).2 hh)]
            exact runOp_sound hE hC he hok hn hd ho hdst hh (fun _ => hgb hh) hGj hK
          · rw [if_neg (fun h => hh ((hw _).1 h))]
            exact hK _ _ _ (cond_left he hn hd ho hdst hh hGj (runOp_sees he (by simp) hn.fresh))
        have und : ∀ x : Bool, undef ≠ Value.bool x := fun x h => by simp [undef] at h
        split at he
        · rename_i hv
          split at he
          · rename_i hc
            have hval : a.tmps.getD sj undef = .bool true := by have := hent.1 (by rw [hc]; trivial); rw [hv] at this; exact this
            split at he
            · rw [if_pos ((hw _).2 hval)]
              exact runOp_sound hE hC he hok hn hd ho hdst trivial (fun h => absurd rfl h) (fun _ _ h => by cases h) hK
            · simp at he
              subst he
              rw [if_neg (fun h => by have := (hw _).1 h; simp only [holds] at this; rw [hval] at this; simp at this)]
              exact hK _ _ _ (skip_left hn hdst)
          · refine dyn _ he (fun hh => ?_)
            have hc : holds a.tmps (st.get fp.km sj).c := Classical.byContradiction fun hno => by
              have h1 := hent.2 hno
              simp only [holds] at hh
              rw [h1] at hh
              exact und _ hh
            have h2 := hent.1 hc
            rw [hv] at h2
            simp only [V.rel, A.rel] at h2
            simp only [holds] at hh
            rw [h2] at hh
            simpa using hh.symm
        · rename_i hv
          split at he
          · rename_i hc
            have hval : a.tmps.getD sj undef = .bool false := by have := hent.1 (by rw [hc]; trivial); rw [hv] at this; exact this
            split at he
            · rw [if_pos ((hw _).2 hval)]
              exact runOp_sound hE hC he hok hn hd ho hdst trivial (fun h => absurd rfl h) (fun _ _ h => by cases h) hK
            · simp at he
              subst he
              rw [if_neg (fun h => by have := (hw _).1 h; simp only [holds] at this; rw [hval] at this; simp at this)]
              exact hK _ _ _ (skip_left hn hdst)
          · refine dyn _ he (fun hh => ?_)
            have hc : holds a.tmps (st.get fp.km sj).c := Classical.byContradiction fun hno => by
              have h1 := hent.2 hno
              simp only [holds] at hh
              rw [h1] at hh
              exact und _ hh
            have h2 := hent.1 hc
            rw [hv] at h2
            simp only [V.rel, A.rel] at h2
            simp only [holds] at hh
            rw [h2] at hh
            simp at hh
            simp [← hh]
        · rename_i x hv
          refine dyn _ he (fun hh => ?_)
          have hc : holds a.tmps (st.get fp.km sj).c := Classical.byContradiction fun hno => by
            have h1 := hent.2 hno
            simp only [holds] at hh
            rw [h1] at hh
            exact und _ hh
          have h2 := hent.1 hc
          rw [hv] at h2
          simp only [V.rel, A.rel] at h2
          simp only [holds] at hh
          rw [h2] at hh
          simp at hh
          subst hh
          cases x <;> rfl
        · cases he
      · cases he

/-- One operation behind the other. -/
theorem Rel.left {base i : Nat} (hr : Rel gw fp W0 ops base i st ν a w) {sg : Sight} (hsg : sg.base = base) {noWr : Lim} {ν' : Nu} {a' : Act} {w' : World} (hd : chkDst ops = true) (ho : ops[i]? = some o)
    (hl : Left gw fp W0 ops sg i noWr st st' o ν ν' a a' w w') : Rel gw fp W0 ops base (i + 1) st' ν' a' w' := by
  subst hsg
  obtain ⟨v, hput⟩ := hl.put
  have hdi : dstOf ops i = o.dst := by unfold dstOf; rw [ho]
  have hlt : ∀ sj j, j < i → dstOf ops j = some sj → o.dst ≠ some sj := by
    intro sj j hj hdj hds
    have := chkDst_inj hd (hdi.trans hds) hdj
    omega
  constructor
  case base0 => exact hl.base0
  case slots =>
    intro s
    by_cases hs : o.dst = some s
    · exact hl.own s hs
    · rw [hl.get s hs, hput]
      obtain ⟨h1, h2⟩ := hr.slots s
      have hh : holds (a.put o.dst v).tmps (st.get fp.km s).c ↔ holds a.tmps (st.get fp.km s).c := holds_put (fun sj x hc => by
        obtain ⟨j, hj, hdj⟩ := hr.conds s sj x hc
        exact hlt sj j hj hdj)
      unfold EntOK
      rw [hh, getD_put_ne hs]
      exact ⟨fun h => V.rel_mono hl.le (h1 h), h2⟩
  case conds =>
    intro s sj x hc
    by_cases hs : o.dst = some s
    · obtain ⟨j, hj, hdj⟩ := hl.conds s sj x hs hc
      exact ⟨j, by omega, hdj⟩
    · rw [hl.get s hs] at hc
      obtain ⟨j, hj, hdj⟩ := hr.conds s sj x hc
      exact ⟨j, by omega, hdj⟩
  case sees =>
    intro id c x hb hc
    by_cases hid : id = sg.base + i
    · subst hid
      have h0 : blk st.heap (sg.base + i) = none := by
        cases hx : blk st.heap (sg.base + i) with
        | none => rfl
        | some y => have := hr.bound (sg.base + i) (by rw [hx]; simp); omega
      have hh : holds a'.tmps c := by
        rcases hc with rfl | ⟨_, h⟩
        · trivial
        · exact h
      exact (hl.new c x hb h0).1 hh
    · rw [hl.blk id hid] at hb
      refine hl.sees id (hr.sees id c x hb ?_)
      rcases hc with rfl | ⟨h1, h2⟩
      · exact .inl rfl
      · refine .inr ⟨h1, ?_⟩
        rw [hput] at h2
        refine (holds_put (fun sj y hce => ?_)).1 h2
        subst hce
        obtain ⟨j, hj, hdj⟩ := hr.bconds id sj y x hb h1
        exact hlt sj j hj hdj
  case bconds =>
    intro id sj x y hb hle
    by_cases hid : id = sg.base + i
    · subst hid
      have h0 : blk st.heap (sg.base + i) = none := by
        cases hx : blk st.heap (sg.base + i) with
        | none => rfl
        | some y => have := hr.bound (sg.base + i) (by rw [hx]; simp); omega
      obtain ⟨j, hj, hdj⟩ := (hl.new _ _ hb h0).2 sj x rfl
      exact ⟨j, by omega, hdj⟩
    · rw [hl.blk id hid] at hb
      obtain ⟨j, hj, hdj⟩ := hr.bconds id sj x y hb hle
      exact ⟨j, by omega, hdj⟩
  case bound =>
    intro id hb
    by_cases hid : id = sg.base + i
    · omega
    · rw [hl.blk id hid] at hb
      have := hr.bound id hb
      omega
  case fresh => exact fun id hid => hl.dom id (hr.fresh id (by omega)) (by omega)
  case size => rw [hput, size_put]; exact hr.size
  case defers => rw [hput, put_defers]; exact hr.defers

theorem Rel.need {base i : Nat} (hr : Rel gw fp W0 ops base i st ν a w) {sg : Sight} (hsg : sg.base = base) (hlo : sg.lo = fp.lo) (hbl : fp.lo ≤ base) {o : Oper} : Need gw fp W0 ops sg i st o ν a w where
  base0 := hr.base0
  slots := fun s _ => hr.slots s
  vis := by
    intro G hG j hj
    unfold vis at hj
    simp only [Bool.and_eq_true] at hj
    cases hb : blk st.heap j with
    | none => rw [hb] at hj; simp [condOK] at hj
    | some y =>
      obtain ⟨c, x⟩ := y
      rw [hb] at hj
      refine hr.sees j c x hb ?_
      cases c with
      | none => exact .inl rfl
      | some c =>
        obtain ⟨ty, n⟩ := x
        simp only [condOK, Bool.and_eq_true] at hj
        rw [hsg] at hj
        exact .inr ⟨Nat.le_of_ble_eq_true hj.2.1, by rw [← condEq_some hj.2.2]; exact hG⟩
  fresh := by rw [hsg]; exact hr.fresh _ (Nat.le_refl _)
  lo := hlo
  own := by rw [hsg]; omega
  size := hr.size

theorem stepOp_ok {noWr : Lim} {sg : Sight} (he : stepOp cx call fp sg i noWr ops st o = some st') (hok : okB st'.ok = true) : okB st.ok = true := by
  have run : ∀ {G gb}, runOp cx call fp sg i noWr G gb st o = some st' → okB st.ok = true := by
    intro G gb he
    unfold runOp at he
    split at he
    · cases he
    · split at he
      · cases he
      · simp at he
        subst he
        rw [put_ok] at hok
        exact (andOk_true hok).1
  have put : ∀ {e}, st.put fp.km o.dst e = st' → okB st.ok = true := by
    intro e he
    subst he
    rw [put_ok] at hok
    exact hok
  unfold stepOp at he
  (repeat' split at he) <;> first | exact run he | (simp at he; exact put he) | cases he

theorem evalOps_ok {base : Nat} {qf : Nat → Nat → Bool} {m : Nat → Lim} : ∀ {l : List Oper} {i : Nat} {st st' : St}, evalOps cx call fp base qf m ops i l st = some st' → okB st'.ok = true → okB st.ok = true
  | [], _, _, _, he, hok => by simp [evalOps] at he; subst he; exact hok
  | o :: l, _, _, _, he, hok => by
    simp only [evalOps] at he
    split at he
    · cases he
    · rename_i st1 h1
      exact stepOp_ok h1 (evalOps_ok he hok)

theorem wpList_step' {P : Program} {ops : Array Oper} {rest : List Oper} (h : if Region.wanted o (yielded ops a.tmps) then o.wp P a w (wpList P ops Q rest) Q else wpList P ops Q rest (a.put o.dst undef) w) :
    wpList P ops Q (o :: rest) a w := by
  unfold wpList
  split
  · rename_i hw; rw [if_pos hw] at h; exact .inl h
  · rename_i hw; rw [if_neg hw] at h; exact h

theorem evalOps_seq (hE : EqOK cx) (hC : CallOK cx.P gw call) {base : Nat} (hbl : fp.lo ≤ base) {qf : Nat → Nat → Bool} {m : Nat → Lim} (hd : chkDst ops = true) :
    ∀ (l : List Oper) (i : Nat) (st : St) (ν : Nu) (a : Act) (w : World), (∀ j, l[j]? = ops[i + j]?) → evalOps cx call fp base qf m ops i l st = some st' → okB st'.ok = true →
      Rel gw fp W0 ops base i st ν a w → (∀ ν' a' w', Rel gw fp W0 ops base (i + l.length) st' ν' a' w' → ν.le ν' → Q .normal a' w') → wpList cx.P ops.toArray Q l a w
  | [], i, st, ν, a, w, _, he, hok, hr, hK => by
    simp [evalOps] at he
    subst he
    exact hK ν a w hr (Nu.le_refl _)
  | o :: l, i, st, ν, a, w, hl, he, hok, hr, hK => by
    simp only [evalOps] at he
    split at he
    · cases he
    · rename_i st1 h1
      have ho : ops[i]? = some o := by simpa using (hl 0).symm
      have hl' : ∀ j, l[j]? = ops[i + 1 + j]? := fun j => by have := hl (j + 1); simpa [Nat.add_assoc, Nat.add_comm 1 j] using this
      refine wpList_step' ?_
      refine stepOp_sound hE hC h1 (evalOps_ok he hok) (hr.need rfl rfl hbl) hd ho ?_
      intro ν' a' w' hleft
      exact evalOps_seq hE hC hbl hd l (i + 1) st1 ν' a' w' hl' he hok (hr.left rfl hd ho hleft)
        (fun ν'' a'' w'' hr'' hle => hK ν'' a'' w'' (by simpa [Nat.add_assoc, Nat.add_comm 1] using hr'') (Nu.le_trans hleft.le hle))
end
end Go.VE
