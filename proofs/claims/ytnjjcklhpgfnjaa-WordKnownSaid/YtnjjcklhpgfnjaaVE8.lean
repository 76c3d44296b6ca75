/- VE8: a region that draws its order. -/
import Derived.Test.YtnjjcklhpgfnjaaVE7
namespace Go.VE
open Go
open Go.RowKit (Below)

theorem allBelow_spec {n : Nat} {p : Nat → Bool} (h : allBelow n p = true) {i : Nat} (hi : i < n) : p i = true := by
  unfold allBelow at h
  rw [List.all_eq_true] at h
  exact h i (List.mem_range.2 hi)

section
variable {cx : Cx} {gw : GW} {call : CallE} {fp : Fp} {W0 : World} {ops : List Oper} {D : Array Nat} {st st' : St} {Q : Exit → Act → World → Prop}

theorem edge_lt (h : chkEdges ops D = true) {i : Nat} {o : Oper} (ho : ops[i]? = some o) {e : Edge} (he : e ∈ o.after) (hb : Region.binds .any e = true) : e.on < i := by
  have hi : i < ops.length := (List.getElem?_eq_some_iff.1 ho).1
  have h1 := allBelow_spec h hi
  simp only [ho, Bool.and_eq_true] at h1
  have h2 := List.all_eq_true.1 h1.1 e (by simpa using he)
  rw [hb] at h2
  exact blt_lt (by simpa using h2)

theorem D_edge (h : chkEdges ops D = true) {i k : Nat} {o : Oper} (ho : ops[i]? = some o) (hk : k < ops.length) (hd : bitD D i k = true) :
    ∃ e ∈ o.after, Region.binds .any e = true ∧ (e.on = k ∨ bitD D e.on k = true) := by
  have hi : i < ops.length := (List.getElem?_eq_some_iff.1 ho).1
  have h1 := allBelow_spec h hi
  simp only [ho, Bool.and_eq_true] at h1
  have h2 := allBelow_spec h1.2 hk
  rw [hd] at h2
  simp only [Bool.not_true, Bool.false_or, List.any_eq_true, Bool.and_eq_true, Bool.or_eq_true] at h2
  obtain ⟨e, he, hb, h3⟩ := h2
  exact ⟨e, by simpa using he, hb, h3.imp beq_true id⟩

theorem D_lt (h : chkEdges ops D = true) : ∀ (i : Nat) {k : Nat}, i < ops.length → k < ops.length → bitD D i k = true → k < i := by
  intro i
  induction i using Nat.strongRecOn with
  | _ i ih =>
    intro k hi hk hd
    have ho : ops[i]? = some ops[i] := List.getElem?_eq_getElem hi
    obtain ⟨e, he, hb, h1⟩ := D_edge h ho hk hd
    have hlt := edge_lt h ho he hb
    rcases h1 with rfl | h1
    · exact hlt
    · exact Nat.lt_trans (ih e.on hlt (by omega) hk h1) hlt

theorem mem_looks_op {i s : Nat} {o : Oper} (ho : ops[i]? = some o) (h : .tmp s ∈ o.op.operands.toList) : s ∈ looks ops i := by
  unfold looks
  simp only [ho]
  exact List.mem_append_left _ (List.mem_filterMap.2 ⟨.tmp s, h, rfl⟩)

theorem mem_looks_guard {i s : Nat} {o : Oper} (ho : ops[i]? = some o) {j : Nat} {want : Bool} (hg : o.guard = some (j, want)) (hd : dstOf ops j = some s) : s ∈ looks ops i := by
  unfold looks
  simp only [ho, hg, hd]
  simp

theorem chkTmp_spec (h : chkTmp ops D = true) {i j x : Nat} (hi : i < ops.length) (hj : dstOf ops j = some x) (hx : x ∈ looks ops i) (hne : i ≠ j) :
    (j < i → bitD D i j = true) ∧ (i < j → bitD D j i = true) := by
  have h1 := allBelow_spec h hi
  simp only at h1
  have h2 := allBelow_spec h1 (dstOf_lt hj)
  rw [hj] at h2
  simp only [Bool.or_eq_true] at h2
  rcases h2 with (h2 | h2) | h2
  · exact absurd (beq_true h2) hne
  · simp only [memB, Bool.not_eq_true', List.any_eq_false] at h2
    have := h2 x hx
    simp at this
  · split at h2
    · rename_i hb; have := blt_lt hb; exact ⟨fun _ => h2, fun h => by omega⟩
    · rename_i hb
      have : ¬ j < i := by
        intro hl
        have h3 : Nat.blt j i = true := by simp [Nat.blt]; omega
        rw [h3] at hb; cases hb
      exact ⟨fun h => by omega, fun _ => h2⟩

theorem full_spec {n m : Nat} (h : chkFull n m D = true) {i k : Nat} (hi : i < n) (hm : m ≤ i) (hk : k < i) : bitD D i k = true := by
  have h1 := allBelow_spec h hi
  simp only [Bool.or_eq_true] at h1
  rcases h1 with h1 | h1
  · have := blt_lt h1; omega
  · exact allBelow_spec h1 hk

/-! ### the states, one behind the other -/

theorem evalOps_states {base : Nat} {qf : Nat → Nat → Bool} {lf : Nat → Lim} : ∀ (l : List Oper) (i : Nat) (st st' : St), evalOps cx call fp base qf lf ops i l st = some st' →
    ∃ σ : Nat → St, σ i = st ∧ σ (i + l.length) = st' ∧ ∀ j o, l[j]? = some o → stepOp cx call fp ⟨base, qf (i + j), fp.lo⟩ (i + j) (lf (i + j)) ops (σ (i + j)) o = some (σ (i + j + 1))
  | [], i, st, st', h => by
    simp [evalOps] at h
    subst h
    exact ⟨fun _ => st, rfl, rfl, fun j o hj => by simp at hj⟩
  | o :: l, i, st, st', h => by
    simp only [evalOps] at h
    split at h
    · cases h
    · rename_i st1 h1
      obtain ⟨σ, e1, e2, e3⟩ := evalOps_states l (i + 1) st1 st' h
      refine ⟨fun k => if k = i then st else σ k, by simp, ?_, ?_⟩
      · simp only [List.length_cons]
        rw [if_neg (by omega), show i + (l.length + 1) = i + 1 + l.length by omega, e2]
      · intro j o' hj
        cases j with
        | zero =>
          simp at hj
          subst hj
          simp only [Nat.add_zero, if_true]
          rw [if_neg (by omega), e1]
          exact h1
        | succ j =>
          simp at hj
          have := e3 j o' hj
          rw [show i + (j + 1) = i + 1 + j by omega]
          simp only
          rw [if_neg (by omega), if_neg (by omega)]
          exact this

theorem readCell_pushW_ne {j off : Nat} : ∀ (l : List (Nat × Nat × A)) {h : List HE}, (∀ x, x ∈ l → x.1 ≠ j) → readCell (pushW h l) j off = readCell h j off
  | [], _, _ => rfl
  | (id, o, x) :: r, h, hn => by
    rw [pushW, readCell_pushW_ne r (fun y hy => hn y (by simp [hy]))]
    have : id ≠ j := hn (id, o, x) (by simp)
    rw [readCell]
    have hb : Nat.beq id j = false := by cases hb : Nat.beq id j; rfl; exact absurd (Nat.eq_of_beq_eq_true hb) this
    rw [hb]
    rfl

theorem stepOp_static {sg : Sight} {i : Nat} {noWr : Lim} {o : Oper} (he : stepOp cx call fp sg i noWr ops st o = some st') :
    (∀ s, o.dst ≠ some s → st'.get fp.km s = st.get fp.km s) ∧
    (∀ j, limOK noWr j = true → j ≠ sg.base + i → ∀ off, readCell st'.heap j off = readCell st.heap j off) ∧
    (∀ j, j ≠ sg.base + i → blk st'.heap j = blk st.heap j) ∧
    (∀ d sj x, o.dst = some d → (st'.get fp.km d).c = some (sj, x) → ∃ j, j < i ∧ dstOf ops j = some sj ∧ ∃ want, o.guard = some (j, want)) ∧
    (∀ sj x y, blk st.heap (sg.base + i) = none → blk st'.heap (sg.base + i) = some (some (sj, x), y) → ∃ j, j < i ∧ dstOf ops j = some sj ∧ ∃ want, o.guard = some (j, want)) := by
  have run : ∀ {G gb}, (∀ sj x, G = some (sj, x) → ∃ j, j < i ∧ dstOf ops j = some sj ∧ ∃ want, o.guard = some (j, want)) → runOp cx call fp sg i noWr G gb st o = some st' →
      (∀ s, o.dst ≠ some s → st'.get fp.km s = st.get fp.km s) ∧ (∀ j, limOK noWr j = true → j ≠ sg.base + i → ∀ off, readCell st'.heap j off = readCell st.heap j off) ∧
      (∀ j, j ≠ sg.base + i → blk st'.heap j = blk st.heap j) ∧
      (∀ d sj x, o.dst = some d → (st'.get fp.km d).c = some (sj, x) → ∃ j, j < i ∧ dstOf ops j = some sj ∧ ∃ want, o.guard = some (j, want)) ∧
      (∀ sj x y, blk st.heap (sg.base + i) = none → blk st'.heap (sg.base + i) = some (some (sj, x), y) → ∃ j, j < i ∧ dstOf ops j = some sj ∧ ∃ want, o.guard = some (j, want)) := by
    intro G gb hGj he
    unfold runOp at he
    split at he
    · cases he
    · rename_i r hr
      split at he
      · cases he
      · rename_i hwr
        simp at he
        subst he
        refine ⟨fun s hs => ?_, fun j hl hj off => ?_, fun j hj => ?_, fun d sj x hds hc => ?_, fun sj x y h0 hb => ?_⟩
        · rw [get_put_ne hs]; exact get_of_eq rfl rfl s
        · have hw := readCell_pushW_ne (h := st.heap) (off := off) r.wr (noWrOK_limOK hwr hl)
          rw [put_heap]
          unfold OpR.heap
          cases r.nb with
          | none => exact hw
          | some y => simp only; rw [readCell_new, if_neg (Ne.symm hj)]; exact hw
        · rw [put_heap]; exact blk_heap_ne hj
        · rw [hds, get_put_eq] at hc
          exact hGj sj x (entPut_c hc)
        · rw [put_heap] at hb
          cases hnb : r.nb with
          | none => simp only [OpR.heap, hnb] at hb; rw [blk_pushW, h0] at hb; cases hb
          | some z =>
            obtain ⟨ty, cs⟩ := z
            simp only [OpR.heap, hnb] at hb
            rw [blk_new, if_pos rfl] at hb
            simp at hb
            exact hGj sj x hb.1
  have put : st.put fp.km o.dst ⟨none, .a .undef⟩ = st' →
      (∀ s, o.dst ≠ some s → st'.get fp.km s = st.get fp.km s) ∧ (∀ j, limOK noWr j = true → j ≠ sg.base + i → ∀ off, readCell st'.heap j off = readCell st.heap j off) ∧
      (∀ j, j ≠ sg.base + i → blk st'.heap j = blk st.heap j) ∧
      (∀ d sj x, o.dst = some d → (st'.get fp.km d).c = some (sj, x) → ∃ j, j < i ∧ dstOf ops j = some sj ∧ ∃ want, o.guard = some (j, want)) ∧
      (∀ sj x y, blk st.heap (sg.base + i) = none → blk st'.heap (sg.base + i) = some (some (sj, x), y) → ∃ j, j < i ∧ dstOf ops j = some sj ∧ ∃ want, o.guard = some (j, want)) := by
    intro he
    subst he
    refine ⟨fun s hs => get_put_ne hs, fun _ _ _ _ => by rw [put_heap], fun j _ => by rw [put_heap], fun d sj x hds hc => ?_, fun sj x y h0 hb => ?_⟩
    · rw [hds, get_put_eq] at hc
      exact absurd (entPut_c hc) (by simp)
    · rw [put_heap, h0] at hb; cases hb
  unfold stepOp at he
  split at he
  · cases he
  · split at he
    · exact run (fun _ _ h => by cases h) he
    · rename_i j want hg
      split at he
      · rename_i sj hji hsj
        have hji := blt_lt hji
        have hG : ∀ s x, (some (sj, want) : Cond) = some (s, x) → ∃ j, j < i ∧ dstOf ops j = some s ∧ ∃ want, o.guard = some (j, want) := by
          intro s x h; simp at h; exact ⟨j, hji, by rw [hsj, h.1], want, hg⟩
        (repeat' split at he) <;> first | exact run hG he | exact run (fun _ _ h => by cases h) he | (simp at he; exact put he) | cases he
      · cases he

theorem soleT_spec {m : Nat} {T : Array (Option Nat)} {i k : Nat} (h : soleT m T i k = true) {j : Nat} (hj : j < m) (ht : tg T j = some k) : j = i := by
  have := allBelow_spec h hj
  rw [ht] at this
  simp [optNe] at this
  exact this

theorem chkT_spec {m : Nat} {T : Array (Option Nat)} {D : Array Nat} (h : chkT m T D = true) {i k : Nat} (hi : i < m) (ht : tg T i = some k) : k < i ∧ bitD D i k = true ∧ soleT m T i k = true := by
  have := allBelow_spec h hi
  rw [ht] at this
  simp only [Bool.and_eq_true] at this
  exact ⟨blt_lt this.1.1, this.1.2, this.2⟩

/-- A region's states, and what must be so of its edges. -/
structure Reg (cx : Cx) (call : CallE) (fp : Fp) (ops : List Oper) (D : Array Nat) (T : Array (Option Nat)) (base m : Nat) (σ : Nat → St) : Prop where
  step : ∀ j o, ops[j]? = some o → stepOp cx call fp ⟨base, qDraw m base D T j, fp.lo⟩ j (limD m base T j) ops (σ j) o = some (σ (j + 1))
  edges : chkEdges ops D = true
  tmp : chkTmp ops D = true
  full : chkFull ops.length m D = true
  dst : chkDst ops = true
  le : m ≤ ops.length
  tgt : chkT m T D = true

variable {base m : Nat} {σ : Nat → St} {T : Array (Option Nat)}

theorem Reg.get (R : Reg cx call fp ops D T base m σ) {i : Nat} : ∀ {k : Nat}, i ≤ k → k ≤ ops.length → ∀ {s}, (∀ j, i ≤ j → j < k → dstOf ops j ≠ some s) → (σ k).get fp.km s = (σ i).get fp.km s
  | 0, hik, _, s, _ => by rw [show i = 0 by omega]
  | k + 1, hik, hk, s, hn => by
    by_cases e : i = k + 1
    · rw [e]
    · have ho : ops[k]? = some ops[k] := List.getElem?_eq_getElem (by omega)
      have h1 := (stepOp_static (R.step k _ ho)).1 s (by
        have := hn k (by omega) (by omega)
        unfold dstOf at this
        rw [ho] at this
        exact this)
      rw [h1]
      exact R.get (by omega) (by omega) (fun j h1 h2 => hn j h1 (by omega))

theorem Reg.blk (R : Reg cx call fp ops D T base m σ) {i : Nat} : ∀ {k : Nat}, i ≤ k → k ≤ ops.length → ∀ {id}, (∀ j, i ≤ j → j < k → id ≠ base + j) → VE.blk (σ k).heap id = VE.blk (σ i).heap id
  | 0, hik, _, _, _ => by rw [show i = 0 by omega]
  | k + 1, hik, hk, id, hn => by
    by_cases e : i = k + 1
    · rw [e]
    · have ho : ops[k]? = some ops[k] := List.getElem?_eq_getElem (by omega)
      have h1 := (stepOp_static (R.step k _ ho)).2.2.1 id (hn k (by omega) (by omega))
      rw [h1]
      exact R.blk (by omega) (by omega) (fun j h1 h2 => hn j h1 (by omega))

theorem limD_ok {k id : Nat} (hk : k < m) (hw : ∀ t, tg T k = some t → id ≠ base + t) : limOK (limD m base T k) id = true := by
  unfold limD
  rw [show Nat.blt k m = true by simp [Nat.blt]; omega]
  simp only
  cases ht : tg T k with
  | none => rfl
  | some t =>
    have := hw t ht
    simp only [limOK]
    cases hb : Nat.beq id (base + t) with
    | true => exact absurd (Nat.eq_of_beq_eq_true hb) this
    | false => rfl

theorem Reg.cell (R : Reg cx call fp ops D T base m σ) {i : Nat} : ∀ {k : Nat}, i ≤ k → k ≤ m → ∀ {id off}, (∀ j, i ≤ j → j < k → id ≠ base + j) → (∀ j, i ≤ j → j < k → ∀ t, tg T j = some t → id ≠ base + t) → readCell (σ k).heap id off = readCell (σ i).heap id off
  | 0, hik, _, _, _, _, _ => by rw [show i = 0 by omega]
  | k + 1, hik, hk, id, off, hn, hw => by
    by_cases e : i = k + 1
    · rw [e]
    · have hkl : k < ops.length := by have := R.le; omega
      have ho : ops[k]? = some ops[k] := List.getElem?_eq_getElem hkl
      have h2 := (stepOp_static (R.step k _ ho)).2.1 id (limD_ok (by omega) (hw k (by omega) (by omega))) (hn k (by omega) (by omega)) off
      rw [h2]
      exact R.cell (by omega) (by omega) (fun j h1 h2 => hn j h1 (by omega)) (fun j h1 h2 => hw j h1 (by omega))

theorem sees_congr {ν : Nu} {w : World} {h h' : List HE} {id : Nat} (hb : VE.blk h' id = VE.blk h id) (hc : ∀ off, readCell h' id off = readCell h id off) (hs : SeesAt ν h w id) : SeesAt ν h' w id := by
  obtain ⟨c, ty, n, b, vs, h1, h2, h3, h4, h5⟩ := hs
  exact ⟨c, ty, n, b, vs, by rw [hb]; exact h1, h2, h3, h4, fun o ho => by rw [hc]; exact h5 o ho⟩

theorem Reg.sees (R : Reg cx call fp ops D T base m σ) {ν : Nu} {w : World} {i k id : Nat} (hik : i ≤ k) (hk : k ≤ m) (hn : ∀ j, i ≤ j → j < k → id ≠ base + j) (hw : ∀ j, i ≤ j → j < k → ∀ t, tg T j = some t → id ≠ base + t) :
    SeesAt ν (σ k).heap w id ↔ SeesAt ν (σ i).heap w id :=
  ⟨sees_congr (R.blk hik (Nat.le_trans hk R.le) hn).symm (fun _ => (R.cell hik hk hn hw).symm), sees_congr (R.blk hik (Nat.le_trans hk R.le) hn) (fun _ => R.cell hik hk hn hw)⟩

/-- Some of the operations ahead of `m` have come up, whichever. -/
structure Inv (gw : GW) (fp : Fp) (W0 : World) (ops : List Oper) (D : Array Nat) (T : Array (Option Nat)) (base m : Nat) (σ : Nat → St) (a0 : Act) (ν0 : Nu) (listed : Array Bool) (ν : Nu) (a : Act) (w : World) : Prop where
  base0 : Base gw fp.lo W0 ν w
  le : ν0.le ν
  closed : ∀ i, listed.getD i false = true → ∀ k, k < ops.length → bitD D i k = true → listed.getD k false = true
  inA : ∀ i, listed.getD i false = true → i < m
  lsize : listed.size = ops.length
  keep : ∀ s, (∀ j, listed.getD j false = true → dstOf ops j ≠ some s) → a.tmps.getD s undef = a0.tmps.getD s undef
  ent : ∀ j d, listed.getD j false = true → dstOf ops j = some d → EntOK ν a.tmps d ((σ m).get fp.km d)
  see0 : ∀ id x, id < base → VE.blk (σ 0).heap id = some (none, x) → SeesAt ν (σ 0).heap w id
  seej : ∀ j, listed.getD j false = true → ∀ c x, VE.blk (σ m).heap (base + j) = some (c, x) → holds a.tmps c → ∀ q, j < q → q ≤ m →
    (∀ i, i < m → tg T i = some j → (listed.getD i false = true ∧ i < q) ∨ (listed.getD i false = false ∧ q ≤ i)) → SeesAt ν (σ q).heap w (base + j)
  nun : ∀ j, listed.getD j false = false → ν (base + j) = none
  size : a.tmps.size = fp.nt
  defers : a.defers = []


variable {a0 : Act} {ν0 ν : Nu} {listed : Array Bool} {a : Act} {w w0 : World}

theorem listed_lt {listed : Array Bool} {j : Nat} (h : listed.getD j false = true) : j < listed.size := by
  by_cases hl : j < listed.size
  · exact hl
  · simp [Array.getD_eq_getD_getElem?, hl] at h

theorem getD_true_false {listed : Array Bool} {j : Nat} (h : listed.getD j true = false) : listed.getD j false = false ∧ j < listed.size := by
  by_cases hl : j < listed.size
  · simp [Array.getD_eq_getD_getElem?, hl] at h ⊢; exact h
  · simp [Array.getD_eq_getD_getElem?, hl] at h

theorem bool_not_true {b : Bool} (h : ¬ b = true) : b = false := by cases b <;> simp_all

theorem getD_set {listed : Array Bool} {i j : Nat} (hi : i < listed.size) : (listed.setIfInBounds i true).getD j false = if j = i then true else listed.getD j false := by
  by_cases e : j = i
  · subst e; simp [Array.getD_eq_getD_getElem?, hi]
  · rw [if_neg e]; simp [Array.getD_eq_getD_getElem?, Array.getElem?_setIfInBounds_ne (Ne.symm e)]

/-- What an operation that may come up waits for has come up. -/
theorem Inv.deps (R : Reg cx call fp ops D T base m σ) (v : Inv gw fp W0 ops D T base m σ a0 ν0 listed ν a w) {i : Nat} (hr : i ∈ Region.ready .any ops.toArray listed) {k : Nat} (hk : k < ops.length)
    (hd : bitD D i k = true) : listed.getD k false = true := by
  obtain ⟨_, o, ho, hall⟩ := mem_ready.1 hr
  have ho : ops[i]? = some o := by simpa using ho
  obtain ⟨e, he, hb, h1⟩ := D_edge R.edges ho hk hd
  have hl := hall e he hb
  rcases h1 with rfl | h1
  · exact hl
  · exact v.closed e.on hl k hk h1

theorem Inv.step (hE : EqOK cx) (hC : CallOK cx.P gw call) (R : Reg cx call fp ops D T base m σ) (hbl : fp.lo ≤ base) (hokj : ∀ j, j ≤ m → okB (σ j).ok = true)
    (h0 : Rel gw fp W0 ops base 0 (σ 0) ν0 a0 w0) (v : Inv gw fp W0 ops D T base m σ a0 ν0 listed ν a w)
    {i : Nat} (hr : i ∈ Region.ready .any ops.toArray listed) (him : i < m) {K : Act → World → Prop}
    (hK : ∀ ν' a' w', Inv gw fp W0 ops D T base m σ a0 ν0 (listed.setIfInBounds i true) ν' a' w' → K a' w') : wpOp cx.P ops.toArray Q i K a w := by
  have hil : i < ops.length := Nat.lt_of_lt_of_le him R.le
  have ho : ops[i]? = some ops[i] := List.getElem?_eq_getElem hil
  generalize ops[i] = o at ho
  have hun := getD_true_false (mem_ready.1 hr).1
  have hdeps := fun {k} hk hd => v.deps R hr (k := k) hk hd
  have hst := R.step i o ho
  have hdi : dstOf ops i = o.dst := by unfold dstOf; rw [ho]
  have hlA : ∀ j, listed.getD j false = true → j ≠ i := fun j hj e => by rw [e] at hj; rw [hun.1] at hj; cases hj
  -- a slot that it looks at
  have hslot : ∀ s, s ∈ looks ops i → EntOK ν a.tmps s ((σ i).get fp.km s) := by
    intro s hs
    by_cases hex : ∃ j, j < i ∧ dstOf ops j = some s
    · obtain ⟨j, hj, hdj⟩ := hex
      have hD := (chkTmp_spec R.tmp hil hdj hs (by omega)).1 hj
      have hl := hdeps (by omega) hD
      have e : (σ m).get fp.km s = (σ i).get fp.km s := R.get (Nat.le_of_lt him) R.le (fun k h1 h2 hdk => by have := chkDst_inj R.dst hdk hdj; omega)
      rw [← e]
      exact v.ent j s hl hdj
    · have hno : ∀ j, j < i → dstOf ops j ≠ some s := fun j hj hdj => hex ⟨j, hj, hdj⟩
      have e : (σ i).get fp.km s = (σ 0).get fp.km s := R.get (Nat.zero_le _) (Nat.le_of_lt hil) (fun j _ h2 => hno j h2)
      have hk : a.tmps.getD s undef = a0.tmps.getD s undef := v.keep s (fun j hj hdj => by
        rcases Nat.lt_trichotomy j i with h | h | h
        · exact hno j h hdj
        · exact hlA j hj h
        · have hD := (chkTmp_spec R.tmp hil hdj hs (by omega)).2 h
          have := v.closed j hj i hil hD
          rw [hun.1] at this; cases this)
      have hc : ((σ 0).get fp.km s).c = none := by
        cases hc : ((σ 0).get fp.km s).c with
        | none => rfl
        | some p => obtain ⟨sj, x⟩ := p; obtain ⟨j, hj, _⟩ := h0.conds s sj x hc; omega
      have hs0 := (h0.slots s).1 (by rw [hc]; trivial)
      rw [e]
      refine ⟨fun _ => ?_, fun hno => absurd (by rw [hc]; trivial) hno⟩
      rw [hk]
      exact V.rel_mono v.le hs0
  have hbound : ∀ id, VE.blk (σ i).heap id ≠ none → id < base + i := by
    intro id hb
    refine Classical.byContradiction fun hge => hb ?_
    rw [R.blk (Nat.zero_le i) (Nat.le_of_lt hil) (fun j _ h2 => by omega)]
    refine Classical.byContradiction fun hb0 => ?_
    have := h0.bound id hb0
    omega
  have hneed : Need gw fp W0 ops ⟨base, qDraw m base D T i, fp.lo⟩ i (σ i) o ν a w := by
    refine ⟨v.base0, ?_, ?_, v.nun i hun.1, rfl, by simp only; omega, v.size⟩
    · intro s hs
      refine hslot s ?_
      rcases hs with hs | ⟨j, want, hg, hdj⟩
      · exact mem_looks_op ho hs
      · exact mem_looks_guard ho hg hdj
    · intro G hG id hv
      unfold vis at hv
      simp only [Bool.and_eq_true] at hv
      obtain ⟨hq, hc⟩ := hv
      cases hb : VE.blk (σ i).heap id with
      | none => rw [hb] at hc; simp [condOK] at hc
      | some y =>
        obtain ⟨c, x⟩ := y
        rw [hb] at hc
        by_cases hid : id < base
        · have hcn : c = none := by
            cases c with
            | none => rfl
            | some c =>
              obtain ⟨ty, n⟩ := x
              simp only [condOK, Bool.and_eq_true] at hc
              have := Nat.le_of_ble_eq_true hc.1
              omega
          subst hcn
          have e := R.blk (Nat.zero_le i) (Nat.le_of_lt hil) (id := id) (fun j _ _ => by omega)
          rw [e] at hb
          exact (R.sees (Nat.zero_le i) (Nat.le_of_lt him) (fun j _ _ => by omega) (fun j _ _ t _ => by omega)).2 (v.see0 id x hid hb)
        · have hlt := hbound id (by rw [hb]; simp)
          have hk : id = base + (id - base) := by omega
          generalize id - base = k at hk
          subst hk
          have hD : bitD D i k = true ∧ soleT m T i k = true := by
            unfold qDraw at hq
            rw [show Nat.blt i m = true by simp [Nat.blt]; omega] at hq
            simp only at hq
            rw [show Nat.blt (base + k) base = false by
              cases hx : Nat.blt (base + k) base with
              | false => rfl
              | true => have := blt_lt hx; omega] at hq
            simpa using hq
          obtain ⟨hD, hsole⟩ := hD
          have hl := hdeps (by omega) hD
          have e := R.blk (Nat.le_of_lt him) R.le (id := base + k) (fun j h1 _ => by omega)
          have hh : holds a.tmps c := by
            cases c with
            | none => trivial
            | some c =>
              obtain ⟨ty, n⟩ := x
              simp only [condOK, Bool.and_eq_true] at hc
              rw [← condEq_some hc.2]; exact hG
          refine v.seej k hl c x (by rw [e]; exact hb) hh i (by omega) (Nat.le_of_lt him) (fun i' hi' ht => .inr ?_)
          rw [soleT_spec hsole hi' ht]
          exact ⟨hun.1, Nat.le_refl _⟩
  have hmain := stepOp_sound (Q := Q) (K := K) hE hC hst (hokj (i + 1) (by omega)) hneed R.dst ho ?_
  · unfold wpOp
    rw [show ops.toArray[i]? = some o by simpa using ho]
    simp only
    split
    · rename_i hw; rw [if_pos hw] at hmain; exact .inl hmain
    · rename_i hw; rw [if_neg hw] at hmain; exact hmain
  · intro ν' a' w' L
    refine hK ν' a' w' ?_
    obtain ⟨val, hput⟩ := L.put
    have hset := fun j => getD_set (listed := listed) (i := i) (j := j) hun.2
    have hne : ∀ j d, listed.getD j false = true → dstOf ops j = some d → o.dst ≠ some d := by
      intro j d hj hdj hds
      exact hlA j hj (chkDst_inj R.dst hdj (hdi.trans hds))
    -- a condition's slot, of an operation that has come up
    have hcs : ∀ j, listed.getD j false = true → ∀ k sj want oj, k < j → dstOf ops k = some sj → ops[j]? = some oj → oj.guard = some (k, want) → o.dst ≠ some sj := by
      intro j hj k sj want oj hk hdk hoj hg
      have hjl := listed_lt hj
      rw [v.lsize] at hjl
      have hD := (chkTmp_spec R.tmp hjl hdk (mem_looks_guard hoj hg hdk) (by omega)).1 hk
      exact hne k sj (v.closed j hj k (by omega) hD) hdk
    constructor
    case base0 => exact L.base0
    case le => exact Nu.le_trans v.le L.le
    case closed =>
      intro j hj k hk hD
      rw [hset] at hj ⊢
      by_cases e : k = i
      · rw [if_pos e]
      · rw [if_neg e]
        by_cases e' : j = i
        · subst e'; exact hdeps hk hD
        · rw [if_neg e'] at hj; exact v.closed j hj k hk hD
    case inA =>
      intro j hj
      rw [hset] at hj
      by_cases e : j = i
      · omega
      · rw [if_neg e] at hj; exact v.inA j hj
    case lsize => simp [v.lsize]
    case keep =>
      intro s hs
      have h1 : o.dst ≠ some s := fun hds => hs i (by rw [hset, if_pos rfl]) (hdi.trans hds)
      rw [hput, getD_put_ne h1]
      exact v.keep s (fun j hj => hs j (by rw [hset]; split <;> first | rfl | exact hj))
    case ent =>
      intro j d hj hdj
      rw [hset] at hj
      by_cases e : j = i
      · subst e
        have e1 : (σ m).get fp.km d = (σ (j + 1)).get fp.km d := R.get (by omega) R.le (fun k h1 h2 hdk => by have := chkDst_inj R.dst hdk hdj; omega)
        rw [e1]
        exact L.own d (hdi.symm.trans hdj)
      · rw [if_neg e] at hj
        have h1 := hne j d hj hdj
        obtain ⟨g1, g2⟩ := v.ent j d hj hdj
        have hjl := listed_lt hj
        rw [v.lsize] at hjl
        have hoj : ops[j]? = some ops[j] := List.getElem?_eq_getElem hjl
        have hjm := v.inA j hj
        have e1 : (σ m).get fp.km d = (σ (j + 1)).get fp.km d := R.get (by omega) R.le (fun k h1 h2 hdk => by have := chkDst_inj R.dst hdk hdj; omega)
        have hh : holds (a.put o.dst val).tmps ((σ m).get fp.km d).c ↔ holds a.tmps ((σ m).get fp.km d).c := holds_put (fun sj x hc => by
          rw [e1] at hc
          have hds : ops[j].dst = some d := by unfold dstOf at hdj; rw [hoj] at hdj; exact hdj
          obtain ⟨k, hk, hdk, want, hg⟩ := (stepOp_static (R.step j _ hoj)).2.2.2.1 d sj x hds hc
          exact hcs j hj k sj want _ hk hdk hoj hg)
        unfold EntOK
        rw [hput, hh, getD_put_ne h1]
        exact ⟨fun h => V.rel_mono L.le (g1 h), g2⟩
    case see0 =>
      intro id x hid hb
      have h1 := (R.sees (Nat.zero_le i) (Nat.le_of_lt him) (id := id) (fun j _ _ => by omega) (fun j _ _ t _ => by omega)).2 (v.see0 id x hid hb)
      exact (R.sees (Nat.zero_le (i + 1)) (by omega) (id := id) (fun j _ _ => by omega) (fun j _ _ t _ => by omega)).1 (L.sees id h1)
    case seej =>
      intro j hj c x hb hh q hjq hqm hcons
      rw [hset] at hj
      by_cases e : j = i
      · subst e
        have e1 := R.blk (i := j + 1) (by omega) R.le (id := base + j) (fun k h1 _ => by omega)
        rw [e1] at hb
        have hb0 : VE.blk (σ j).heap (base + j) = none := by
          cases hx : VE.blk (σ j).heap (base + j) with
          | none => rfl
          | some y => have := hbound (base + j) (by rw [hx]; simp); omega
        refine (R.sees (i := j + 1) (by omega) hqm (fun k h1 _ => by omega) (fun i' h1 h2 t ht e => ?_)).2 ((L.new c x hb hb0).1 hh)
        have e : t = j := by omega
        subst e
        have hi'm : i' < m := by omega
        have hs := chkT_spec R.tgt hi'm ht
        rcases hcons i' hi'm ht with ⟨h3, _⟩ | ⟨_, h3⟩
        · rw [hset, if_neg (by omega)] at h3
          have := v.closed i' h3 t hil hs.2.1
          rw [hun.1] at this; cases this
        · omega
      · rw [if_neg e] at hj
        have hjl := listed_lt hj
        rw [v.lsize] at hjl
        have hjm := v.inA j hj
        have hoj : ops[j]? = some ops[j] := List.getElem?_eq_getElem hjl
        have hh' : holds a.tmps c := by
          rw [hput] at hh
          refine (holds_put (fun sj y hc => ?_)).1 hh
          subst hc
          have e1 := R.blk (i := j + 1) (by omega) R.le (id := base + j) (fun k h1 _ => by omega)
          rw [e1] at hb
          have hb0 : VE.blk (σ j).heap (base + j) = none := by
            rw [R.blk (Nat.zero_le j) (Nat.le_of_lt hjl) (fun k _ h2 => by omega)]
            cases hx : VE.blk (σ 0).heap (base + j) with
            | none => rfl
            | some y => have := h0.bound (base + j) (by rw [hx]; simp); omega
          obtain ⟨k, hk, hdk, want, hg⟩ := (stepOp_static (R.step j _ hoj)).2.2.2.2 sj y x hb0 hb
          exact hcs j hj k sj want _ hk hdk hoj hg
        by_cases hti : tg T i = some j
        · have hs := chkT_spec R.tgt him hti
          have hiq : i < q := by
            rcases hcons i him hti with ⟨_, h3⟩ | ⟨h3, _⟩
            · exact h3
            · rw [hset, if_pos rfl] at h3; cases h3
          have h1 := v.seej j hj c x hb hh' i hs.1 (Nat.le_of_lt him) (fun i' hi' ht => .inr (by
            rw [soleT_spec hs.2.2 hi' ht]
            exact ⟨hun.1, Nat.le_refl _⟩))
          have h2 := L.sees _ h1
          refine (R.sees (i := i + 1) (by omega) hqm (fun k h1 _ => by omega) (fun i' h3 h4 t ht e => ?_)).2 h2
          have e : t = j := by omega
          subst e
          have := soleT_spec hs.2.2 (by omega) ht
          omega
        · have h1 := v.seej j hj c x hb hh' q hjq hqm (fun i' hi' ht => by
            have hne : i' ≠ i := fun e => hti (by rw [← e]; exact ht)
            have := hcons i' hi' ht
            rw [hset, if_neg hne] at this
            exact this)
          exact L.calm _ _ (limD_ok him (fun t ht e => hti (by rw [ht]; congr 1; omega))) h1
    case nun =>
      intro j hj
      rw [hset] at hj
      by_cases e : j = i
      · rw [if_pos e] at hj; cases hj
      · rw [if_neg e] at hj
        exact L.dom _ (v.nun j hj) (by simp only; omega)
    case size => rw [hput, size_put]; exact v.size
    case defers => rw [hput, put_defers]; exact v.defers

theorem count_set_false : ∀ (l : List Bool) (i : Nat), l[i]? = some false → (l.set i true).count false + 1 = l.count false
  | [], i, h => by simp at h
  | b :: l, 0, h => by simp at h; subst h; simp
  | b :: l, i + 1, h => by
    simp at h
    have := count_set_false l i h
    simp only [List.set_cons_succ, List.count_cons]
    omega

theorem count_prefix : ∀ (l : List Bool) (i : Nat), i ≤ l.length → (∀ j, j < l.length → l[j]? = some (decide (j < i))) → l.count false = l.length - i
  | [], i, _, _ => by simp
  | b :: l, 0, _, h => by
    have h0 := h 0 (by simp)
    simp at h0
    subst h0
    have := count_prefix l 0 (by omega) (fun j hj => by have := h (j + 1) (by simp; omega); simpa using this)
    simp [this]
  | b :: l, i + 1, hi, h => by
    have h0 := h 0 (by simp)
    simp at h0
    subst h0
    have := count_prefix l i (by simp at hi; omega) (fun j hj => by have := h (j + 1) (by simp; omega); simpa using this)
    simp [this]

theorem ready_nil {listed : Array Bool} (h : ∀ j, j < listed.size → listed.getD j false = true) : Region.ready .any ops.toArray listed = [] := by
  refine List.eq_nil_iff_forall_not_mem.2 (fun j hj => ?_)
  have := getD_true_false (mem_ready.1 hj).1
  have h2 := h j this.2
  rw [this.1] at h2; cases h2

/-- The least one that has not come up may. -/
theorem ready_least (hc : chkEdges ops D = true) {listed : Array Bool} (hs : listed.size = ops.length) {j : Nat} (hj : j < ops.length) (hu : listed.getD j false = false)
    (hl : ∀ k, k < j → listed.getD k false = true) : j ∈ Region.ready .any ops.toArray listed := by
  refine mem_ready.2 ⟨?_, ops[j], by simp [hj], fun e he hb => hl _ (edge_lt hc (List.getElem?_eq_getElem hj) he hb)⟩
  have : j < listed.size := by omega
  simp [Array.getD_eq_getD_getElem?, this] at hu ⊢
  exact hu

theorem seqAny (hE : EqOK cx) (hC : CallOK cx.P gw call) (R : Reg cx call fp ops D T base m σ) (hbl : fp.lo ≤ base) (hokj : ∀ j, j ≤ ops.length → okB (σ j).ok = true)
    (hQ : ∀ ν a w, Rel gw fp W0 ops base ops.length (σ ops.length) ν a w → ν0.le ν → Q .normal a w) :
    ∀ (f i : Nat) (listed : Array Bool) (ν : Nu) (a : Act) (w : World), i + f = ops.length → m ≤ i → listed.size = ops.length → (∀ j, j < ops.length → listed.getD j false = decide (j < i)) →
      ν0.le ν → Rel gw fp W0 ops base i (σ i) ν a w → wpAny cx.P .any ops.toArray Q f listed a w
  | 0, i, listed, ν, a, w, hf, _, hs, hl, hle, hr => by
    have e : i = ops.length := by omega
    subst e
    exact ⟨ready_nil (fun j hj => by rw [hl j (by omega)]; simp; omega), hQ ν a w hr hle⟩
  | f + 1, i, listed, ν, a, w, hf, hmi, hs, hl, hle, hr => by
    have hil : i < ops.length := by omega
    refine ⟨fun h0 => ?_, fun k hk => ?_⟩
    · have := ready_least (D := D) R.edges hs hil (by rw [hl i hil]; simp) (fun k hk => by rw [hl k (by omega)]; simp; omega)
      rw [h0] at this; cases this
    · have hku := getD_true_false (mem_ready.1 hk).1
      have hkl : k < ops.length := by omega
      have hge : i ≤ k := by
        have := hku.1
        rw [hl k hkl] at this
        simp at this; exact this
      have hki : k = i := by
        refine Classical.byContradiction fun hne => ?_
        obtain ⟨_, o, ho, hall⟩ := mem_ready.1 hk
        have ho : ops[k]? = some o := by simpa using ho
        obtain ⟨e, he, hb, h1⟩ := D_edge R.edges ho hil (full_spec R.full hkl (by omega) (by omega))
        have hl1 := hall e he hb
        have hlt := edge_lt R.edges ho he hb
        rw [hl _ (by omega)] at hl1
        simp at hl1
        rcases h1 with h1 | h1
        · omega
        · have := D_lt R.edges e.on (by omega) hil h1
          omega
      subst hki
      have ho : ops[k]? = some ops[k] := List.getElem?_eq_getElem hil
      generalize ops[k] = o at ho
      have hmain := stepOp_sound (Q := Q) (K := wpAny cx.P .any ops.toArray Q f (listed.setIfInBounds k true)) hE hC (R.step k o ho) (hokj (k + 1) (by omega)) (hr.need rfl rfl hbl) R.dst ho ?_
      · unfold wpOp
        rw [show ops.toArray[k]? = some o by simpa using ho]
        simp only
        split
        · rename_i hw; rw [if_pos hw] at hmain; exact .inl hmain
        · rename_i hw; rw [if_neg hw] at hmain; exact hmain
      · intro ν' a' w' L
        refine seqAny hE hC R hbl hokj hQ f (k + 1) _ ν' a' w' (by omega) (by omega) (by simp [hs]) ?_ (Nu.le_trans hle L.le) (hr.left rfl R.dst ho L)
        intro j hj
        rw [getD_set (by omega)]
        by_cases e : j = k
        · rw [if_pos e]; simp; omega
        · rw [if_neg e, hl j hj, Bool.eq_iff_iff]; simp; omega

/-- All of the first part have come up. -/
theorem Inv.rel (R : Reg cx call fp ops D T base m σ) (h0 : Rel gw fp W0 ops base 0 (σ 0) ν0 a0 w0) (v : Inv gw fp W0 ops D T base m σ a0 ν0 listed ν a w)
    (hall : ∀ j, j < m → listed.getD j false = true) : Rel gw fp W0 ops base m (σ m) ν a w := by
  have hbound : ∀ id, VE.blk (σ m).heap id ≠ none → id < base + m := by
    intro id hb
    refine Classical.byContradiction fun hge => hb ?_
    rw [R.blk (Nat.zero_le m) R.le (fun j _ h2 => by omega)]
    refine Classical.byContradiction fun hb0 => ?_
    have := h0.bound id hb0
    omega
  have hunl : ∀ j, m ≤ j → listed.getD j false = false := fun j hj => by
    cases hx : listed.getD j false with
    | false => rfl
    | true => have := v.inA j hx; omega
  have hcase : ∀ s, (∃ j, j < m ∧ dstOf ops j = some s ∧ (σ m).get fp.km s = (σ (j + 1)).get fp.km s) ∨ ((σ m).get fp.km s = (σ 0).get fp.km s ∧ ∀ j, j < m → dstOf ops j ≠ some s) := by
    intro s
    by_cases hex : ∃ j, j < m ∧ dstOf ops j = some s
    · obtain ⟨j, hj, hdj⟩ := hex
      exact .inl ⟨j, hj, hdj, R.get (by omega) R.le (fun k h1 h2 hdk => by have := chkDst_inj R.dst hdk hdj; omega)⟩
    · have hno : ∀ j, j < m → dstOf ops j ≠ some s := fun j hj hdj => hex ⟨j, hj, hdj⟩
      exact .inr ⟨R.get (Nat.zero_le _) R.le (fun j _ h2 => hno j h2), hno⟩
  have hc0 : ∀ s, ((σ 0).get fp.km s).c = none := by
    intro s
    cases hc : ((σ 0).get fp.km s).c with
    | none => rfl
    | some p => obtain ⟨sj, x⟩ := p; obtain ⟨j, hj, _⟩ := h0.conds s sj x hc; omega
  constructor
  case base0 => exact v.base0
  case slots =>
    intro s
    rcases hcase s with ⟨j, hj, hdj, _⟩ | ⟨e, hno⟩
    · exact v.ent j s (hall j hj) hdj
    · have hk : a.tmps.getD s undef = a0.tmps.getD s undef := v.keep s (fun j hj => hno j (v.inA j hj))
      have hs0 := (h0.slots s).1 (by rw [hc0]; trivial)
      rw [e]
      refine ⟨fun _ => ?_, fun hno => absurd (by rw [hc0]; trivial) hno⟩
      rw [hk]
      exact V.rel_mono v.le hs0
  case conds =>
    intro s sj x hc
    rcases hcase s with ⟨j, hj, hdj, e⟩ | ⟨e, hno⟩
    · rw [e] at hc
      have hjl := dstOf_lt hdj
      have hoj : ops[j]? = some ops[j] := List.getElem?_eq_getElem hjl
      have hds : ops[j].dst = some s := by unfold dstOf at hdj; rw [hoj] at hdj; exact hdj
      obtain ⟨k, hk, hdk, _⟩ := (stepOp_static (R.step j _ hoj)).2.2.2.1 s sj x hds hc
      exact ⟨k, by omega, hdk⟩
    · rw [e, hc0] at hc; cases hc
  case sees =>
    intro id c x hb hc
    by_cases hid : id < base
    · have e := R.blk (Nat.zero_le m) R.le (id := id) (fun j _ _ => by omega)
      rw [e] at hb
      rcases hc with rfl | ⟨h, _⟩
      · exact (R.sees (Nat.zero_le m) (Nat.le_refl _) (fun j _ _ => by omega) (fun j _ _ t _ => by omega)).2 (v.see0 id x hid hb)
      · omega
    · have hlt := hbound id (by rw [hb]; simp)
      have hk : id = base + (id - base) := by omega
      generalize id - base = k at hk
      subst hk
      refine v.seej k (hall k (by omega)) c x hb ?_ m (by omega) (Nat.le_refl _) (fun i hi _ => .inl ⟨hall i hi, hi⟩)
      rcases hc with rfl | ⟨_, h⟩
      · trivial
      · exact h
  case bconds =>
    intro id sj x y hb hle
    have hlt := hbound id (by rw [hb]; simp)
    have hk : id = base + (id - base) := by omega
    generalize id - base = j at hk
    subst hk
    have hjm : j < m := by omega
    have hjl : j < ops.length := Nat.lt_of_lt_of_le hjm R.le
    have hoj : ops[j]? = some ops[j] := List.getElem?_eq_getElem hjl
    have e1 := R.blk (i := j + 1) (by omega) R.le (id := base + j) (fun k h1 _ => by omega)
    rw [e1] at hb
    have hb0 : VE.blk (σ j).heap (base + j) = none := by
      rw [R.blk (Nat.zero_le j) (Nat.le_of_lt hjl) (fun k _ h2 => by omega)]
      cases hx : VE.blk (σ 0).heap (base + j) with
      | none => rfl
      | some y => have := h0.bound (base + j) (by rw [hx]; simp); omega
    obtain ⟨k, hk, hdk, _⟩ := (stepOp_static (R.step j _ hoj)).2.2.2.2 sj x y hb0 hb
    exact ⟨k, by omega, hdk⟩
  case bound => exact hbound
  case fresh =>
    intro id hid
    have hk : id = base + (id - base) := by omega
    generalize id - base = k at hk
    subst hk
    exact v.nun k (hunl k (by omega))
  case size => exact v.size
  case defers => exact v.defers

theorem anyA (hE : EqOK cx) (hC : CallOK cx.P gw call) (R : Reg cx call fp ops D T base m σ) (hbl : fp.lo ≤ base) (hokj : ∀ j, j ≤ ops.length → okB (σ j).ok = true)
    (h0 : Rel gw fp W0 ops base 0 (σ 0) ν0 a0 w0) (hQ : ∀ ν a w, Rel gw fp W0 ops base ops.length (σ ops.length) ν a w → ν0.le ν → Q .normal a w) :
    ∀ (f : Nat) (listed : Array Bool) (ν : Nu) (a : Act) (w : World), listed.toList.count false = f → Inv gw fp W0 ops D T base m σ a0 ν0 listed ν a w → wpAny cx.P .any ops.toArray Q f listed a w := by
  intro f
  induction f with
  | zero =>
    intro listed ν a w hf v
    have hall : ∀ j, j < ops.length → listed.getD j false = true := by
      intro j hj
      have h1 := List.count_eq_zero.1 hf
      have : j < listed.size := by rw [v.lsize]; exact hj
      cases hx : listed.getD j false with
      | true => rfl
      | false =>
        refine absurd ?_ h1
        simp [Array.getD_eq_getD_getElem?, this] at hx
        rw [← hx]
        simp
    have hr := v.rel R h0 (fun j hj => hall j (Nat.lt_of_lt_of_le hj R.le))
    refine seqAny hE hC R hbl hokj hQ 0 ops.length listed ν a w rfl R.le v.lsize (fun j hj => by rw [hall j hj]; simp; omega) v.le ?_
    have : m = ops.length := by
      refine Classical.byContradiction fun hne => ?_
      have hlt : m < ops.length := Nat.lt_of_le_of_ne R.le hne
      have := v.inA m (hall m hlt)
      omega
    rw [← this]; exact hr
  | succ f ih =>
    intro listed ν a w hf v
    by_cases hall : ∀ j, j < m → listed.getD j false = true
    · have hpre : ∀ j, j < ops.length → listed.getD j false = decide (j < m) := by
        intro j hj
        by_cases e : j < m
        · rw [hall j e]; simp [e]
        · cases hx : listed.getD j false with
          | false => simp [e]
          | true => exact absurd (v.inA j hx) e
      have hcount := count_prefix listed.toList m (by simp [v.lsize, R.le]) (fun j hj => by
        have hj' : j < listed.size := by simpa using hj
        have := hpre j (by rw [← v.lsize]; exact hj')
        simp [Array.getD_eq_getD_getElem?, hj'] at this
        simp [hj', this])
      rw [hf] at hcount
      simp [v.lsize] at hcount
      exact seqAny hE hC R hbl hokj hQ (f + 1) m listed ν a w (by have := R.le; omega) (Nat.le_refl _) v.lsize hpre v.le (v.rel R h0 hall)
    · have hex : ∃ j, j < m ∧ listed.getD j false = false := by
        refine Classical.byContradiction fun hno => hall (fun j hj => ?_)
        cases hx : listed.getD j false with
        | true => rfl
        | false => exact absurd ⟨j, hj, hx⟩ hno
      have hleast : ∃ j, j < m ∧ listed.getD j false = false ∧ ∀ k, k < j → listed.getD k false = true := by
        obtain ⟨j, hj⟩ := hex
        induction j using Nat.strongRecOn with
        | _ j ihj =>
          by_cases hk : ∃ k, k < j ∧ listed.getD k false = false
          · obtain ⟨k, hkj, hku⟩ := hk
            exact ihj k hkj ⟨by omega, hku⟩
          · refine ⟨j, hj.1, hj.2, fun k hkj => ?_⟩
            cases hx : listed.getD k false with
            | true => rfl
            | false => exact absurd ⟨k, hkj, hx⟩ hk
      obtain ⟨j, hjm, hju, hjl⟩ := hleast
      refine ⟨fun h0' => ?_, fun i hi => ?_⟩
      · have := ready_least (D := D) R.edges v.lsize (Nat.lt_of_lt_of_le hjm R.le) hju hjl
        rw [h0'] at this; cases this
      · have hiu := getD_true_false (mem_ready.1 hi).1
        have him : i < m := by
          refine Classical.byContradiction fun hge => ?_
          have := v.deps R hi (k := j) (Nat.lt_of_lt_of_le hjm R.le) (full_spec R.full (by rw [← v.lsize]; exact hiu.2) (by omega) (by omega))
          rw [hju] at this; cases this
        refine v.step hE hC R hbl (fun j hj => hokj j (Nat.le_trans hj R.le)) h0 hi him (fun ν' a' w' v' => ih _ ν' a' w' ?_ v')
        have h1 : listed.toList[i]? = some false := by
          have := hiu.1
          simp [Array.getD_eq_getD_getElem?, hiu.2] at this
          simp [hiu.2, this]
        have := count_set_false listed.toList i h1
        rw [Array.toList_setIfInBounds]
        omega
end
end Go.VE
