/- VE10: code, ways that meet, functions. -/
import Derived.Test.YtnjjcklhpgfnjaaVE9
namespace Go.VE
open Go
open Go.RowKit (Below)

def Out.All (p : St → Prop) : Out → Prop
  | .fail => True
  | .leaf _ s => p s
  | .node _ a b => a.All p ∧ b.All p

def Out.pick : Out → Option (Ex × St)
  | .fail => none
  | .leaf e s => some (e, s)
  | .node x a b => bif x then a.pick else b.pick

theorem Out.All.mono {p q : St → Prop} (h : ∀ s, p s → q s) : ∀ {o : Out}, o.All p → o.All q
  | .fail, _ => trivial
  | .leaf _ s, hp => h s hp
  | .node _ _ _, hp => ⟨Out.All.mono h hp.1, Out.All.mono h hp.2⟩

theorem Out.All.pick {p : St → Prop} : ∀ {o : Out} {e : Ex} {s : St}, o.All p → o.pick = some (e, s) → p s
  | .leaf _ s, _, _, h, hp => by simp [Out.pick] at hp; rw [← hp.2]; exact h
  | .node x a b, e, s, h, hp => by
    simp only [Out.pick] at hp
    cases x
    · exact Out.All.pick h.2 hp
    · exact Out.All.pick h.1 hp

theorem pick_bind (f : St → Out) : ∀ (o : Out), (o.bind f).pick = match o.pick with | some (.nrm, s) => (f s).pick | r => r
  | .fail => rfl
  | .leaf .nrm s => rfl
  | .leaf (.exit _) s => rfl
  | .leaf .ret s => rfl
  | .node x a b => by
    simp only [Out.bind, Out.pick]
    cases x
    · exact pick_bind f b
    · exact pick_bind f a

theorem all_bind {p : St → Prop} {f : St → Out} : ∀ {o : Out}, o.All p → (∀ s, p s → (f s).All p) → (o.bind f).All p
  | .fail, _, _ => trivial
  | .leaf .nrm s, h, hf => hf s h
  | .leaf (.exit _) _, h, _ => h
  | .leaf .ret _, h, _ => h
  | .node _ _ _, h, hf => ⟨all_bind h.1 hf, all_bind h.2 hf⟩

theorem all_exits {p : St → Prop} {id : Nat} : ∀ {o : Out}, o.All p → (o.exits id).All p
  | .fail, _ => trivial
  | .leaf .nrm s, h => h
  | .leaf (.exit id') s, h => by simp only [Out.exits]; split <;> exact h
  | .leaf .ret s, h => h
  | .node x a b, h => ⟨all_exits h.1, all_exits h.2⟩

theorem pick_exits (id : Nat) : ∀ (o : Out), (o.exits id).pick = match o.pick with | some (.exit id', s) => if id' = id then some (.nrm, s) else some (.exit id', s) | r => r
  | .fail => rfl
  | .leaf .nrm s => rfl
  | .leaf (.exit id') s => by
    simp only [Out.exits, Out.pick]
    cases hb : Nat.beq id' id
    · simp only; rw [if_neg (beq_false hb)]; rfl
    · simp only; rw [if_pos (beq_true hb)]; rfl
  | .leaf .ret s => rfl
  | .node x a b => by
    simp only [Out.exits, Out.pick]
    cases x
    · exact pick_exits id b
    · exact pick_exits id a

/-! ### two states meet -/

theorem memB_iff {x : Nat} {l : List Nat} : memB x l = true ↔ x ∈ l := by
  simp only [memB, List.any_eq_true]
  constructor
  · rintro ⟨y, hy, hb⟩; rw [beq_true hb]; exact hy
  · intro h; exact ⟨x, h, by simp⟩

theorem memB2_iff {x y : Nat} {l : List (Nat × Nat)} : memB2 x y l = true ↔ (x, y) ∈ l := by
  simp only [memB2, List.any_eq_true, Bool.and_eq_true]
  constructor
  · rintro ⟨⟨p, q⟩, hy, h1, h2⟩; rw [beq_true h1, beq_true h2]; exact hy
  · intro h; exact ⟨(x, y), h, by simp, by simp⟩

theorem mem_unionN {x : Nat} : ∀ {l l' : List Nat}, x ∈ unionN l l' ↔ x ∈ l ∨ x ∈ l'
  | [], l' => by simp [unionN]
  | y :: r, l' => by
    rw [unionN]
    split
    · rename_i hm
      have := memB_iff.1 hm
      rw [mem_unionN, List.mem_cons]
      constructor
      · rintro (h | h) <;> simp [h]
      · rintro ((rfl | h) | h)
        · exact .inr this
        · exact .inl h
        · exact .inr h
    · rw [List.mem_cons, mem_unionN, List.mem_cons]
      constructor
      · rintro (h | h | h) <;> simp [h]
      · rintro ((h | h) | h) <;> simp [h]

theorem mem_unionN2 {x : Nat × Nat} : ∀ {l l' : List (Nat × Nat)}, x ∈ unionN2 l l' ↔ x ∈ l ∨ x ∈ l'
  | [], l' => by simp [unionN2]
  | (y, z) :: r, l' => by
    rw [unionN2]
    split
    · rename_i hm
      have := memB2_iff.1 hm
      rw [mem_unionN2, List.mem_cons]
      constructor
      · rintro (h | h) <;> simp [h]
      · rintro ((rfl | h) | h)
        · exact .inr this
        · exact .inl h
        · exact .inr h
    · rw [List.mem_cons, mem_unionN2, List.mem_cons]
      constructor
      · rintro (h | h | h) <;> simp [h]
      · rintro ((h | h) | h) <;> simp [h]

theorem touchedV_spec {b : List (Nat × Ent)} : ∀ {q : List (Nat × Ent)} {s : Nat}, s ∉ touchedV q.length (q ++ b) → get (q ++ b) s = get b s
  | [], _, _ => rfl
  | (t, e) :: q, s, h => by
    simp only [List.length_cons, List.cons_append] at h ⊢
    rw [touchedV] at h
    have h1 : s ≠ t ∧ s ∉ touchedV q.length (q ++ b) := by
      split at h
      · rename_i hm
        exact ⟨fun e => h (by rw [e]; exact memB_iff.1 hm), h⟩
      · simp only [List.mem_cons, not_or] at h; exact h
    rw [get_cons, if_neg (Ne.symm h1.1)]
    exact touchedV_spec h1.2

theorem touchedH_spec {b : List HE} {k id off : Nat} (hid : id < k) : ∀ {p : List HE}, newsGe k p → (id, off) ∉ touchedH p.length (p ++ b) → readCell (p ++ b) id off = readCell b id off
  | [], _, _ => rfl
  | .new i c ty cs :: p, hn, h => by
    simp only [List.length_cons, List.cons_append] at h ⊢
    rw [touchedH] at h
    have h1 := hn i c ty cs (by simp)
    rw [readCell_new, if_neg (by omega)]
    exact touchedH_spec hid (fun i c ty cs hm => hn i c ty cs (by simp [hm])) h
  | .wr i o x :: p, hn, h => by
    simp only [List.length_cons, List.cons_append] at h ⊢
    rw [touchedH] at h
    have h1 : (id, off) ≠ (i, o) ∧ (id, off) ∉ touchedH p.length (p ++ b) := by
      split at h
      · rename_i hm
        exact ⟨fun e => h (by rw [e]; exact memB2_iff.1 hm), h⟩
      · simp only [List.mem_cons, not_or] at h; exact h
    rw [readCell_wr, if_neg (fun e => h1.1 (by rw [e.1, e.2]))]
    exact touchedH_spec hid (fun i c ty cs hm => hn i c ty cs (by simp [hm])) h1.2

theorem blk_app {b : List HE} {k id : Nat} (hid : id < k) : ∀ {p : List HE}, newsGe k p → blk (p ++ b) id = blk b id
  | [], _ => rfl
  | .new i c ty cs :: p, hn => by
    have h1 := hn i c ty cs (by simp)
    rw [List.cons_append, blk_new, if_neg (by omega)]
    exact blk_app hid (fun i c ty cs hm => hn i c ty cs (by simp [hm]))
  | .wr i o x :: p, hn => by
    rw [List.cons_append]
    exact blk_app (p := p) hid (fun i c ty cs hm => hn i c ty cs (by simp [hm]))

def mergeEnt (x : Bool) (e1 e2 : Ent) : Ent := ⟨none, match e1.c, e2.c with
      | none, none => mergeV x e1.v e2.v
      | _, _ => .a .poison⟩

theorem get_mergeVars (x : Bool) (v1 v2 : List (Nat × Ent)) : ∀ (l : List Nat) (acc : List (Nat × Ent)) (s : Nat),
    get (mergeVars x v1 v2 l acc) s = if s ∈ l then mergeEnt x (get v1 s) (get v2 s) else get acc s
  | [], acc, s => by simp [mergeVars]
  | t :: r, acc, s => by
    rw [mergeVars, get_mergeVars x v1 v2 r]
    by_cases hr : s ∈ r
    · rw [if_pos hr, if_pos (by simp [hr])]
    · rw [if_neg hr, get_cons]
      by_cases ht : t = s
      · subst ht; rw [if_pos rfl, if_pos (by simp)]; rfl
      · rw [if_neg ht, if_neg (by simp [hr]; exact fun h => ht h.symm)]

theorem mergeVars_app (x : Bool) (v1 v2 : List (Nat × Ent)) : ∀ (l : List Nat) (acc : List (Nat × Ent)), ∃ q, mergeVars x v1 v2 l acc = q ++ acc
  | [], acc => ⟨[], rfl⟩
  | t :: r, acc => by
    obtain ⟨q, hq⟩ := mergeVars_app x v1 v2 r ((t, mergeEnt x (get v1 t) (get v2 t)) :: acc)
    exact ⟨q ++ [(t, mergeEnt x (get v1 t) (get v2 t))], by rw [mergeVars]; exact hq.trans (by simp)⟩

theorem mergeHeap_app (x : Bool) (next : Nat) (h1 h2 : List HE) : ∀ (l : List (Nat × Nat)) (acc : List HE), ∃ p, mergeHeap x next h1 h2 l acc = p ++ acc ∧ ∀ k, newsGe k p
  | [], acc => ⟨[], rfl, fun _ _ _ _ _ h => by cases h⟩
  | (id, off) :: r, acc => by
    rw [mergeHeap]
    split
    · obtain ⟨p, hp, np⟩ := mergeHeap_app x next h1 h2 r (.wr id off (mergeA x (readCell h1 id off) (readCell h2 id off)) :: acc)
      refine ⟨p ++ [.wr id off (mergeA x (readCell h1 id off) (readCell h2 id off))], by rw [hp]; simp, fun k i c ty cs hm => ?_⟩
      rcases List.mem_append.1 hm with hm | hm
      · exact np k i c ty cs hm
      · simp at hm
    · exact mergeHeap_app x next h1 h2 r acc

theorem read_mergeHeap (x : Bool) (next : Nat) (h1 h2 : List HE) : ∀ (l : List (Nat × Nat)) (acc : List HE) (id off : Nat), id < next →
    readCell (mergeHeap x next h1 h2 l acc) id off = if (id, off) ∈ l then mergeA x (readCell h1 id off) (readCell h2 id off) else readCell acc id off
  | [], acc, id, off, _ => by simp [mergeHeap]
  | (i, o) :: r, acc, id, off, hid => by
    rw [mergeHeap]
    split
    · rename_i hlt
      rw [read_mergeHeap x next h1 h2 r _ id off hid]
      by_cases hr : (id, off) ∈ r
      · rw [if_pos hr, if_pos (by simp [hr])]
      · rw [if_neg hr, readCell_wr]
        by_cases ht : i = id ∧ o = off
        · obtain ⟨rfl, rfl⟩ := ht
          rw [if_pos ⟨rfl, rfl⟩, if_pos (by simp)]
        · rw [if_neg ht, if_neg (by simp [hr]; rintro rfl rfl; exact ht ⟨rfl, rfl⟩)]
    · rename_i hlt
      rw [read_mergeHeap x next h1 h2 r _ id off hid]
      have hne : (id, off) ≠ (i, o) := by
        intro e
        simp at e
        have h3 : Nat.blt i next = true := by simp [Nat.blt]; omega
        rw [h3] at hlt; cases hlt
      by_cases hr : (id, off) ∈ r
      · rw [if_pos hr, if_pos (by simp [hr])]
      · rw [if_neg hr, if_neg (by simp only [List.mem_cons, not_or]; exact ⟨hne, hr⟩)]

theorem mergeSt_ext {x : Bool} {base s1 s2 : St} (h1 : Ext base s1) : Ext base (mergeSt x base s1 s2) := by
  refine ⟨?_, ?_, ?_⟩
  · obtain ⟨p, hp, np⟩ := mergeHeap_app x base.next s1.heap s2.heap (unionN2 (touchedH (s1.heap.length - base.heap.length) s1.heap) (touchedH (s2.heap.length - base.heap.length) s2.heap)) base.heap
    exact ⟨p, hp, np _⟩
  · exact mergeVars_app _ _ _ _ _
  · exact Nat.le_trans h1.next (Nat.le_max_left _ _)

/-- What the second state says, the first one says. -/
structure Weak (s s' : St) : Prop where
  rel : ∀ gw fp W0 ν a w, CRel gw fp W0 s ν a w → CRel gw fp W0 s' ν a w
  ok : okB s'.ok = true → okB s.ok = true

theorem Weak.refl (s : St) : Weak s s := ⟨fun _ _ _ _ _ _ h => h, fun h => h⟩
theorem Weak.trans {s s1 s2 : St} (h : Weak s s1) (h' : Weak s1 s2) : Weak s s2 := ⟨fun gw fp W0 ν a w hr => h'.rel gw fp W0 ν a w (h.rel gw fp W0 ν a w hr), fun ho => h.ok (h'.ok ho)⟩

theorem mergeOk_true {x : Bool} {p q : A} (h : okB (mergeOk x p q) = true) : okB (bif x then p else q) = true := by
  unfold mergeOk at h
  split at h
  · cases x <;> rfl
  · cases x <;> exact h

theorem mergeSt_weak {x : Bool} {base s1 s2 : St} (h1 : Ext base s1) (h2 : Ext base s2) (hb : ∀ id, blk base.heap id ≠ none → id < base.next) :
    Weak (bif x then s1 else s2) (mergeSt x base s1 s2) := by
  obtain ⟨⟨p1, e1, n1⟩, ⟨q1, f1⟩, l1⟩ := h1
  obtain ⟨⟨p2, e2, n2⟩, ⟨q2, f2⟩, l2⟩ := h2
  have hget : ∀ s, get (mergeSt x base s1 s2).vars s = mergeEnt x (get s1.vars s) (get s2.vars s) ∨
      (get (mergeSt x base s1 s2).vars s = get s1.vars s ∧ get (mergeSt x base s1 s2).vars s = get s2.vars s) := by
    intro s
    simp only [mergeSt]
    rw [get_mergeVars]
    split
    · exact .inl rfl
    · rename_i hm
      rw [mem_unionN, not_or] at hm
      refine .inr ⟨?_, ?_⟩
      · have := hm.1
        rw [f1] at this ⊢
        rw [touchedV_spec (by simpa using this)]
      · have := hm.2
        rw [f2] at this ⊢
        rw [touchedV_spec (by simpa using this)]
  have hcell : ∀ id off, id < base.next → readCell (mergeSt x base s1 s2).heap id off = mergeA x (readCell s1.heap id off) (readCell s2.heap id off) ∨
      (readCell (mergeSt x base s1 s2).heap id off = readCell s1.heap id off ∧ readCell (mergeSt x base s1 s2).heap id off = readCell s2.heap id off) := by
    intro id off hid
    simp only [mergeSt]
    rw [read_mergeHeap _ _ _ _ _ _ _ _ hid]
    split
    · exact .inl rfl
    · rename_i hm
      rw [mem_unionN2, not_or] at hm
      refine .inr ⟨?_, ?_⟩
      · have := hm.1
        rw [e1] at this ⊢
        rw [touchedH_spec hid n1 (by simpa using this)]
      · have := hm.2
        rw [e2] at this ⊢
        rw [touchedH_spec hid n2 (by simpa using this)]
  have hblk : ∀ id, blk (mergeSt x base s1 s2).heap id = blk base.heap id := by
    intro id
    obtain ⟨p, hp, np⟩ := mergeHeap_app x base.next s1.heap s2.heap (unionN2 (touchedH (s1.heap.length - base.heap.length) s1.heap) (touchedH (s2.heap.length - base.heap.length) s2.heap)) base.heap
    have : (mergeSt x base s1 s2).heap = p ++ base.heap := hp
    rw [this]
    exact blk_app (k := id + 1) (by omega) (np _)
  constructor
  · intro gw fp W0 ν a w h
    have hv : ∀ s, (get (mergeSt x base s1 s2).vars s).c = none ∧ ∀ v, (get (bif x then s1 else s2).vars s).v.rel ν v → (get (mergeSt x base s1 s2).vars s).v.rel ν v := by
      intro s
      have hc := h.vconds s
      rcases hget s with e | ⟨g1, g2⟩
      · rw [e]
        refine ⟨rfl, fun v hr => ?_⟩
        unfold mergeEnt
        simp only
        split
        · exact mergeV_rel (by cases x <;> exact hr)
        · trivial
      · cases x
        · rw [g2]; exact ⟨hc, fun _ h => h⟩
        · rw [g1]; exact ⟨hc, fun _ h => h⟩
    constructor
    case base0 => exact h.base0
    case slots =>
      intro s
      cases hd : Nat.testBit fp.km s
      · rw [get_false hd]
        exact ⟨fun _ => trivial, fun hno => absurd trivial hno⟩
      · rw [get_true hd]
        have h1 := h.slots s
        rw [get_true hd] at h1
        obtain ⟨g1, g2⟩ := hv s
        refine ⟨fun _ => g2 _ (h1.1 (by rw [h.vconds]; trivial)), fun hno => absurd (by rw [g1]; trivial) hno⟩
    case vconds => exact fun s => (hv s).1
    case sees =>
      intro id y hby
      rw [hblk] at hby
      have hid := hb id (by rw [hby]; simp)
      have hs : SeesAt ν (bif x then s1 else s2).heap w id := by
        refine h.sees id y ?_
        cases x
        · show blk s2.heap id = _
          rw [e2, blk_app hid n2]; exact hby
        · show blk s1.heap id = _
          rw [e1, blk_app hid n1]; exact hby
      obtain ⟨c, ty, n, b, vs, g1, g2, g3, g4, g5⟩ := hs
      have hc : blk base.heap id = some (c, ty, n) := by
        rw [← g1]
        cases x
        · show _ = blk s2.heap id
          rw [e2, blk_app hid n2]
        · show _ = blk s1.heap id
          rw [e1, blk_app hid n1]
      refine ⟨c, ty, n, b, vs, by rw [hblk]; exact hc, g2, g3, g4, fun off ho => ?_⟩
      have g := g5 off ho
      rcases hcell id off hid with e | ⟨k1, k2⟩
      · rw [e]; exact mergeA_rel (by cases x <;> exact g)
      · cases x
        · rw [k2]; exact g
        · rw [k1]; exact g
    case bound =>
      intro id hbn
      rw [hblk] at hbn
      have := hb id hbn
      exact Nat.lt_of_lt_of_le this (Nat.le_trans l1 (Nat.le_max_left _ _))
    case fresh =>
      intro id hid
      refine h.fresh id ?_
      cases x
      · exact Nat.le_trans (Nat.le_max_right _ _) hid
      · exact Nat.le_trans (Nat.le_max_left _ _) hid
    case lo =>
      refine Nat.le_trans h.lo ?_
      cases x
      · exact Nat.le_max_right _ _
      · exact Nat.le_max_left _ _
    case size => exact h.size
    case defers => exact h.defers
  · intro ho
    have := mergeOk_true ho
    cases x <;> exact this

/-! ### ways that meet -/

theorem noNrm_rest : ∀ {o : Out}, o.noNrm = true → ∃ r, o.rest = some r ∧ r.pick = o.pick
  | .fail, _ => ⟨.fail, rfl, rfl⟩
  | .leaf .nrm _, h => by simp [Out.noNrm] at h
  | .leaf (.exit _) _, _ => ⟨_, rfl, rfl⟩
  | .leaf .ret _, _ => ⟨_, rfl, rfl⟩
  | .node x a b, h => by
    simp only [Out.noNrm, Bool.and_eq_true] at h
    obtain ⟨ra, ha, pa⟩ := noNrm_rest h.1
    obtain ⟨rb, hb, pb⟩ := noNrm_rest h.2
    exact ⟨.node x ra rb, by simp [Out.rest, ha, hb], by simp only [Out.pick]; rw [pa, pb]⟩

theorem nrm_spec : ∀ {o : Out} {g : Bool} {s : St}, o.nrm? = some (g, s) → (g = true → o.pick = some (.nrm, s)) ∧ (g = false → ∃ r, o.rest = some r ∧ r.pick = o.pick)
  | .fail, _, _, h => by simp [Out.nrm?] at h
  | .leaf .nrm s', g, s, h => by
    simp [Out.nrm?] at h
    obtain ⟨rfl, rfl⟩ := h
    exact ⟨fun _ => rfl, fun h => by cases h⟩
  | .leaf (.exit _) _, _, _, h => by simp [Out.nrm?] at h
  | .leaf .ret _, _, _, h => by simp [Out.nrm?] at h
  | .node x a b, g, s, h => by
    simp only [Out.nrm?] at h
    split at h
    · rename_i hb
      split at h
      · rename_i g0 s0 ha
        simp at h
        obtain ⟨rfl, rfl⟩ := h
        obtain ⟨i1, i2⟩ := nrm_spec ha
        obtain ⟨rb, hrb, prb⟩ := noNrm_rest hb
        constructor
        · intro hg
          simp only [Bool.and_eq_true] at hg
          rw [Out.pick, hg.1]
          exact i1 hg.2
        · intro hg
          cases x
          · cases har : a.rest with
            | none => exact ⟨rb, by simp [Out.rest, har, hrb], by rw [prb]; rfl⟩
            | some ra => exact ⟨.node false ra rb, by simp [Out.rest, har, hrb], by simp only [Out.pick, cond_false]; exact prb⟩
          · simp only [Bool.true_and] at hg
            obtain ⟨ra, hra, pra⟩ := i2 hg
            exact ⟨.node true ra rb, by simp [Out.rest, hra, hrb], by simp only [Out.pick, cond_true]; exact pra⟩
      · cases h
    · split at h
      · rename_i ha
        split at h
        · rename_i g0 s0 hb
          simp at h
          obtain ⟨rfl, rfl⟩ := h
          obtain ⟨i1, i2⟩ := nrm_spec hb
          obtain ⟨ra, hra, pra⟩ := noNrm_rest ha
          constructor
          · intro hg
            simp only [Bool.and_eq_true, Bool.not_eq_true'] at hg
            rw [Out.pick, hg.1]
            exact i1 hg.2
          · intro hg
            cases x
            · simp only [Bool.not_false, Bool.true_and] at hg
              obtain ⟨rb, hrb, prb⟩ := i2 hg
              exact ⟨.node false ra rb, by simp [Out.rest, hra, hrb], by simp only [Out.pick, cond_false]; exact prb⟩
            · cases hbr : b.rest with
              | none => exact ⟨ra, by simp [Out.rest, hra, hbr], by rw [pra]; rfl⟩
              | some rb => exact ⟨.node true ra rb, by simp [Out.rest, hra, hbr], by simp only [Out.pick, cond_true]; exact pra⟩
        · cases h
      · cases h

theorem rest_all {p : St → Prop} : ∀ {o r : Out}, o.rest = some r → o.All p → r.All p
  | .fail, r, h, _ => by simp [Out.rest] at h; subst h; trivial
  | .leaf .nrm _, _, h, _ => by simp [Out.rest] at h
  | .leaf (.exit _) _, r, h, ha => by simp [Out.rest] at h; subst h; exact ha
  | .leaf .ret _, r, h, ha => by simp [Out.rest] at h; subst h; exact ha
  | .node x a b, r, h, ha => by
    simp only [Out.rest] at h
    split at h
    · rename_i h1 h2; simp at h; subst h; exact ⟨rest_all h1 ha.1, rest_all h2 ha.2⟩
    · rename_i h1 h2; simp at h; subst h; exact rest_all h1 ha.1
    · rename_i h1 h2; simp at h; subst h; exact rest_all h2 ha.2
    · cases h

theorem nrm_all {p : St → Prop} : ∀ {o : Out} {g : Bool} {s : St}, o.nrm? = some (g, s) → o.All p → p s
  | .fail, _, _, h, _ => by simp [Out.nrm?] at h
  | .leaf .nrm s', g, s, h, ha => by simp [Out.nrm?] at h; rw [← h.2]; exact ha
  | .leaf (.exit _) _, _, _, h, _ => by simp [Out.nrm?] at h
  | .leaf .ret _, _, _, h, _ => by simp [Out.nrm?] at h
  | .node x a b, g, s, h, ha => by
    simp only [Out.nrm?] at h
    split at h
    · split at h
      · rename_i hx; simp at h; rw [← h.2]; exact nrm_all hx ha.1
      · cases h
    · split at h
      · split at h
        · rename_i hx; simp at h; rw [← h.2]; exact nrm_all hx ha.2
        · cases h
      · cases h

theorem join_all {x : Bool} {base : St} {a b : Out} (ha : a.All (Ext base)) (hb : b.All (Ext base)) : (join x base a b).All (Ext base) := by
  unfold join
  split
  · rename_i g1 s1 g2 s2 h1 h2
    have hm : Ext base (mergeSt x base s1 s2) := mergeSt_ext (nrm_all h1 ha)
    simp only
    split
    · exact hm
    · rename_i r hr _; exact ⟨hm, rest_all hr ha⟩
    · rename_i r _ hr; exact ⟨hm, rest_all hr hb⟩
    · rename_i r1 r2 hr1 hr2; exact ⟨hm, rest_all hr1 ha, rest_all hr2 hb⟩
  · exact ⟨ha, hb⟩

/-- What a way comes to is, perhaps said less of, what it came to ahead of the meeting. -/
def Comes' (p p' : Option (Ex × St)) : Prop := ∀ e s', p' = some (e, s') → ∃ s, p = some (e, s) ∧ Weak s s'

theorem Comes'.refl (p : Option (Ex × St)) : Comes' p p := fun _ s h => ⟨s, h, Weak.refl s⟩
theorem Comes'.trans {p q r : Option (Ex × St)} (h : Comes' p q) (h' : Comes' q r) : Comes' p r := fun e s' hr => by
  obtain ⟨s1, h1, w1⟩ := h' e s' hr
  obtain ⟨s2, h2, w2⟩ := h e s1 h1
  exact ⟨s2, h2, w2.trans w1⟩

theorem join_pick {x : Bool} {base : St} {a b : Out} (ha : a.All (Ext base)) (hb : b.All (Ext base)) (hbd : ∀ id, blk base.heap id ≠ none → id < base.next) :
    Comes' (Out.node x a b).pick (join x base a b).pick := by
  unfold join
  split
  · rename_i g1 s1 g2 s2 h1 h2
    have hw := mergeSt_weak (x := x) (nrm_all h1 ha) (nrm_all h2 hb) hbd
    obtain ⟨i1, i2⟩ := nrm_spec h1
    obtain ⟨j1, j2⟩ := nrm_spec h2
    have hmerge : (bif x then g1 else g2) = true → Comes' (Out.node x a b).pick (some (.nrm, mergeSt x base s1 s2)) := by
      intro hg e s' hs
      simp at hs
      obtain ⟨rfl, rfl⟩ := hs
      refine ⟨bif x then s1 else s2, ?_, hw⟩
      cases x
      · exact j1 hg
      · exact i1 hg
    simp only
    split
    · rename_i hr1 hr2
      refine hmerge ?_
      cases x
      · cases g2 with
        | true => rfl
        | false => obtain ⟨r, hr, _⟩ := j2 rfl; rw [hr2] at hr; cases hr
      · cases g1 with
        | true => rfl
        | false => obtain ⟨r, hr, _⟩ := i2 rfl; rw [hr1] at hr; cases hr
    · rename_i r hr1 hr2
      cases x
      · simp only [Out.pick, cond_false, cond_true]
        refine hmerge ?_
        cases g2 with
        | true => rfl
        | false => obtain ⟨r, hr, _⟩ := j2 rfl; rw [hr2] at hr; cases hr
      · cases g1 with
        | true => exact hmerge rfl
        | false =>
          obtain ⟨r', hr, pr⟩ := i2 rfl
          rw [hr1] at hr; simp at hr; subst hr
          simp only [Out.pick, cond_false, cond_true]
          rw [pr]; exact Comes'.refl _
    · rename_i r hr1 hr2
      cases x
      · cases g2 with
        | true => exact hmerge rfl
        | false =>
          obtain ⟨r', hr, pr⟩ := j2 rfl
          rw [hr2] at hr; simp at hr; subst hr
          simp only [Out.pick, cond_false]
          rw [pr]; exact Comes'.refl _
      · simp only [Out.pick, cond_true]
        refine hmerge ?_
        cases g1 with
        | true => rfl
        | false => obtain ⟨r, hr, _⟩ := i2 rfl; rw [hr1] at hr; cases hr
    · rename_i r1 r2 hr1 hr2
      cases x
      · cases g2 with
        | true => exact hmerge rfl
        | false =>
          obtain ⟨r', hr, pr⟩ := j2 rfl
          rw [hr2] at hr; simp at hr; subst hr
          simp only [Out.pick, cond_false]
          rw [pr]; exact Comes'.refl _
      · cases g1 with
        | true => exact hmerge rfl
        | false =>
          obtain ⟨r', hr, pr⟩ := i2 rfl
          rw [hr1] at hr; simp at hr; subst hr
          simp only [Out.pick, cond_false, cond_true]
          rw [pr]; exact Comes'.refl _
  · exact Comes'.refl _

theorem norm_all {base : St} : ∀ {o : Out}, o.All (Ext base) → (o.norm base).All (Ext base)
  | .fail, _ => trivial
  | .leaf _ _, h => h
  | .node _ _ _, h => join_all (norm_all h.1) (norm_all h.2)

theorem norm_pick {base : St} (hbd : ∀ id, blk base.heap id ≠ none → id < base.next) : ∀ {o : Out}, o.All (Ext base) → Comes' o.pick (o.norm base).pick
  | .fail, _ => Comes'.refl _
  | .leaf _ _, _ => Comes'.refl _
  | .node x a b, h => by
    have hj := join_pick (x := x) (norm_all h.1) (norm_all h.2) hbd
    refine Comes'.trans ?_ hj
    simp only [Out.pick]
    cases x
    · exact norm_pick hbd h.2
    · exact norm_pick hbd h.1

/-! ### code -/

def Ex.toExit : Ex → Exit
  | .nrm => .normal
  | .exit id => .exit id
  | .ret => .ret

section
variable {cx : Cx} {gw : GW} {call : CallE} {fp : Fp} {W0 : World}

theorem loopE_all {p : St → Prop} {f : St → Out} (hf : ∀ s, p s → (f s).All p) (hok : ∀ s x, p s → p { s with ok := x }) : ∀ (k : Nat) (s : St), p s → (loopE f k s).All p
  | 0, s, h => hok s _ h
  | k + 1, s, h => all_bind (hf s h) (fun s1 h1 => loopE_all hf hok k s1 h1)

theorem evalC_ext : ∀ (n : Nat) (c : Code) (s : St), (evalC cx call fp n c s).All (Ext s) := by
  intro n
  induction n with
  | zero => intro c s; trivial
  | succ n ih =>
    intro c s
    cases c <;> simp only [evalC]
    case skip => exact Ext.refl s
    case region id ops draw =>
      split
      · rename_i s' h; exact (evalRegion_ext h).1
      · trivial
    case seq a b => exact all_bind (ih a s) (fun s1 h1 => Out.All.mono (fun s2 h2 => h1.trans h2) (ih b s1))
    case cond c x y =>
      split
      · exact ih x s
      · exact ih y s
      · exact join_all (ih x s) (ih y s)
      · trivial
    case block id c => exact norm_all (all_exits (ih c s))
    case loop c => exact loopE_all (p := Ext s) (fun s1 h1 => Out.All.mono (fun s2 h2 => h1.trans h2) (ih c s1)) (fun s1 x h1 => ⟨h1.heap, h1.vars, h1.next⟩) fp.it s (Ext.refl s)
    case exit id => exact Ext.refl s
    case ret => exact Ext.refl s
    all_goals trivial

theorem evalRegion_ok {ops : List Oper} {draw : Bool} {st st' : St} (he : evalRegion cx call fp ops draw st = some st') (hok : okB st'.ok = true) : okB st.ok = true := by
  unfold evalRegion at he
  split at he
  · cases he
  · split at he
    · split at he
      · cases he
      · rename_i h; simp at he; subst he; have h2 := evalOps_ok h (by exact hok); exact h2
    · split at he
      · cases he
      · split at he
        · cases he
        · rename_i h; simp at he; subst he; have h2 := evalOps_ok h (by exact hok); exact h2

def Bd (s : St) : Prop := ∀ id, blk s.heap id ≠ none → id < s.next

theorem evalOps_bd {base : Nat} {qf : Nat → Nat → Bool} {m : Nat → Lim} {ops : List Oper} : ∀ {l : List Oper} {i : Nat} {st st' : St},
    evalOps cx call fp base qf m ops i l st = some st' → (∀ id, blk st.heap id ≠ none → id < base + i) → ∀ id, blk st'.heap id ≠ none → id < base + i + l.length
  | [], _, _, _, he, hb => by simp [evalOps] at he; subst he; exact hb
  | o :: l, i, st, _, he, hb => by
    simp only [evalOps] at he
    split at he
    · cases he
    · rename_i st1 h1
      intro id hid
      have := evalOps_bd he (fun id hid => by
        by_cases e : id = base + i
        · omega
        · rw [(stepOp_static h1).2.2.1 id e] at hid
          have := hb id hid
          omega) id hid
      simp only [List.length_cons]
      omega

theorem evalRegion_bd {ops : List Oper} {draw : Bool} {st st' : St} (he : evalRegion cx call fp ops draw st = some st') (hb : Bd st) : Bd st' := by
  unfold evalRegion at he
  split at he
  · cases he
  · split at he
    · split at he
      · cases he
      · rename_i h; simp at he; subst he; intro id hid; have := evalOps_bd h hb id hid; simp only; omega
    · split at he
      · cases he
      · split at he
        · cases he
        · rename_i h; simp at he; subst he; intro id hid; have := evalOps_bd h hb id hid; simp only; omega

theorem mergeSt_bd {x : Bool} {base s1 s2 : St} (h1 : Ext base s1) (hb : Bd base) : Bd (mergeSt x base s1 s2) := by
  intro id hid
  obtain ⟨p, hp, np⟩ := mergeHeap_app x base.next s1.heap s2.heap (unionN2 (touchedH (s1.heap.length - base.heap.length) s1.heap) (touchedH (s2.heap.length - base.heap.length) s2.heap)) base.heap
  have e : (mergeSt x base s1 s2).heap = p ++ base.heap := hp
  rw [e, blk_app (k := id + 1) (by omega) (np _)] at hid
  exact Nat.lt_of_lt_of_le (hb id hid) (Nat.le_trans h1.next (Nat.le_max_left _ _))

theorem join_bd {x : Bool} {base : St} {a b : Out} (hbd : Bd base) (ha : a.All (Ext base)) (ha' : a.All Bd) (hb' : b.All Bd) : (join x base a b).All Bd := by
  unfold join
  split
  · rename_i g1 s1 g2 s2 h1 h2
    have hm : Bd (mergeSt x base s1 s2) := mergeSt_bd (nrm_all h1 ha) hbd
    simp only
    split
    · exact hm
    · rename_i r hr _; exact ⟨hm, rest_all hr ha'⟩
    · rename_i r _ hr; exact ⟨hm, rest_all hr hb'⟩
    · rename_i r1 r2 hr1 hr2; exact ⟨hm, rest_all hr1 ha', rest_all hr2 hb'⟩
  · exact ⟨ha', hb'⟩

theorem norm_bd {base : St} (hbd : Bd base) : ∀ {o : Out}, o.All (Ext base) → o.All Bd → (o.norm base).All Bd
  | .fail, _, _ => trivial
  | .leaf _ _, _, h => h
  | .node _ _ _, h, h' => join_bd hbd (norm_all h.1) (norm_bd hbd h.1 h'.1) (norm_bd hbd h.2 h'.2)

theorem evalC_bd : ∀ (n : Nat) (c : Code) (s : St), Bd s → (evalC cx call fp n c s).All Bd := by
  intro n
  induction n with
  | zero => intro c s _; trivial
  | succ n ih =>
    intro c s hb
    cases c <;> simp only [evalC]
    case skip => exact hb
    case region id ops draw =>
      split
      · rename_i s' h; exact evalRegion_bd h hb
      · trivial
    case seq a b => exact all_bind (ih a s hb) (fun s1 h1 => ih b s1 h1)
    case cond c x y =>
      split
      · exact ih x s hb
      · exact ih y s hb
      · exact join_bd hb (evalC_ext n x s) (ih x s hb) (ih y s hb)
      · trivial
    case block id c => exact norm_bd hb (all_exits (evalC_ext n c s)) (all_exits (ih c s hb))
    case loop c => exact loopE_all (p := Bd) (fun s1 h1 => ih c s1 h1) (fun _ _ h => h) fp.it s hb
    case exit id => exact hb
    case ret => exact hb
    all_goals trivial

/-- What is said of a way that is taken. -/
def Way (gw : GW) (fp : Fp) (W0 : World) (Q : Exit → Act → World → Prop) (e : Ex) (s : St) (ν : Nu) : Prop :=
  ∀ ν' a' w', CRel gw fp W0 s ν' a' w' → ν.le ν' → Q e.toExit a' w'

theorem evalC_sound (hE : EqOK cx) (hC : CallOK cx.P gw call) : ∀ (n : Nat) (c : Code) (s s' : St) (e : Ex), Bd s → (evalC cx call fp n c s).pick = some (e, s') → okB s'.ok = true →
    okB s.ok = true ∧ (∀ (ν : Nu) (a : Act) (w : World) (Q : Exit → Act → World → Prop), CRel gw fp W0 s ν a w → Way gw fp W0 Q e s' ν → c.wp cx.P Q a w) ∧
      ∀ d, c = .loop d → ∃ r, ∀ (ν : Nu) (a : Act) (w : World) (Q : Exit → Act → World → Prop), CRel gw fp W0 s ν a w → Way gw fp W0 Q e s' ν → Code.rounds cx.P d Q r a w := by
  intro n
  induction n with
  | zero => intro c s s' e _ h; simp [evalC, Out.pick] at h
  | succ n ih =>
    intro c s s' e hbd h hok
    cases c <;> simp only [evalC] at h
    case skip =>
      simp [Out.pick] at h
      obtain ⟨rfl, rfl⟩ := h
      exact ⟨hok, fun ν a w Q hr hw => wp_skip (hw ν a w hr (Nu.le_refl _)), fun d h => by cases h⟩
    case region id ops draw =>
      split at h
      · rename_i s1 h1
        simp [Out.pick] at h
        obtain ⟨rfl, rfl⟩ := h
        exact ⟨evalRegion_ok h1 hok, fun ν a w Q hr hw => evalRegion_sound hE hC h1 hok hr hw, fun d h => by cases h⟩
      · simp [Out.pick] at h
    case seq x y =>
      rw [pick_bind] at h
      split at h
      · rename_i s1 h1
        obtain ⟨k1, k2⟩ := ih y s1 s' e (Out.All.pick (evalC_bd n x s hbd) h1) h hok
        obtain ⟨j1, j2⟩ := ih x s s1 .nrm hbd h1 k1
        refine ⟨j1, fun ν a w Q hr hw => wp_seq (j2.1 ν a w _ hr ?_), fun d h => by cases h⟩
        intro ν' a' w' hr' hle
        exact k2.1 ν' a' w' Q hr' (fun ν'' a'' w'' hr'' hle' => hw ν'' a'' w'' hr'' (Nu.le_trans hle hle'))
      · rename_i hne
        obtain ⟨j1, j2⟩ := ih x s s' e hbd h hok
        refine ⟨j1, fun ν a w Q hr hw => wp_seq (j2.1 ν a w _ hr ?_), fun d h => by cases h⟩
        intro ν' a' w' hr' hle
        have := hw ν' a' w' hr' hle
        cases e with
        | nrm => exact absurd h (hne _)
        | exit id => exact this
        | ret => exact this
    case cond c x y =>
      split at h
      · rename_i hc
        obtain ⟨j1, j2⟩ := ih x s s' e hbd h hok
        refine ⟨j1, fun ν a w Q hr hw => wp_cond_true ?_ (j2.1 ν a w Q hr hw), fun d h => by cases h⟩
        exact opV_sound (a := a) hc trivial trivial (fun t _ ht => (hr.slots t).1 ht)
      · rename_i hc
        obtain ⟨j1, j2⟩ := ih y s s' e hbd h hok
        refine ⟨j1, fun ν a w Q hr hw => wp_cond_false ?_ (j2.1 ν a w Q hr hw), fun d h => by cases h⟩
        exact opV_sound (a := a) hc trivial trivial (fun t _ ht => (hr.slots t).1 ht)
      · rename_i v hc
        obtain ⟨s1, hp, hweak⟩ := join_pick (evalC_ext n x s) (evalC_ext n y s) hbd e s' h
        have hok1 := hweak.ok hok
        simp only [Out.pick] at hp
        cases v
        · obtain ⟨j1, j2⟩ := ih y s s1 e hbd hp hok1
          refine ⟨j1, fun ν a w Q hr hw => wp_cond_false ?_ (j2.1 ν a w Q hr (fun ν' a' w' hr' hle => hw ν' a' w' (hweak.rel _ _ _ _ _ _ hr') hle)), fun d h => by cases h⟩
          exact opV_sound (a := a) hc trivial trivial (fun t _ ht => (hr.slots t).1 ht)
        · obtain ⟨j1, j2⟩ := ih x s s1 e hbd hp hok1
          refine ⟨j1, fun ν a w Q hr hw => wp_cond_true ?_ (j2.1 ν a w Q hr (fun ν' a' w' hr' hle => hw ν' a' w' (hweak.rel _ _ _ _ _ _ hr') hle)), fun d h => by cases h⟩
          exact opV_sound (a := a) hc trivial trivial (fun t _ ht => (hr.slots t).1 ht)
      · simp [Out.pick] at h
    case block id c =>
      obtain ⟨s1, hp, hweak⟩ := norm_pick hbd (all_exits (id := id) (evalC_ext (cx := cx) (call := call) (fp := fp) n c s)) e s' h
      have hok1 := hweak.ok hok
      rw [pick_exits] at hp
      split at hp
      · rename_i id' s2 h2
        split at hp
        · rename_i hid
          simp at hp
          obtain ⟨rfl, rfl⟩ := hp
          obtain ⟨j1, j2⟩ := ih c s s2 (.exit id') hbd h2 hok1
          refine ⟨j1, fun ν a w Q hr hw => wp_block (j2.1 ν a w _ hr ?_), fun d h => by cases h⟩
          intro ν' a' w' hr' hle
          simp only [Ex.toExit, Exit.inBlock, hid, if_true]
          exact hw ν' a' w' (hweak.rel _ _ _ _ _ _ hr') hle
        · rename_i hid
          simp at hp
          obtain ⟨rfl, rfl⟩ := hp
          obtain ⟨j1, j2⟩ := ih c s s2 (.exit id') hbd h2 hok1
          refine ⟨j1, fun ν a w Q hr hw => wp_block (j2.1 ν a w _ hr ?_), fun d h => by cases h⟩
          intro ν' a' w' hr' hle
          simp only [Ex.toExit, Exit.inBlock, hid, if_false]
          exact hw ν' a' w' (hweak.rel _ _ _ _ _ _ hr') hle
      · rename_i hne
        obtain ⟨j1, j2⟩ := ih c s s1 e hbd hp hok1
        refine ⟨j1, fun ν a w Q hr hw => wp_block (j2.1 ν a w _ hr ?_), fun d h => by cases h⟩
        intro ν' a' w' hr' hle
        have := hw ν' a' w' (hweak.rel _ _ _ _ _ _ hr') hle
        cases e with
        | nrm => exact this
        | exit id' => exact absurd hp (hne _ _)
        | ret => exact this
    case loop c =>
      have fin : ∀ {okk : Prop} (r : Nat), okk → (∀ (ν : Nu) (a : Act) (w : World) (Q : Exit → Act → World → Prop), CRel gw fp W0 s ν a w → Way gw fp W0 Q e s' ν → Code.rounds cx.P c Q r a w) →
          okk ∧ (∀ (ν : Nu) (a : Act) (w : World) (Q : Exit → Act → World → Prop), CRel gw fp W0 s ν a w → Way gw fp W0 Q e s' ν → (Code.loop c).wp cx.P Q a w) ∧
            ∀ d, Code.loop c = .loop d → ∃ r, ∀ (ν : Nu) (a : Act) (w : World) (Q : Exit → Act → World → Prop), CRel gw fp W0 s ν a w → Way gw fp W0 Q e s' ν → Code.rounds cx.P d Q r a w := by
        intro okk r h1 h2
        exact ⟨h1, fun ν a w Q hr hw => wp_loop_rounds r (h2 ν a w Q hr hw), fun d hd => by cases hd; exact ⟨r, h2⟩⟩
      have key : ∀ (k : Nat) (s : St), Bd s → ∀ (s' : St) (e : Ex), (loopE (evalC cx call fp n c) k s).pick = some (e, s') → okB s'.ok = true →
          okB s.ok = true ∧ ∃ r, ∀ (ν : Nu) (a : Act) (w : World) (Q : Exit → Act → World → Prop), CRel gw fp W0 s ν a w → Way gw fp W0 Q e s' ν → Code.rounds cx.P c Q r a w := by
        intro k
        induction k with
        | zero =>
          intro s _ s' e h hok
          simp [loopE, Out.pick] at h
          obtain ⟨_, rfl⟩ := h
          simp [okB] at hok
        | succ k ihk =>
          intro s hbd s' e h hok
          rw [loopE, pick_bind] at h
          split at h
          · rename_i s1 h1
            obtain ⟨k1, r, hr2⟩ := ihk s1 (Out.All.pick (evalC_bd n c s hbd) h1) s' e h hok
            obtain ⟨j1, j2⟩ := ih c s s1 .nrm hbd h1 k1
            refine ⟨j1, r + 1, fun ν a w Q hr hw => ?_⟩
            rw [rounds_succ]
            refine j2.1 ν a w _ hr ?_
            intro ν' a' w' hr' hle
            exact hr2 ν' a' w' Q hr' (fun ν'' a'' w'' hr'' hle' => hw ν'' a'' w'' hr'' (Nu.le_trans hle hle'))
          · rename_i hne
            obtain ⟨j1, j2⟩ := ih c s s' e hbd h hok
            refine ⟨j1, 1, fun ν a w Q hr hw => ?_⟩
            rw [rounds_succ]
            refine j2.1 ν a w _ hr ?_
            intro ν' a' w' hr' hle
            have := hw ν' a' w' hr' hle
            cases e with
            | nrm => exact absurd h (hne _)
            | exit id => exact this
            | ret => exact this
      obtain ⟨j1, r, hr⟩ := key fp.it s hbd s' e h hok
      exact fin r j1 hr
    case exit id =>
      simp [Out.pick] at h
      obtain ⟨rfl, rfl⟩ := h
      exact ⟨hok, fun ν a w Q hr hw => wp_exit (hw ν a w hr (Nu.le_refl _)), fun d h => by cases h⟩
    case ret =>
      simp [Out.pick] at h
      obtain ⟨rfl, rfl⟩ := h
      exact ⟨hok, fun ν a w Q hr hw => wp_ret (hw ν a w hr (Nu.le_refl _)), fun d h => by cases h⟩
    all_goals simp [Out.pick] at h

/-! ### functions -/

theorem mergeOk_okB {x : Bool} {p q : A} (h : okB (mergeOk x p q) = true) : okB (bif x then p else q) = true := mergeOk_true h

/-- A function's result: of the way that is taken. -/
theorem val_sound {res : St → Option V} : ∀ {o : Out} {ok : A} {v : V}, o.val res = some (ok, v) → okB ok = true →
    ∃ e s u, o.pick = some (e, s) ∧ (∀ id, e ≠ .exit id) ∧ okB s.ok = true ∧ res s = some u ∧ ∀ (ν : Nu) (x : Value), u.rel ν x → v.rel ν x
  | .fail, _, _, h, _ => by simp [Out.val] at h
  | .leaf .nrm s, ok, v, h, hok => by
    simp only [Out.val] at h
    split at h
    · rename_i u hu; simp at h; obtain ⟨rfl, rfl⟩ := h; exact ⟨.nrm, s, u, rfl, (fun _ h => by cases h), hok, hu, fun _ _ h => h⟩
    · cases h
  | .leaf (.exit _) _, _, _, h, _ => by simp [Out.val] at h
  | .leaf .ret s, ok, v, h, hok => by
    simp only [Out.val] at h
    split at h
    · rename_i u hu; simp at h; obtain ⟨rfl, rfl⟩ := h; exact ⟨.ret, s, u, rfl, (fun _ h => by cases h), hok, hu, fun _ _ h => h⟩
    · cases h
  | .node x a b, ok, v, h, hok => by
    simp only [Out.val] at h
    split at h
    · rename_i o1 v1 o2 v2 h1 h2
      simp at h
      obtain ⟨rfl, rfl⟩ := h
      have ho := mergeOk_true hok
      cases x
      · obtain ⟨e, s, u, p1, p2, p3, p4, p5⟩ := val_sound h2 ho
        exact ⟨e, s, u, p1, p2, p3, p4, fun ν x hu => mergeV_rel (p5 ν x hu)⟩
      · obtain ⟨e, s, u, p1, p2, p3, p4, p5⟩ := val_sound h1 ho
        exact ⟨e, s, u, p1, p2, p3, p4, fun ν x hu => mergeV_rel (p5 ν x hu)⟩
    · cases h

def oneRes (tmps : Array Value) (r : ResultVar) : Sem Value :=
  match r with
  | .tmp t => pure (tmps.getD t undef)
  | .cell c t => do loadVar t (← asAddr (tmps.getD c undef))

theorem resOne_sound {km : Nat} {s : St} {r : ResultVar} {u : V} (h : resOne cx.P km s r = some u) (hkm : fp.km = km) {ν : Nu} {a : Act} {w : World} (hr : CRel gw fp W0 s ν a w) :
    ∃ x, u.rel ν x ∧ (oneRes a.tmps r).run cx.P w = .ok x w := by
  subst hkm
  cases r with
  | tmp t =>
    simp only [resOne] at h
    split at h
    · rename_i hc
      simp at h; subst h
      exact ⟨_, (hr.slots t).1 (by rw [hc]; trivial), rfl⟩
    · cases h
  | cell c t =>
    simp only [resOne] at h
    split at h
    · rename_i v hv
      split at h
      · rename_i r' hl
        simp at h; subst h
        have hx := opV_sound (a := a) hv trivial trivial (fun t _ ht => (hr.slots t).1 ht)
        have hvis : ∀ j, vis ⟨s.next, fun _ => true, 0⟩ none s.heap j = true → SeesAt ν s.heap w j := by
          intro j hj
          unfold vis at hj
          simp only [Bool.true_and] at hj
          cases hb : blk s.heap j with
          | none => rw [hb] at hj; simp [condOK] at hj
          | some y =>
            obtain ⟨c, x⟩ := y
            rw [hb] at hj
            cases c with
            | none => exact hr.sees j x hb
            | some c =>
              obtain ⟨ty, m⟩ := x
              simp only [condOK, Bool.and_eq_true] at hj
              have := condEq_some hj.2
              cases this
        obtain ⟨x, u, e, hrun, hu⟩ := evalLoad_sound (ν := ν) (w := w) hl hvis hx
        subst e
        refine ⟨x, hu, ?_⟩
        have hp : ∃ ad, a.eval (.tmp c) = .pointer (some ad) := by
          unfold evalLoad at hl
          split at hl
          · obtain ⟨b, _, hb⟩ := hx; exact ⟨_, hb⟩
          · cases hl
        obtain ⟨ad, had⟩ := hp
        have had' : a.tmps.getD c undef = .pointer (some ad) := had
        rw [Instr.loadAt, had] at hrun
        simp only [oneRes, had']
        simpa [asAddr, Instr.sureAddr] using hrun
      · cases h
    · cases h

theorem resMany_sound {km : Nat} {s : St} (hkm : fp.km = km) {ν : Nu} {a : Act} {w : World} (hr : CRel gw fp W0 s ν a w) : ∀ {rs : List ResultVar} {us : List W}, resMany cx.P km s rs = some us →
    us.length = rs.length ∧ ∃ xs, relW ν us xs ∧ (rs.mapM (oneRes a.tmps)).run cx.P w = .ok xs w
  | [], us, h => by simp [resMany] at h; subst h; exact ⟨rfl, [], trivial, rfl⟩
  | r :: rs, us, h => by
    simp only [resMany] at h
    split at h
    · rename_i x ws h1 h2
      simp at h; subst h
      obtain ⟨v, hv, hrun⟩ := resOne_sound h1 hkm hr
      obtain ⟨hl, xs, hxs, hruns⟩ := resMany_sound hkm hr h2
      exact ⟨by simp [hl], v :: xs, ⟨hv, hxs⟩, by rw [List.mapM_cons, Sem.run_bind, hrun]; simp only [Result.andThen_ok]; rw [Sem.run_bind, hruns]; rfl⟩
    · rename_i cs ws h1 h2
      simp at h; subst h
      obtain ⟨v, hv, hrun⟩ := resOne_sound h1 hkm hr
      obtain ⟨hl, xs, hxs, hruns⟩ := resMany_sound hkm hr h2
      exact ⟨by simp [hl], v :: xs, ⟨hv, hxs⟩, by rw [List.mapM_cons, Sem.run_bind, hrun]; simp only [Result.andThen_ok]; rw [Sem.run_bind, hruns]; rfl⟩
    · cases h

theorem relW_length {ν : Nu} : ∀ {as : List W} {vs : List Value}, relW ν as vs → as.length = vs.length
  | [], [], _ => rfl
  | _ :: _, _ :: _, h => by simp [relW_length h.2]
  | [], _ :: _, h => h.elim
  | _ :: _, [], h => h.elim

theorem resOf_sound {km : Nat} {s : St} {fn : Func} {u : V} (h : resOf cx.P km fn.results.toList s = some u) (hkm : fp.km = km) {ν : Nu} {a : Act} {w : World} (hr : CRel gw fp W0 s ν a w) :
    ∃ x, u.rel ν x ∧ (results fn a.tmps).run cx.P w = .ok x w := by
  have key : ∀ {xs : List Value}, (fn.results.toList.mapM (oneRes a.tmps)).run cx.P w = .ok xs w →
      (results fn a.tmps).run cx.P w = .ok (if h : xs.toArray.size = 1 then xs.toArray[0] else .tuple xs.toArray) w := by
    intro xs hx
    have e : results fn a.tmps = (do let vs ← fn.results.mapM (oneRes a.tmps); pure (if h : vs.size = 1 then vs[0] else .tuple vs)) := rfl
    rw [e, Sem.run_bind, Array.mapM_eq_mapM_toList, Sem.run_map, hx]
    rfl
  unfold resOf at h
  split at h
  · rename_i r hl
    obtain ⟨v, hv, hrun⟩ := resOne_sound h hkm hr
    refine ⟨v, hv, ?_⟩
    have := key (xs := [v]) (by rw [hl, List.mapM_cons, Sem.run_bind, hrun]; rfl)
    simpa using this
  · rename_i hne
    cases hm : resMany cx.P km s fn.results.toList with
    | none => rw [hm] at h; cases h
    | some us =>
      rw [hm] at h
      simp at h
      subst h
      obtain ⟨hl, xs, hxs, hruns⟩ := resMany_sound hkm hr hm
      refine ⟨.tuple xs.toArray, ⟨_, rfl, by simpa using hxs⟩, ?_⟩
      rw [key hruns, dif_neg]
      intro h1
      have h2 := relW_length hxs
      simp at h1
      have h3 : fn.results.toList.length = 1 := by omega
      obtain ⟨r, hr1⟩ := List.length_eq_one_iff.1 h3
      exact hne r hr1

/-! ### the function -/

theorem A.rel_ids {ν ν' : Nu} {p : Nat → Bool} (hl : ∀ id, p id = true → ∀ b, ν' id = some b → ν id = some b) : ∀ {a : A} {v : Value}, a.ids p = true → a.rel ν' v → a.rel ν v
  | .poison, _, _, _ => trivial
  | .undef, _, _, h => h
  | .lit _ _, _, _, h => h
  | .i _ _, _, _, h => h
  | .tt, _, _, h => h
  | .ff, _, _, h => h
  | .b _, _, _, h => h
  | .nilp, _, _, h => h
  | .ptr _ _, _, hb, ⟨bk, h1, h2⟩ => ⟨bk, hl _ hb _ h1, h2⟩
  | .nils, _, _, h => h
  | .sl _ _ _ _, _, hb, ⟨bk, h1, h2⟩ => ⟨bk, hl _ hb _ h1, h2⟩
  | .raw _, _, _, h => h

theorem relL_ids {ν ν' : Nu} {p : Nat → Bool} (hl : ∀ id, p id = true → ∀ b, ν' id = some b → ν id = some b) : ∀ {as : List A} {vs : List Value}, as.all (A.ids p) = true → relL ν' as vs → relL ν as vs
  | [], [], _, _ => trivial
  | _ :: _, _ :: _, hb, h => by
    simp only [List.all_cons, Bool.and_eq_true] at hb
    exact ⟨A.rel_ids hl hb.1 h.1, relL_ids hl hb.2 h.2⟩
  | [], _ :: _, _, h => h.elim
  | _ :: _, [], _, h => h.elim

theorem relW_ids {ν ν' : Nu} {p : Nat → Bool} (hl : ∀ id, p id = true → ∀ b, ν' id = some b → ν id = some b) : ∀ {as : List W} {vs : List Value}, as.all (W.ids p) = true → relW ν' as vs → relW ν as vs
  | [], [], _, _ => trivial
  | x :: _, _ :: _, hb, h => by
    simp only [List.all_cons, Bool.and_eq_true] at hb
    refine ⟨?_, relW_ids hl hb.2 h.2⟩
    cases x with
    | a x => exact A.rel_ids hl hb.1 h.1
    | g cs => obtain ⟨vs, h1, h2⟩ := h.1; exact ⟨vs, h1, relL_ids hl hb.1 h2⟩
  | [], _ :: _, _, h => h.elim
  | _ :: _, [], _, h => h.elim

theorem V.rel_ids {ν ν' : Nu} {p : Nat → Bool} (hl : ∀ id, p id = true → ∀ b, ν' id = some b → ν id = some b) {x : V} {v : Value} (hb : x.ids p = true) (h : x.rel ν' v) : x.rel ν v := by
  cases x with
  | a x => exact A.rel_ids hl hb h
  | g cs => obtain ⟨vs, h1, h2⟩ := h; exact ⟨vs, h1, relL_ids hl hb h2⟩
  | t ws => obtain ⟨vs, h1, h2⟩ := h; exact ⟨vs, h1, relW_ids hl hb h2⟩

theorem inH_true {h : List HE} {id : Nat} (hi : inH h id = true) : blk h id ≠ none := by
  intro e; unfold inH at hi; rw [e] at hi; cases hi

theorem relV_ids {ν ν' : Nu} {p : Nat → Bool} (hl : ∀ id, p id = true → ∀ b, ν' id = some b → ν id = some b) : ∀ {as : List V} {vs : List Value}, as.all (V.ids p) = true → relV ν' as vs → relV ν as vs
  | [], [], _, _ => trivial
  | _ :: _, _ :: _, hb, h => by
    simp only [List.all_cons, Bool.and_eq_true] at hb
    exact ⟨V.rel_ids hl hb.1 h.1, relV_ids hl hb.2 h.2⟩
  | [], _ :: _, _, h => h.elim
  | _ :: _, [], _, h => h.elim

theorem maxId_le : ∀ {h : List HE} {id : Nat}, blk h id ≠ none → id < maxId h
  | [], _, h => absurd rfl h
  | .new i c ty cs :: r, id, h => by
    rw [blk_new] at h
    rw [maxId]
    split at h
    · subst_vars; exact Nat.lt_of_lt_of_le (Nat.lt_succ_self _) (Nat.le_max_left _ _)
    · exact Nat.lt_of_lt_of_le (maxId_le h) (Nat.le_max_right _ _)
  | .wr i o x :: r, id, h => by
    rw [maxId]
    exact Nat.lt_of_lt_of_le (maxId_le (h := r) h) (Nat.le_max_right _ _)

theorem get_params : ∀ (args : List V) (i s : Nat), get (params i args) s = if i ≤ s ∧ s < i + args.length then ⟨none, args.getD (s - i) (.a .poison)⟩ else ⟨none, .a .poison⟩
  | [], i, s => by rw [if_neg (by simp only [List.length_nil]; omega)]; rfl
  | v :: r, i, s => by
    rw [params, get_cons, get_params r (i + 1) s]
    by_cases e : i = s
    · subst e; rw [if_pos rfl, if_pos ⟨Nat.le_refl _, by simp⟩]; simp
    · rw [if_neg e]
      by_cases h : i + 1 ≤ s ∧ s < i + 1 + r.length
      · rw [if_pos h, if_pos ⟨by omega, by simp; omega⟩]
        have : s - i = (s - (i + 1)) + 1 := by omega
        rw [this]; simp
      · rw [if_neg h, if_neg (by simp only [List.length_cons]; omega)]

theorem relV_get {ν : Nu} : ∀ {as : List V} {vs : List Value}, relV ν as vs → ∀ (i : Nat), (as.getD i (.a .poison)).rel ν (vs.getD i undef)
  | [], [], _, _ => by simp [V.rel, A.rel]
  | _ :: _, _ :: _, h, 0 => h.1
  | _ :: as, _ :: vs, h, i + 1 => by simpa using relV_get h.2 i
  | [], _ :: _, h, _ => h.elim
  | _ :: _, [], h, _ => h.elim

theorem readCell_ids {p : Nat → Bool} : ∀ {h : List HE}, h.all (HE.ids p) = true → ∀ id off, (readCell h id off).ids p = true
  | [], _, _, _ => rfl
  | .new i c ty cs :: r, hb, id, off => by
    simp only [List.all_cons, Bool.and_eq_true] at hb
    rw [readCell_new]
    split
    · have h1 := hb.1
      simp only [HE.ids, List.all_eq_true] at h1
      rw [List.getD_eq_getElem?_getD]
      cases hx : cs[off]? with
      | none => rfl
      | some a => exact h1 a (List.mem_of_getElem? hx)
    · exact readCell_ids hb.2 id off
  | .wr i o x :: r, hb, id, off => by
    simp only [List.all_cons, Bool.and_eq_true] at hb
    rw [readCell_wr]
    split
    · exact hb.1
    · exact readCell_ids hb.2 id off

/-- The numbers of blocks that a callee knows: those of its memory. -/
def sub (h : List HE) (ν : Nu) : Nu := fun id => match inH h id with | true => ν id | false => none

theorem sub_true {h : List HE} {ν : Nu} {id : Nat} (hi : inH h id = true) : sub h ν id = ν id := by unfold sub; rw [hi]
theorem sub_some {h : List HE} {ν : Nu} {id b : Nat} (hs : sub h ν id = some b) : inH h id = true ∧ ν id = some b := by
  unfold sub at hs
  split at hs
  · rename_i hi; exact ⟨hi, hs⟩
  · cases hs

theorem evalFn_sound (hE : EqOK cx) (hC : CallOK cx.P gw call) {fuel : Nat} {fn : Func} {f : FuncId} {args : List V} {h : List HE} {ok : A} {v : V} (hf : cx.P.funcs[f]? = some fn)
    (he : evalFn cx call fuel fn args h = some (ok, v)) (hok : okB ok = true) : PureOK cx.P gw f args h v := by
  unfold evalFn at he
  split at he
  · cases he
  · rename_i c hc
    split at he
    · rename_i hlen
      simp only [Bool.and_eq_true] at hlen
      obtain ⟨⟨hlen, hids⟩, hhids⟩ := hlen
      have hlen := Nat.le_of_ble_eq_true hlen
      split at he
      · rename_i ok' v' hval
        split at he
        · rename_i hbel
          simp at he
          obtain ⟨rfl, rfl⟩ := he
          intro ν w vs hgw hm hargs hsees
          obtain ⟨e, s, u, hp, hex, hsok, hres, hrel⟩ := val_sound hval hok
          have hbd : Bd ⟨params 0 args, [], h, maxId h, .tt⟩ := fun id hid => maxId_le hid
          have hw := (evalC_sound (gw := gw) (W0 := w) hE hC fuel c _ s e hbd hp hsok).2.1
          refine calls_of_wp hf hc ?_
          have hargs' : relV (sub h ν) args vs := relV_ids (ν' := ν) (fun id hi b hb => by rw [sub_true hi]; exact hb) hids hargs
          have hlv := relV_length hargs
          refine hw (sub h ν) _ w _ ?_ ?_
          · constructor
            case base0 =>
              refine ⟨⟨fun j b hj => hm.lt j b (sub_some hj).2, fun i j b hi hj => hm.inj i j b (sub_some hi).2 (sub_some hj).2⟩, fun j b hlo hj => ?_, Below.refl _ _, hgw⟩
              have := maxId_le (inH_true (sub_some hj).1)
              simp only at hlo
              omega
            case slots =>
              intro t
              have hpoison : EntOK (sub h ν) (vs.toArray ++ Array.replicate (fn.ntmps - vs.toArray.size) undef) t ⟨none, .a .poison⟩ :=
                ⟨fun _ => trivial, fun hno => absurd trivial hno⟩
              cases hd : Nat.testBit (fnMask fn c args) t
              · simp only [St.get, hd]; exact hpoison
              · simp only [St.get, hd]
                rw [get_params]
                split
                · rename_i ht
                  refine ⟨fun _ => ?_, fun hno => absurd trivial hno⟩
                  have h1 := relV_get hargs' (t - 0)
                  have e1 : (vs.toArray ++ Array.replicate (fn.ntmps - vs.toArray.size) undef).getD t undef = vs.getD (t - 0) undef := by
                    have : t < vs.length := by omega
                    simp [Array.getD_eq_getD_getElem?, Array.getElem?_append, this]
                  rw [e1]
                  exact h1
                · exact hpoison
            case vconds =>
              intro t
              rw [get_params]
              split <;> rfl
            case sees =>
              intro id x hb
              have hb : blk h id = some (none, x) := hb
              obtain ⟨c', ty, n, b, us, q1, q2, q3, q4, q5⟩ := hsees id (by rw [hb]; simp)
              have hi : inH h id = true := by unfold inH; rw [hb]
              refine ⟨c', ty, n, b, us, q1, by rw [sub_true hi]; exact q2, q3, q4, fun off ho => ?_⟩
              exact A.rel_ids (ν' := ν) (fun id hi b hb => by rw [sub_true hi]; exact hb) (readCell_ids hhids id off) (q5 off ho)
            case bound => exact hbd
            case fresh =>
              intro id hid
              cases hx : sub h ν id with
              | none => rfl
              | some b => have := maxId_le (inH_true (sub_some hx).1); simp only at hid; omega
            case lo => exact Nat.le_refl _
            case size => simp; omega
            case defers => rfl
          · intro ν' a' w' hr hle
            obtain ⟨x, hx, hrun⟩ := resOf_sound hres rfl hr
            have hv := V.rel_ids (ν := ν) (p := inH h) (fun id hi b hb => by
              obtain ⟨_, _, _, b0, _, _, q2, _⟩ := hsees id (inH_true hi)
              have h1 := hle id b0 (by rw [sub_true hi]; exact q2)
              rw [hb] at h1
              rw [q2, h1]) hbel (hrel ν' x hx)
            cases e with
            | nrm => exact ⟨hr.defers, x, hrun, x, rfl, hv, hr.base0.low⟩
            | ret => exact ⟨hr.defers, x, hrun, x, rfl, hv, hr.base0.low⟩
            | exit id => exact absurd rfl (hex id)
        · cases he
      · cases he
    · cases he

theorem evalF_sound (hE : EqOK cx) {Γ : CallE} (hΓ : CallOK cx.P gw Γ) (hent : ∀ f fn, cx.P.funcs[f]? = some fn → fn.body ≠ none → Enters cx.P f) {fuel : Nat} : ∀ n, CallOK cx.P gw (evalF cx Γ fuel n) := by
  intro n
  induction n with
  | zero => intro f args h ok v he; simp [evalF] at he
  | succ n ih =>
    intro f args h ok v he hok
    simp only [evalF] at he
    split at he
    · rename_i r hr
      simp at he
      subst he
      exact hΓ f args h ok v hr hok
    · split at he
      · rename_i fn hf
        refine .inl ⟨hent f fn hf ?_, evalFn_sound hE ih hf he hok⟩
        intro hb
        unfold evalFn at he
        rw [hb] at he
        cases he
      · cases he

theorem evalF_top (hE : EqOK cx) {Γ : CallE} (hΓ : CallOK cx.P gw Γ) (hent : ∀ f fn, cx.P.funcs[f]? = some fn → fn.body ≠ none → Enters cx.P f) {fuel n : Nat} {f : FuncId} {args : List V} {h : List HE} {ok : A} {v : V}
    (hΓf : Γ f args h = none) (he : evalF cx Γ fuel (n + 1) f args h = some (ok, v)) (hok : okB ok = true) : PureOK cx.P gw f args h v := by
  simp only [evalF, hΓf] at he
  split at he
  · rename_i fn hf
    exact evalFn_sound hE (evalF_sound hE hΓ hent n) hf he hok
  · cases he
end
end Go.VE
