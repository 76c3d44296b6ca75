/- WE4: values by parts: their lengths, the ways meet. -/
import Derived.Test.YtljopbfbljkjoaaDoorWE3
namespace Go.WE
open Go

variable {ν : Nu}

theorem kindEq : ∀ k : IntKind, kEq k k = true := by intro k; simp [kEq]


/-! ### atoms -/

theorem mergeInt_rel {x : Bool} {p q : A} {v : Value} (h : (bif x then p else q).rel ν v) : (mergeInt x p q).rel ν v := by
  unfold mergeInt
  split
  · rename_i k p' k' q' e1 e2
    split
    · rename_i hk
      have hk := kEq_true hk
      subst hk
      cases x
      · simp only [cond_false] at h ⊢
        simp only [A.rel]; exact A.rel_bv h e2
      · simp only [cond_true] at h ⊢
        simp only [A.rel]; exact A.rel_bv h e1
    · simp only [A.rel]
  · simp only [A.rel]

theorem mergeBool_rel {x : Bool} {p q : A} {v : Value} (h : (bif x then p else q).rel ν v) : (mergeBool x p q).rel ν v := by
  unfold mergeBool
  split
  · rename_i p' q' e1 e2
    cases x
    · simp only [cond_false] at h ⊢
      simp only [A.rel]; exact A.rel_bool h e2
    · simp only [cond_true] at h ⊢
      simp only [A.rel]; exact A.rel_bool h e1
  · exact mergeInt_rel h

theorem ixEq_val {a b : Ix} (h : ixEq a b = true) : a.val = b.val := by
  unfold ixEq at h; split at h
  · exact beq_true h
  · cases h
theorem stepEq_off {a b : Step} (h : stepEq a b = true) : stepOff a = stepOff b := by
  unfold stepEq at h; split at h
  · simp only [Bool.and_eq_true] at h; exact beq_true h.2
  · simp only [Bool.and_eq_true] at h
    have h1 := beq_true h.1; have h2 := ixEq_val h.2
    simp only [stepOff, h1, h2]
  · cases h
theorem pathEq_off : ∀ {p q : List Step}, pathEq p q = true → pathOff p = pathOff q
  | [], [], _ => rfl
  | a :: p, b :: q, h => by
    simp only [pathEq, Bool.and_eq_true] at h
    simp only [pathOff, stepEq_off h.1, pathEq_off h.2]
  | [], _ :: _, h => by simp [pathEq] at h
  | _ :: _, [], h => by simp [pathEq] at h

theorem optIxEq_cap {c c' : Option Ix} (h : optIxEq c c' = true) {k : Nat} (hk : ∀ i, c' = some i → k = i.val) : ∀ i, c = some i → k = i.val := by
  intro i e
  subst e
  unfold optIxEq at h
  split at h
  · rename_i a b e1
    simp at e1; subst e1
    rw [ixEq_val h]; exact hk b rfl
  · rename_i e1; cases e1
  · cases h

theorem mergeA_rel {x : Bool} {p q : A} {v : Value} (h : (bif x then p else q).rel ν v) : (mergeA x p q).rel ν v := by
  unfold mergeA
  split
  case h_1 k m k' n =>
    split
    · rename_i hc
      simp only [Bool.and_eq_true] at hc
      have hk := kEq_true hc.1
      have hm := of_decide_eq_true hc.2
      subst hk hm
      cases x <;> exact h
    · exact mergeInt_rel h
  case h_2 => cases x <;> exact h
  case h_3 => cases x <;> exact h
  case h_4 => cases x <;> exact h
  case h_5 => cases x <;> exact h
  case h_6 => cases x <;> exact h
  case h_7 => cases x <;> exact h
  case h_8 a p b q =>
    split
    · rename_i hc
      simp only [Bool.and_eq_true] at hc
      have h1 := beq_true hc.1; have h2 := pathEq_off hc.2
      subst h1
      cases x
      · simp only [cond_false, A.rel] at h ⊢; rw [h2]; exact h
      · exact h
    · simp only [A.rel]
  case h_9 a p s i l c b q s' i' l' c' =>
    split
    · rename_i hc
      simp only [Bool.and_eq_true] at hc
      obtain ⟨⟨⟨⟨⟨h1, h2⟩, h3⟩, h4⟩, h5⟩, h6⟩ := hc
      have h1 := beq_true h1; have h2 := pathEq_off h2; have h3 := beq_true h3; have h4 := ixEq_val h4; have h5 := ixEq_val h5
      subst h1 h3
      cases x
      · simp only [cond_false, A.rel] at h ⊢
        obtain ⟨bb, base, o, cc, g1, g2, g3, g4, g5⟩ := h
        exact ⟨bb, base, o, cc, g1, by rw [h5]; exact g2, by rw [h2, h4]; exact g3, by rw [h5]; exact g4, optIxEq_cap h6 g5⟩
      · exact h
    · simp only [A.rel]
  case h_10 => exact mergeBool_rel h

theorem mergeA_true {p q : A} {v : Value} (h : p.rel ν v) : (mergeA true p q).rel ν v := mergeA_rel (x := true) h
theorem mergeA_false {p q : A} {v : Value} (h : q.rel ν v) : (mergeA false p q).rel ν v := mergeA_rel (x := false) h

/-! ### the ways meet -/

mutual
theorem mergeSh_rel {x : Bool} {i : Nat} : ∀ {s t r : Sh} {us : List Value}, mergeSh x s t = some r → (bif x then s else t).rel i us → r.rel i us
  | .int k g, t, r, us, h, hr => by
    simp only [mergeSh] at h
    split at h
    · split at h
      · rename_i k' g' hk
        have hk := kEq_true hk
        subst hk
        simp only [Option.some.injEq] at h
        subst h
        cases x <;> exact hr
      · cases h
    · split at h
      · rename_i k' m' hk
        have hk := kEq_true hk
        subst hk
        simp only [Option.some.injEq] at h
        subst h
        cases x
        · simp only [cond_false, Sh.rel] at hr ⊢
          rw [vof_ofInt hr.2]; exact hr.1
        · exact hr
      · cases h
    · cases h
  | .lit k m, t, r, us, h, hr => by
    simp only [mergeSh] at h
    split at h
    · split at h
      · rename_i k' g' hk
        have hk := kEq_true hk
        subst hk
        simp only [Option.some.injEq] at h
        subst h
        cases x
        · exact hr
        · simp only [cond_true, Sh.rel] at hr ⊢
          rw [vof_ofInt hr.2]; exact hr.1
      · cases h
    · split at h
      · rename_i k' m' hk
        have hk := kEq_true hk
        subst hk
        split at h
        · rename_i hm
          have hm := of_decide_eq_true hm
          subst hm
          simp only [Option.some.injEq] at h
          subst h
          cases x <;> exact hr
        · simp only [Option.some.injEq] at h
          subst h
          cases x
          · simp only [cond_false, Sh.rel] at hr ⊢
            rw [vof_ofInt hr.2]; exact hr.1
          · simp only [cond_true, Sh.rel] at hr ⊢
            rw [vof_ofInt hr.2]; exact hr.1
      · cases h
    · cases h
  | .ints m k g, t, r, us, h, hr => by
    simp only [mergeSh] at h
    split at h
    · split at h
      · rename_i m' k' g' hk
        simp only [Bool.and_eq_true] at hk
        have h1 := beq_true hk.1
        have h2 := kEq_true hk.2
        subst h1 h2
        simp only [Option.some.injEq] at h
        subst h
        cases x <;> exact hr
      · cases h
    · cases h
  | .bools m g, t, r, us, h, hr => by
    simp only [mergeSh] at h
    split at h
    · split at h
      · rename_i m' g' hk
        have h1 := beq_true hk
        subst h1
        simp only [Option.some.injEq] at h
        subst h
        cases x <;> exact hr
      · cases h
    · cases h
  | .bool g, t, r, us, h, hr => by
    simp only [mergeSh] at h
    split at h
    · simp only [Option.some.injEq] at h
      subst h
      cases x <;> exact hr
    · cases h
  | .st fs, t, r, us, h, hr => by
    simp only [mergeSh] at h
    split at h
    · split at h
      · rename_i gs q hq
        simp only [Option.some.injEq] at h
        subst h
        simp only [Sh.rel]
        refine mergeShs_rel hq ?_
        cases x <;> simpa only [cond_true, cond_false, Sh.rel] using hr
      · cases h
    · cases h
theorem mergeShs_rel {x : Bool} {i : Nat} : ∀ {s t r : List Sh} {us : List Value}, mergeShs x s t = some r → relShs i (bif x then s else t) us → relShs i r us
  | [], t, r, us, h, hr => by
    simp only [mergeShs] at h
    split at h
    · simp only [Option.some.injEq] at h
      subst h
      cases x <;> exact hr
    · cases h
  | s :: ss, t, r, us, h, hr => by
    simp only [mergeShs] at h
    split at h
    · cases h
    · rename_i u ts
      split at h
      · rename_i q qs h1 h2
        simp only [Option.some.injEq] at h
        subst h
        simp only [relShs]
        cases x
        · simp only [cond_false, relShs] at hr
          obtain ⟨a, b, e, g1, g2⟩ := hr
          exact ⟨a, b, e, mergeSh_rel (x := false) h1 g1, mergeShs_rel (x := false) h2 g2⟩
        · simp only [cond_true, relShs] at hr
          obtain ⟨a, b, e, g1, g2⟩ := hr
          exact ⟨a, b, e, mergeSh_rel (x := true) h1 g1, mergeShs_rel (x := true) h2 g2⟩
      · cases h
end

/-! ### cells -/

mutual
theorem shRel_cells {i : Nat} : ∀ {s : Sh} {vs : List Value}, s.rel i vs → ∀ v, v ∈ vs → Cell v
  | .int _ _, vs, h, v, hv => by simp only [Sh.rel] at h; subst h; simp at hv; subst hv; trivial
  | .bool _, vs, h, v, hv => by simp only [Sh.rel] at h; subst h; simp at hv; subst hv; trivial
  | .lit _ _, vs, h, v, hv => by simp only [Sh.rel] at h; obtain ⟨rfl, _⟩ := h; simp at hv; subst hv; trivial
  | .ints _ _ _, vs, h, v, hv => by simp only [Sh.rel] at h; subst h; obtain ⟨j, _, rfl⟩ := List.mem_map.1 hv; trivial
  | .bools _ _, vs, h, v, hv => by simp only [Sh.rel] at h; subst h; obtain ⟨j, _, rfl⟩ := List.mem_map.1 hv; trivial
  | .st fs, vs, h, v, hv => by simp only [Sh.rel] at h; exact relShs_cells h v hv
theorem relShs_cells {i : Nat} : ∀ {s : List Sh} {vs : List Value}, relShs i s vs → ∀ v, v ∈ vs → Cell v
  | [], vs, h, v, hv => by simp only [relShs] at h; subst h; simp at hv
  | s :: ss, vs, h, v, hv => by
    simp only [relShs] at h
    obtain ⟨a, b, rfl, h1, h2⟩ := h
    rcases List.mem_append.1 hv with h | h
    · exact shRel_cells h1 v h
    · exact relShs_cells h2 v h
end

mutual
theorem rel_cells : ∀ {t : T} {vs : List Value}, t.rel ν vs → ∀ v, v ∈ vs → Cell v
  | .a x, vs, h, v, hv => by
    simp only [T.rel] at h
    obtain ⟨u, rfl, _, h3⟩ := h
    simp at hv; subst hv; exact h3
  | .st fs, vs, h, v, hv => by simp only [T.rel] at h; exact relTs_cells h v hv
  | .lst s ts, vs, h, v, hv => by simp only [T.rel] at h; exact relLst_cells h v hv
  | .arr s n sh, vs, h, v, hv => by
    simp only [T.rel] at h
    obtain ⟨i, hi, rfl⟩ := List.getElem_of_mem hv
    have hs : 0 < s := by
      cases s with
      | zero => rw [h.1, Nat.zero_mul] at hi; omega
      | succ s => omega
    have hq : i / s < n.val := by rw [Nat.div_lt_iff_lt_mul hs, Nat.mul_comm]; omega
    refine shRel_cells (h.2 (i / s) hq) _ ?_
    have he : s * (i / s) + i % s = i := Nat.div_add_mod i s
    have hm := Nat.mod_lt i hs
    have : vs[i] = ((vs.drop (s * (i / s))).take s)[i % s]'(by rw [List.length_take, List.length_drop]; omega) := by
      simp only [List.getElem_take, List.getElem_drop, he]
    rw [this]
    exact List.getElem_mem _
  | .bad, vs, h, v, hv => by simp only [T.rel] at h; exact h v hv
  | .mp _ _ _, vs, h, v, hv => by simp only [T.rel] at h
theorem relTs_cells : ∀ {ts : List T} {vs : List Value}, relTs ν ts vs → ∀ v, v ∈ vs → Cell v
  | [], vs, h, v, hv => by simp only [relTs] at h; subst h; simp at hv
  | t :: ts, vs, h, v, hv => by
    simp only [relTs] at h
    obtain ⟨a, b, rfl, h1, h2⟩ := h
    rcases List.mem_append.1 hv with h | h
    · exact rel_cells h1 v h
    · exact relTs_cells h2 v h
theorem relLst_cells {s : Nat} : ∀ {ts : List T} {vs : List Value}, relLst ν s ts vs → ∀ v, v ∈ vs → Cell v
  | [], vs, h, v, hv => by simp only [relLst] at h; subst h; simp at hv
  | t :: ts, vs, h, v, hv => by
    simp only [relLst] at h
    obtain ⟨a, b, rfl, _, h1, h2⟩ := h
    rcases List.mem_append.1 hv with h | h
    · exact rel_cells h1 v h
    · exact relLst_cells h2 v h
end

mutual
theorem mergeT_true : ∀ {t u : T} {vs : List Value}, t.rel ν vs → (mergeT true t u).rel ν vs
  | .a p, u, vs, h => by
    simp only [mergeT]
    split
    · simp only [T.rel] at h ⊢
      obtain ⟨v, h1, h2, h3⟩ := h
      exact ⟨v, h1, mergeA_true h2, h3⟩
    · simp only [T.rel]; exact rel_cells h
  | .st fs, u, vs, h => by
    simp only [mergeT]
    split
    · split
      · rename_i gs hl
        simp only [T.rel] at h ⊢
        exact mergeTs_true (beq_true hl) h
      · simp only [T.rel]; exact rel_cells h
    · simp only [T.rel]; exact rel_cells h
  | .lst s ts, u, vs, h => by
    simp only [mergeT]
    split
    · split
      · rename_i s' us hl
        simp only [Bool.and_eq_true] at hl
        simp only [T.rel] at h ⊢
        exact mergeLst_true (beq_true hl.2) h
      · simp only [T.rel]; exact rel_cells h
    · simp only [T.rel]; exact rel_cells h
  | .arr s n sh, u, vs, h => by
    simp only [mergeT]
    split
    · split
      · split
        · rename_i hr
          simp only [T.rel] at h ⊢
          exact ⟨h.1, fun i hi => mergeSh_rel hr (h.2 i hi)⟩
        · simp only [T.rel]; exact rel_cells h
      · simp only [T.rel]; exact rel_cells h
    · simp only [T.rel]; exact rel_cells h
  | .bad, _, _, h => by simp only [mergeT, T.rel]; exact rel_cells h
  | .mp _ _ _, _, _, h => by simp only [mergeT, T.rel]; exact rel_cells h
theorem mergeTs_true : ∀ {ts us : List T} {vs : List Value}, ts.length = us.length → relTs ν ts vs → relTs ν (mergeTs true ts us) vs
  | [], _, vs, _, h => by simpa only [mergeTs] using h
  | t :: ts, [], _, hl, _ => by simp at hl
  | t :: ts, u :: us, vs, hl, h => by
    simp only [mergeTs, relTs] at h ⊢
    obtain ⟨a, b, e, h1, h2⟩ := h
    exact ⟨a, b, e, mergeT_true h1, mergeTs_true (by simpa using hl) h2⟩
theorem mergeLst_true {s : Nat} : ∀ {ts us : List T} {vs : List Value}, ts.length = us.length → relLst ν s ts vs → relLst ν s (mergeTs true ts us) vs
  | [], _, vs, _, h => by simpa only [mergeTs] using h
  | t :: ts, [], _, hl, _ => by simp at hl
  | t :: ts, u :: us, vs, hl, h => by
    simp only [mergeTs, relLst] at h ⊢
    obtain ⟨a, b, e, h0, h1, h2⟩ := h
    exact ⟨a, b, e, h0, mergeT_true h1, mergeLst_true (by simpa using hl) h2⟩
end

mutual
theorem mergeT_false : ∀ {t u : T} {vs : List Value}, u.rel ν vs → (mergeT false t u).rel ν vs
  | .a p, u, vs, h => by
    simp only [mergeT]
    split
    · simp only [T.rel] at h ⊢
      obtain ⟨v, h1, h2, h3⟩ := h
      exact ⟨v, h1, mergeA_false h2, h3⟩
    · simp only [T.rel]; exact rel_cells h
  | .st fs, u, vs, h => by
    simp only [mergeT]
    split
    · split
      · rename_i gs hl
        simp only [T.rel] at h ⊢
        exact mergeTs_false (beq_true hl) h
      · simp only [T.rel]; exact rel_cells h
    · simp only [T.rel]; exact rel_cells h
  | .lst s ts, u, vs, h => by
    simp only [mergeT]
    split
    · split
      · rename_i s' us hl
        simp only [Bool.and_eq_true] at hl
        have := beq_true hl.1
        subst this
        simp only [T.rel] at h ⊢
        exact mergeLst_false (beq_true hl.2) h
      · simp only [T.rel]; exact rel_cells h
    · simp only [T.rel]; exact rel_cells h
  | .arr s n sh, u, vs, h => by
    simp only [mergeT]
    split
    · split
      · rename_i hc
        simp only [Bool.and_eq_true] at hc
        have h1 := beq_true hc.1
        have h2 := ixEq_val hc.2
        subst h1
        split
        · rename_i hr
          simp only [T.rel] at h ⊢
          rw [h2]
          exact ⟨h.1, fun i hi => mergeSh_rel (x := false) hr (h.2 i hi)⟩
        · simp only [T.rel]; exact rel_cells h
      · simp only [T.rel]; exact rel_cells h
    · simp only [T.rel]; exact rel_cells h
  | .bad, _, _, h => by simp only [mergeT, T.rel]; exact rel_cells h
  | .mp _ _ _, _, _, h => by simp only [mergeT, T.rel]; exact rel_cells h
theorem mergeTs_false : ∀ {ts us : List T} {vs : List Value}, ts.length = us.length → relTs ν us vs → relTs ν (mergeTs false ts us) vs
  | [], [], vs, _, h => by simpa only [mergeTs] using h
  | [], _ :: _, vs, hl, h => by simp at hl
  | t :: ts, [], _, hl, _ => by simp at hl
  | t :: ts, u :: us, vs, hl, h => by
    simp only [mergeTs, relTs] at h ⊢
    obtain ⟨a, b, e, h1, h2⟩ := h
    exact ⟨a, b, e, mergeT_false h1, mergeTs_false (by simpa using hl) h2⟩
theorem mergeLst_false {s : Nat} : ∀ {ts us : List T} {vs : List Value}, ts.length = us.length → relLst ν s us vs → relLst ν s (mergeTs false ts us) vs
  | [], [], vs, _, h => by simpa only [mergeTs] using h
  | [], _ :: _, vs, hl, h => by simp at hl
  | t :: ts, [], _, hl, _ => by simp at hl
  | t :: ts, u :: us, vs, hl, h => by
    simp only [mergeTs, relLst] at h ⊢
    obtain ⟨a, b, e, h0, h1, h2⟩ := h
    exact ⟨a, b, e, h0, mergeT_false h1, mergeLst_false (by simpa using hl) h2⟩
end

theorem mergeT_rel {x : Bool} {t u : T} {vs : List Value} (h : (bif x then t else u).rel ν vs) : (mergeT x t u).rel ν vs := by
  cases x
  · exact mergeT_false h
  · exact mergeT_true h

theorem mergeT_relV {x : Bool} {t u : T} {v : Value} (h : (bif x then t else u).relV ν v) : (mergeT x t u).relV ν v := by
  cases x
  · simp only [cond_false] at h
    cases t with
    | a p =>
      simp only [mergeT]
      split
      · exact mergeA_false h
      · trivial
    | bad => simp only [mergeT]; trivial
    | mp _ _ _ => simp only [mergeT]; trivial
    | st fs =>
      simp only [mergeT]
      split
      · split
        · rename_i gs hl
          obtain ⟨vs, h1, h2⟩ := h
          exact ⟨vs, h1, by simp only [T.rel] at h2 ⊢; exact mergeTs_false (beq_true hl) h2⟩
        · trivial
      · trivial
    | lst s ts =>
      simp only [mergeT]
      split
      · rename_i s' us
        split
        · rename_i hl
          obtain ⟨vs, h1, h2⟩ := h
          have := mergeT_false (t := .lst s ts) (u := .lst s' us) h2
          simp only [mergeT, hl] at this
          exact ⟨vs, h1, this⟩
        · trivial
      · trivial
    | arr s n sh =>
      simp only [mergeT]
      split
      · rename_i s' n' sh'
        split
        · rename_i hl
          split
          · rename_i r hr
            obtain ⟨vs, h1, h2⟩ := h
            have := mergeT_false (t := .arr s n sh) (u := .arr s' n' sh') h2
            simp only [mergeT, hl, hr] at this
            exact ⟨vs, h1, this⟩
          · trivial
        · trivial
      · trivial
  · simp only [cond_true] at h
    cases t with
    | a p =>
      simp only [mergeT]
      split
      · exact mergeA_true h
      · trivial
    | bad => simp only [mergeT]; trivial
    | mp _ _ _ => simp only [mergeT]; trivial
    | st fs =>
      simp only [mergeT]
      split
      · split
        · rename_i gs hl
          obtain ⟨vs, h1, h2⟩ := h
          exact ⟨vs, h1, by simp only [T.rel] at h2 ⊢; exact mergeTs_true (beq_true hl) h2⟩
        · trivial
      · trivial
    | lst s ts =>
      simp only [mergeT]
      split
      · rename_i s' us
        split
        · rename_i hl
          obtain ⟨vs, h1, h2⟩ := h
          have := mergeT_true (t := .lst s ts) (u := .lst s' us) h2
          simp only [mergeT, hl] at this
          exact ⟨vs, h1, this⟩
        · trivial
      · trivial
    | arr s n sh =>
      simp only [mergeT]
      split
      · rename_i s' n' sh'
        split
        · rename_i hl
          split
          · rename_i r hr
            obtain ⟨vs, h1, h2⟩ := h
            have := mergeT_true (t := .arr s n sh) (u := .arr s' n' sh') h2
            simp only [mergeT, hl, hr] at this
            exact ⟨vs, h1, this⟩
          · trivial
        · trivial
      · trivial

theorem mergeTL_rel {x : Bool} : ∀ {p q r : List T} {vs : List Value}, mergeTL x p q = some r → relVs ν (bif x then p else q) vs → relVs ν r vs
  | [], [], r, vs, h, hr => by
    simp [mergeTL] at h; subst h
    cases x <;> exact hr
  | a :: p, b :: q, r, vs, h, hr => by
    simp only [mergeTL] at h
    split at h
    · rename_i r' h1
      simp only [Option.some.injEq] at h
      subst h
      cases vs with
      | nil => cases x <;> exact hr.elim
      | cons v vs =>
        refine ⟨mergeT_relV ?_, mergeTL_rel h1 ?_⟩
        · cases x <;> exact hr.1
        · cases x <;> exact hr.2
    · cases h
  | [], _ :: _, _, _, h, _ => by simp [mergeTL] at h
  | _ :: _, [], _, _, h, _ => by simp [mergeTL] at h

theorem mergeV_rel {x : Bool} {p q : V} {v : Value} (h : (bif x then p else q).rel ν v) : (mergeV x p q).rel ν v := by
  unfold mergeV
  split
  · rename_i t u
    refine mergeT_relV ?_
    cases x <;> exact h
  · rename_i ts us
    split
    · rename_i r hr
      have : ∃ vs, v = .tuple vs ∧ relVs ν (bif x then ts else us) vs.toList := by cases x <;> exact h
      obtain ⟨vs, h1, h2⟩ := this
      exact ⟨vs, h1, mergeTL_rel hr h2⟩
    · trivial
  · trivial
end Go.WE
