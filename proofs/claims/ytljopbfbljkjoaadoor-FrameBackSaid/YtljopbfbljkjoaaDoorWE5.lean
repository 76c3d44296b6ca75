/- WE5: into values by a path, and values that are changed at a place. -/
import Derived.Test.YtljopbfbljkjoaaDoorWE4
namespace Go.WE
open Go

variable {ν : Nu}

theorem andOk_left {x y : A} (h : okB (andOk x y) = true) : okB x = true := by
  unfold andOk at h
  split at h
  · rfl
  · exact h
  · simp only [okB, Bool.and_eq_true] at h; exact h.1
  · rw [show okB (A.b (okB x && okB y)) = (okB x && okB y) from rfl, Bool.and_eq_true] at h; exact h.1
theorem andOk_right {x y : A} (h : okB (andOk x y) = true) : okB y = true := by
  unfold andOk at h
  split at h
  · exact h
  · rfl
  · simp only [okB, Bool.and_eq_true] at h; exact h.2
  · rw [show okB (A.b (okB x && okB y)) = (okB x && okB y) from rfl, Bool.and_eq_true] at h; exact h.2

theorem optEqN_eq {a b : Option Nat} (h : optEqN a b = true) : a = b ∧ ∃ n, a = some n := by
  unfold optEqN at h
  split at h
  · rw [beq_true h]; exact ⟨rfl, _, rfl⟩
  · cases h

theorem relLst_length {s : Nat} : ∀ {ts : List T} {vs : List Value}, relLst ν s ts vs → vs.length = s * ts.length
  | [], _, h => by simp only [relLst] at h; subst h; simp
  | t :: ts, _, h => by
    simp only [relLst] at h
    obtain ⟨us, ws, rfl, h1, _, h3⟩ := h
    rw [List.length_append, h1, relLst_length h3, List.length_cons, Nat.mul_succ, Nat.add_comm]

mutual
theorem size_length : ∀ {t : T} {n : Nat} {vs : List Value}, t.size = some n → t.rel ν vs → vs.length = n
  | .a x, n, vs, hs, h => by
    simp only [T.size, Option.some.injEq] at hs
    simp only [T.rel] at h
    obtain ⟨v, rfl, _⟩ := h
    simpa using hs
  | .st fs, n, vs, hs, h => by
    simp only [T.size] at hs
    simp only [T.rel] at h
    exact sizeTs_length hs h
  | .lst s ts, n, vs, hs, h => by
    simp only [T.size, Option.some.injEq] at hs
    simp only [T.rel] at h
    rw [relLst_length h, hs]
  | .arr s i sh, n, vs, hs, h => by
    simp only [T.rel] at h
    cases i with
    | lit m => simp only [T.size, Option.some.injEq] at hs; rw [h.1, ← hs]; rfl
    | sym m => simp only [T.size] at hs; cases hs
  | .bad, n, vs, hs, h => by simp only [T.size] at hs; cases hs
  | .mp _ _ _, n, vs, hs, h => by simp only [T.size] at hs; cases hs
theorem sizeTs_length : ∀ {ts : List T} {n : Nat} {vs : List Value}, sizeTs ts = some n → relTs ν ts vs → vs.length = n
  | [], n, vs, hs, h => by
    simp only [sizeTs, Option.some.injEq] at hs
    simp only [relTs] at h
    subst h hs
    rfl
  | t :: ts, n, vs, hs, h => by
    simp only [sizeTs] at hs
    simp only [relTs] at h
    split at hs
    · rename_i a b ha hb
      simp only [Option.some.injEq] at hs
      obtain ⟨us, ws, rfl, h1, h2⟩ := h
      rw [List.length_append, size_length ha h1, sizeTs_length hb h2, hs]
    · cases hs
end

theorem relTs_at : ∀ {fs : List T} {k : Nat} {t : T} {vs : List Value}, fs[k]? = some t → relTs ν fs vs →
    ∃ a us b, vs = a ++ us ++ b ∧ relTs ν (fs.take k) a ∧ t.rel ν us ∧ ∀ t' us', t'.rel ν us' → relTs ν (fs.set k t') (a ++ us' ++ b)
  | [], _, _, _, h, _ => by simp at h
  | f :: fs, 0, t, vs, h, hr => by
    simp only [List.getElem?_cons_zero, Option.some.injEq] at h
    subst h
    simp only [relTs] at hr
    obtain ⟨us, ws, rfl, h1, h2⟩ := hr
    refine ⟨[], us, ws, by simp, by simp [relTs], h1, fun t' us' h' => ?_⟩
    simp only [List.set_cons_zero, relTs]
    exact ⟨us', ws, by simp, h', h2⟩
  | f :: fs, k + 1, t, vs, h, hr => by
    simp only [List.getElem?_cons_succ] at h
    simp only [relTs] at hr
    obtain ⟨us, ws, rfl, h1, h2⟩ := hr
    obtain ⟨a, x, b, rfl, h3, h4, h5⟩ := relTs_at h h2
    refine ⟨us ++ a, x, b, by simp, ?_, h4, fun t' us' h' => ?_⟩
    · simp only [List.take_succ_cons, relTs]; exact ⟨us, a, rfl, h1, h3⟩
    · simp only [List.set_cons_succ, relTs]; exact ⟨us, a ++ us' ++ b, by simp, h1, h5 t' us' h'⟩

theorem relLst_at {s : Nat} : ∀ {ts : List T} {k : Nat} {t : T} {vs : List Value}, ts[k]? = some t → relLst ν s ts vs →
    ∃ a us b, vs = a ++ us ++ b ∧ a.length = s * k ∧ us.length = s ∧ t.rel ν us ∧ ∀ t' us', us'.length = s → t'.rel ν us' → relLst ν s (ts.set k t') (a ++ us' ++ b)
  | [], _, _, _, h, _ => by simp at h
  | f :: fs, 0, t, vs, h, hr => by
    simp only [List.getElem?_cons_zero, Option.some.injEq] at h
    subst h
    simp only [relLst] at hr
    obtain ⟨us, ws, rfl, h0, h1, h2⟩ := hr
    refine ⟨[], us, ws, by simp, by simp, h0, h1, fun t' us' h' h'' => ?_⟩
    simp only [List.set_cons_zero, relLst]
    exact ⟨us', ws, by simp, h', h'', h2⟩
  | f :: fs, k + 1, t, vs, h, hr => by
    simp only [List.getElem?_cons_succ] at h
    simp only [relLst] at hr
    obtain ⟨us, ws, rfl, h0, h1, h2⟩ := hr
    obtain ⟨a, x, b, rfl, h3, h4, h5, h6⟩ := relLst_at h h2
    refine ⟨us ++ a, x, b, by simp, ?_, h4, h5, fun t' us' h' h'' => ?_⟩
    · rw [List.length_append, h0, h3, Nat.mul_succ, Nat.add_comm]
    · simp only [List.set_cons_succ, relLst]; exact ⟨us, a ++ us' ++ b, by simp, h0, h1, h6 t' us' h' h''⟩

theorem muxT_rel {u : T} {vs : List Value} : ∀ {us : List T} {n j : Nat}, us[n]? = some u → u.rel ν vs → (muxT (j + n) j us).rel ν vs
  | [], _, _, h, _ => by simp at h
  | [t], n, j, h, hr => by
    cases n with
    | zero => simp at h; subst h; exact hr
    | succ n => simp at h
  | t :: t2 :: ts, 0, j, h, hr => by
    simp at h; subst h
    simp only [muxT]
    refine mergeT_rel ?_
    rw [show Nat.beq (j + 0) j = true from beq_self j]
    exact hr
  | t :: t2 :: ts, n + 1, j, h, hr => by
    simp only [List.getElem?_cons_succ] at h
    simp only [muxT]
    refine mergeT_rel ?_
    have hne : Nat.beq (j + (n + 1)) j = false := by
      cases hb : Nat.beq (j + (n + 1)) j
      · rfl
      · have := beq_true hb; omega
    rw [hne]
    have := muxT_rel (us := t2 :: ts) (n := n) (j := j + 1) h hr
    rwa [show j + 1 + n = j + (n + 1) by omega] at this

theorem mapM_get {α β : Type} {f : α → Option β} : ∀ {l : List α} {r : List β}, l.mapM f = some r → r.length = l.length ∧ ∀ (n : Nat) (x : α), l[n]? = some x → ∃ y, r[n]? = some y ∧ f x = some y
  | [], r, h => by simp at h; subst h; simp
  | a :: l, r, h => by
    simp only [List.mapM_cons, Option.bind_eq_bind, Option.pure_def, Option.bind_eq_some_iff, Option.some.injEq] at h
    obtain ⟨y, h1, ys, h2, rfl⟩ := h
    obtain ⟨g1, g2⟩ := mapM_get h2
    refine ⟨by simp [g1], fun n x hx => ?_⟩
    cases n with
    | zero => simp at hx; subst hx; exact ⟨y, by simp, h1⟩
    | succ n => simpa using g2 n x (by simpa using hx)

theorem foldr_ok {p : List Step} : ∀ {ts : List T}, okB (ts.foldr (fun t a => andOk (pathOk p t) a) .tt) = true → ∀ (n : Nat) (t : T), ts[n]? = some t → okB (pathOk p t) = true
  | [], _, _, _, h => by simp at h
  | f :: ts, h, n, t, ht => by
    simp only [List.foldr_cons] at h
    cases n with
    | zero => simp at ht; subst ht; exact andOk_left h
    | succ n => exact foldr_ok (andOk_right h) n t (by simpa using ht)

theorem arr_one {m : Nat} {f : Nat → Value} {P : Nat → List Value → Prop} (hP : ∀ j, j < m → P j [f j]) : ((List.range m).map f).length = 1 * m ∧ ∀ j, j < m → P j ((((List.range m).map f).drop (1 * j)).take 1) := by
  refine ⟨by simp, fun j hj => ?_⟩
  have e : (((List.range m).map f).drop (1 * j)).take 1 = [f j] := by
    rw [Nat.one_mul]
    apply List.ext_getElem?
    intro i
    cases i with
    | zero => simp [hj]
    | succ i => simp [List.getElem?_take]
  rw [e]
  exact hP j hj

theorem arr_one_inv {m : Nat} {f : Nat → Value} {vs : List Value} (hl : vs.length = 1 * m) (h : ∀ j, j < m → (vs.drop (1 * j)).take 1 = [f j]) : vs = (List.range m).map f := by
  apply List.ext_getElem?
  intro j
  by_cases hj : j < m
  · have := h j hj
    rw [Nat.one_mul] at this
    have h2 : ((vs.drop j).take 1)[0]? = some (f j) := by rw [this]; rfl
    rw [List.getElem?_take] at h2
    simp at h2
    simp [h2, hj]
  · rw [List.getElem?_eq_none (by omega), List.getElem?_eq_none (by simp; omega)]

theorem fnI_rel {m : Nat} {k : IntKind} {t : T} {h : Nat → BitVec 64} {vs : List Value} (he : fnI m k t = some h) (hr : t.rel ν vs) : vs = (List.range m).map fun j => .int k (vof k (h j)) := by
  unfold fnI at he
  split at he
  · rename_i s n sh
    split at he
    · rename_i hc
      simp only [Bool.and_eq_true] at hc
      have h1 := beq_true hc.1
      have h2 := ixEq_val hc.2
      subst h1
      split at he
      · split at he
        · rename_i k' h' hk
          have hk := kEq_true hk
          subst hk
          simp only [Option.some.injEq] at he
          subst he
          simp only [T.rel, Sh.rel] at hr
          rw [h2] at hr
          exact arr_one_inv hr.1 hr.2
        · cases he
      · cases he
    · cases he
  · rename_i s ts
    split at he
    · rename_i hc
      simp only [Bool.and_eq_true] at hc
      have h1 := beq_true hc.1
      have h2 := beq_true hc.2
      subst h1 h2
      split at he
      · rename_i k' c r
        split at he
        · rename_i hk
          simp only [Bool.and_eq_true] at hk
          have hk1 := kEq_true hk.1
          subst hk1
          simp only [Option.some.injEq] at he
          subst he
          have key : ∀ (l : List T) (us : List Value), allLit k c l = true → relLst ν 1 l us → us = List.replicate l.length (.int k c) ∧ (l ≠ [] → k.wrap c = c) := by
            intro l
            induction l with
            | nil => intro us _ hu; simp only [relLst] at hu; subst hu; exact ⟨rfl, fun h => absurd rfl h⟩
            | cons x l ih =>
              intro us hl hu
              unfold allLit at hl
              split at hl
              · rename_i e; cases e
              · rename_i k2 n2 r2 e
                simp only [List.cons.injEq] at e
                obtain ⟨rfl, rfl⟩ := e
                simp only [Bool.and_eq_true, decide_eq_true_eq] at hl
                obtain ⟨⟨g1, rfl⟩, g3⟩ := hl
                have g1 := kEq_true g1
                subst g1
                simp only [relLst, T.rel] at hu
                obtain ⟨a, b, rfl, _, ⟨v, rfl, hv, _⟩, hb⟩ := hu
                simp only [A.rel] at hv
                obtain ⟨rfl, hw⟩ := hv
                rw [(ih b g3 hb).1]
                exact ⟨rfl, fun _ => hw⟩
              · cases hl
          simp only [T.rel] at hr
          have hall : allLit k c (.a (.lit k c) :: r) = true := by
            simp only [allLit, Bool.and_eq_true]
            exact ⟨⟨hk.1, by simp⟩, hk.2⟩
          obtain ⟨e1, e2⟩ := key _ _ hall hr
          have e3 := vof_ofInt (e2 (by simp))
          rw [e1]
          simp only [e3]
          simp [List.map_const']
        · cases he
      · cases he
    · cases he
  · cases he

theorem fnB_rel {m : Nat} {t : T} {h : Nat → Bool} {vs : List Value} (he : fnB m t = some h) (hr : t.rel ν vs) : vs = (List.range m).map fun j => .bool (h j) := by
  unfold fnB at he
  split at he
  · rename_i s n sh
    split at he
    · rename_i hc
      simp only [Bool.and_eq_true] at hc
      have h1 := beq_true hc.1
      have h2 := ixEq_val hc.2
      subst h1
      split at he
      · simp only [Option.some.injEq] at he
        subst he
        simp only [T.rel, Sh.rel] at hr
        rw [h2] at hr
        exact arr_one_inv hr.1 hr.2
      · cases he
    · cases he
  · rename_i s ts
    split at he
    · rename_i hc
      simp only [Bool.and_eq_true] at hc
      have h1 := beq_true hc.1.1
      have h2 := beq_true hc.1.2
      subst h1 h2
      simp only [Option.some.injEq] at he
      subst he
      have key : ∀ (l : List T) (us : List Value), allFf l = true → relLst ν 1 l us → us = List.replicate l.length (.bool false) := by
        intro l
        induction l with
        | nil => intro us _ hu; simp only [relLst] at hu; subst hu; rfl
        | cons x l ih =>
          intro us hl hu
          unfold allFf at hl
          split at hl
          · rename_i e; cases e
          · rename_i r2 e
            simp only [List.cons.injEq] at e
            obtain ⟨rfl, rfl⟩ := e
            simp only [relLst, T.rel] at hu
            obtain ⟨a, b, rfl, _, ⟨v, rfl, hv, _⟩, hb⟩ := hu
            simp only [A.rel] at hv
            subst hv
            rw [ih b hl hb]
            rfl
          · cases hl
      simp only [T.rel] at hr
      rw [key _ _ hc.2 hr]
      simp [List.map_const']
    · cases he
  · cases he

mutual
theorem elemT_rel {i : Nat} : ∀ {sh : Sh} {us : List Value}, sh.rel i us → (elemT sh i).rel ν us
  | .int k g, us, h => by
    simp only [Sh.rel] at h
    simp only [elemT, T.rel]
    exact ⟨_, h, by simp only [A.rel], trivial⟩
  | .bool g, us, h => by
    simp only [Sh.rel] at h
    simp only [elemT, T.rel]
    exact ⟨_, h, by simp only [A.rel], trivial⟩
  | .lit k m, us, h => by
    simp only [Sh.rel] at h
    simp only [elemT, T.rel]
    exact ⟨_, h.1, by simp only [A.rel]; exact ⟨trivial, h.2⟩, trivial⟩
  | .ints m k g, us, h => by
    simp only [Sh.rel] at h
    simp only [elemT, T.rel]
    subst h
    exact arr_one (fun j _ => by simp only [Sh.rel])
  | .bools m g, us, h => by
    simp only [Sh.rel] at h
    simp only [elemT, T.rel]
    subst h
    exact arr_one (fun j _ => by simp only [Sh.rel])
  | .st fs, us, h => by
    simp only [Sh.rel] at h
    simp only [elemT, T.rel]
    exact elemTs_rel h
theorem elemTs_rel {i : Nat} : ∀ {sh : List Sh} {us : List Value}, relShs i sh us → relTs ν (elemTs sh i) us
  | [], us, h => by
    simp only [relShs] at h
    simpa only [elemTs, relTs] using h
  | s :: ss, us, h => by
    simp only [relShs] at h
    obtain ⟨a, b, e, h1, h2⟩ := h
    simp only [elemTs, relTs]
    exact ⟨a, b, e, elemT_rel h1, elemTs_rel h2⟩
end

theorem arr_at {s n i : Nat} (vs : List Value) (hl : vs.length = s * n) (hi : i < n) :
    vs = vs.take (s * i) ++ (vs.drop (s * i)).take s ++ vs.drop (s * i + s) ∧ (vs.take (s * i)).length = s * i ∧ ((vs.drop (s * i)).take s).length = s := by
  have h1 : s * i + s ≤ s * n := by rw [← Nat.mul_succ]; exact Nat.mul_le_mul_left s hi
  refine ⟨?_, ?_, ?_⟩
  · rw [List.append_assoc, ← List.drop_drop, List.take_append_drop, List.take_append_drop]
  · rw [List.length_take]; omega
  · rw [List.length_take, List.length_drop]; omega

theorem blt_lt {a b : Nat} (h : Nat.blt a b = true) : a < b := by simp [Nat.blt] at h; omega

theorem arrOk {n i : Ix} (h : okB (match i, n with
      | .lit a, .lit b => ofDec (Nat.blt a b)
      | a, b => .b (Nat.blt a.val b.val)) = true) : i.val < n.val := by
  cases i <;> cases n <;> simp only at h
  · rename_i a b
    cases hb : Nat.blt a b
    · rw [hb] at h; cases h
    · exact blt_lt hb
  all_goals exact blt_lt h

theorem subT_rel : ∀ {p : List Step} {t u : T} {vs : List Value}, subT p t = some u → okB (pathOk p t) = true → t.rel ν vs →
    ∃ a us b, vs = a ++ us ++ b ∧ a.length = pathOff p ∧ u.rel ν us
  | [], t, u, vs, h, _, hr => by
    simp only [subT, Option.some.injEq] at h
    subst h
    exact ⟨[], vs, [], by simp, rfl, hr⟩
  | .f k off :: p, .st fs, u, vs, h, hok, hr => by
    simp only [subT] at h
    split at h
    · rename_i hs
      split at h
      · rename_i t ht
        simp only [T.rel] at hr
        obtain ⟨a, us, b, rfl, h1, h2, _⟩ := relTs_at ht hr
        simp only [pathOk, ht] at hok
        obtain ⟨a', us', b', rfl, h3, h4⟩ := subT_rel h hok h2
        refine ⟨a ++ a', us', b' ++ b, by simp, ?_, h4⟩
        rw [List.length_append, h3, sizeTs_length (optEqN_eq hs).1 h1]
        rfl
      · cases h
    · cases h
  | .x s' i :: p, .lst s ts, u, vs, h, hok, hr => by
    simp only [subT] at h
    split at h
    · cases h
    · rename_i hs
      have hs := beq_true hs
      subst hs
      simp only [T.rel] at hr
      split at h
      · rename_i n
        split at h
        · rename_i t ht
          obtain ⟨a, us, b, rfl, h1, _, h2, _⟩ := relLst_at ht hr
          simp only [pathOk, ht] at hok
          obtain ⟨a', us', b', rfl, h3, h4⟩ := subT_rel h hok h2
          exact ⟨a ++ a', us', b' ++ b, by simp, by rw [List.length_append, h3, h1]; rfl, h4⟩
        · cases h
      · rename_i n
        split at h
        · rename_i us hus
          simp only [Option.some.injEq] at h
          subst h
          simp only [pathOk] at hok
          have hn := blt_lt (andOk_left hok)
          obtain ⟨t, ht⟩ : ∃ t, ts[n]? = some t := ⟨_, List.getElem?_eq_getElem hn⟩
          obtain ⟨a, cs, b, rfl, h1, _, h2, _⟩ := relLst_at ht hr
          obtain ⟨y, hy, hsub⟩ := (mapM_get hus).2 n t ht
          obtain ⟨a', us', b', rfl, h3, h4⟩ := subT_rel hsub (foldr_ok (andOk_right hok) n t ht) h2
          refine ⟨a ++ a', us', b' ++ b, by simp, by rw [List.length_append, h3, h1]; rfl, ?_⟩
          have := muxT_rel (j := 0) hy h4
          rwa [Nat.zero_add] at this
        · cases h
  | .x s' i :: p, .arr s n sh, u, vs, h, hok, hr => by
    simp only [subT] at h
    split at h
    · rename_i hs
      have hs := beq_true hs
      subst hs
      simp only [pathOk] at hok
      have hi := arrOk (andOk_left hok)
      simp only [T.rel] at hr
      obtain ⟨e1, e2, e3⟩ := arr_at vs hr.1 hi
      obtain ⟨a', us', b', e4, h3, h4⟩ := subT_rel h (andOk_right hok) (elemT_rel (ν := ν) (hr.2 i.val hi))
      refine ⟨vs.take (s * i.val) ++ a', us', b' ++ vs.drop (s * i.val + s), ?_, ?_, h4⟩
      · conv => lhs; rw [e1, e4]
        simp
      · rw [List.length_append, e2, h3]; rfl
    · cases h
  | .f _ _ :: _, .a _, _, _, h, _, _ => by simp [subT] at h
  | .f _ _ :: _, .lst _ _, _, _, h, _, _ => by simp [subT] at h
  | .f _ _ :: _, .arr _ _ _, _, _, h, _, _ => by simp [subT] at h
  | .f _ _ :: _, .bad, _, _, h, _, _ => by simp [subT] at h
  | .f _ _ :: _, .mp _ _ _, _, _, h, _, _ => by simp [subT] at h
  | .x _ _ :: _, .a _, _, _, h, _, _ => by simp [subT] at h
  | .x _ _ :: _, .st _, _, _, h, _, _ => by simp [subT] at h
  | .x _ _ :: _, .bad, _, _, h, _, _ => by simp [subT] at h
  | .x _ _ :: _, .mp _ _ _, _, _, h, _, _ => by simp [subT] at h
mutual
theorem setE_same {n : Nat} : ∀ {sh r : Sh} {t : T} {us : List Value}, setE sh n t = some r → t.rel ν us → r.rel n us
  | .int k g, r, t, us, h, hr => by
    simp only [setE, setSh] at h
    split at h
    · rename_i x
      split at h
      · rename_i k' y hx
        split at h
        · rename_i hk
          simp only [Option.some.injEq] at h
          subst h
          simp only [T.rel] at hr
          obtain ⟨v, rfl, h1, _⟩ := hr
          have := kEq_true hk
          subst this
          simp only [Sh.rel]
          rw [A.rel_bv h1 hx, beq_self]
          rfl
        · cases h
      · cases h
    · cases h
  | .bool g, r, t, us, h, hr => by
    simp only [setE, setSh] at h
    split at h
    · rename_i x
      split at h
      · rename_i y hx
        simp only [Option.some.injEq] at h
        subst h
        simp only [T.rel] at hr
        obtain ⟨v, rfl, h1, _⟩ := hr
        simp only [Sh.rel]
        rw [A.rel_bool h1 hx, beq_self]
        rfl
      · cases h
    · cases h
  | .lit k m, r, t, us, h, hr => by
    simp only [setE, setSh] at h
    split at h
    · rename_i x
      simp only [T.rel] at hr
      obtain ⟨v, rfl, h1, _⟩ := hr
      split at h
      · split at h
        · rename_i k' m' hk
          have := kEq_true hk
          subst this
          simp only [A.rel] at h1
          obtain ⟨rfl, hw⟩ := h1
          split at h
          · rename_i hm
            have hm := of_decide_eq_true hm
            subst hm
            simp only [Option.some.injEq] at h
            subst h
            simp only [Sh.rel]
            exact ⟨trivial, hw⟩
          · simp only [Option.some.injEq] at h
            subst h
            simp only [Sh.rel, beq_self, cond_true]
            rw [vof_ofInt hw]
        · cases h
      · split at h
        · rename_i k' y hk
          have := kEq_true hk
          subst this
          simp only [A.rel] at h1
          subst h1
          simp only [Option.some.injEq] at h
          subst h
          simp only [Sh.rel, beq_self, cond_true]
        · cases h
      · cases h
    · cases h
  | .ints m k g, r, t, us, h, hr => by
    simp only [setE, setSh] at h
    split at h
    · rename_i f hf
      simp only [Option.some.injEq] at h
      subst h
      simp only [Sh.rel, beq_self, cond_true]
      exact fnI_rel hf hr
    · cases h
  | .bools m g, r, t, us, h, hr => by
    simp only [setE, setSh] at h
    split at h
    · rename_i f hf
      simp only [Option.some.injEq] at h
      subst h
      simp only [Sh.rel, beq_self, cond_true]
      exact fnB_rel hf hr
    · cases h
  | .st fs, r, t, us, h, hr => by
    simp only [setE] at h
    split at h
    · rename_i ts
      split at h
      · rename_i q hq
        simp only [Option.some.injEq] at h
        subst h
        simp only [T.rel] at hr
        simp only [Sh.rel]
        exact setEs_same hq hr
      · cases h
    · cases h
theorem setEs_same {n : Nat} : ∀ {sh r : List Sh} {t : List T} {us : List Value}, setEs sh n t = some r → relTs ν t us → relShs n r us
  | [], r, t, us, h, hr => by
    simp only [setEs] at h
    split at h
    · simp only [Option.some.injEq] at h
      subst h
      simp only [relTs] at hr
      simpa only [relShs] using hr
    · cases h
  | s :: ss, r, t, us, h, hr => by
    simp only [setEs] at h
    split at h
    · cases h
    · rename_i t ts
      split at h
      · rename_i q qs h1 h2
        simp only [Option.some.injEq] at h
        subst h
        simp only [relTs] at hr
        obtain ⟨a, b, e, g1, g2⟩ := hr
        simp only [relShs]
        exact ⟨a, b, e, setE_same h1 g1, setEs_same h2 g2⟩
      · cases h
end

mutual
theorem setE_other {n i : Nat} (hne : i ≠ n) : ∀ {sh r : Sh} {t : T} {us : List Value}, setE sh n t = some r → sh.rel i us → r.rel i us
  | .int k g, r, t, us, h, hr => by
    simp only [setE, setSh] at h
    split at h
    · split at h
      · split at h
        · simp only [Option.some.injEq] at h
          subst h
          simp only [Sh.rel] at hr ⊢
          rw [show Nat.beq i n = false from by cases hb : Nat.beq i n; rfl; exact absurd (beq_true hb) hne]
          exact hr
        · cases h
      · cases h
    · cases h
  | .bool g, r, t, us, h, hr => by
    simp only [setE, setSh] at h
    split at h
    · split at h
      · simp only [Option.some.injEq] at h
        subst h
        simp only [Sh.rel] at hr ⊢
        rw [show Nat.beq i n = false from by cases hb : Nat.beq i n; rfl; exact absurd (beq_true hb) hne]
        exact hr
      · cases h
    · cases h
  | .lit k m, r, t, us, h, hr => by
    have hb : Nat.beq i n = false := by cases hb : Nat.beq i n; rfl; exact absurd (beq_true hb) hne
    simp only [Sh.rel] at hr
    simp only [setE, setSh] at h
    split at h
    · split at h
      · split at h
        · split at h
          · simp only [Option.some.injEq] at h
            subst h
            simp only [Sh.rel]
            exact hr
          · simp only [Option.some.injEq] at h
            subst h
            simp only [Sh.rel, hb, cond_false]
            rw [vof_ofInt hr.2]; exact hr.1
        · cases h
      · split at h
        · simp only [Option.some.injEq] at h
          subst h
          simp only [Sh.rel, hb, cond_false]
          rw [vof_ofInt hr.2]; exact hr.1
        · cases h
      · cases h
    · cases h
  | .ints m k g, r, t, us, h, hr => by
    have hb : Nat.beq i n = false := by cases hb : Nat.beq i n; rfl; exact absurd (beq_true hb) hne
    simp only [setE, setSh] at h
    split at h
    · simp only [Option.some.injEq] at h
      subst h
      simp only [Sh.rel, hb, cond_false] at hr ⊢
      exact hr
    · cases h
  | .bools m g, r, t, us, h, hr => by
    have hb : Nat.beq i n = false := by cases hb : Nat.beq i n; rfl; exact absurd (beq_true hb) hne
    simp only [setE, setSh] at h
    split at h
    · simp only [Option.some.injEq] at h
      subst h
      simp only [Sh.rel, hb, cond_false] at hr ⊢
      exact hr
    · cases h
  | .st fs, r, t, us, h, hr => by
    simp only [setE] at h
    split at h
    · split at h
      · rename_i q hq
        simp only [Option.some.injEq] at h
        subst h
        simp only [Sh.rel] at hr ⊢
        exact setEs_other hne hq hr
      · cases h
    · cases h
theorem setEs_other {n i : Nat} (hne : i ≠ n) : ∀ {sh r : List Sh} {t : List T} {us : List Value}, setEs sh n t = some r → relShs i sh us → relShs i r us
  | [], r, t, us, h, hr => by
    simp only [setEs] at h
    split at h
    · simp only [Option.some.injEq] at h
      subst h
      exact hr
    · cases h
  | s :: ss, r, t, us, h, hr => by
    simp only [setEs] at h
    split at h
    · cases h
    · rename_i t ts
      split at h
      · rename_i q qs h1 h2
        simp only [Option.some.injEq] at h
        subst h
        simp only [relShs] at hr ⊢
        obtain ⟨a, b, e, g1, g2⟩ := hr
        exact ⟨a, b, e, setE_other hne h1 g1, setEs_other hne h2 g2⟩
      · cases h
end

theorem muxU_rel {s n : Nat} {us : List T} : ∀ {ts vs' : List T} {j : Nat} {vs : List Value}, us.length = ts.length → relLst ν s ts vs → (∀ (m : Nat) (u : T), j + m = n → us[m]? = some u → False) →
    updT.muxU n j us ts = vs' → relLst ν s vs' vs
  | [], vs', j, vs, hl, hr, _, e => by
    cases us with
    | nil => simp only [updT.muxU] at e; subst e; exact hr
    | cons _ _ => simp at hl
  | t :: ts, vs', j, vs, hl, hr, hno, e => by
    cases us with
    | nil => simp at hl
    | cons u us =>
      simp only [updT.muxU] at e
      subst e
      simp only [relLst] at hr ⊢
      obtain ⟨a, b, e, h0, h1, h2⟩ := hr
      refine ⟨a, b, e, h0, mergeT_rel ?_, muxU_rel (j := j + 1) (by simpa using hl) h2 (fun m u' hm hu => hno (m + 1) u' (by omega) (by simpa using hu)) rfl⟩
      have : Nat.beq n j = false := by
        cases hb : Nat.beq n j
        · rfl
        · exact (hno 0 u (by rw [beq_true hb]; rfl) (by simp)).elim
      rw [this]; exact h1

theorem muxU_at {s n : Nat} {u : T} {cs : List Value} (hcl : cs.length = s) (hu : u.rel ν cs) : ∀ {us ts : List T} {j m : Nat} {vs a b x : List Value}, us.length = ts.length → n = j + m → us[m]? = some u → relLst ν s ts vs → vs = a ++ x ++ b → a.length = s * m → x.length = s →
    relLst ν s (updT.muxU n j us ts) (a ++ cs ++ b)
  | [], _, _, _, _, _, _, _, _, _, h, _, _, _, _ => by simp at h
  | _ :: _, [], _, _, _, _, _, _, hl, _, _, _, _, _, _ => by simp at hl
  | u0 :: us, t :: ts, j, 0, vs, a, b, x, hl, hn, hm, hr, hv, ha, hx => by
    simp only [List.getElem?_cons_zero, Option.some.injEq] at hm
    subst hm
    have : a = [] := by cases a with | nil => rfl | cons _ _ => simp at ha
    subst this
    simp only [relLst] at hr
    obtain ⟨p, q, e, h0, h1, h2⟩ := hr
    rw [hv] at e
    simp only [List.nil_append] at e
    obtain ⟨rfl, rfl⟩ := List.append_inj e (by rw [hx, h0])
    simp only [updT.muxU, relLst, List.nil_append]
    refine ⟨cs, b, rfl, hcl, mergeT_rel ?_, muxU_rel (j := j + 1) (by simpa using hl) h2 (fun m' u' hm' _ => by omega) rfl⟩
    rw [hn, show Nat.beq (j + 0) j = true from beq_self j]; exact hu
  | u0 :: us, t :: ts, j, m + 1, vs, a, b, x, hl, hn, hm, hr, hv, ha, hx => by
    simp only [List.getElem?_cons_succ] at hm
    simp only [relLst] at hr
    obtain ⟨p, q, e, h0, h1, h2⟩ := hr
    rw [hv, List.append_assoc] at e
    have hle : p.length ≤ a.length := by rw [ha, h0, Nat.mul_succ]; omega
    obtain ⟨a', rfl⟩ : ∃ a', a = p ++ a' := by
      refine ⟨a.drop p.length, ?_⟩
      have h5 := congrArg (List.take p.length) e
      rw [List.take_append_of_le_length hle, List.take_left] at h5
      conv => lhs; rw [← List.take_append_drop p.length a, h5]
    rw [List.append_assoc] at e
    have e := List.append_cancel_left e
    simp only [updT.muxU, relLst]
    refine ⟨p, a' ++ cs ++ b, by simp, h0, mergeT_rel ?_, muxU_at hcl hu (j := j + 1) (m := m) (by simpa using hl) (by omega) hm h2 (x := x) (by rw [← e, List.append_assoc]) ?_ hx⟩
    · have : Nat.beq n j = false := by
        cases hb : Nat.beq n j
        · rfl
        · have := beq_true hb; omega
      rw [this]; exact h1
    · rw [List.length_append, h0, Nat.mul_succ] at ha; omega

theorem updT_rel {v : T} {ws : List Value} (hv : v.rel ν ws) : ∀ {p : List Step} {t u : T} {vs : List Value}, updT v p t = some u → okB (pathOk p t) = true → t.rel ν vs →
    ∃ a us b, vs = a ++ us ++ b ∧ a.length = pathOff p ∧ us.length = ws.length ∧ u.rel ν (a ++ ws ++ b)
  | [], t, u, vs, h, _, hr => by
    simp only [updT] at h
    split at h
    · rename_i hs
      simp only [Option.some.injEq] at h
      subst h
      obtain ⟨e, n, hn⟩ := optEqN_eq hs
      refine ⟨[], vs, [], by simp, rfl, ?_, by simpa using hv⟩
      rw [size_length hn hr, size_length (e ▸ hn) hv]
    · cases h
  | .f k off :: p, .st fs, u, vs, h, hok, hr => by
    simp only [updT] at h
    split at h
    · rename_i hs
      split at h
      · rename_i t ht
        split at h
        · rename_i u' hu'
          simp only [Option.some.injEq] at h
          subst h
          simp only [T.rel] at hr
          obtain ⟨a, us, b, rfl, h1, h2, h3⟩ := relTs_at ht hr
          simp only [pathOk, ht] at hok
          obtain ⟨a', us', b', rfl, g1, g2, g3⟩ := updT_rel hv hu' hok h2
          refine ⟨a ++ a', us', b' ++ b, by simp, ?_, g2, ?_⟩
          · rw [List.length_append, g1, sizeTs_length (optEqN_eq hs).1 h1]; rfl
          · have := h3 _ _ g3
            simp only [T.rel]
            simpa using this
        · cases h
      · cases h
    · cases h
  | .x s' i :: p, .lst s ts, u, vs, h, hok, hr => by
    simp only [updT] at h
    split at h
    · cases h
    · rename_i hs
      have hs := beq_true hs
      subst hs
      simp only [T.rel] at hr
      split at h
      · rename_i n
        split at h
        · rename_i t ht
          split at h
          · rename_i u' hu'
            simp only [Option.some.injEq] at h
            subst h
            obtain ⟨a, us, b, rfl, h1, h0, h2, h3⟩ := relLst_at ht hr
            simp only [pathOk, ht] at hok
            obtain ⟨a', us', b', rfl, g1, g2, g3⟩ := updT_rel hv hu' hok h2
            refine ⟨a ++ a', us', b' ++ b, by simp, by rw [List.length_append, g1, h1]; rfl, g2, ?_⟩
            have := h3 u' (a' ++ ws ++ b') (by simp only [List.length_append] at h0 ⊢; omega) g3
            simp only [T.rel]
            simpa using this
          · cases h
        · cases h
      · rename_i n
        split at h
        · rename_i us hus
          simp only [Option.some.injEq] at h
          subst h
          simp only [pathOk] at hok
          have hn := blt_lt (andOk_left hok)
          obtain ⟨t, ht⟩ : ∃ t, ts[n]? = some t := ⟨_, List.getElem?_eq_getElem hn⟩
          have hr0 := hr
          obtain ⟨a, cs, b, rfl, h1, h0, h2, h3⟩ := relLst_at ht hr
          obtain ⟨y, hy, hsub⟩ := (mapM_get hus).2 n t ht
          obtain ⟨a', us', b', rfl, g1, g2, g3⟩ := updT_rel hv hsub (foldr_ok (andOk_right hok) n t ht) h2
          refine ⟨a ++ a', us', b' ++ b, by simp, by rw [List.length_append, g1, h1]; rfl, g2, ?_⟩
          have := muxU_at (n := n) (j := 0) (m := n) (by simp only [List.length_append] at h0 ⊢; omega) g3 (mapM_get hus).1 (by omega) hy hr0 rfl h1 h0
          simp only [T.rel]
          simpa using this
        · cases h
  | .x s' i :: p, .arr s n sh, u, vs, h, hok, hr => by
    simp only [updT] at h
    split at h
    · rename_i hs
      have hs := beq_true hs
      subst hs
      split at h
      · rename_i u' hu'
        split at h
        · rename_i sh' hsh
          simp only [Option.some.injEq] at h
          subst h
          simp only [pathOk] at hok
          have hi := arrOk (andOk_left hok)
          simp only [T.rel] at hr
          obtain ⟨e1, e2, e3⟩ := arr_at vs hr.1 hi
          obtain ⟨a', us', b', e4, g1, g2, g3⟩ := updT_rel hv hu' (andOk_right hok) (elemT_rel (ν := ν) (hr.2 i.val hi))
          refine ⟨vs.take (s * i.val) ++ a', us', b' ++ vs.drop (s * i.val + s), ?_, by rw [List.length_append, e2, g1]; rfl, g2, ?_⟩
          · conv => lhs; rw [e1, e4]
            simp
          · have hle : s * i.val + s ≤ s * n.val := by rw [← Nat.mul_succ]; exact Nat.mul_le_mul_left s hi
            have hcl : (a' ++ ws ++ b').length = s := by
              have := e3; rw [e4] at this
              simp only [List.length_append] at this ⊢; omega
            have hdl : (vs.drop (s * i.val + s)).length = s * n.val - (s * i.val + s) := by rw [List.length_drop, hr.1]
            simp only [T.rel]
            have ee : vs.take (s * i.val) ++ a' ++ ws ++ (b' ++ vs.drop (s * i.val + s)) = vs.take (s * i.val) ++ (a' ++ ws ++ b') ++ vs.drop (s * i.val + s) := by simp
            rw [ee]
            generalize a' ++ ws ++ b' = cs at hcl g3
            refine ⟨by simp only [List.length_append, e2, hcl, hdl]; omega, fun j hj => ?_⟩
            by_cases hji : j = i.val
            · subst hji
              rw [List.append_assoc, List.drop_left' e2, List.take_left' hcl]
              exact setE_same hsh g3
            · refine setE_other hji hsh ?_
              have h5 := hr.2 j hj
              rcases Nat.lt_or_gt_of_ne hji with hlt | hgt
              · have hle2 : s * j + s ≤ s * i.val := by rw [← Nat.mul_succ]; exact Nat.mul_le_mul_left s hlt
                rw [List.append_assoc, List.drop_append_of_le_length (by omega), List.take_append_of_le_length (by rw [List.length_drop]; omega)]
                rw [List.drop_take, List.take_take, Nat.min_eq_left (by omega)]
                exact h5
              · have hle2 : s * i.val + s ≤ s * j := by rw [← Nat.mul_succ]; exact Nat.mul_le_mul_left s hgt
                have e6 : (vs.take (s * i.val) ++ cs ++ vs.drop (s * i.val + s)).drop (s * j) = vs.drop (s * j) := by
                  rw [List.drop_append, List.drop_of_length_le (by simp only [List.length_append, e2, hcl]; omega), List.nil_append, List.drop_drop]
                  congr 1
                  simp only [List.length_append, e2, hcl]; omega
                rw [e6]; exact h5
        · cases h
      · cases h
    · cases h
  | .f _ _ :: _, .a _, _, _, h, _, _ => by simp [updT] at h
  | .f _ _ :: _, .lst _ _, _, _, h, _, _ => by simp [updT] at h
  | .f _ _ :: _, .arr _ _ _, _, _, h, _, _ => by simp [updT] at h
  | .f _ _ :: _, .bad, _, _, h, _, _ => by simp [updT] at h
  | .f _ _ :: _, .mp _ _ _, _, _, h, _, _ => by simp [updT] at h
  | .x _ _ :: _, .a _, _, _, h, _, _ => by simp [updT] at h
  | .x _ _ :: _, .st _, _, _, h, _, _ => by simp [updT] at h
  | .x _ _ :: _, .bad, _, _, h, _, _ => by simp [updT] at h
  | .x _ _ :: _, .mp _ _ _, _, _, h, _, _ => by simp [updT] at h
end Go.WE
