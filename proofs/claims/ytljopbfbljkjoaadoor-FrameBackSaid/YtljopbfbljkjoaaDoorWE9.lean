/- WE9: values that are made by their types. -/
import Derived.Test.YtljopbfbljkjoaaDoorWE8
namespace Go.WE
open Go

section
variable {P : Program} {w : World} {ν : Nu}

theorem relL_length : ∀ {as : List A} {vs : List Value}, relL ν as vs → as.length = vs.length
  | [], _, h => by simp only [relL] at h; subst h; rfl
  | a :: as, _, h => by
    simp only [relL] at h
    obtain ⟨v, us, rfl, _, h2⟩ := h
    simp [relL_length h2]

theorem relL_split : ∀ (n : Nat) {as : List A} {vs : List Value}, relL ν as vs → relL ν (as.take n) (vs.take n) ∧ relL ν (as.drop n) (vs.drop n)
  | 0, as, vs, h => by simp only [List.take_zero, List.drop_zero, relL]; exact ⟨trivial, h⟩
  | n + 1, [], _, h => by simp only [relL] at h; subst h; simp [relL]
  | n + 1, a :: as, _, h => by
    simp only [relL] at h
    obtain ⟨v, us, rfl, h1, h2⟩ := h
    obtain ⟨g1, g2⟩ := relL_split n h2
    simp only [List.take_succ_cons, List.drop_succ_cons, relL]
    exact ⟨⟨v, _, rfl, h1, g1⟩, g2⟩

theorem shape_all : ∀ (d : Nat),
    (∀ t cs u vs, shapeT P d t cs = some u → relL ν cs vs → (∀ v, v ∈ vs → Cell v) → u.rel ν vs) ∧
    (∀ fs off cs ts vs, shapeFs P d fs off cs = some ts → relL ν cs vs → (∀ v, v ∈ vs → Cell v) → relTs ν ts vs) ∧
    (∀ t k n cs ts vs, shapeL P d t (chunks k n cs) = some ts → cs.length = n * k → relL ν cs vs → (∀ v, v ∈ vs → Cell v) → relLst ν k ts vs)
  | 0 => ⟨fun t cs u vs h => by simp [shapeT] at h, fun fs off cs ts vs h => by simp [shapeFs] at h, fun t k n cs ts vs h => by simp [shapeL] at h⟩
  | d + 1 => by
    obtain ⟨iT, iF, iL⟩ := shape_all d
    refine ⟨?_, ?_, ?_⟩
    · intro t cs u vs h hr hc
      simp only [shapeT] at h
      split at h
      · split at h
        · rename_i ts hts
          simp only [Option.some.injEq] at h
          subst h
          simp only [T.rel]
          exact iF _ _ _ _ _ hts hr hc
        · cases h
      · split at h
        · rename_i n elem k hk
          split at h
          · rename_i hl
            split at h
            · rename_i ts hts
              simp only [Option.some.injEq] at h
              subst h
              simp only [T.rel]
              exact iL _ _ _ _ _ _ hts (beq_true hl) hr hc
            · cases h
          · cases h
        · cases h
      · split at h
        · simp only [Option.some.injEq] at h
          subst h
          simp only [relL] at hr
          obtain ⟨v, us, rfl, h1, rfl⟩ := hr
          simp only [T.rel]
          exact ⟨v, rfl, h1, hc v (by simp)⟩
        · cases h
      · cases h
    · intro fs off cs ts vs h hr hc
      simp only [shapeFs] at h
      split at h
      · split at h
        · simp only [Option.some.injEq] at h
          subst h
          simp only [relL] at hr
          subst hr
          simp only [relTs]
        · cases h
      · split at h
        · rename_i n hn
          split at h
          · split at h
            · rename_i t ts h1 h2
              simp only [Option.some.injEq] at h
              subst h
              obtain ⟨g1, g2⟩ := relL_split n hr
              simp only [relTs]
              exact ⟨vs.take n, vs.drop n, (List.take_append_drop n vs).symm, iT _ _ _ _ h1 g1 (fun v hv => hc v (List.mem_of_mem_take hv)), iF _ _ _ _ _ h2 g2 (fun v hv => hc v (List.mem_of_mem_drop hv))⟩
            · cases h
          · cases h
        · cases h
    · intro t k n cs ts vs h hl hr hc
      cases n with
      | zero =>
        simp only [chunks, shapeL, Option.some.injEq] at h
        subst h
        have : cs = [] := List.length_eq_zero_iff.1 (by simpa using hl)
        subst this
        simp only [relL] at hr
        subst hr
        simp only [relLst]
      | succ n =>
        simp only [chunks, shapeL] at h
        split at h
        · rename_i t' ts' h1 h2
          simp only [Option.some.injEq] at h
          subst h
          obtain ⟨g1, g2⟩ := relL_split k hr
          have hk : k ≤ cs.length := by rw [hl, Nat.succ_mul]; omega
          simp only [relLst]
          refine ⟨vs.take k, vs.drop k, (List.take_append_drop k vs).symm, ?_, iT _ _ _ _ h1 g1 (fun v hv => hc v (List.mem_of_mem_take hv)), iL _ _ _ _ _ _ h2 ?_ g2 (fun v hv => hc v (List.mem_of_mem_drop hv))⟩
          · rw [List.length_take, ← relL_length hr]; omega
          · rw [List.length_drop, hl, Nat.succ_mul]; omega
        · cases h

theorem cellB_cell {v : Value} (h : cellB v = true) : Cell v := by cases v <;> first | trivial | (simp [cellB] at h)

theorem ofAtoms_rel : ∀ (vs : List Value), relL ν (vs.map ofAtom) vs
  | [] => by simp [relL]
  | v :: vs => by simp only [List.map_cons, relL]; exact ⟨v, vs, rfl, ofAtom_rel ν v, ofAtoms_rel vs⟩

theorem zeroT_run {t : TypeId} {z : T} (h : zeroT P t = some z) : ∃ v, (zeroValue t).run P w = .ok v w ∧ z.rel ν v.cells.toList := by
  unfold zeroT at h
  split at h
  · rename_i i hi
    split at h
    · rename_i v hz
      split at h
      · rename_i hc
        refine ⟨v, ?_, (shape_all 1000).1 _ _ _ _ h (ofAtoms_rel _) (fun u hu => cellB_cell (List.all_eq_true.1 hc u hu))⟩
        simp [zeroValue, typeInfo, hi, hz]
      · cases h
    · cases h
  · cases h

end
end Go.WE
