/- WE10: parts that are put into a value. -/
import Derived.Test.YtljopbfbljkjoaaDoorWE9
namespace Go.WE
open Go

section
variable {P : Program} {w : World} {ν : Nu}

theorem fold_set : ∀ (ws us : List Value) (a b : List Value) (vs : Array Value) (off k : Nat), us.length = ws.length → vs.toList = a ++ us ++ b → a.length = off + k →
    ((ws.zipIdx k).foldl (fun cs (c, j) => cs.setIfInBounds (off + j) c) vs).toList = a ++ ws ++ b
  | [], us, a, b, vs, off, k, hl, e, _ => by
    have : us = [] := List.length_eq_zero_iff.1 hl
    subst this
    simpa using e
  | v :: ws, [], _, _, _, _, _, hl, _, _ => by simp at hl
  | v :: ws, u :: us, a, b, vs, off, k, hl, e, ha => by
    rw [List.zipIdx_cons, List.foldl_cons]
    have := fold_set ws us (a ++ [v]) b (vs.setIfInBounds (off + k) v) off (k + 1) (by simpa using hl) ?_ (by simp [ha]; omega)
    · rw [this]; simp
    · have e1 : vs.toList = a ++ u :: (us ++ b) := by rw [e]; simp
      rw [Array.toList_setIfInBounds, e1, ← ha, List.set_append_right _ _ (Nat.le_refl _), Nat.sub_self]
      simp

def relP (ν : Nu) : List (Nat × V) → List (Nat × Value) → Prop
  | [], [] => True
  | a :: as, v :: vs => a.1 = v.1 ∧ a.2.rel ν v.2 ∧ relP ν as vs
  | _, _ => False

theorem putParts_sound {pl : Nat → Option (Nat × Nat)} {mk : Nat → Nat → Step} (hmk : ∀ i off n, pl i = some (off, n) → stepOff (mk i off) = off) :
    ∀ {ps : List (Nat × V)} {qs : List (Nat × Value)} {z t : T} {vs : Array Value}, putParts pl mk z ps = some t → relP ν ps qs → z.rel ν vs.toList → ∃ vs', Instr.fill pl vs qs = some vs' ∧ t.rel ν vs'.toList
  | [], [], z, t, vs, h, _, hr => by simp [putParts] at h; subst h; exact ⟨vs, rfl, hr⟩
  | (i, x) :: ps, (j, v) :: qs, z, t, vs, h, hp, hr => by
    obtain ⟨e0, hx, hp'⟩ := hp
    have e0 : i = j := e0
    subst e0
    simp only [putParts] at h
    split at h
    · rename_i u off n hu hpl
      split at h
      · rename_i hs
        split at h
        · rename_i hpo
          split at h
          · rename_i z' hz'
            obtain ⟨e1, m, hm⟩ := optEqN_eq hs
            rw [hm] at e1; cases e1
            have hur := V.cells_rel hu hx (size_ne_bad hm)
            have hsz := size_length hm hur
            obtain ⟨a, us, b, e, g1, g2, g3⟩ := updT_rel hur hz' (by rw [hpo]; rfl) hr
            have g1 : a.length = off := by rw [g1]; simp only [pathOff, Nat.add_zero]; exact hmk i off n hpl
            have hf := fold_set v.cells.toList us a b vs off 0 g2 e (by omega)
            obtain ⟨vs', h1, h2⟩ := putParts_sound hmk (vs := ((v.cells.toList.zipIdx 0).foldl (fun cs (c, j) => cs.setIfInBounds (off + j) c) vs)) h hp' (by rw [hf]; exact g3)
            refine ⟨vs', ?_, h2⟩
            have key : (v.cells.zipIdx.foldl (fun cs (c, j) => cs.setIfInBounds (off + j) c) vs) = ((v.cells.toList.zipIdx 0).foldl (fun cs (c, j) => cs.setIfInBounds (off + j) c) vs) := by
              rw [← Array.foldl_toList, Array.toList_zipIdx]
            have hsz' : v.cells.size = n := by rw [← hsz]; simp
            have hvs : vs.size = a.length + us.length + b.length := by rw [← Array.length_toList, e]; simp; omega
            simp only [Instr.fill, hpl]
            rw [if_neg (by
              simp only [hsz', ne_eq, not_true, decide_false, Bool.false_or, decide_eq_true_eq]
              have : us.length = n := by rw [g2, hsz]
              omega), key]
            exact h1
          · cases h
        · cases h
      · cases h
    · cases h
  | [], _ :: _, _, _, _, _, h, _ => h.elim
  | _ :: _, [], _, _, _, _, h, _ => h.elim

theorem opParts_sound {a : Act} {G : Cond} {gt : Nat → Ent} (hG : holds a.tmps G) : ∀ {xs : List (Nat × Operand)} {vs : List (Nat × V)}, opParts G gt xs = some vs →
    Slots ν a.tmps gt (xs.map (·.2)) → Glob ν (xs.map (·.2)) → relP ν vs (xs.map fun (i, x) => (i, a.eval x))
  | [], vs, h, _, _ => by simp [opParts] at h; subst h; trivial
  | (i, x) :: xs, vs, h, hs, hg => by
    simp only [opParts] at h
    split at h <;> simp at h
    rename_i v vs' h1 h2
    subst h
    exact ⟨rfl, opV_sound h1 hG (X := none) trivial (fun s hm => hs s (by simp at hm; subst hm; simp)) (fun g hm => hg g (by simp at hm; subst hm; simp)),
      opParts_sound hG h2 (fun s hm => hs s (by simp at hm ⊢; exact .inr hm)) (fun g hm => hg g (by simp at hm ⊢; exact .inr hm))⟩

theorem placesOf_sound : ∀ {fs : List Field} {pl : List (Nat × Nat)}, placesOf P fs = some pl →
    (fs.mapM fun f => (do pure (f.offset, ← Go.sizeOf f.type) : Sem (Nat × Nat))).run P w = .ok pl w
  | [], pl, h => by simp [placesOf] at h; subst h; rfl
  | f :: fs, pl, h => by
    simp only [placesOf] at h
    split at h <;> simp at h
    rename_i n r h1 h2
    subst h
    rw [List.mapM_cons, Sem.run_bind, Sem.run_bind, run_sizeOf' h1]
    simp only [Result.andThen_ok, Sem.run_pure]
    rw [Sem.run_bind, placesOf_sound h2]
    rfl

theorem array_mapM_run {fs : Array Field} {pl : List (Nat × Nat)} (h : (fs.toList.mapM fun f => (do pure (f.offset, ← Go.sizeOf f.type) : Sem (Nat × Nat))).run P w = .ok pl w) :
    (fs.mapM fun f => (do pure (f.offset, ← Go.sizeOf f.type) : Sem (Nat × Nat))).run P w = .ok pl.toArray w := by
  rw [Array.mapM_eq_mapM_toList, Sem.run_map, h]; rfl

theorem placeOk (i off : Nat) (t : T) : okB (pathOk [.f i off] t) = true := by
  cases t with
  | st fs => simp only [pathOk]; cases fs[i]? <;> rfl
  | a x => rfl
  | lst s ts => rfl
  | arr s n sh => rfl
  | bad => rfl
  | mp k ks ts => rfl

/-- A value of a struct or an array: `.agg`. -/
theorem agg_relV {t : T} {vs : Array Value} (h : t.rel ν vs.toList) (ha : ∀ x, t ≠ .a x) : t.relV ν (.agg vs) := by
  cases t with
  | a x => exact absurd rfl (ha x)
  | bad => trivial
  | mp k ks ts => exact ⟨vs, rfl, h⟩
  | st fs => exact ⟨vs, rfl, h⟩
  | lst s ts => exact ⟨vs, rfl, h⟩
  | arr s n sh => exact ⟨vs, rfl, h⟩
end
end Go.WE
