/- WE14: calls. -/
import Derived.Test.YtljopbfbljkjoaaDoorWE13
namespace Go.WE
open Go

/-- A call gives what is said, and leaves what is said. -/
def FnOK (P : Program) (f : FuncId) (args : List V) (h : H) (v : V) (h' : H) : Prop :=
  ∀ (S : Nat → Prop) (ν : Nu) (w : World) (vs : List Value), (∀ i, i ∈ h'.rd → S i) → (∀ i, i ∈ h'.wr → S i) → Mem S ν w h → relV ν args vs →
    Calls P f vs.toArray w (fun e w' => ∃ u ν', e = .returned u ∧ v.rel ν' u ∧ Goes S ν w h ν' w' h')

/-- A call panics with what is said. -/
def FnPan (P : Program) (f : FuncId) (args : List V) (h : H) (v : A) (h' : H) : Prop :=
  ∀ (S : Nat → Prop) (ν : Nu) (w : World) (vs : List Value), (∀ i, i ∈ h'.rd → S i) → (∀ i, i ∈ h'.wr → S i) → Mem S ν w h → relV ν args vs →
    Calls P f vs.toArray w (fun e w' => ∃ u ν', e = .panicked [{ v := u, recovered := false }] ∧ v.rel ν' u ∧ Goes S ν w h ν' w' h')

def Enters (P : Program) (f : FuncId) : Prop := ∀ (args : Array Value) (w : World), (callFunc f args).run P w = .ok (.enter f args) w

/-- A call of a function that has no text gives what is said at once. -/
def AtOnce (P : Program) (f : FuncId) (args : List V) (v : V) : Prop :=
  ∀ (ν : Nu) (w : World) (vs : List Value), relV ν args vs → ∃ u, (callFunc f vs.toArray).run P w = .ok (.value u) w ∧ v.rel ν u

structure CallOK (P : Program) (call : CallE) : Prop where
  ok : ∀ f args h ok v h', (call f args h).pick = some (ok, v, h') → okB ok = true → (Enters P f ∧ FnOK P f args h v h') ∨ (AtOnce P f args v ∧ h' = h)
  pan : ∀ f args h ok v h', (call f args h).pickP = some (ok, v, h') → okB ok = true → Enters P f ∧ FnPan P f args h v h'
  ext : ∀ f args h, h.lo ≤ h.next → (call f args h).All (Ext h)

section
variable {P : Program} {cx : Cx} {S : Nat → Prop} {ν : Nu} {w : World} {h : H} {call : CallE} {a : Act} {o : Oper} {K : Act → World → Prop} {Q : Exit → Act → World → Prop}

theorem wp_of_value {v : Value} {w' : World} (h : (execOp a.eval o).run P w = .ok (.value v) w') (hK : K (a.put o.dst v) w') : o.wp P a w K Q := by
  unfold Oper.wp; rw [h]; exact hK

theorem wp_of_skip {w' : World} (h : (execOp a.eval o).run P w = .ok .skip w') (hK : K (a.put o.dst undef) w') : o.wp P a w K Q := by
  unfold Oper.wp; rw [h]; exact hK

theorem wp_of_enter {f : FuncId} {args : Array Value} (h : (execOp a.eval o).run P w = .ok (.enter f args) w)
    (hc : Calls P f args w (fun e w' => ∃ v', e = .returned v' ∧ K (a.put o.dst v') w')) : o.wp P a w K Q := by
  unfold Oper.wp; rw [h]
  refine hc.mono ?_
  rintro e w' ⟨v', rfl, hk⟩
  exact hk

/-- All that is asked of what follows an operation. -/
def Then (S : Nat → Prop) (ν : Nu) (w : World) (h : H) (a : Act) (o : Oper) (K : Act → World → Prop) (r : OpR) : Prop :=
  ∀ ν' w' v, r.v.rel ν' v → Goes S ν w h ν' w' r.h → K (a.put o.dst v) w'

theorem wp_runs {s : Sem Value} {r : OpR} (he : execOp a.eval o = (do pure (.value (← s)))) (hr : Runs P S ν w h s r) (hK : Then S ν w h a o K r) : o.wp P a w K Q := by
  obtain ⟨v, w', ν', h1, h2, h3⟩ := hr
  refine wp_of_value (v := v) (w' := w') ?_ (hK ν' w' v h2 h3)
  rw [he, Sem.run_bind, h1]; rfl

theorem relV_append : ∀ {xs ys : List V} {us ws : List Value}, relV ν xs us → relV ν ys ws → relV ν (xs ++ ys) (us ++ ws)
  | [], _, [], _, _, h => h
  | _ :: _, _, _ :: _, _, h1, h2 => ⟨h1.1, relV_append h1.2 h2⟩
  | [], _, _ :: _, _, h, _ => h.elim
  | _ :: _, _, [], _, h, _ => h.elim

theorem relV_of_relL : ∀ {xs : List A} {us : List Value}, relL ν xs us → relV ν (xs.map fun x => V.t (.a x)) us
  | [], us, h => by simp only [relL] at h; subst h; trivial
  | x :: xs, us, h => by
    simp only [relL] at h
    obtain ⟨v, vs, rfl, h1, h2⟩ := h
    exact ⟨h1, relV_of_relL h2⟩

theorem foldl_min : ∀ {xs : List V} {vs : List Value} {x z : A} {v : Value}, foldA minA x xs = some z → x.rel ν v → relV ν xs vs →
    ∃ v', (vs.foldlM Builtin.min2 v).run P w = .ok v' w ∧ z.rel ν v'
  | [], [], x, z, v, h, hx, _ => by simp [foldA] at h; subst h; exact ⟨v, rfl, hx⟩
  | .t (.a y) :: xs, u :: vs, x, z, v, h, hx, hs => by
    simp only [foldA] at h
    split at h
    · rename_i m hm
      obtain ⟨k, p, k', q, rfl, rfl, hr⟩ := minA_sound hm hx hs.1
      obtain ⟨v', h1, h2⟩ := foldl_min h hr hs.2
      exact ⟨v', by rw [List.foldlM_cons, Sem.run_bind]; simp only [Builtin.min2, Sem.run_pure, Result.andThen_ok]; exact h1, h2⟩
    · cases h
  | .t (.st _) :: _, _, _, _, _, h, _, _ => by simp [foldA] at h
  | .t (.lst _ _) :: _, _, _, _, _, h, _, _ => by simp [foldA] at h
  | .t (.arr _ _ _) :: _, _, _, _, _, h, _, _ => by simp [foldA] at h
  | .t .bad :: _, _, _, _, _, h, _, _ => by simp [foldA] at h
  | .t (.mp _ _ _) :: _, _, _, _, _, h, _, _ => by simp [foldA] at h
  | .tup _ :: _, _, _, _, _, h, _, _ => by simp [foldA] at h
  | [], _ :: _, _, _, _, _, _, h => h.elim
  | .t (.a _) :: _, [], _, _, _, _, _, h => h.elim

theorem foldl_max : ∀ {xs : List V} {vs : List Value} {x z : A} {v : Value}, foldA maxA x xs = some z → x.rel ν v → relV ν xs vs →
    ∃ v', (vs.foldlM Builtin.max2 v).run P w = .ok v' w ∧ z.rel ν v'
  | [], [], x, z, v, h, hx, _ => by simp [foldA] at h; subst h; exact ⟨v, rfl, hx⟩
  | .t (.a y) :: xs, u :: vs, x, z, v, h, hx, hs => by
    simp only [foldA] at h
    split at h
    · rename_i m hm
      obtain ⟨k, p, k', q, rfl, rfl, hr⟩ := maxA_sound hm hx hs.1
      obtain ⟨v', h1, h2⟩ := foldl_max h hr hs.2
      exact ⟨v', by rw [List.foldlM_cons, Sem.run_bind]; simp only [Builtin.max2, Sem.run_pure, Result.andThen_ok]; exact h1, h2⟩
    · cases h
  | .t (.st _) :: _, _, _, _, _, h, _, _ => by simp [foldA] at h
  | .t (.lst _ _) :: _, _, _, _, _, h, _, _ => by simp [foldA] at h
  | .t (.arr _ _ _) :: _, _, _, _, _, h, _, _ => by simp [foldA] at h
  | .t .bad :: _, _, _, _, _, h, _, _ => by simp [foldA] at h
  | .t (.mp _ _ _) :: _, _, _, _, _, h, _, _ => by simp [foldA] at h
  | .tup _ :: _, _, _, _, _, h, _, _ => by simp [foldA] at h
  | [], _ :: _, _, _, _, _, _, h => h.elim
  | .t (.a _) :: _, [], _, _, _, _, _, h => h.elim
end
end Go.WE
