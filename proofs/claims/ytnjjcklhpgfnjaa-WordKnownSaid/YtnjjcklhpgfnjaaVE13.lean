/- VE13: closed laws: contracts that give literals, and what a closed law comes to. -/
import Derived.Test.YtnjjcklhpgfnjaaVE12
namespace Go.VE
open Go
open Go.RowKit (Below)

/-- A number, or a bool, that the kernel computes. -/
def litA : A → A
  | .i k x => .lit k (vof k x)
  | .b x => match x with | true => .tt | false => .ff
  | a => a

def litW : W → W
  | .a x => .a (litA x)
  | .g cs => .g (cs.map litA)

def litV : V → V
  | .a x => .a (litA x)
  | .g cs => .g (cs.map litA)
  | .t ws => .t (ws.map litW)

theorem litA_rel {ν : Nu} {a : A} {v : Value} (h : a.rel ν v) : (litA a).rel ν v := by
  unfold litA
  split
  · rename_i k x
    refine ⟨h, ?_⟩
    exact wrap_wrap k _
  · split <;> exact h
  · exact h

theorem litL_rel {ν : Nu} : ∀ {as : List A} {vs : List Value}, relL ν as vs → relL ν (as.map litA) vs
  | [], [], _ => trivial
  | _ :: _, _ :: _, h => ⟨litA_rel h.1, litL_rel h.2⟩
  | [], _ :: _, h => h.elim
  | _ :: _, [], h => h.elim

theorem litW_rel {ν : Nu} : ∀ {as : List W} {vs : List Value}, relW ν as vs → relW ν (as.map litW) vs
  | [], [], _ => trivial
  | .a _ :: _, _ :: _, h => ⟨litA_rel h.1, litW_rel h.2⟩
  | .g _ :: _, _ :: _, h => by
    obtain ⟨⟨us, rfl, hu⟩, h2⟩ := h
    exact ⟨⟨us, rfl, litL_rel hu⟩, litW_rel h2⟩
  | [], _ :: _, h => h.elim
  | _ :: _, [], h => h.elim

theorem litV_rel {ν : Nu} {v : V} {u : Value} (h : v.rel ν u) : (litV v).rel ν u := by
  cases v with
  | a x => exact litA_rel h
  | g cs =>
    obtain ⟨us, rfl, hu⟩ := h
    exact ⟨us, rfl, litL_rel hu⟩
  | t ws =>
    obtain ⟨us, rfl, hu⟩ := h
    exact ⟨us, rfl, litW_rel hu⟩

def litΓ (Γ : CallE) : CallE := fun f args h => match Γ f args h with
  | some (ok, v) => some (litA ok, litV v)
  | none => none

theorem litA_ok {a : A} (h : okB (litA a) = true) : okB a = true := by
  unfold litA at h
  split at h
  · cases h
  · split at h
    · rfl
    · cases h
  · exact h

theorem litΓ_ok {P : Program} {gw : GW} {Γ : CallE} (hΓ : CallOK P gw Γ) : CallOK P gw (litΓ Γ) := by
  intro f args h ok v e hok
  unfold litΓ at e
  split at e
  · rename_i ok' v' e'
    simp at e
    obtain ⟨rfl, rfl⟩ := e
    rcases hΓ f args h ok' v' e' (litA_ok hok) with ⟨h1, h2⟩ | h3
    · refine .inl ⟨h1, fun ν w vs hw hm hv hs => (h2 ν w vs hw hm hv hs).mono ?_⟩
      rintro e w' ⟨u, he, hr, hb⟩
      exact ⟨u, he, litV_rel hr, hb⟩
    · refine .inr fun ν w vs hv => ?_
      obtain ⟨u, hr, hrel⟩ := h3 ν w vs hv
      exact ⟨u, hr, litV_rel hrel⟩
  · cases e

/-- What a closed law comes to: true, and all obligations are met. -/
def closedB : Option (A × V) → Bool
  | some (ok, .a x) => okB ok && (match x.bool? with | some b => b | none => false)
  | _ => false

theorem closedB_true {r : Option (A × V)} (h : closedB r = true) : ∃ ok v, r = some (ok, v) ∧ okB ok = true ∧ ∀ ν u, v.rel ν u → u = .bool true := by
  unfold closedB at h
  split at h
  · rename_i ok x
    simp only [Bool.and_eq_true] at h
    obtain ⟨h1, h2⟩ := h
    refine ⟨_, _, rfl, h1, fun ν u hu => ?_⟩
    split at h2
    · rename_i b hb
      rw [A.rel_bool hu hb, h2]
    · cases h2
  · cases h

theorem closed_calls {P : Program} {gw : GW} {l : List (TypeId × List Bool)} (hE : eqTabOk P l = true) {Γ : CallE} (hΓ : CallOK P gw Γ) (hent : entersAll P = true) {fuel n : Nat} {f : FuncId}
    {it : Nat} (hΓf : Γ f [] [] = none) (he : closedB (evalF { P := P, eqT := eqTab l, it := it } Γ fuel (n + 1) f [] []) = true) {w : World} (hw : gw.holds w) :
    Calls P f #[] w (fun e w' => e = .returned (.bool true) ∧ Below w.heap.size w w') := by
  obtain ⟨ok, v, he, hok, hv⟩ := closedB_true he
  refine (evalF_calls hE hΓ hent hΓf he hok hw (vs := []) trivial).mono ?_
  rintro e w' ⟨u, rfl, hr, hb⟩
  exact ⟨by rw [hv _ _ hr], hb⟩
end Go.VE
