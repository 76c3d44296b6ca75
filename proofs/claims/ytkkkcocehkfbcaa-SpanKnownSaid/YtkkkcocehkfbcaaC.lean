/- Contracts of the spans' seat: functions without text, Len64. -/
import Derived.Test.YtkkkcocehkfbcaaRows
import Derived.Test.YtkkkcocehkfbcaaVE12
import Derived.Test.YtkkkcocehkfbcaaLen
namespace Go.Proofs.Ytkkkcocehkfbcaa.Con
open Go Go.VE
def eqs : List (TypeId × List Bool) := [(24, [false, false]), (30, [false, false]), (34, [false, false])]
theorem eqsOk : eqTabOk Try.prog eqs = true := by kernel_rfl
theorem ent : entersAll Try.prog = true := by kernel_rfl

def Γ0 : CallE := addΓ 92 add64V (addΓ 95 sub64V noΓ)
theorem Γ0ok : CallOK Try.prog gw0 Γ0 :=
  addΓ_ok (fun _ _ _ _ h _ => .inr (add64_ok Try.func92 (by kernel_rfl) (by kernel_rfl) (by kernel_rfl) (by kernel_rfl) h))
    (addΓ_ok (fun _ _ _ _ h _ => .inr (sub64_ok Try.func95 (by kernel_rfl) (by kernel_rfl) (by kernel_rfl) (by kernel_rfl) h)) noΓ_ok)

theorem evLen (a : U) : evalF { P := Try.prog, eqT := eqTab eqs } Γ0 300 2 99 [.a (.i .u64 a)] [] = some (.tt, .a (.i .i64 (lenT a))) := by kernel_rfl

def lenG : List At → Option (A × V)
  | [.n a] => some (.tt, .a (.i .i64 (len64 a)))
  | _ => none

theorem evKnown : evalF { P := Try.prog, eqT := eqTab eqs } Γ0 600 8 18 [] [] = some (.tt, .a (.b true)) := by kernel_rfl

def knownG : List At → Option (A × V)
  | [] => some (.tt, .a .tt)
  | _ => none

def Γ1 : CallE := addΓ 99 (specΓ [.one (some .u64)] lenG) (addΓ 18 (specΓ [] knownG) Γ0)

theorem Γ1ok : CallOK Try.prog gw0 Γ1 := by
  refine addΓ_ok (spec_ok ent (bodied Try.func99 (by kernel_rfl)) ?_) (addΓ_ok (spec_ok ent (bodied Try.func18 (by kernel_rfl)) ?_) Γ0ok)
  · intro ys ok v h hok
    match ys, h with
    | [.n a], h =>
      simp [lenG] at h
      obtain ⟨_, rfl⟩ := h
      rw [← lenT_eq]
      exact pure_of_eval (ok := .tt) eqsOk Γ0ok ent rfl (evLen a) rfl
  · intro ys ok v h hok
    match ys, h with
    | [], h =>
      simp [knownG] at h
      obtain ⟨_, rfl⟩ := h
      have h : PureOK Try.prog gw0 18 [] [] (.a (.b true)) := pure_of_eval (ok := .tt) eqsOk Γ0ok ent rfl evKnown rfl
      exact h

theorem evOnes (a : U) : evalF { P := Try.prog, eqT := eqTab eqs } Γ1 300 2 82 [.a (.i .u64 a)] [] =
    some (.b (!(len64 a).msb), .a (.i .u64 ((BitVec.ofInt 64 1 <<< (len64 a).toNat) - BitVec.ofInt 64 1))) := by kernel_rfl

def onesG : List At → Option (A × V)
  | [.n a] => some (.tt, .a (.i .u64 (onesB a)))
  | _ => none

def Γ2 : CallE := addΓ 82 (specΓ [.one (some .u64)] onesG) Γ1

theorem Γ2ok : CallOK Try.prog gw0 Γ2 := by
  refine addΓ_ok (spec_ok ent (bodied Try.func82 (by kernel_rfl)) ?_) Γ1ok
  intro ys ok v h hok
  match ys, h with
  | [.n a], h =>
    simp [onesG] at h
    obtain ⟨_, rfl⟩ := h
    rw [← ones_eq]
    exact pure_of_eval eqsOk Γ1ok ent rfl (evOnes a) (by simp [okB, len64_msb])
end Go.Proofs.Ytkkkcocehkfbcaa.Con
