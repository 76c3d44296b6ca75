/- KindsKnown, evaluated. -/
import Derived.Test.YtljopbfbljkjoaaDoorRows
import Derived.Test.YtljopbfbljkjoaaDoorWE34
namespace Go.WE
set_option linter.unusedVariables false
set_option maxRecDepth 100000
open Go Go.Proofs
open Go.RowKit (Below)
theorem entK : entersAll Tryd.prog = true := by kernel_rfl
/-- A register, a value, what is kept: of numbers alone. -/
def eqsK : List (TypeId × List Bool) := [(33, List.replicate 10 false), (62, List.replicate 4 false), (59, List.replicate 5 false), (31, List.replicate 6 false)]
noncomputable abbrev cxK : Cx := { P := Tryd.prog, eqT := eqTab eqsK }
theorem eqsKOk : eqTabOk Tryd.prog eqsK = true := by kernel_rfl
theorem XK {Γ : Gam} (h : ΓOK Tryd.prog Γ) : CxOK cxK Γ := ⟨eqOK_of eqsKOk rfl, h, noDfr_ok, noLam _ _ _ _, enters_of entK⟩
theorem kinds_ev : (evalF cxK noΓ 400 20 4 [] H.none).res = some (.tt, .t (.a (.b true))) := by kernel_rfl
theorem kinds_calls (W : World) : Calls Tryd.prog 4 #[] W fun e w' => e = .returned (.bool true) ∧ Below W.heap.size W w' := by
  refine (top_calls (XK noΓ_ok) rfl kinds_ev rfl (vs := []) trivial W).mono ?_
  rintro e w' ⟨u, ν', rfl, hu, hb⟩
  have hu : (A.b true).rel ν' u := hu
  simp only [A.rel] at hu
  exact ⟨by rw [hu], hb⟩
end Go.WE
