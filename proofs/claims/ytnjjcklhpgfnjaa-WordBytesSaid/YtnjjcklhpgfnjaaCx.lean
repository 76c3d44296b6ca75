/- The words' seat: the program that is walked. -/
import Derived.Test.YtnjjcklhpgfnjaaRows
import Derived.Test.YtnjjcklhpgfnjaaWE34
namespace Go.WE
open Go Go.Proofs
theorem entW : entersAll Try.prog = true := by kernel_rfl
noncomputable abbrev cxW : Cx := { P := Try.prog, eqT := eqTab [] }
theorem XW {Γ : Gam} (h : ΓOK Try.prog Γ) : CxOK cxW Γ := ⟨eqOK_of (cx := cxW) (l := []) (by kernel_rfl) rfl, h, noDfr_ok, noLam _ _ _ _, enters_of entW⟩
end Go.WE
