/- HelperKnown returns true: its phases, one behind the other. -/
import Derived.Test.YtcbijmamfbfelaaHkB1
import Derived.Test.YtcbijmamfbfelaaHkB2
import Derived.Test.YtcbijmamfbfelaaHkB3
import Derived.Test.YtcbijmamfbfelaaHkB4
import Derived.Test.YtcbijmamfbfelaaHkB5
import Derived.Test.YtcbijmamfbfelaaHkR
namespace Go.WE
set_option linter.unusedVariables false
set_option maxRecDepth 100000
open Go Go.Proofs
open Go.RowKit (Below)

theorem kr_all : ∀ m, m < 10 → ∀ n, n < 8 → endM fp3.km [1, 2, 3, 4, 5] [0, 1, 2] 3 (evK xl1 (sN (m + 1) (n + 1)) msK 3).pick = some ⟨.nrm, .tt, sN (m + 1) (n + 1 + 1), msK⟩
  | 0, _ => kr_1 | 1, _ => kr_2 | 2, _ => kr_3 | 3, _ => kr_4 | 4, _ => kr_5 | 5, _ => kr_6 | 6, _ => kr_7 | 7, _ => kr_8 | 8, _ => kr_9 | 9, _ => kr_10
theorem kx_all : ∀ m, m < 10 → endM fp3.km [1, 2, 3, 4] [0, 1, 2] 3 (evK xl1 (sN (m + 1) 9) msK 3).pick = some ⟨.exit 2, .tt, sK (m + 1), msK⟩
  | 0, _ => kx_1 | 1, _ => kx_2 | 2, _ => kx_3 | 3, _ => kx_4 | 4, _ => kx_5 | 5, _ => kx_6 | 6, _ => kx_7 | 7, _ => kx_8 | 8, _ => kx_9 | 9, _ => kx_10
theorem kh_all : ∀ m, m < 10 → endM fp3.km [1, 2, 3, 4] [0, 1, 2] 3 (evK xh0 (sK (m + 1)) msK 3).pick = some ⟨.nrm, .tt, sK (m + 1), msK⟩
  | 0, _ => kh_1 | 1, _ => kh_2 | 2, _ => kh_3 | 3, _ => kh_4 | 4, _ => kh_5 | 5, _ => kh_6 | 6, _ => kh_7 | 7, _ => kh_8 | 8, _ => kh_9 | 9, _ => kh_10
theorem k7_all : ∀ m, m < 10 → endM fp3.km [1, 2, 3, 4, 5] [0, 1, 2] 3 (evK x7 (sK (m + 1)) msK 3).pick = some ⟨.nrm, .tt, sN (m + 1) 1, msK⟩
  | 0, _ => k7_1 | 1, _ => k7_2 | 2, _ => k7_3 | 3, _ => k7_4 | 4, _ => k7_5 | 5, _ => k7_6 | 6, _ => k7_7 | 7, _ => k7_8 | 8, _ => k7_9 | 9, _ => k7_10
theorem ki_all : ∀ m, m < 10 → endM fp3.km [1, 2, 3, 4] [0, 1, 2] 3 (evK xi0 (sK (m + 1)) msK 3).pick = some ⟨.nrm, .tt, sK (m + 1 + 1), msK⟩
  | 0, _ => ki_1 | 1, _ => ki_2 | 2, _ => ki_3 | 3, _ => ki_4 | 4, _ => ki_5 | 5, _ => ki_6 | 6, _ => ki_7 | 7, _ => ki_8 | 8, _ => ki_9 | 9, _ => ki_10

section
variable {W : World} {a : Act} {w : World}
theorem kloop1 {m : Nat} (hm : m < 10) (h : Own fp3 3 msK W (sN (m + 1) 1) a w) : (Code.block 2 (.loop xl1)).wp Try.prog (fun x a' w' => x = .normal ∧ Own fp3 3 msK W (sK (m + 1)) a' w') a w := by
  refine for_loop (fun n => Own fp3 3 msK W (sN (m + 1) (n + 1))) (Own fp3 3 msK W (sK (m + 1))) 8 ?_ ?_ h (fun a' w' h => ⟨rfl, h⟩)
  · intro n hn a w hI
    exact Own.go (XH ΓH_ok) rfl (kr_all m hm n hn) rfl rfl rfl (by kernel_rfl) (LessA.refl _) (LessM.refl _) hI
  · intro a w hI
    exact Own.phase (r := ⟨.exit 2, .tt, sK (m + 1), msK⟩) (XH ΓH_ok) rfl (kx_all m hm) rfl rfl rfl (by kernel_rfl) (LessA.refl _) (LessM.refl _) hI (fun ν' a' w' x hx h => ⟨hx, h⟩)
theorem kloop0 (h : Own fp3 3 msK W (sK 1) a w) : (Code.block 0 (.loop xl0)).wp Try.prog (fun x a' w' => x = .normal ∧ Own fp3 3 msK W sA1 a' w') a w := by
  refine for_loop (fun m => Own fp3 3 msK W (sK (m + 1))) (Own fp3 3 msK W sA1) 10 ?_ ?_ h (fun a' w' h => ⟨rfl, h⟩)
  · intro m hm a w hI
    rw [xl0_eq]
    refine wp_two (Own.go (XH ΓH_ok) rfl (kh_all m hm) rfl rfl rfl (by kernel_rfl) (LessA.refl _) (LessM.refl _) hI) fun a w hI => ?_
    refine wp_two (wp_in (wp_two (Own.go (XH ΓH_ok) rfl (k7_all m hm) rfl rfl rfl (by kernel_rfl) (LessA.refl _) (LessM.refl _) hI) fun a w hI => kloop1 hm hI)) fun a w hI => ?_
    exact Own.go (XH ΓH_ok) rfl (ki_all m hm) rfl rfl rfl (by kernel_rfl) (LessA.refl _) (LessM.refl _) hI
  · intro a w hI
    rw [xl0_eq]
    refine wp_out ?_
    exact Own.phase (r := ⟨.exit 0, .tt, sA1, msK⟩) (XH ΓH_ok) rfl kh_11 rfl rfl rfl (by kernel_rfl) (LessA.refl _) (LessM.refl _) hI (fun ν' a' w' x hx h => ⟨hx, h⟩)
end

theorem body3 : Try.f3.body = some k3 := by kernel_rfl
theorem helper_calls (W : World) : Calls Try.prog 3 #[] W fun e w' => e = .returned (.bool true) ∧ Below W.heap.size W w' := by
  refine calls_phases Try.func3 body3 ?_
  rw [k3_eq]
  have st : Own fp3 0 [] W [] { tmps := #[] ++ Array.replicate (fp3.nt - 0) undef, defers := [] } W := Own.enter (vs := #[]) (fun t v h => by cases h) (Nat.zero_le _)
  refine wp_two (Own.go (XH ΓH_ok) rfl xe0 rfl rfl rfl (by kernel_rfl) (LessA.refl _) (LessM.refl _) st) fun a w hI => ?_
  refine wp_two (Own.go (XH ΓH_ok) rfl xe1 rfl rfl rfl (by kernel_rfl) (LessA.refl _) (LessM.refl _) hI) fun a w hI => ?_
  refine wp_two (Own.go (XH ΓH_ok) rfl xe2 rfl rfl rfl (by kernel_rfl) (LessA.refl _) (LessM.refl _) hI) fun a w hI => ?_
  refine wp_two (Own.go (XH ΓH_ok) rfl xe3 rfl rfl rfl (by kernel_rfl) (LessA.refl _) (LessM.refl _) hI) fun a w hI => ?_
  refine wp_two (wp_two (Own.go (XH ΓH_ok) rfl xe4 rfl rfl rfl (by kernel_rfl) (LessA.refl _) (LessM.refl _) hI) fun a w hI => kloop0 hI) fun a w hI => ?_
  refine Own.ret (XH ΓH_ok) rfl k_rest rfl rfl (by kernel_rfl) hI (fun ν u w' hu hb' => ⟨?_, hb'⟩)
  have hu : (A.tt).rel ν u := hu
  simp only [A.rel] at hu
  rw [hu]
end Go.WE
