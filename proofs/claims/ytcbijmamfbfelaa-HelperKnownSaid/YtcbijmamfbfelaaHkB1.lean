/- HelperKnown: rounds of the loop over kinds and helpers, evaluated (part 1). -/
import Derived.Test.YtcbijmamfbfelaaHkA
namespace Go.WE
open Go Go.Proofs
set_option maxRecDepth 100000
theorem kr_1_1 : endM fp3.km [1, 2, 3, 4, 5] [0, 1, 2] 3 (evK xl1 (sN 1 1) msK 3).pick = some ⟨.nrm, .tt, sN 1 2, msK⟩ := by kernel_rfl
theorem kr_1_2 : endM fp3.km [1, 2, 3, 4, 5] [0, 1, 2] 3 (evK xl1 (sN 1 2) msK 3).pick = some ⟨.nrm, .tt, sN 1 3, msK⟩ := by kernel_rfl
theorem kr_1_3 : endM fp3.km [1, 2, 3, 4, 5] [0, 1, 2] 3 (evK xl1 (sN 1 3) msK 3).pick = some ⟨.nrm, .tt, sN 1 4, msK⟩ := by kernel_rfl
theorem kr_1_4 : endM fp3.km [1, 2, 3, 4, 5] [0, 1, 2] 3 (evK xl1 (sN 1 4) msK 3).pick = some ⟨.nrm, .tt, sN 1 5, msK⟩ := by kernel_rfl
theorem kr_1_5 : endM fp3.km [1, 2, 3, 4, 5] [0, 1, 2] 3 (evK xl1 (sN 1 5) msK 3).pick = some ⟨.nrm, .tt, sN 1 6, msK⟩ := by kernel_rfl
theorem kr_1_6 : endM fp3.km [1, 2, 3, 4, 5] [0, 1, 2] 3 (evK xl1 (sN 1 6) msK 3).pick = some ⟨.nrm, .tt, sN 1 7, msK⟩ := by kernel_rfl
theorem kr_1_7 : endM fp3.km [1, 2, 3, 4, 5] [0, 1, 2] 3 (evK xl1 (sN 1 7) msK 3).pick = some ⟨.nrm, .tt, sN 1 8, msK⟩ := by kernel_rfl
theorem kr_1_8 : endM fp3.km [1, 2, 3, 4, 5] [0, 1, 2] 3 (evK xl1 (sN 1 8) msK 3).pick = some ⟨.nrm, .tt, sN 1 9, msK⟩ := by kernel_rfl
theorem kx_1 : endM fp3.km [1, 2, 3, 4] [0, 1, 2] 3 (evK xl1 (sN 1 9) msK 3).pick = some ⟨.exit 2, .tt, sK 1, msK⟩ := by kernel_rfl
theorem kh_1 : endM fp3.km [1, 2, 3, 4] [0, 1, 2] 3 (evK xh0 (sK 1) msK 3).pick = some ⟨.nrm, .tt, sK 1, msK⟩ := by kernel_rfl
theorem k7_1 : endM fp3.km [1, 2, 3, 4, 5] [0, 1, 2] 3 (evK x7 (sK 1) msK 3).pick = some ⟨.nrm, .tt, sN 1 1, msK⟩ := by kernel_rfl
theorem ki_1 : endM fp3.km [1, 2, 3, 4] [0, 1, 2] 3 (evK xi0 (sK 1) msK 3).pick = some ⟨.nrm, .tt, sK 2, msK⟩ := by kernel_rfl
theorem kr_2_1 : endM fp3.km [1, 2, 3, 4, 5] [0, 1, 2] 3 (evK xl1 (sN 2 1) msK 3).pick = some ⟨.nrm, .tt, sN 2 2, msK⟩ := by kernel_rfl
theorem kr_2_2 : endM fp3.km [1, 2, 3, 4, 5] [0, 1, 2] 3 (evK xl1 (sN 2 2) msK 3).pick = some ⟨.nrm, .tt, sN 2 3, msK⟩ := by kernel_rfl
theorem kr_2_3 : endM fp3.km [1, 2, 3, 4, 5] [0, 1, 2] 3 (evK xl1 (sN 2 3) msK 3).pick = some ⟨.nrm, .tt, sN 2 4, msK⟩ := by kernel_rfl
theorem kr_2_4 : endM fp3.km [1, 2, 3, 4, 5] [0, 1, 2] 3 (evK xl1 (sN 2 4) msK 3).pick = some ⟨.nrm, .tt, sN 2 5, msK⟩ := by kernel_rfl
theorem kr_2_5 : endM fp3.km [1, 2, 3, 4, 5] [0, 1, 2] 3 (evK xl1 (sN 2 5) msK 3).pick = some ⟨.nrm, .tt, sN 2 6, msK⟩ := by kernel_rfl
theorem kr_2_6 : endM fp3.km [1, 2, 3, 4, 5] [0, 1, 2] 3 (evK xl1 (sN 2 6) msK 3).pick = some ⟨.nrm, .tt, sN 2 7, msK⟩ := by kernel_rfl
theorem kr_2_7 : endM fp3.km [1, 2, 3, 4, 5] [0, 1, 2] 3 (evK xl1 (sN 2 7) msK 3).pick = some ⟨.nrm, .tt, sN 2 8, msK⟩ := by kernel_rfl
theorem kr_2_8 : endM fp3.km [1, 2, 3, 4, 5] [0, 1, 2] 3 (evK xl1 (sN 2 8) msK 3).pick = some ⟨.nrm, .tt, sN 2 9, msK⟩ := by kernel_rfl
theorem kx_2 : endM fp3.km [1, 2, 3, 4] [0, 1, 2] 3 (evK xl1 (sN 2 9) msK 3).pick = some ⟨.exit 2, .tt, sK 2, msK⟩ := by kernel_rfl
theorem kh_2 : endM fp3.km [1, 2, 3, 4] [0, 1, 2] 3 (evK xh0 (sK 2) msK 3).pick = some ⟨.nrm, .tt, sK 2, msK⟩ := by kernel_rfl
theorem k7_2 : endM fp3.km [1, 2, 3, 4, 5] [0, 1, 2] 3 (evK x7 (sK 2) msK 3).pick = some ⟨.nrm, .tt, sN 2 1, msK⟩ := by kernel_rfl
theorem ki_2 : endM fp3.km [1, 2, 3, 4] [0, 1, 2] 3 (evK xi0 (sK 2) msK 3).pick = some ⟨.nrm, .tt, sK 3, msK⟩ := by kernel_rfl
theorem kr_1 : ∀ n, n < 8 → endM fp3.km [1, 2, 3, 4, 5] [0, 1, 2] 3 (evK xl1 (sN 1 (n + 1)) msK 3).pick = some ⟨.nrm, .tt, sN 1 (n + 1 + 1), msK⟩
  | 0, _ => kr_1_1
  | 1, _ => kr_1_2
  | 2, _ => kr_1_3
  | 3, _ => kr_1_4
  | 4, _ => kr_1_5
  | 5, _ => kr_1_6
  | 6, _ => kr_1_7
  | 7, _ => kr_1_8
theorem kr_2 : ∀ n, n < 8 → endM fp3.km [1, 2, 3, 4, 5] [0, 1, 2] 3 (evK xl1 (sN 2 (n + 1)) msK 3).pick = some ⟨.nrm, .tt, sN 2 (n + 1 + 1), msK⟩
  | 0, _ => kr_2_1
  | 1, _ => kr_2_2
  | 2, _ => kr_2_3
  | 3, _ => kr_2_4
  | 4, _ => kr_2_5
  | 5, _ => kr_2_6
  | 6, _ => kr_2_7
  | 7, _ => kr_2_8
end Go.WE
