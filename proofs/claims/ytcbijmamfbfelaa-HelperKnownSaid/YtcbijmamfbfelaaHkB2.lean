/- HelperKnown: rounds of the loop over kinds and helpers, evaluated (part 2). -/
import Derived.Test.YtcbijmamfbfelaaHkA
namespace Go.WE
open Go Go.Proofs
set_option maxRecDepth 100000
theorem kr_3_1 : endM fp3.km [1, 2, 3, 4, 5] [0, 1, 2] 3 (evK xl1 (sN 3 1) msK 3).pick = some ⟨.nrm, .tt, sN 3 2, msK⟩ := by kernel_rfl
theorem kr_3_2 : endM fp3.km [1, 2, 3, 4, 5] [0, 1, 2] 3 (evK xl1 (sN 3 2) msK 3).pick = some ⟨.nrm, .tt, sN 3 3, msK⟩ := by kernel_rfl
theorem kr_3_3 : endM fp3.km [1, 2, 3, 4, 5] [0, 1, 2] 3 (evK xl1 (sN 3 3) msK 3).pick = some ⟨.nrm, .tt, sN 3 4, msK⟩ := by kernel_rfl
theorem kr_3_4 : endM fp3.km [1, 2, 3, 4, 5] [0, 1, 2] 3 (evK xl1 (sN 3 4) msK 3).pick = some ⟨.nrm, .tt, sN 3 5, msK⟩ := by kernel_rfl
theorem kr_3_5 : endM fp3.km [1, 2, 3, 4, 5] [0, 1, 2] 3 (evK xl1 (sN 3 5) msK 3).pick = some ⟨.nrm, .tt, sN 3 6, msK⟩ := by kernel_rfl
theorem kr_3_6 : endM fp3.km [1, 2, 3, 4, 5] [0, 1, 2] 3 (evK xl1 (sN 3 6) msK 3).pick = some ⟨.nrm, .tt, sN 3 7, msK⟩ := by kernel_rfl
theorem kr_3_7 : endM fp3.km [1, 2, 3, 4, 5] [0, 1, 2] 3 (evK xl1 (sN 3 7) msK 3).pick = some ⟨.nrm, .tt, sN 3 8, msK⟩ := by kernel_rfl
theorem kr_3_8 : endM fp3.km [1, 2, 3, 4, 5] [0, 1, 2] 3 (evK xl1 (sN 3 8) msK 3).pick = some ⟨.nrm, .tt, sN 3 9, msK⟩ := by kernel_rfl
theorem kx_3 : endM fp3.km [1, 2, 3, 4] [0, 1, 2] 3 (evK xl1 (sN 3 9) msK 3).pick = some ⟨.exit 2, .tt, sK 3, msK⟩ := by kernel_rfl
theorem kh_3 : endM fp3.km [1, 2, 3, 4] [0, 1, 2] 3 (evK xh0 (sK 3) msK 3).pick = some ⟨.nrm, .tt, sK 3, msK⟩ := by kernel_rfl
theorem k7_3 : endM fp3.km [1, 2, 3, 4, 5] [0, 1, 2] 3 (evK x7 (sK 3) msK 3).pick = some ⟨.nrm, .tt, sN 3 1, msK⟩ := by kernel_rfl
theorem ki_3 : endM fp3.km [1, 2, 3, 4] [0, 1, 2] 3 (evK xi0 (sK 3) msK 3).pick = some ⟨.nrm, .tt, sK 4, msK⟩ := by kernel_rfl
theorem kr_4_1 : endM fp3.km [1, 2, 3, 4, 5] [0, 1, 2] 3 (evK xl1 (sN 4 1) msK 3).pick = some ⟨.nrm, .tt, sN 4 2, msK⟩ := by kernel_rfl
theorem kr_4_2 : endM fp3.km [1, 2, 3, 4, 5] [0, 1, 2] 3 (evK xl1 (sN 4 2) msK 3).pick = some ⟨.nrm, .tt, sN 4 3, msK⟩ := by kernel_rfl
theorem kr_4_3 : endM fp3.km [1, 2, 3, 4, 5] [0, 1, 2] 3 (evK xl1 (sN 4 3) msK 3).pick = some ⟨.nrm, .tt, sN 4 4, msK⟩ := by kernel_rfl
theorem kr_4_4 : endM fp3.km [1, 2, 3, 4, 5] [0, 1, 2] 3 (evK xl1 (sN 4 4) msK 3).pick = some ⟨.nrm, .tt, sN 4 5, msK⟩ := by kernel_rfl
theorem kr_4_5 : endM fp3.km [1, 2, 3, 4, 5] [0, 1, 2] 3 (evK xl1 (sN 4 5) msK 3).pick = some ⟨.nrm, .tt, sN 4 6, msK⟩ := by kernel_rfl
theorem kr_4_6 : endM fp3.km [1, 2, 3, 4, 5] [0, 1, 2] 3 (evK xl1 (sN 4 6) msK 3).pick = some ⟨.nrm, .tt, sN 4 7, msK⟩ := by kernel_rfl
theorem kr_4_7 : endM fp3.km [1, 2, 3, 4, 5] [0, 1, 2] 3 (evK xl1 (sN 4 7) msK 3).pick = some ⟨.nrm, .tt, sN 4 8, msK⟩ := by kernel_rfl
theorem kr_4_8 : endM fp3.km [1, 2, 3, 4, 5] [0, 1, 2] 3 (evK xl1 (sN 4 8) msK 3).pick = some ⟨.nrm, .tt, sN 4 9, msK⟩ := by kernel_rfl
theorem kx_4 : endM fp3.km [1, 2, 3, 4] [0, 1, 2] 3 (evK xl1 (sN 4 9) msK 3).pick = some ⟨.exit 2, .tt, sK 4, msK⟩ := by kernel_rfl
theorem kh_4 : endM fp3.km [1, 2, 3, 4] [0, 1, 2] 3 (evK xh0 (sK 4) msK 3).pick = some ⟨.nrm, .tt, sK 4, msK⟩ := by kernel_rfl
theorem k7_4 : endM fp3.km [1, 2, 3, 4, 5] [0, 1, 2] 3 (evK x7 (sK 4) msK 3).pick = some ⟨.nrm, .tt, sN 4 1, msK⟩ := by kernel_rfl
theorem ki_4 : endM fp3.km [1, 2, 3, 4] [0, 1, 2] 3 (evK xi0 (sK 4) msK 3).pick = some ⟨.nrm, .tt, sK 5, msK⟩ := by kernel_rfl
theorem kr_3 : ∀ n, n < 8 → endM fp3.km [1, 2, 3, 4, 5] [0, 1, 2] 3 (evK xl1 (sN 3 (n + 1)) msK 3).pick = some ⟨.nrm, .tt, sN 3 (n + 1 + 1), msK⟩
  | 0, _ => kr_3_1
  | 1, _ => kr_3_2
  | 2, _ => kr_3_3
  | 3, _ => kr_3_4
  | 4, _ => kr_3_5
  | 5, _ => kr_3_6
  | 6, _ => kr_3_7
  | 7, _ => kr_3_8
theorem kr_4 : ∀ n, n < 8 → endM fp3.km [1, 2, 3, 4, 5] [0, 1, 2] 3 (evK xl1 (sN 4 (n + 1)) msK 3).pick = some ⟨.nrm, .tt, sN 4 (n + 1 + 1), msK⟩
  | 0, _ => kr_4_1
  | 1, _ => kr_4_2
  | 2, _ => kr_4_3
  | 3, _ => kr_4_4
  | 4, _ => kr_4_5
  | 5, _ => kr_4_6
  | 6, _ => kr_4_7
  | 7, _ => kr_4_8
end Go.WE
