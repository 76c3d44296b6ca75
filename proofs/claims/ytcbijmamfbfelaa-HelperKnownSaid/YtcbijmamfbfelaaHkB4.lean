/- HelperKnown: rounds of the loop over kinds and helpers, evaluated (part 4). -/
import Derived.Test.YtcbijmamfbfelaaHkA
namespace Go.WE
open Go Go.Proofs
set_option maxRecDepth 100000
theorem kr_7_1 : endM fp3.km [1, 2, 3, 4, 5] [0, 1, 2] 3 (evK xl1 (sN 7 1) msK 3).pick = some ⟨.nrm, .tt, sN 7 2, msK⟩ := by kernel_rfl
theorem kr_7_2 : endM fp3.km [1, 2, 3, 4, 5] [0, 1, 2] 3 (evK xl1 (sN 7 2) msK 3).pick = some ⟨.nrm, .tt, sN 7 3, msK⟩ := by kernel_rfl
theorem kr_7_3 : endM fp3.km [1, 2, 3, 4, 5] [0, 1, 2] 3 (evK xl1 (sN 7 3) msK 3).pick = some ⟨.nrm, .tt, sN 7 4, msK⟩ := by kernel_rfl
theorem kr_7_4 : endM fp3.km [1, 2, 3, 4, 5] [0, 1, 2] 3 (evK xl1 (sN 7 4) msK 3).pick = some ⟨.nrm, .tt, sN 7 5, msK⟩ := by kernel_rfl
theorem kr_7_5 : endM fp3.km [1, 2, 3, 4, 5] [0, 1, 2] 3 (evK xl1 (sN 7 5) msK 3).pick = some ⟨.nrm, .tt, sN 7 6, msK⟩ := by kernel_rfl
theorem kr_7_6 : endM fp3.km [1, 2, 3, 4, 5] [0, 1, 2] 3 (evK xl1 (sN 7 6) msK 3).pick = some ⟨.nrm, .tt, sN 7 7, msK⟩ := by kernel_rfl
theorem kr_7_7 : endM fp3.km [1, 2, 3, 4, 5] [0, 1, 2] 3 (evK xl1 (sN 7 7) msK 3).pick = some ⟨.nrm, .tt, sN 7 8, msK⟩ := by kernel_rfl
theorem kr_7_8 : endM fp3.km [1, 2, 3, 4, 5] [0, 1, 2] 3 (evK xl1 (sN 7 8) msK 3).pick = some ⟨.nrm, .tt, sN 7 9, msK⟩ := by kernel_rfl
theorem kx_7 : endM fp3.km [1, 2, 3, 4] [0, 1, 2] 3 (evK xl1 (sN 7 9) msK 3).pick = some ⟨.exit 2, .tt, sK 7, msK⟩ := by kernel_rfl
theorem kh_7 : endM fp3.km [1, 2, 3, 4] [0, 1, 2] 3 (evK xh0 (sK 7) msK 3).pick = some ⟨.nrm, .tt, sK 7, msK⟩ := by kernel_rfl
theorem k7_7 : endM fp3.km [1, 2, 3, 4, 5] [0, 1, 2] 3 (evK x7 (sK 7) msK 3).pick = some ⟨.nrm, .tt, sN 7 1, msK⟩ := by kernel_rfl
theorem ki_7 : endM fp3.km [1, 2, 3, 4] [0, 1, 2] 3 (evK xi0 (sK 7) msK 3).pick = some ⟨.nrm, .tt, sK 8, msK⟩ := by kernel_rfl
theorem kr_8_1 : endM fp3.km [1, 2, 3, 4, 5] [0, 1, 2] 3 (evK xl1 (sN 8 1) msK 3).pick = some ⟨.nrm, .tt, sN 8 2, msK⟩ := by kernel_rfl
theorem kr_8_2 : endM fp3.km [1, 2, 3, 4, 5] [0, 1, 2] 3 (evK xl1 (sN 8 2) msK 3).pick = some ⟨.nrm, .tt, sN 8 3, msK⟩ := by kernel_rfl
theorem kr_8_3 : endM fp3.km [1, 2, 3, 4, 5] [0, 1, 2] 3 (evK xl1 (sN 8 3) msK 3).pick = some ⟨.nrm, .tt, sN 8 4, msK⟩ := by kernel_rfl
theorem kr_8_4 : endM fp3.km [1, 2, 3, 4, 5] [0, 1, 2] 3 (evK xl1 (sN 8 4) msK 3).pick = some ⟨.nrm, .tt, sN 8 5, msK⟩ := by kernel_rfl
theorem kr_8_5 : endM fp3.km [1, 2, 3, 4, 5] [0, 1, 2] 3 (evK xl1 (sN 8 5) msK 3).pick = some ⟨.nrm, .tt, sN 8 6, msK⟩ := by kernel_rfl
theorem kr_8_6 : endM fp3.km [1, 2, 3, 4, 5] [0, 1, 2] 3 (evK xl1 (sN 8 6) msK 3).pick = some ⟨.nrm, .tt, sN 8 7, msK⟩ := by kernel_rfl
theorem kr_8_7 : endM fp3.km [1, 2, 3, 4, 5] [0, 1, 2] 3 (evK xl1 (sN 8 7) msK 3).pick = some ⟨.nrm, .tt, sN 8 8, msK⟩ := by kernel_rfl
theorem kr_8_8 : endM fp3.km [1, 2, 3, 4, 5] [0, 1, 2] 3 (evK xl1 (sN 8 8) msK 3).pick = some ⟨.nrm, .tt, sN 8 9, msK⟩ := by kernel_rfl
theorem kx_8 : endM fp3.km [1, 2, 3, 4] [0, 1, 2] 3 (evK xl1 (sN 8 9) msK 3).pick = some ⟨.exit 2, .tt, sK 8, msK⟩ := by kernel_rfl
theorem kh_8 : endM fp3.km [1, 2, 3, 4] [0, 1, 2] 3 (evK xh0 (sK 8) msK 3).pick = some ⟨.nrm, .tt, sK 8, msK⟩ := by kernel_rfl
theorem k7_8 : endM fp3.km [1, 2, 3, 4, 5] [0, 1, 2] 3 (evK x7 (sK 8) msK 3).pick = some ⟨.nrm, .tt, sN 8 1, msK⟩ := by kernel_rfl
theorem ki_8 : endM fp3.km [1, 2, 3, 4] [0, 1, 2] 3 (evK xi0 (sK 8) msK 3).pick = some ⟨.nrm, .tt, sK 9, msK⟩ := by kernel_rfl
theorem kr_7 : ∀ n, n < 8 → endM fp3.km [1, 2, 3, 4, 5] [0, 1, 2] 3 (evK xl1 (sN 7 (n + 1)) msK 3).pick = some ⟨.nrm, .tt, sN 7 (n + 1 + 1), msK⟩
  | 0, _ => kr_7_1
  | 1, _ => kr_7_2
  | 2, _ => kr_7_3
  | 3, _ => kr_7_4
  | 4, _ => kr_7_5
  | 5, _ => kr_7_6
  | 6, _ => kr_7_7
  | 7, _ => kr_7_8
theorem kr_8 : ∀ n, n < 8 → endM fp3.km [1, 2, 3, 4, 5] [0, 1, 2] 3 (evK xl1 (sN 8 (n + 1)) msK 3).pick = some ⟨.nrm, .tt, sN 8 (n + 1 + 1), msK⟩
  | 0, _ => kr_8_1
  | 1, _ => kr_8_2
  | 2, _ => kr_8_3
  | 3, _ => kr_8_4
  | 4, _ => kr_8_5
  | 5, _ => kr_8_6
  | 6, _ => kr_8_7
  | 7, _ => kr_8_8
end Go.WE
