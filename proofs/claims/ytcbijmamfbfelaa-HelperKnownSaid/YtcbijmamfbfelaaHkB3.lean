/- HelperKnown: rounds of the loop over kinds and helpers, evaluated (part 3). -/
import Derived.Test.YtcbijmamfbfelaaHkA
namespace Go.WE
open Go Go.Proofs
set_option maxRecDepth 100000
theorem kr_5_1 : endM fp3.km [1, 2, 3, 4, 5] [0, 1, 2] 3 (evK xl1 (sN 5 1) msK 3).pick = some ⟨.nrm, .tt, sN 5 2, msK⟩ := by kernel_rfl
theorem kr_5_2 : endM fp3.km [1, 2, 3, 4, 5] [0, 1, 2] 3 (evK xl1 (sN 5 2) msK 3).pick = some ⟨.nrm, .tt, sN 5 3, msK⟩ := by kernel_rfl
theorem kr_5_3 : endM fp3.km [1, 2, 3, 4, 5] [0, 1, 2] 3 (evK xl1 (sN 5 3) msK 3).pick = some ⟨.nrm, .tt, sN 5 4, msK⟩ := by kernel_rfl
theorem kr_5_4 : endM fp3.km [1, 2, 3, 4, 5] [0, 1, 2] 3 (evK xl1 (sN 5 4) msK 3).pick = some ⟨.nrm, .tt, sN 5 5, msK⟩ := by kernel_rfl
theorem kr_5_5 : endM fp3.km [1, 2, 3, 4, 5] [0, 1, 2] 3 (evK xl1 (sN 5 5) msK 3).pick = some ⟨.nrm, .tt, sN 5 6, msK⟩ := by kernel_rfl
theorem kr_5_6 : endM fp3.km [1, 2, 3, 4, 5] [0, 1, 2] 3 (evK xl1 (sN 5 6) msK 3).pick = some ⟨.nrm, .tt, sN 5 7, msK⟩ := by kernel_rfl
theorem kr_5_7 : endM fp3.km [1, 2, 3, 4, 5] [0, 1, 2] 3 (evK xl1 (sN 5 7) msK 3).pick = some ⟨.nrm, .tt, sN 5 8, msK⟩ := by kernel_rfl
theorem kr_5_8 : endM fp3.km [1, 2, 3, 4, 5] [0, 1, 2] 3 (evK xl1 (sN 5 8) msK 3).pick = some ⟨.nrm, .tt, sN 5 9, msK⟩ := by kernel_rfl
theorem kx_5 : endM fp3.km [1, 2, 3, 4] [0, 1, 2] 3 (evK xl1 (sN 5 9) msK 3).pick = some ⟨.exit 2, .tt, sK 5, msK⟩ := by kernel_rfl
theorem kh_5 : endM fp3.km [1, 2, 3, 4] [0, 1, 2] 3 (evK xh0 (sK 5) msK 3).pick = some ⟨.nrm, .tt, sK 5, msK⟩ := by kernel_rfl
theorem k7_5 : endM fp3.km [1, 2, 3, 4, 5] [0, 1, 2] 3 (evK x7 (sK 5) msK 3).pick = some ⟨.nrm, .tt, sN 5 1, msK⟩ := by kernel_rfl
theorem ki_5 : endM fp3.km [1, 2, 3, 4] [0, 1, 2] 3 (evK xi0 (sK 5) msK 3).pick = some ⟨.nrm, .tt, sK 6, msK⟩ := by kernel_rfl
theorem kr_6_1 : endM fp3.km [1, 2, 3, 4, 5] [0, 1, 2] 3 (evK xl1 (sN 6 1) msK 3).pick = some ⟨.nrm, .tt, sN 6 2, msK⟩ := by kernel_rfl
theorem kr_6_2 : endM fp3.km [1, 2, 3, 4, 5] [0, 1, 2] 3 (evK xl1 (sN 6 2) msK 3).pick = some ⟨.nrm, .tt, sN 6 3, msK⟩ := by kernel_rfl
theorem kr_6_3 : endM fp3.km [1, 2, 3, 4, 5] [0, 1, 2] 3 (evK xl1 (sN 6 3) msK 3).pick = some ⟨.nrm, .tt, sN 6 4, msK⟩ := by kernel_rfl
theorem kr_6_4 : endM fp3.km [1, 2, 3, 4, 5] [0, 1, 2] 3 (evK xl1 (sN 6 4) msK 3).pick = some ⟨.nrm, .tt, sN 6 5, msK⟩ := by kernel_rfl
theorem kr_6_5 : endM fp3.km [1, 2, 3, 4, 5] [0, 1, 2] 3 (evK xl1 (sN 6 5) msK 3).pick = some ⟨.nrm, .tt, sN 6 6, msK⟩ := by kernel_rfl
theorem kr_6_6 : endM fp3.km [1, 2, 3, 4, 5] [0, 1, 2] 3 (evK xl1 (sN 6 6) msK 3).pick = some ⟨.nrm, .tt, sN 6 7, msK⟩ := by kernel_rfl
theorem kr_6_7 : endM fp3.km [1, 2, 3, 4, 5] [0, 1, 2] 3 (evK xl1 (sN 6 7) msK 3).pick = some ⟨.nrm, .tt, sN 6 8, msK⟩ := by kernel_rfl
theorem kr_6_8 : endM fp3.km [1, 2, 3, 4, 5] [0, 1, 2] 3 (evK xl1 (sN 6 8) msK 3).pick = some ⟨.nrm, .tt, sN 6 9, msK⟩ := by kernel_rfl
theorem kx_6 : endM fp3.km [1, 2, 3, 4] [0, 1, 2] 3 (evK xl1 (sN 6 9) msK 3).pick = some ⟨.exit 2, .tt, sK 6, msK⟩ := by kernel_rfl
theorem kh_6 : endM fp3.km [1, 2, 3, 4] [0, 1, 2] 3 (evK xh0 (sK 6) msK 3).pick = some ⟨.nrm, .tt, sK 6, msK⟩ := by kernel_rfl
theorem k7_6 : endM fp3.km [1, 2, 3, 4, 5] [0, 1, 2] 3 (evK x7 (sK 6) msK 3).pick = some ⟨.nrm, .tt, sN 6 1, msK⟩ := by kernel_rfl
theorem ki_6 : endM fp3.km [1, 2, 3, 4] [0, 1, 2] 3 (evK xi0 (sK 6) msK 3).pick = some ⟨.nrm, .tt, sK 7, msK⟩ := by kernel_rfl
theorem kr_5 : ∀ n, n < 8 → endM fp3.km [1, 2, 3, 4, 5] [0, 1, 2] 3 (evK xl1 (sN 5 (n + 1)) msK 3).pick = some ⟨.nrm, .tt, sN 5 (n + 1 + 1), msK⟩
  | 0, _ => kr_5_1
  | 1, _ => kr_5_2
  | 2, _ => kr_5_3
  | 3, _ => kr_5_4
  | 4, _ => kr_5_5
  | 5, _ => kr_5_6
  | 6, _ => kr_5_7
  | 7, _ => kr_5_8
theorem kr_6 : ∀ n, n < 8 → endM fp3.km [1, 2, 3, 4, 5] [0, 1, 2] 3 (evK xl1 (sN 6 (n + 1)) msK 3).pick = some ⟨.nrm, .tt, sN 6 (n + 1 + 1), msK⟩
  | 0, _ => kr_6_1
  | 1, _ => kr_6_2
  | 2, _ => kr_6_3
  | 3, _ => kr_6_4
  | 4, _ => kr_6_5
  | 5, _ => kr_6_6
  | 6, _ => kr_6_7
  | 7, _ => kr_6_8
end Go.WE
