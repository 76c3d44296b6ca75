/- HelperKnown: rounds of the loop over kinds and helpers, evaluated (part 5). -/
import Derived.Test.YtcbijmamfbfelaaHkA
namespace Go.WE
open Go Go.Proofs
set_option maxRecDepth 100000
theorem kr_9_1 : endM fp3.km [1, 2, 3, 4, 5] [0, 1, 2] 3 (evK xl1 (sN 9 1) msK 3).pick = some ⟨.nrm, .tt, sN 9 2, msK⟩ := by kernel_rfl
theorem kr_9_2 : endM fp3.km [1, 2, 3, 4, 5] [0, 1, 2] 3 (evK xl1 (sN 9 2) msK 3).pick = some ⟨.nrm, .tt, sN 9 3, msK⟩ := by kernel_rfl
theorem kr_9_3 : endM fp3.km [1, 2, 3, 4, 5] [0, 1, 2] 3 (evK xl1 (sN 9 3) msK 3).pick = some ⟨.nrm, .tt, sN 9 4, msK⟩ := by kernel_rfl
theorem kr_9_4 : endM fp3.km [1, 2, 3, 4, 5] [0, 1, 2] 3 (evK xl1 (sN 9 4) msK 3).pick = some ⟨.nrm, .tt, sN 9 5, msK⟩ := by kernel_rfl
theorem kr_9_5 : endM fp3.km [1, 2, 3, 4, 5] [0, 1, 2] 3 (evK xl1 (sN 9 5) msK 3).pick = some ⟨.nrm, .tt, sN 9 6, msK⟩ := by kernel_rfl
theorem kr_9_6 : endM fp3.km [1, 2, 3, 4, 5] [0, 1, 2] 3 (evK xl1 (sN 9 6) msK 3).pick = some ⟨.nrm, .tt, sN 9 7, msK⟩ := by kernel_rfl
theorem kr_9_7 : endM fp3.km [1, 2, 3, 4, 5] [0, 1, 2] 3 (evK xl1 (sN 9 7) msK 3).pick = some ⟨.nrm, .tt, sN 9 8, msK⟩ := by kernel_rfl
theorem kr_9_8 : endM fp3.km [1, 2, 3, 4, 5] [0, 1, 2] 3 (evK xl1 (sN 9 8) msK 3).pick = some ⟨.nrm, .tt, sN 9 9, msK⟩ := by kernel_rfl
theorem kx_9 : endM fp3.km [1, 2, 3, 4] [0, 1, 2] 3 (evK xl1 (sN 9 9) msK 3).pick = some ⟨.exit 2, .tt, sK 9, msK⟩ := by kernel_rfl
theorem kh_9 : endM fp3.km [1, 2, 3, 4] [0, 1, 2] 3 (evK xh0 (sK 9) msK 3).pick = some ⟨.nrm, .tt, sK 9, msK⟩ := by kernel_rfl
theorem k7_9 : endM fp3.km [1, 2, 3, 4, 5] [0, 1, 2] 3 (evK x7 (sK 9) msK 3).pick = some ⟨.nrm, .tt, sN 9 1, msK⟩ := by kernel_rfl
theorem ki_9 : endM fp3.km [1, 2, 3, 4] [0, 1, 2] 3 (evK xi0 (sK 9) msK 3).pick = some ⟨.nrm, .tt, sK 10, msK⟩ := by kernel_rfl
theorem kr_10_1 : endM fp3.km [1, 2, 3, 4, 5] [0, 1, 2] 3 (evK xl1 (sN 10 1) msK 3).pick = some ⟨.nrm, .tt, sN 10 2, msK⟩ := by kernel_rfl
theorem kr_10_2 : endM fp3.km [1, 2, 3, 4, 5] [0, 1, 2] 3 (evK xl1 (sN 10 2) msK 3).pick = some ⟨.nrm, .tt, sN 10 3, msK⟩ := by kernel_rfl
theorem kr_10_3 : endM fp3.km [1, 2, 3, 4, 5] [0, 1, 2] 3 (evK xl1 (sN 10 3) msK 3).pick = some ⟨.nrm, .tt, sN 10 4, msK⟩ := by kernel_rfl
theorem kr_10_4 : endM fp3.km [1, 2, 3, 4, 5] [0, 1, 2] 3 (evK xl1 (sN 10 4) msK 3).pick = some ⟨.nrm, .tt, sN 10 5, msK⟩ := by kernel_rfl
theorem kr_10_5 : endM fp3.km [1, 2, 3, 4, 5] [0, 1, 2] 3 (evK xl1 (sN 10 5) msK 3).pick = some ⟨.nrm, .tt, sN 10 6, msK⟩ := by kernel_rfl
theorem kr_10_6 : endM fp3.km [1, 2, 3, 4, 5] [0, 1, 2] 3 (evK xl1 (sN 10 6) msK 3).pick = some ⟨.nrm, .tt, sN 10 7, msK⟩ := by kernel_rfl
theorem kr_10_7 : endM fp3.km [1, 2, 3, 4, 5] [0, 1, 2] 3 (evK xl1 (sN 10 7) msK 3).pick = some ⟨.nrm, .tt, sN 10 8, msK⟩ := by kernel_rfl
theorem kr_10_8 : endM fp3.km [1, 2, 3, 4, 5] [0, 1, 2] 3 (evK xl1 (sN 10 8) msK 3).pick = some ⟨.nrm, .tt, sN 10 9, msK⟩ := by kernel_rfl
theorem kx_10 : endM fp3.km [1, 2, 3, 4] [0, 1, 2] 3 (evK xl1 (sN 10 9) msK 3).pick = some ⟨.exit 2, .tt, sK 10, msK⟩ := by kernel_rfl
theorem kh_10 : endM fp3.km [1, 2, 3, 4] [0, 1, 2] 3 (evK xh0 (sK 10) msK 3).pick = some ⟨.nrm, .tt, sK 10, msK⟩ := by kernel_rfl
theorem k7_10 : endM fp3.km [1, 2, 3, 4, 5] [0, 1, 2] 3 (evK x7 (sK 10) msK 3).pick = some ⟨.nrm, .tt, sN 10 1, msK⟩ := by kernel_rfl
theorem ki_10 : endM fp3.km [1, 2, 3, 4] [0, 1, 2] 3 (evK xi0 (sK 10) msK 3).pick = some ⟨.nrm, .tt, sK 11, msK⟩ := by kernel_rfl
theorem kh_11 : endM fp3.km [1] [0, 1, 2] 3 (evK xh0 (sK 11) msK 3).pick = some ⟨.exit 0, .tt, sA1, msK⟩ := by kernel_rfl
theorem kr_9 : ∀ n, n < 8 → endM fp3.km [1, 2, 3, 4, 5] [0, 1, 2] 3 (evK xl1 (sN 9 (n + 1)) msK 3).pick = some ⟨.nrm, .tt, sN 9 (n + 1 + 1), msK⟩
  | 0, _ => kr_9_1
  | 1, _ => kr_9_2
  | 2, _ => kr_9_3
  | 3, _ => kr_9_4
  | 4, _ => kr_9_5
  | 5, _ => kr_9_6
  | 6, _ => kr_9_7
  | 7, _ => kr_9_8
theorem kr_10 : ∀ n, n < 8 → endM fp3.km [1, 2, 3, 4, 5] [0, 1, 2] 3 (evK xl1 (sN 10 (n + 1)) msK 3).pick = some ⟨.nrm, .tt, sN 10 (n + 1 + 1), msK⟩
  | 0, _ => kr_10_1
  | 1, _ => kr_10_2
  | 2, _ => kr_10_3
  | 3, _ => kr_10_4
  | 4, _ => kr_10_5
  | 5, _ => kr_10_6
  | 6, _ => kr_10_7
  | 7, _ => kr_10_8
end Go.WE
