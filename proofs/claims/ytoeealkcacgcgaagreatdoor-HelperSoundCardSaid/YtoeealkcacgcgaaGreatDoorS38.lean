/- A part of a proof of the helpers' law; no condition of its own. -/
import Derived.Test.YtoeealkcacgcgaaGreatDoorS36
set_option linter.unusedVariables false
set_option maxRecDepth 100000
noncomputable section
namespace Go.WE
open Go Go.Proofs Go.RowKit
theorem cv1_1_1_b0:CkV (some 0) 1 1 1 (badV 0 1 1 [0]):=⟨fun _ _ _ _=>by kernel_rfl⟩
theorem cv1_4_1:CkV none 4 1 1 (goodV 4 1 1 [0]):=⟨fun _ _ _ _=>by kernel_rfl⟩
theorem cv1_6_n:CkV none 6 1 1 (noneC 6):=⟨fun _ _ _ _=>by kernel_rfl⟩
theorem cv1_9_1_b0:CkV (some 0) 9 1 1 (badV 0 9 1 [0]):=⟨fun _ _ _ _=>by kernel_rfl⟩
theorem cv2_1_1_b0:CkV (some 0) 1 1 2 (badV 0 1 1 [0,1,2]):=⟨fun _ _ _ _=>by kernel_rfl⟩
theorem cv2_2_1_b0:CkV (some 0) 2 1 2 (badV 0 2 1 [0,1,2]):=⟨fun _ _ _ _=>by kernel_rfl⟩
theorem cv2_3_1_b0:CkV (some 0) 3 1 2 (badV 0 3 1 [0,1,2]):=⟨fun _ _ _ _=>by kernel_rfl⟩
theorem cv2_3_2_b0:CkV (some 0) 3 2 2 (badV 0 3 2 [0,1,2]):=⟨fun _ _ _ _=>by kernel_rfl⟩
theorem cv2_3_3_b0:CkV (some 0) 3 3 2 (badV 0 3 3 [0,1,2]):=⟨fun _ _ _ _=>by kernel_rfl⟩
theorem cv2_3_4_b0:CkV (some 0) 3 4 2 (badV 0 3 4 [0,1,2]):=⟨fun _ _ _ _=>by kernel_rfl⟩
theorem cv2_4_1_b0:CkV (some 0) 4 1 2 (badV 0 4 1 [0,1,2]):=⟨fun _ _ _ _=>by kernel_rfl⟩
theorem cv2_5_1_b0:CkV (some 0) 5 1 2 (badV 0 5 1 [0,1,2]):=⟨fun _ _ _ _=>by kernel_rfl⟩
theorem cv2_7_n:CkV none 7 1 2 (noneC 7):=⟨fun _ _ _ _=>by kernel_rfl⟩
theorem cv3_1_n:CkV none 1 1 3 (noneC 1):=⟨fun _ _ _ _=>by kernel_rfl⟩
theorem cv3_4_1_b0:CkV (some 0) 4 1 3 (badV 0 4 1 [0]):=⟨fun _ _ _ _=>by kernel_rfl⟩
theorem cv3_7_n:CkV none 7 1 3 (noneC 7):=⟨fun _ _ _ _=>by kernel_rfl⟩
theorem cv4_1_n:CkV none 1 1 4 (noneC 1):=⟨fun _ _ _ _=>by kernel_rfl⟩
theorem cv4_5_n:CkV none 5 1 4 (noneC 5):=⟨fun _ _ _ _=>by kernel_rfl⟩
theorem cv4_6_2:CkV none 6 2 4 (goodV 6 2 4 [1,2]):=⟨fun _ _ _ _=>by kernel_rfl⟩
theorem cv4_6_3_b1:CkV (some 1) 6 3 4 (badV 1 6 3 [1,2]):=⟨fun _ _ _ _=>by kernel_rfl⟩
theorem cv4_6_4_b2:CkV (some 2) 6 4 4 (badV 2 6 4 [1,2]):=⟨fun _ _ _ _=>by kernel_rfl⟩
theorem cv4_7_2:CkV none 7 2 4 (goodV 7 2 4 [1,2]):=⟨fun _ _ _ _=>by kernel_rfl⟩
theorem cv4_7_3_b1:CkV (some 1) 7 3 4 (badV 1 7 3 [1,2]):=⟨fun _ _ _ _=>by kernel_rfl⟩
theorem cv4_7_4_b2:CkV (some 2) 7 4 4 (badV 2 7 4 [1,2]):=⟨fun _ _ _ _=>by kernel_rfl⟩
theorem cv4_9_n:CkV none 9 1 4 (noneC 9):=⟨fun _ _ _ _=>by kernel_rfl⟩
theorem cv5_3_n:CkV none 3 1 5 (noneC 3):=⟨fun _ _ _ _=>by kernel_rfl⟩
theorem cv5_6_1_b3:CkV (some 3) 6 1 5 (badV 3 6 1 [3]):=⟨fun _ _ _ _=>by kernel_rfl⟩
theorem cv5_6_3_b3:CkV (some 3) 6 3 5 (badV 3 6 3 [3]):=⟨fun _ _ _ _=>by kernel_rfl⟩
theorem cv5_7_1_b3:CkV (some 3) 7 1 5 (badV 3 7 1 [3]):=⟨fun _ _ _ _=>by kernel_rfl⟩
theorem cv5_7_3_b3:CkV (some 3) 7 3 5 (badV 3 7 3 [3]):=⟨fun _ _ _ _=>by kernel_rfl⟩
theorem cv5_9_n:CkV none 9 1 5 (noneC 9):=⟨fun _ _ _ _=>by kernel_rfl⟩
theorem cv6_3_n:CkV none 3 1 6 (noneC 3):=⟨fun _ _ _ _=>by kernel_rfl⟩
theorem cv6_6_1_b3:CkV (some 3) 6 1 6 (badV 3 6 1 [3]):=⟨fun _ _ _ _=>by kernel_rfl⟩
theorem cv6_6_3_b3:CkV (some 3) 6 3 6 (badV 3 6 3 [3]):=⟨fun _ _ _ _=>by kernel_rfl⟩
theorem cv6_7_1_b3:CkV (some 3) 7 1 6 (badV 3 7 1 [3]):=⟨fun _ _ _ _=>by kernel_rfl⟩
theorem cv6_7_3_b3:CkV (some 3) 7 3 6 (badV 3 7 3 [3]):=⟨fun _ _ _ _=>by kernel_rfl⟩
theorem cv6_8_1_b1:CkV (some 1) 8 1 6 (badV 1 8 1 [1]):=⟨fun _ _ _ _=>by kernel_rfl⟩
theorem cv8_2_n:CkV none 2 1 8 (noneC 2):=⟨fun _ _ _ _=>by kernel_rfl⟩
theorem cv8_3_2:CkV none 3 2 8 (goodV 3 2 8 [0,3]):=⟨fun _ _ _ _=>by kernel_rfl⟩
theorem cv8_3_3_b0:CkV (some 0) 3 3 8 (badV 0 3 3 [0,3]):=⟨fun _ _ _ _=>by kernel_rfl⟩
theorem cv8_3_4_b3:CkV (some 3) 3 4 8 (badV 3 3 4 [0,3]):=⟨fun _ _ _ _=>by kernel_rfl⟩
theorem cv8_7_n:CkV none 7 1 8 (noneC 7):=⟨fun _ _ _ _=>by kernel_rfl⟩
end Go.WE
end
