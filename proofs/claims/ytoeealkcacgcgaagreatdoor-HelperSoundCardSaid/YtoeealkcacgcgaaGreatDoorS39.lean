/- A part of a proof of the helpers' law; no condition of its own. -/
import Derived.Test.YtoeealkcacgcgaaGreatDoorS36
set_option linter.unusedVariables false
set_option maxRecDepth 100000
noncomputable section
namespace Go.WE
open Go Go.Proofs Go.RowKit
theorem cv1_2_1:CkV none 2 1 1 (goodV 2 1 1 [0]):=⟨fun _ _ _ _=>by kernel_rfl⟩
theorem cv1_4_1_b0:CkV (some 0) 4 1 1 (badV 0 4 1 [0]):=⟨fun _ _ _ _=>by kernel_rfl⟩
theorem cv1_7_n:CkV none 7 1 1 (noneC 7):=⟨fun _ _ _ _=>by kernel_rfl⟩
theorem cv1_10_1:CkV none 10 1 1 (goodV 10 1 1 [0]):=⟨fun _ _ _ _=>by kernel_rfl⟩
theorem cv2_1_1_b1:CkV (some 1) 1 1 2 (badV 1 1 1 [0,1,2]):=⟨fun _ _ _ _=>by kernel_rfl⟩
theorem cv2_2_1_b1:CkV (some 1) 2 1 2 (badV 1 2 1 [0,1,2]):=⟨fun _ _ _ _=>by kernel_rfl⟩
theorem cv2_3_1_b1:CkV (some 1) 3 1 2 (badV 1 3 1 [0,1,2]):=⟨fun _ _ _ _=>by kernel_rfl⟩
theorem cv2_3_2_b1:CkV (some 1) 3 2 2 (badV 1 3 2 [0,1,2]):=⟨fun _ _ _ _=>by kernel_rfl⟩
theorem cv2_3_3_b1:CkV (some 1) 3 3 2 (badV 1 3 3 [0,1,2]):=⟨fun _ _ _ _=>by kernel_rfl⟩
theorem cv2_3_4_b1:CkV (some 1) 3 4 2 (badV 1 3 4 [0,1,2]):=⟨fun _ _ _ _=>by kernel_rfl⟩
theorem cv2_4_1_b1:CkV (some 1) 4 1 2 (badV 1 4 1 [0,1,2]):=⟨fun _ _ _ _=>by kernel_rfl⟩
theorem cv2_5_1_b1:CkV (some 1) 5 1 2 (badV 1 5 1 [0,1,2]):=⟨fun _ _ _ _=>by kernel_rfl⟩
theorem cv2_8_n:CkV none 8 1 2 (noneC 8):=⟨fun _ _ _ _=>by kernel_rfl⟩
theorem cv3_2_n:CkV none 2 1 3 (noneC 2):=⟨fun _ _ _ _=>by kernel_rfl⟩
theorem cv3_5_1:CkV none 5 1 3 (goodV 5 1 3 [0]):=⟨fun _ _ _ _=>by kernel_rfl⟩
theorem cv3_8_n:CkV none 8 1 3 (noneC 8):=⟨fun _ _ _ _=>by kernel_rfl⟩
theorem cv4_2_n:CkV none 2 1 4 (noneC 2):=⟨fun _ _ _ _=>by kernel_rfl⟩
theorem cv4_6_1:CkV none 6 1 4 (goodV 6 1 4 [1,2]):=⟨fun _ _ _ _=>by kernel_rfl⟩
theorem cv4_6_2_b1:CkV (some 1) 6 2 4 (badV 1 6 2 [1,2]):=⟨fun _ _ _ _=>by kernel_rfl⟩
theorem cv4_6_3_b2:CkV (some 2) 6 3 4 (badV 2 6 3 [1,2]):=⟨fun _ _ _ _=>by kernel_rfl⟩
theorem cv4_7_1:CkV none 7 1 4 (goodV 7 1 4 [1,2]):=⟨fun _ _ _ _=>by kernel_rfl⟩
theorem cv4_7_2_b1:CkV (some 1) 7 2 4 (badV 1 7 2 [1,2]):=⟨fun _ _ _ _=>by kernel_rfl⟩
theorem cv4_7_3_b2:CkV (some 2) 7 3 4 (badV 2 7 3 [1,2]):=⟨fun _ _ _ _=>by kernel_rfl⟩
theorem cv4_8_1:CkV none 8 1 4 (goodV 8 1 4 [1,2]):=⟨fun _ _ _ _=>by kernel_rfl⟩
theorem cv4_10_n:CkV none 10 1 4 (noneC 10):=⟨fun _ _ _ _=>by kernel_rfl⟩
theorem cv5_4_n:CkV none 4 1 5 (noneC 4):=⟨fun _ _ _ _=>by kernel_rfl⟩
theorem cv5_6_2:CkV none 6 2 5 (goodV 6 2 5 [3]):=⟨fun _ _ _ _=>by kernel_rfl⟩
theorem cv5_6_4:CkV none 6 4 5 (goodV 6 4 5 [3]):=⟨fun _ _ _ _=>by kernel_rfl⟩
theorem cv5_7_2:CkV none 7 2 5 (goodV 7 2 5 [3]):=⟨fun _ _ _ _=>by kernel_rfl⟩
theorem cv5_7_4:CkV none 7 4 5 (goodV 7 4 5 [3]):=⟨fun _ _ _ _=>by kernel_rfl⟩
theorem cv5_10_n:CkV none 10 1 5 (noneC 10):=⟨fun _ _ _ _=>by kernel_rfl⟩
theorem cv6_4_n:CkV none 4 1 6 (noneC 4):=⟨fun _ _ _ _=>by kernel_rfl⟩
theorem cv6_6_2:CkV none 6 2 6 (goodV 6 2 6 [3]):=⟨fun _ _ _ _=>by kernel_rfl⟩
theorem cv6_6_4:CkV none 6 4 6 (goodV 6 4 6 [3]):=⟨fun _ _ _ _=>by kernel_rfl⟩
theorem cv6_7_2:CkV none 7 2 6 (goodV 7 2 6 [3]):=⟨fun _ _ _ _=>by kernel_rfl⟩
theorem cv6_7_4:CkV none 7 4 6 (goodV 7 4 6 [3]):=⟨fun _ _ _ _=>by kernel_rfl⟩
theorem cv6_9_n:CkV none 9 1 6 (noneC 9):=⟨fun _ _ _ _=>by kernel_rfl⟩
theorem cv8_3_1:CkV none 3 1 8 (goodV 3 1 8 [0,3]):=⟨fun _ _ _ _=>by kernel_rfl⟩
theorem cv8_3_2_b0:CkV (some 0) 3 2 8 (badV 0 3 2 [0,3]):=⟨fun _ _ _ _=>by kernel_rfl⟩
theorem cv8_3_3_b3:CkV (some 3) 3 3 8 (badV 3 3 3 [0,3]):=⟨fun _ _ _ _=>by kernel_rfl⟩
theorem cv8_4_n:CkV none 4 1 8 (noneC 4):=⟨fun _ _ _ _=>by kernel_rfl⟩
theorem cv8_8_n:CkV none 8 1 8 (noneC 8):=⟨fun _ _ _ _=>by kernel_rfl⟩
end Go.WE
end
