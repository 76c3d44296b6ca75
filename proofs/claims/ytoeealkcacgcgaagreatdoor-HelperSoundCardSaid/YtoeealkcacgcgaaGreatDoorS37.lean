/- A part of a proof of the helpers' law; no condition of its own. -/
import Derived.Test.YtoeealkcacgcgaaGreatDoorS36
set_option linter.unusedVariables false
set_option maxRecDepth 100000
noncomputable section
namespace Go.WE
open Go Go.Proofs Go.RowKit
theorem cv1_1_1:CkV none 1 1 1 (goodV 1 1 1 [0]):=⟨fun _ _ _ _=>by kernel_rfl⟩
theorem cv1_3_n:CkV none 3 1 1 (noneC 3):=⟨fun _ _ _ _=>by kernel_rfl⟩
theorem cv1_5_1_b0:CkV (some 0) 5 1 1 (badV 0 5 1 [0]):=⟨fun _ _ _ _=>by kernel_rfl⟩
theorem cv1_9_1:CkV none 9 1 1 (goodV 9 1 1 [0]):=⟨fun _ _ _ _=>by kernel_rfl⟩
theorem cv2_1_1:CkV none 1 1 2 (goodV 1 1 2 [0,1,2]):=⟨fun _ _ _ _=>by kernel_rfl⟩
theorem cv2_2_1:CkV none 2 1 2 (goodV 2 1 2 [0,1,2]):=⟨fun _ _ _ _=>by kernel_rfl⟩
theorem cv2_3_1:CkV none 3 1 2 (goodV 3 1 2 [0,1,2]):=⟨fun _ _ _ _=>by kernel_rfl⟩
theorem cv2_3_2:CkV none 3 2 2 (goodV 3 2 2 [0,1,2]):=⟨fun _ _ _ _=>by kernel_rfl⟩
theorem cv2_3_3:CkV none 3 3 2 (goodV 3 3 2 [0,1,2]):=⟨fun _ _ _ _=>by kernel_rfl⟩
theorem cv2_3_4:CkV none 3 4 2 (goodV 3 4 2 [0,1,2]):=⟨fun _ _ _ _=>by kernel_rfl⟩
theorem cv2_4_1:CkV none 4 1 2 (goodV 4 1 2 [0,1,2]):=⟨fun _ _ _ _=>by kernel_rfl⟩
theorem cv2_5_1:CkV none 5 1 2 (goodV 5 1 2 [0,1,2]):=⟨fun _ _ _ _=>by kernel_rfl⟩
theorem cv2_6_n:CkV none 6 1 2 (noneC 6):=⟨fun _ _ _ _=>by kernel_rfl⟩
theorem cv2_10_n:CkV none 10 1 2 (noneC 10):=⟨fun _ _ _ _=>by kernel_rfl⟩
theorem cv3_4_1:CkV none 4 1 3 (goodV 4 1 3 [0]):=⟨fun _ _ _ _=>by kernel_rfl⟩
theorem cv3_6_n:CkV none 6 1 3 (noneC 6):=⟨fun _ _ _ _=>by kernel_rfl⟩
theorem cv3_10_n:CkV none 10 1 3 (noneC 10):=⟨fun _ _ _ _=>by kernel_rfl⟩
theorem cv4_4_n:CkV none 4 1 4 (noneC 4):=⟨fun _ _ _ _=>by kernel_rfl⟩
theorem cv4_6_1_b2:CkV (some 2) 6 1 4 (badV 2 6 1 [1,2]):=⟨fun _ _ _ _=>by kernel_rfl⟩
theorem cv4_6_3:CkV none 6 3 4 (goodV 6 3 4 [1,2]):=⟨fun _ _ _ _=>by kernel_rfl⟩
theorem cv4_6_4_b1:CkV (some 1) 6 4 4 (badV 1 6 4 [1,2]):=⟨fun _ _ _ _=>by kernel_rfl⟩
theorem cv4_7_1_b2:CkV (some 2) 7 1 4 (badV 2 7 1 [1,2]):=⟨fun _ _ _ _=>by kernel_rfl⟩
theorem cv4_7_3:CkV none 7 3 4 (goodV 7 3 4 [1,2]):=⟨fun _ _ _ _=>by kernel_rfl⟩
theorem cv4_7_4_b1:CkV (some 1) 7 4 4 (badV 1 7 4 [1,2]):=⟨fun _ _ _ _=>by kernel_rfl⟩
theorem cv4_8_1_b2:CkV (some 2) 8 1 4 (badV 2 8 1 [1,2]):=⟨fun _ _ _ _=>by kernel_rfl⟩
theorem cv5_2_n:CkV none 2 1 5 (noneC 2):=⟨fun _ _ _ _=>by kernel_rfl⟩
theorem cv5_6_1:CkV none 6 1 5 (goodV 6 1 5 [3]):=⟨fun _ _ _ _=>by kernel_rfl⟩
theorem cv5_6_3:CkV none 6 3 5 (goodV 6 3 5 [3]):=⟨fun _ _ _ _=>by kernel_rfl⟩
theorem cv5_7_1:CkV none 7 1 5 (goodV 7 1 5 [3]):=⟨fun _ _ _ _=>by kernel_rfl⟩
theorem cv5_7_3:CkV none 7 3 5 (goodV 7 3 5 [3]):=⟨fun _ _ _ _=>by kernel_rfl⟩
theorem cv5_8_n:CkV none 8 1 5 (noneC 8):=⟨fun _ _ _ _=>by kernel_rfl⟩
theorem cv6_2_n:CkV none 2 1 6 (noneC 2):=⟨fun _ _ _ _=>by kernel_rfl⟩
theorem cv6_6_1:CkV none 6 1 6 (goodV 6 1 6 [3]):=⟨fun _ _ _ _=>by kernel_rfl⟩
theorem cv6_6_3:CkV none 6 3 6 (goodV 6 3 6 [3]):=⟨fun _ _ _ _=>by kernel_rfl⟩
theorem cv6_7_1:CkV none 7 1 6 (goodV 7 1 6 [3]):=⟨fun _ _ _ _=>by kernel_rfl⟩
theorem cv6_7_3:CkV none 7 3 6 (goodV 7 3 6 [3]):=⟨fun _ _ _ _=>by kernel_rfl⟩
theorem cv6_8_1:CkV none 8 1 6 (goodV 8 1 6 [1]):=⟨fun _ _ _ _=>by kernel_rfl⟩
theorem cv8_1_n:CkV none 1 1 8 (noneC 1):=⟨fun _ _ _ _=>by kernel_rfl⟩
theorem cv8_3_1_b3:CkV (some 3) 3 1 8 (badV 3 3 1 [0,3]):=⟨fun _ _ _ _=>by kernel_rfl⟩
theorem cv8_3_3:CkV none 3 3 8 (goodV 3 3 8 [0,3]):=⟨fun _ _ _ _=>by kernel_rfl⟩
theorem cv8_3_4_b0:CkV (some 0) 3 4 8 (badV 0 3 4 [0,3]):=⟨fun _ _ _ _=>by kernel_rfl⟩
theorem cv8_6_n:CkV none 6 1 8 (noneC 6):=⟨fun _ _ _ _=>by kernel_rfl⟩
theorem cv8_10_n:CkV none 10 1 8 (noneC 10):=⟨fun _ _ _ _=>by kernel_rfl⟩
end Go.WE
end
