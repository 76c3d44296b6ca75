/- A part of a proof of the helpers' law; no condition of its own. -/
import Derived.Test.YtoeealkcacgcgaaGreatDoorS36
set_option linter.unusedVariables false
set_option maxRecDepth 100000
noncomputable section
namespace Go.WE
open Go Go.Proofs Go.RowKit
theorem cv1_2_1_b0:CkV (some 0) 2 1 1 (badV 0 2 1 [0]):=⟨fun _ _ _ _=>by kernel_rfl⟩
theorem cv1_5_1:CkV none 5 1 1 (goodV 5 1 1 [0]):=⟨fun _ _ _ _=>by kernel_rfl⟩
theorem cv1_8_n:CkV none 8 1 1 (noneC 8):=⟨fun _ _ _ _=>by kernel_rfl⟩
theorem cv1_10_1_b0:CkV (some 0) 10 1 1 (badV 0 10 1 [0]):=⟨fun _ _ _ _=>by kernel_rfl⟩
theorem cv2_1_1_b2:CkV (some 2) 1 1 2 (badV 2 1 1 [0,1,2]):=⟨fun _ _ _ _=>by kernel_rfl⟩
theorem cv2_2_1_b2:CkV (some 2) 2 1 2 (badV 2 2 1 [0,1,2]):=⟨fun _ _ _ _=>by kernel_rfl⟩
theorem cv2_3_1_b2:CkV (some 2) 3 1 2 (badV 2 3 1 [0,1,2]):=⟨fun _ _ _ _=>by kernel_rfl⟩
theorem cv2_3_2_b2:CkV (some 2) 3 2 2 (badV 2 3 2 [0,1,2]):=⟨fun _ _ _ _=>by kernel_rfl⟩
theorem cv2_3_3_b2:CkV (some 2) 3 3 2 (badV 2 3 3 [0,1,2]):=⟨fun _ _ _ _=>by kernel_rfl⟩
theorem cv2_3_4_b2:CkV (some 2) 3 4 2 (badV 2 3 4 [0,1,2]):=⟨fun _ _ _ _=>by kernel_rfl⟩
theorem cv2_4_1_b2:CkV (some 2) 4 1 2 (badV 2 4 1 [0,1,2]):=⟨fun _ _ _ _=>by kernel_rfl⟩
theorem cv2_5_1_b2:CkV (some 2) 5 1 2 (badV 2 5 1 [0,1,2]):=⟨fun _ _ _ _=>by kernel_rfl⟩
theorem cv2_9_n:CkV none 9 1 2 (noneC 9):=⟨fun _ _ _ _=>by kernel_rfl⟩
theorem cv3_3_n:CkV none 3 1 3 (noneC 3):=⟨fun _ _ _ _=>by kernel_rfl⟩
theorem cv3_5_1_b0:CkV (some 0) 5 1 3 (badV 0 5 1 [0]):=⟨fun _ _ _ _=>by kernel_rfl⟩
theorem cv3_9_n:CkV none 9 1 3 (noneC 9):=⟨fun _ _ _ _=>by kernel_rfl⟩
theorem cv4_3_n:CkV none 3 1 4 (noneC 3):=⟨fun _ _ _ _=>by kernel_rfl⟩
theorem cv4_6_1_b1:CkV (some 1) 6 1 4 (badV 1 6 1 [1,2]):=⟨fun _ _ _ _=>by kernel_rfl⟩
theorem cv4_6_2_b2:CkV (some 2) 6 2 4 (badV 2 6 2 [1,2]):=⟨fun _ _ _ _=>by kernel_rfl⟩
theorem cv4_6_4:CkV none 6 4 4 (goodV 6 4 4 [1,2]):=⟨fun _ _ _ _=>by kernel_rfl⟩
theorem cv4_7_1_b1:CkV (some 1) 7 1 4 (badV 1 7 1 [1,2]):=⟨fun _ _ _ _=>by kernel_rfl⟩
theorem cv4_7_2_b2:CkV (some 2) 7 2 4 (badV 2 7 2 [1,2]):=⟨fun _ _ _ _=>by kernel_rfl⟩
theorem cv4_7_4:CkV none 7 4 4 (goodV 7 4 4 [1,2]):=⟨fun _ _ _ _=>by kernel_rfl⟩
theorem cv4_8_1_b1:CkV (some 1) 8 1 4 (badV 1 8 1 [1,2]):=⟨fun _ _ _ _=>by kernel_rfl⟩
theorem cv5_1_n:CkV none 1 1 5 (noneC 1):=⟨fun _ _ _ _=>by kernel_rfl⟩
theorem cv5_5_n:CkV none 5 1 5 (noneC 5):=⟨fun _ _ _ _=>by kernel_rfl⟩
theorem cv5_6_2_b3:CkV (some 3) 6 2 5 (badV 3 6 2 [3]):=⟨fun _ _ _ _=>by kernel_rfl⟩
theorem cv5_6_4_b3:CkV (some 3) 6 4 5 (badV 3 6 4 [3]):=⟨fun _ _ _ _=>by kernel_rfl⟩
theorem cv5_7_2_b3:CkV (some 3) 7 2 5 (badV 3 7 2 [3]):=⟨fun _ _ _ _=>by kernel_rfl⟩
theorem cv5_7_4_b3:CkV (some 3) 7 4 5 (badV 3 7 4 [3]):=⟨fun _ _ _ _=>by kernel_rfl⟩
theorem cv6_1_n:CkV none 1 1 6 (noneC 1):=⟨fun _ _ _ _=>by kernel_rfl⟩
theorem cv6_5_n:CkV none 5 1 6 (noneC 5):=⟨fun _ _ _ _=>by kernel_rfl⟩
theorem cv6_6_2_b3:CkV (some 3) 6 2 6 (badV 3 6 2 [3]):=⟨fun _ _ _ _=>by kernel_rfl⟩
theorem cv6_6_4_b3:CkV (some 3) 6 4 6 (badV 3 6 4 [3]):=⟨fun _ _ _ _=>by kernel_rfl⟩
theorem cv6_7_2_b3:CkV (some 3) 7 2 6 (badV 3 7 2 [3]):=⟨fun _ _ _ _=>by kernel_rfl⟩
theorem cv6_7_4_b3:CkV (some 3) 7 4 6 (badV 3 7 4 [3]):=⟨fun _ _ _ _=>by kernel_rfl⟩
theorem cv6_10_n:CkV none 10 1 6 (noneC 10):=⟨fun _ _ _ _=>by kernel_rfl⟩
theorem cv8_3_1_b0:CkV (some 0) 3 1 8 (badV 0 3 1 [0,3]):=⟨fun _ _ _ _=>by kernel_rfl⟩
theorem cv8_3_2_b3:CkV (some 3) 3 2 8 (badV 3 3 2 [0,3]):=⟨fun _ _ _ _=>by kernel_rfl⟩
theorem cv8_3_4:CkV none 3 4 8 (goodV 3 4 8 [0,3]):=⟨fun _ _ _ _=>by kernel_rfl⟩
theorem cv8_5_n:CkV none 5 1 8 (noneC 5):=⟨fun _ _ _ _=>by kernel_rfl⟩
theorem cv8_9_n:CkV none 9 1 8 (noneC 9):=⟨fun _ _ _ _=>by kernel_rfl⟩
end Go.WE
end
