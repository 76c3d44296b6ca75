/- A part of a proof of the helpers' law; no condition of its own. -/
import Derived.Test.YtoeealkcacgcgaaGreatDoorS18
set_option linter.unusedVariables false
set_option maxRecDepth 100000
noncomputable section
namespace Go.WE
open Go Go.Proofs Go.RowKit
theorem v1_2_1_all:EvV true 1000 2 1 1 (restV .all 2 1 1 [0]):=evV_of fun _ _ _ _=>by kernel_rfl
theorem v1_5_1_all:EvV true 1000 5 1 1 (restV .all 5 1 1 [0]):=evV_of fun _ _ _ _=>by kernel_rfl
theorem v1_10_1_all:EvV true 1000 10 1 1 (restV .all 10 1 1 [0]):=evV_of fun _ _ _ _=>by kernel_rfl
theorem v2_1_1_e1:EvV true 23 1 1 2 (restV .e1 1 1 2 [0,1,2]):=evV_cut (cutA [0,1,2] 1 [false,false,true,false]) fun _ _ _ _=>by kernel_rfl
theorem v2_3_1_all:EvV true 1000 3 1 2 (restV .all 3 1 2 [0,1,2]):=evV_of fun _ _ _ _=>by kernel_rfl
theorem v2_3_2_e0:EvV true 0 3 2 2 (restV .e0 3 2 2 [0,1,2]):=evV_cut (cutA [0,1,2] 0 [false,false,true,false]) fun _ _ _ _=>by kernel_rfl
theorem v2_3_3_e1:EvV true 23 3 3 2 (restV .e1 3 3 2 [0,1,2]):=evV_cut (cutA [0,1,2] 1 [false,false,true,false]) fun _ _ _ _=>by kernel_rfl
theorem v2_4_1_all:EvV true 1000 4 1 2 (restV .all 4 1 2 [0,1,2]):=evV_of fun _ _ _ _=>by kernel_rfl
theorem v2_5_1_e0:EvV true 0 5 1 2 (restV .e0 5 1 2 [0,1,2]):=evV_cut (cutA [0,1,2] 0 [false,false,true,false]) fun _ _ _ _=>by kernel_rfl
theorem v3_5_1_all:EvV true 1000 5 1 3 (restV .all 5 1 3 [0]):=evV_of fun _ _ _ _=>by kernel_rfl
theorem v4_6_2_all:EvV true 1000 6 2 4 (restV .all 6 2 6 [1,2]):=evV_of fun _ _ _ _=>by kernel_rfl
theorem v4_6_4_all:EvV true 1000 6 4 4 (restV .all 6 4 6 [1,2]):=evV_of fun _ _ _ _=>by kernel_rfl
theorem v4_7_2_all:EvV true 1000 7 2 4 (restV .all 7 2 6 [1,2]):=evV_of fun _ _ _ _=>by kernel_rfl
theorem v4_7_4_all:EvV true 1000 7 4 4 (restV .all 7 4 6 [1,2]):=evV_of fun _ _ _ _=>by kernel_rfl
theorem v5_6_1_all:EvV true 1000 6 1 5 (restV .all 6 1 7 [3]):=evV_of fun _ _ _ _=>by kernel_rfl
theorem v5_6_3_all:EvV true 1000 6 3 5 (restV .all 6 3 7 [3]):=evV_of fun _ _ _ _=>by kernel_rfl
theorem v5_7_1_all:EvV true 1000 7 1 5 (restV .all 7 1 7 [3]):=evV_of fun _ _ _ _=>by kernel_rfl
theorem v5_7_3_all:EvV true 1000 7 3 5 (restV .all 7 3 7 [3]):=evV_of fun _ _ _ _=>by kernel_rfl
theorem v6_6_1_all:EvV true 1000 6 1 6 (restV .all 6 1 8 [3]):=evV_of fun _ _ _ _=>by kernel_rfl
theorem v6_6_3_all:EvV true 1000 6 3 6 (restV .all 6 3 8 [3]):=evV_of fun _ _ _ _=>by kernel_rfl
theorem v6_7_1_all:EvV true 1000 7 1 6 (restV .all 7 1 8 [3]):=evV_of fun _ _ _ _=>by kernel_rfl
theorem v6_7_3_all:EvV true 1000 7 3 6 (restV .all 7 3 8 [3]):=evV_of fun _ _ _ _=>by kernel_rfl
theorem v6_8_1_all:EvV true 1000 8 1 6 (restV .all 8 1 8 [1]):=evV_of fun _ _ _ _=>by kernel_rfl
theorem v8_3_1_nr:EvV false 1000 3 1 8 (restV .nr 3 1 1 [0,3]):=evV_of fun _ _ _ _=>by kernel_rfl
theorem v8_3_3_all:EvV true 1000 3 3 8 (restV .all 3 3 1 [0,3]):=evV_of fun _ _ _ _=>by kernel_rfl
theorem v8_3_4_e0:EvV true 0 3 4 8 (restV .e0 3 4 1 [0,3]):=evV_cut (cutA [0,3] 0 [false,false,true,false]) fun _ _ _ _=>by kernel_rfl
theorem v1_7_n:EvV true 1000 7 1 1 (noneV 7):=evV_of fun _ _ _ _=>by kernel_rfl
theorem v2_8_n:EvV true 1000 8 1 2 (noneV 8):=evV_of fun _ _ _ _=>by kernel_rfl
theorem v3_2_n:EvV true 1000 2 1 3 (noneV 2):=evV_of fun _ _ _ _=>by kernel_rfl
theorem v3_8_n:EvV true 1000 8 1 3 (noneV 8):=evV_of fun _ _ _ _=>by kernel_rfl
theorem v4_2_n:EvV true 1000 2 1 4 (noneV 2):=evV_of fun _ _ _ _=>by kernel_rfl
theorem v4_9_n:EvV true 1000 9 1 4 (noneV 9):=evV_of fun _ _ _ _=>by kernel_rfl
theorem v5_3_n:EvV true 1000 3 1 5 (noneV 3):=evV_of fun _ _ _ _=>by kernel_rfl
theorem v5_9_n:EvV true 1000 9 1 5 (noneV 9):=evV_of fun _ _ _ _=>by kernel_rfl
theorem v6_3_n:EvV true 1000 3 1 6 (noneV 3):=evV_of fun _ _ _ _=>by kernel_rfl
theorem v6_10_n:EvV true 1000 10 1 6 (noneV 10):=evV_of fun _ _ _ _=>by kernel_rfl
theorem v8_5_n:EvV true 1000 5 1 8 (noneV 5):=evV_of fun _ _ _ _=>by kernel_rfl
theorem v8_9_n:EvV true 1000 9 1 8 (noneV 9):=evV_of fun _ _ _ _=>by kernel_rfl
end Go.WE
end
