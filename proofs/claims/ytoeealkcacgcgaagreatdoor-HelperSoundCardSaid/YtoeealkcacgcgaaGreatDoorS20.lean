/- A part of a proof of the helpers' law; no condition of its own. -/
import Derived.Test.YtoeealkcacgcgaaGreatDoorS18
set_option linter.unusedVariables false
set_option maxRecDepth 100000
noncomputable section
namespace Go.WE
open Go Go.Proofs Go.RowKit
theorem v1_1_1_all:EvV true 1000 1 1 1 (restV .all 1 1 1 [0]):=evV_of fun _ _ _ _=>by kernel_rfl
theorem v1_4_1_all:EvV true 1000 4 1 1 (restV .all 4 1 1 [0]):=evV_of fun _ _ _ _=>by kernel_rfl
theorem v1_9_1_all:EvV true 1000 9 1 1 (restV .all 9 1 1 [0]):=evV_of fun _ _ _ _=>by kernel_rfl
theorem v2_1_1_all:EvV true 1000 1 1 2 (restV .all 1 1 2 [0,1,2]):=evV_of fun _ _ _ _=>by kernel_rfl
theorem v2_2_1_e0:EvV true 0 2 1 2 (restV .e0 2 1 2 [0,1,2]):=evV_cut (cutA [0,1,2] 0 [false,false,true,false]) fun _ _ _ _=>by kernel_rfl
theorem v2_3_1_e1:EvV true 23 3 1 2 (restV .e1 3 1 2 [0,1,2]):=evV_cut (cutA [0,1,2] 1 [false,false,true,false]) fun _ _ _ _=>by kernel_rfl
theorem v2_3_3_all:EvV true 1000 3 3 2 (restV .all 3 3 2 [0,1,2]):=evV_of fun _ _ _ _=>by kernel_rfl
theorem v2_3_4_e0:EvV true 0 3 4 2 (restV .e0 3 4 2 [0,1,2]):=evV_cut (cutA [0,1,2] 0 [false,false,true,false]) fun _ _ _ _=>by kernel_rfl
theorem v2_4_1_e1:EvV true 23 4 1 2 (restV .e1 4 1 2 [0,1,2]):=evV_cut (cutA [0,1,2] 1 [false,false,true,false]) fun _ _ _ _=>by kernel_rfl
theorem v3_4_1_all:EvV true 1000 4 1 3 (restV .all 4 1 3 [0]):=evV_of fun _ _ _ _=>by kernel_rfl
theorem v4_6_1_all:EvV true 1000 6 1 4 (restV .all 6 1 6 [1,2]):=evV_of fun _ _ _ _=>by kernel_rfl
theorem v4_6_3_all:EvV true 1000 6 3 4 (restV .all 6 3 6 [1,2]):=evV_of fun _ _ _ _=>by kernel_rfl
theorem v4_7_1_all:EvV true 1000 7 1 4 (restV .all 7 1 6 [1,2]):=evV_of fun _ _ _ _=>by kernel_rfl
theorem v4_7_3_all:EvV true 1000 7 3 4 (restV .all 7 3 6 [1,2]):=evV_of fun _ _ _ _=>by kernel_rfl
theorem v4_8_1_all:EvV true 1000 8 1 4 (restV .all 8 1 6 [1,2]):=evV_of fun _ _ _ _=>by kernel_rfl
theorem v5_6_2_all:EvV true 1000 6 2 5 (restV .all 6 2 7 [3]):=evV_of fun _ _ _ _=>by kernel_rfl
theorem v5_6_4_all:EvV true 1000 6 4 5 (restV .all 6 4 7 [3]):=evV_of fun _ _ _ _=>by kernel_rfl
theorem v5_7_2_all:EvV true 1000 7 2 5 (restV .all 7 2 7 [3]):=evV_of fun _ _ _ _=>by kernel_rfl
theorem v5_7_4_all:EvV true 1000 7 4 5 (restV .all 7 4 7 [3]):=evV_of fun _ _ _ _=>by kernel_rfl
theorem v6_6_2_all:EvV true 1000 6 2 6 (restV .all 6 2 8 [3]):=evV_of fun _ _ _ _=>by kernel_rfl
theorem v6_6_4_all:EvV true 1000 6 4 6 (restV .all 6 4 8 [3]):=evV_of fun _ _ _ _=>by kernel_rfl
theorem v6_7_2_all:EvV true 1000 7 2 6 (restV .all 7 2 8 [3]):=evV_of fun _ _ _ _=>by kernel_rfl
theorem v6_7_4_all:EvV true 1000 7 4 6 (restV .all 7 4 8 [3]):=evV_of fun _ _ _ _=>by kernel_rfl
theorem v8_3_1_all:EvV true 1000 3 1 8 (restV .all 3 1 1 [0,3]):=evV_of fun _ _ _ _=>by kernel_rfl
theorem v8_3_2_e0:EvV true 0 3 2 8 (restV .e0 3 2 1 [0,3]):=evV_cut (cutA [0,3] 0 [false,false,true,false]) fun _ _ _ _=>by kernel_rfl
theorem v8_3_3_nr:EvV false 1000 3 3 8 (restV .nr 3 3 1 [0,3]):=evV_of fun _ _ _ _=>by kernel_rfl
theorem v1_3_n:EvV true 1000 3 1 1 (noneV 3):=evV_of fun _ _ _ _=>by kernel_rfl
theorem v2_6_n:EvV true 1000 6 1 2 (noneV 6):=evV_of fun _ _ _ _=>by kernel_rfl
theorem v2_10_n:EvV true 1000 10 1 2 (noneV 10):=evV_of fun _ _ _ _=>by kernel_rfl
theorem v3_6_n:EvV true 1000 6 1 3 (noneV 6):=evV_of fun _ _ _ _=>by kernel_rfl
theorem v3_10_n:EvV true 1000 10 1 3 (noneV 10):=evV_of fun _ _ _ _=>by kernel_rfl
theorem v4_4_n:EvV true 1000 4 1 4 (noneV 4):=evV_of fun _ _ _ _=>by kernel_rfl
theorem v5_1_n:EvV true 1000 1 1 5 (noneV 1):=evV_of fun _ _ _ _=>by kernel_rfl
theorem v5_5_n:EvV true 1000 5 1 5 (noneV 5):=evV_of fun _ _ _ _=>by kernel_rfl
theorem v6_1_n:EvV true 1000 1 1 6 (noneV 1):=evV_of fun _ _ _ _=>by kernel_rfl
theorem v6_5_n:EvV true 1000 5 1 6 (noneV 5):=evV_of fun _ _ _ _=>by kernel_rfl
theorem v8_2_n:EvV true 1000 2 1 8 (noneV 2):=evV_of fun _ _ _ _=>by kernel_rfl
theorem v8_7_n:EvV true 1000 7 1 8 (noneV 7):=evV_of fun _ _ _ _=>by kernel_rfl
end Go.WE
end
