/- A part of a proof of the helpers' law; no condition of its own. -/
import Derived.Test.YtoeealkcacgcgaaGreatDoorS18
set_option linter.unusedVariables false
set_option maxRecDepth 100000
noncomputable section
namespace Go.WE
open Go Go.Proofs Go.RowKit
theorem v1_2_1_e0:EvV true 0 2 1 1 (restV .e0 2 1 1 [0]):=evV_cut (cutA [0] 0 [false,false,true,false]) fun _ _ _ _=>by kernel_rfl
theorem v1_5_1_e0:EvV true 0 5 1 1 (restV .e0 5 1 1 [0]):=evV_cut (cutA [0] 0 [false,false,true,false]) fun _ _ _ _=>by kernel_rfl
theorem v1_10_1_e0:EvV true 0 10 1 1 (restV .e0 10 1 1 [0]):=evV_cut (cutA [0] 0 [false,false,true,false]) fun _ _ _ _=>by kernel_rfl
theorem v2_2_1_all:EvV true 1000 2 1 2 (restV .all 2 1 2 [0,1,2]):=evV_of fun _ _ _ _=>by kernel_rfl
theorem v2_3_1_e0:EvV true 0 3 1 2 (restV .e0 3 1 2 [0,1,2]):=evV_cut (cutA [0,1,2] 0 [false,false,true,false]) fun _ _ _ _=>by kernel_rfl
theorem v2_3_2_e1:EvV true 23 3 2 2 (restV .e1 3 2 2 [0,1,2]):=evV_cut (cutA [0,1,2] 1 [false,false,true,false]) fun _ _ _ _=>by kernel_rfl
theorem v2_3_4_all:EvV true 1000 3 4 2 (restV .all 3 4 2 [0,1,2]):=evV_of fun _ _ _ _=>by kernel_rfl
theorem v2_4_1_e0:EvV true 0 4 1 2 (restV .e0 4 1 2 [0,1,2]):=evV_cut (cutA [0,1,2] 0 [false,false,true,false]) fun _ _ _ _=>by kernel_rfl
theorem v2_5_1_e1:EvV true 23 5 1 2 (restV .e1 5 1 2 [0,1,2]):=evV_cut (cutA [0,1,2] 1 [false,false,true,false]) fun _ _ _ _=>by kernel_rfl
theorem v3_5_1_e0:EvV true 0 5 1 3 (restV .e0 5 1 3 [0]):=evV_cut (cutA [0] 0 [false,false,true,false]) fun _ _ _ _=>by kernel_rfl
theorem v4_6_2_e0:EvV true 0 6 2 4 (restV .e0 6 2 6 [1,2]):=evV_cut (cutA [1,2] 0 [false,false,true,false]) fun _ _ _ _=>by kernel_rfl
theorem v4_6_4_e0:EvV true 0 6 4 4 (restV .e0 6 4 6 [1,2]):=evV_cut (cutA [1,2] 0 [false,false,true,false]) fun _ _ _ _=>by kernel_rfl
theorem v4_7_2_e0:EvV true 0 7 2 4 (restV .e0 7 2 6 [1,2]):=evV_cut (cutA [1,2] 0 [false,false,true,false]) fun _ _ _ _=>by kernel_rfl
theorem v4_7_4_e0:EvV true 0 7 4 4 (restV .e0 7 4 6 [1,2]):=evV_cut (cutA [1,2] 0 [false,false,true,false]) fun _ _ _ _=>by kernel_rfl
theorem v5_6_1_nr:EvV false 1000 6 1 5 (restV .nr 6 1 7 [3]):=evV_of fun _ _ _ _=>by kernel_rfl
theorem v5_6_3_nr:EvV false 1000 6 3 5 (restV .nr 6 3 7 [3]):=evV_of fun _ _ _ _=>by kernel_rfl
theorem v5_7_1_nr:EvV false 1000 7 1 5 (restV .nr 7 1 7 [3]):=evV_of fun _ _ _ _=>by kernel_rfl
theorem v5_7_3_nr:EvV false 1000 7 3 5 (restV .nr 7 3 7 [3]):=evV_of fun _ _ _ _=>by kernel_rfl
theorem v6_6_1_nr:EvV false 1000 6 1 6 (restV .nr 6 1 8 [3]):=evV_of fun _ _ _ _=>by kernel_rfl
theorem v6_6_3_nr:EvV false 1000 6 3 6 (restV .nr 6 3 8 [3]):=evV_of fun _ _ _ _=>by kernel_rfl
theorem v6_7_1_nr:EvV false 1000 7 1 6 (restV .nr 7 1 8 [3]):=evV_of fun _ _ _ _=>by kernel_rfl
theorem v6_7_3_nr:EvV false 1000 7 3 6 (restV .nr 7 3 8 [3]):=evV_of fun _ _ _ _=>by kernel_rfl
theorem v6_8_1_e0:EvV true 0 8 1 6 (restV .e0 8 1 8 [1]):=evV_cut (cutA [1] 0 [false,false,true,false]) fun _ _ _ _=>by kernel_rfl
theorem v8_3_2_all:EvV true 1000 3 2 8 (restV .all 3 2 1 [0,3]):=evV_of fun _ _ _ _=>by kernel_rfl
theorem v8_3_3_e0:EvV true 0 3 3 8 (restV .e0 3 3 1 [0,3]):=evV_cut (cutA [0,3] 0 [false,false,true,false]) fun _ _ _ _=>by kernel_rfl
theorem v8_3_4_nr:EvV false 1000 3 4 8 (restV .nr 3 4 1 [0,3]):=evV_of fun _ _ _ _=>by kernel_rfl
theorem v1_8_n:EvV true 1000 8 1 1 (noneV 8):=evV_of fun _ _ _ _=>by kernel_rfl
theorem v2_9_n:EvV true 1000 9 1 2 (noneV 9):=evV_of fun _ _ _ _=>by kernel_rfl
theorem v3_3_n:EvV true 1000 3 1 3 (noneV 3):=evV_of fun _ _ _ _=>by kernel_rfl
theorem v3_9_n:EvV true 1000 9 1 3 (noneV 9):=evV_of fun _ _ _ _=>by kernel_rfl
theorem v4_3_n:EvV true 1000 3 1 4 (noneV 3):=evV_of fun _ _ _ _=>by kernel_rfl
theorem v4_10_n:EvV true 1000 10 1 4 (noneV 10):=evV_of fun _ _ _ _=>by kernel_rfl
theorem v5_4_n:EvV true 1000 4 1 5 (noneV 4):=evV_of fun _ _ _ _=>by kernel_rfl
theorem v5_10_n:EvV true 1000 10 1 5 (noneV 10):=evV_of fun _ _ _ _=>by kernel_rfl
theorem v6_4_n:EvV true 1000 4 1 6 (noneV 4):=evV_of fun _ _ _ _=>by kernel_rfl
theorem v8_1_n:EvV true 1000 1 1 8 (noneV 1):=evV_of fun _ _ _ _=>by kernel_rfl
theorem v8_6_n:EvV true 1000 6 1 8 (noneV 6):=evV_of fun _ _ _ _=>by kernel_rfl
theorem v8_10_n:EvV true 1000 10 1 8 (noneV 10):=evV_of fun _ _ _ _=>by kernel_rfl
end Go.WE
end
