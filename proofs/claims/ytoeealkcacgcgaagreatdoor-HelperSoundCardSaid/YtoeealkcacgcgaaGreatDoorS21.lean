/- A part of a proof of the helpers' law; no condition of its own. -/
import Derived.Test.YtoeealkcacgcgaaGreatDoorS18
set_option linter.unusedVariables false
set_option maxRecDepth 100000
noncomputable section
namespace Go.WE
open Go Go.Proofs Go.RowKit
theorem v1_1_1_e0:EvV true 0 1 1 1 (restV .e0 1 1 1 [0]):=evV_cut (cutA [0] 0 [false,false,true,false]) fun _ _ _ _=>by kernel_rfl
theorem v1_4_1_e0:EvV true 0 4 1 1 (restV .e0 4 1 1 [0]):=evV_cut (cutA [0] 0 [false,false,true,false]) fun _ _ _ _=>by kernel_rfl
theorem v1_9_1_e0:EvV true 0 9 1 1 (restV .e0 9 1 1 [0]):=evV_cut (cutA [0] 0 [false,false,true,false]) fun _ _ _ _=>by kernel_rfl
theorem v2_1_1_e0:EvV true 0 1 1 2 (restV .e0 1 1 2 [0,1,2]):=evV_cut (cutA [0,1,2] 0 [false,false,true,false]) fun _ _ _ _=>by kernel_rfl
theorem v2_2_1_e1:EvV true 23 2 1 2 (restV .e1 2 1 2 [0,1,2]):=evV_cut (cutA [0,1,2] 1 [false,false,true,false]) fun _ _ _ _=>by kernel_rfl
theorem v2_3_2_all:EvV true 1000 3 2 2 (restV .all 3 2 2 [0,1,2]):=evV_of fun _ _ _ _=>by kernel_rfl
theorem v2_3_3_e0:EvV true 0 3 3 2 (restV .e0 3 3 2 [0,1,2]):=evV_cut (cutA [0,1,2] 0 [false,false,true,false]) fun _ _ _ _=>by kernel_rfl
theorem v2_3_4_e1:EvV true 23 3 4 2 (restV .e1 3 4 2 [0,1,2]):=evV_cut (cutA [0,1,2] 1 [false,false,true,false]) fun _ _ _ _=>by kernel_rfl
theorem v2_5_1_all:EvV true 1000 5 1 2 (restV .all 5 1 2 [0,1,2]):=evV_of fun _ _ _ _=>by kernel_rfl
theorem v3_4_1_e0:EvV true 0 4 1 3 (restV .e0 4 1 3 [0]):=evV_cut (cutA [0] 0 [false,false,true,false]) fun _ _ _ _=>by kernel_rfl
theorem v4_6_1_e0:EvV true 0 6 1 4 (restV .e0 6 1 6 [1,2]):=evV_cut (cutA [1,2] 0 [false,false,true,false]) fun _ _ _ _=>by kernel_rfl
theorem v4_6_3_e0:EvV true 0 6 3 4 (restV .e0 6 3 6 [1,2]):=evV_cut (cutA [1,2] 0 [false,false,true,false]) fun _ _ _ _=>by kernel_rfl
theorem v4_7_1_e0:EvV true 0 7 1 4 (restV .e0 7 1 6 [1,2]):=evV_cut (cutA [1,2] 0 [false,false,true,false]) fun _ _ _ _=>by kernel_rfl
theorem v4_7_3_e0:EvV true 0 7 3 4 (restV .e0 7 3 6 [1,2]):=evV_cut (cutA [1,2] 0 [false,false,true,false]) fun _ _ _ _=>by kernel_rfl
theorem v4_8_1_e0:EvV true 0 8 1 4 (restV .e0 8 1 6 [1,2]):=evV_cut (cutA [1,2] 0 [false,false,true,false]) fun _ _ _ _=>by kernel_rfl
theorem v5_6_2_nr:EvV false 1000 6 2 5 (restV .nr 6 2 7 [3]):=evV_of fun _ _ _ _=>by kernel_rfl
theorem v5_6_4_nr:EvV false 1000 6 4 5 (restV .nr 6 4 7 [3]):=evV_of fun _ _ _ _=>by kernel_rfl
theorem v5_7_2_nr:EvV false 1000 7 2 5 (restV .nr 7 2 7 [3]):=evV_of fun _ _ _ _=>by kernel_rfl
theorem v5_7_4_nr:EvV false 1000 7 4 5 (restV .nr 7 4 7 [3]):=evV_of fun _ _ _ _=>by kernel_rfl
theorem v6_6_2_nr:EvV false 1000 6 2 6 (restV .nr 6 2 8 [3]):=evV_of fun _ _ _ _=>by kernel_rfl
theorem v6_6_4_nr:EvV false 1000 6 4 6 (restV .nr 6 4 8 [3]):=evV_of fun _ _ _ _=>by kernel_rfl
theorem v6_7_2_nr:EvV false 1000 7 2 6 (restV .nr 7 2 8 [3]):=evV_of fun _ _ _ _=>by kernel_rfl
theorem v6_7_4_nr:EvV false 1000 7 4 6 (restV .nr 7 4 8 [3]):=evV_of fun _ _ _ _=>by kernel_rfl
theorem v8_3_1_e0:EvV true 0 3 1 8 (restV .e0 3 1 1 [0,3]):=evV_cut (cutA [0,3] 0 [false,false,true,false]) fun _ _ _ _=>by kernel_rfl
theorem v8_3_2_nr:EvV false 1000 3 2 8 (restV .nr 3 2 1 [0,3]):=evV_of fun _ _ _ _=>by kernel_rfl
theorem v8_3_4_all:EvV true 1000 3 4 8 (restV .all 3 4 1 [0,3]):=evV_of fun _ _ _ _=>by kernel_rfl
theorem v1_6_n:EvV true 1000 6 1 1 (noneV 6):=evV_of fun _ _ _ _=>by kernel_rfl
theorem v2_7_n:EvV true 1000 7 1 2 (noneV 7):=evV_of fun _ _ _ _=>by kernel_rfl
theorem v3_1_n:EvV true 1000 1 1 3 (noneV 1):=evV_of fun _ _ _ _=>by kernel_rfl
theorem v3_7_n:EvV true 1000 7 1 3 (noneV 7):=evV_of fun _ _ _ _=>by kernel_rfl
theorem v4_1_n:EvV true 1000 1 1 4 (noneV 1):=evV_of fun _ _ _ _=>by kernel_rfl
theorem v4_5_n:EvV true 1000 5 1 4 (noneV 5):=evV_of fun _ _ _ _=>by kernel_rfl
theorem v5_2_n:EvV true 1000 2 1 5 (noneV 2):=evV_of fun _ _ _ _=>by kernel_rfl
theorem v5_8_n:EvV true 1000 8 1 5 (noneV 8):=evV_of fun _ _ _ _=>by kernel_rfl
theorem v6_2_n:EvV true 1000 2 1 6 (noneV 2):=evV_of fun _ _ _ _=>by kernel_rfl
theorem v6_9_n:EvV true 1000 9 1 6 (noneV 9):=evV_of fun _ _ _ _=>by kernel_rfl
theorem v8_4_n:EvV true 1000 4 1 8 (noneV 4):=evV_of fun _ _ _ _=>by kernel_rfl
theorem v8_8_n:EvV true 1000 8 1 8 (noneV 8):=evV_of fun _ _ _ _=>by kernel_rfl
end Go.WE
end
