/- A part of a proof of the helpers' law; no condition of its own. -/
import Derived.Test.YtoeealkcacgcgaaGreatDoorS25
set_option linter.unusedVariables false
set_option maxRecDepth 100000
noncomputable section
namespace Go.WE
open Go Go.Proofs Go.RowKit
theorem dv1_1_1_e0:DnV .poison true 0 1 1 1 (restDV .e0 1 1 1 [0]):=dnV_cut (cutA [0] 0 [false,false,true,false]) fun _ _ _ _ _ _=>by kernel_rfl
theorem dv1_4_1_all:DnV .poison true 1000 4 1 1 (restDV .all 4 1 1 [0]):=dnV_of fun _ _ _ _ _ _=>by kernel_rfl
theorem dv1_6_n:DnV .poison true 1000 6 1 1 (noneDV 6):=dnV_of fun _ _ _ _ _ _=>by kernel_rfl
theorem dv1_9_1_e0:DnV .poison true 0 9 1 1 (restDV .e0 9 1 1 [0]):=dnV_cut (cutA [0] 0 [false,false,true,false]) fun _ _ _ _ _ _=>by kernel_rfl
theorem dv2_1_1_e0:DnV .poison true 0 1 1 2 (restDV .e0 1 1 2 [0,1,2]):=dnV_cut (cutA [0,1,2] 0 [false,false,true,false]) fun _ _ _ _ _ _=>by kernel_rfl
theorem dv2_2_1_e1:DnV .poison true 23 2 1 2 (restDV .e1 2 1 2 [0,1,2]):=dnV_cut (cutA [0,1,2] 1 [false,false,true,false]) fun _ _ _ _ _ _=>by kernel_rfl
theorem dv2_3_2_all:DnV .poison true 1000 3 2 2 (restDV .all 3 2 2 [0,1,2]):=dnV_of fun _ _ _ _ _ _=>by kernel_rfl
theorem dv2_3_3_e0:DnV .poison true 0 3 3 2 (restDV .e0 3 3 2 [0,1,2]):=dnV_cut (cutA [0,1,2] 0 [false,false,true,false]) fun _ _ _ _ _ _=>by kernel_rfl
theorem dv2_3_4_e1:DnV .poison true 23 3 4 2 (restDV .e1 3 4 2 [0,1,2]):=dnV_cut (cutA [0,1,2] 1 [false,false,true,false]) fun _ _ _ _ _ _=>by kernel_rfl
theorem dv2_5_1_all:DnV .poison true 1000 5 1 2 (restDV .all 5 1 2 [0,1,2]):=dnV_of fun _ _ _ _ _ _=>by kernel_rfl
theorem dv2_7_n:DnV .poison true 1000 7 1 2 (noneDV 7):=dnV_of fun _ _ _ _ _ _=>by kernel_rfl
theorem dv3_1_n:DnV .poison true 1000 1 1 3 (noneDV 1):=dnV_of fun _ _ _ _ _ _=>by kernel_rfl
theorem dv3_4_1_e0:DnV .poison true 0 4 1 3 (restDV .e0 4 1 3 [0]):=dnV_cut (cutA [0] 0 [false,false,true,false]) fun _ _ _ _ _ _=>by kernel_rfl
theorem dv3_7_n:DnV .poison true 1000 7 1 3 (noneDV 7):=dnV_of fun _ _ _ _ _ _=>by kernel_rfl
theorem dv4_1_n:DnV .poison true 1000 1 1 4 (noneDV 1):=dnV_of fun _ _ _ _ _ _=>by kernel_rfl
theorem dv4_5_n:DnV .poison true 1000 5 1 4 (noneDV 5):=dnV_of fun _ _ _ _ _ _=>by kernel_rfl
theorem dv4_6_2_e0:DnV .poison true 0 6 2 4 (restDV .e0 6 2 4 [1,2]):=dnV_cut (cutA [1,2] 0 [false,false,true,false]) fun _ _ _ _ _ _=>by kernel_rfl
theorem dv4_6_4_e0:DnV .poison true 0 6 4 4 (restDV .e0 6 4 4 [1,2]):=dnV_cut (cutA [1,2] 0 [false,false,true,false]) fun _ _ _ _ _ _=>by kernel_rfl
theorem dv4_7_2_e0:DnV .poison true 0 7 2 4 (restDV .e0 7 2 4 [1,2]):=dnV_cut (cutA [1,2] 0 [false,false,true,false]) fun _ _ _ _ _ _=>by kernel_rfl
theorem dv4_7_4_e0:DnV .poison true 0 7 4 4 (restDV .e0 7 4 4 [1,2]):=dnV_cut (cutA [1,2] 0 [false,false,true,false]) fun _ _ _ _ _ _=>by kernel_rfl
theorem dv4_10_n:DnV .poison true 1000 10 1 4 (noneDV 10):=dnV_of fun _ _ _ _ _ _=>by kernel_rfl
theorem dv5_4_n:DnV .poison true 1000 4 1 5 (noneDV 4):=dnV_of fun _ _ _ _ _ _=>by kernel_rfl
theorem dv5_6_1_nr:DnV .nils false 1000 6 1 5 (restDV .nr 6 1 5 [3]):=dnV_of fun _ _ _ _ _ _=>by kernel_rfl
theorem dv5_6_2_nr:DnV .nils false 1000 6 2 5 (restDV .nr 6 2 5 [3]):=dnV_of fun _ _ _ _ _ _=>by kernel_rfl
theorem dv5_6_3_nr:DnV .nils false 1000 6 3 5 (restDV .nr 6 3 5 [3]):=dnV_of fun _ _ _ _ _ _=>by kernel_rfl
theorem dv5_6_4_nr:DnV .nils false 1000 6 4 5 (restDV .nr 6 4 5 [3]):=dnV_of fun _ _ _ _ _ _=>by kernel_rfl
theorem dv5_7_1_nr:DnV .nils false 1000 7 1 5 (restDV .nr 7 1 5 [3]):=dnV_of fun _ _ _ _ _ _=>by kernel_rfl
theorem dv5_7_2_nr:DnV .nils false 1000 7 2 5 (restDV .nr 7 2 5 [3]):=dnV_of fun _ _ _ _ _ _=>by kernel_rfl
theorem dv5_7_3_nr:DnV .nils false 1000 7 3 5 (restDV .nr 7 3 5 [3]):=dnV_of fun _ _ _ _ _ _=>by kernel_rfl
theorem dv5_7_4_nr:DnV .nils false 1000 7 4 5 (restDV .nr 7 4 5 [3]):=dnV_of fun _ _ _ _ _ _=>by kernel_rfl
theorem dv5_10_n:DnV .poison true 1000 10 1 5 (noneDV 10):=dnV_of fun _ _ _ _ _ _=>by kernel_rfl
theorem dv6_4_n:DnV .poison true 1000 4 1 6 (noneDV 4):=dnV_of fun _ _ _ _ _ _=>by kernel_rfl
theorem dv6_6_1_nr:DnV .nils false 1000 6 1 6 (restDV .nr 6 1 6 [3]):=dnV_of fun _ _ _ _ _ _=>by kernel_rfl
theorem dv6_6_2_nr:DnV .nils false 1000 6 2 6 (restDV .nr 6 2 6 [3]):=dnV_of fun _ _ _ _ _ _=>by kernel_rfl
theorem dv6_6_3_nr:DnV .nils false 1000 6 3 6 (restDV .nr 6 3 6 [3]):=dnV_of fun _ _ _ _ _ _=>by kernel_rfl
theorem dv6_6_4_nr:DnV .nils false 1000 6 4 6 (restDV .nr 6 4 6 [3]):=dnV_of fun _ _ _ _ _ _=>by kernel_rfl
theorem dv6_7_1_nr:DnV .nils false 1000 7 1 6 (restDV .nr 7 1 6 [3]):=dnV_of fun _ _ _ _ _ _=>by kernel_rfl
theorem dv6_7_2_nr:DnV .nils false 1000 7 2 6 (restDV .nr 7 2 6 [3]):=dnV_of fun _ _ _ _ _ _=>by kernel_rfl
theorem dv6_7_3_nr:DnV .nils false 1000 7 3 6 (restDV .nr 7 3 6 [3]):=dnV_of fun _ _ _ _ _ _=>by kernel_rfl
theorem dv6_7_4_nr:DnV .nils false 1000 7 4 6 (restDV .nr 7 4 6 [3]):=dnV_of fun _ _ _ _ _ _=>by kernel_rfl
theorem dv6_9_n:DnV .poison true 1000 9 1 6 (noneDV 9):=dnV_of fun _ _ _ _ _ _=>by kernel_rfl
theorem dv8_3_1_all:DnV .nils true 1000 3 1 8 (restDV .all 3 1 8 [0,3]):=dnV_of fun _ _ _ _ _ _=>by kernel_rfl
theorem dv8_3_1_nr:DnV .nils false 1000 3 1 8 (restDV .nr 3 1 8 [0,3]):=dnV_of fun _ _ _ _ _ _=>by kernel_rfl
theorem dv8_3_2_e0:DnV .nils true 0 3 2 8 (restDV .e0 3 2 8 [0,3]):=dnV_cut (cutA [0,3] 0 [false,false,true,false]) fun _ _ _ _ _ _=>by kernel_rfl
theorem dv8_3_3_all:DnV .nils true 1000 3 3 8 (restDV .all 3 3 8 [0,3]):=dnV_of fun _ _ _ _ _ _=>by kernel_rfl
theorem dv8_3_3_nr:DnV .nils false 1000 3 3 8 (restDV .nr 3 3 8 [0,3]):=dnV_of fun _ _ _ _ _ _=>by kernel_rfl
theorem dv8_3_4_e0:DnV .nils true 0 3 4 8 (restDV .e0 3 4 8 [0,3]):=dnV_cut (cutA [0,3] 0 [false,false,true,false]) fun _ _ _ _ _ _=>by kernel_rfl
theorem dv8_4_n:DnV .poison true 1000 4 1 8 (noneDV 4):=dnV_of fun _ _ _ _ _ _=>by kernel_rfl
theorem dv8_8_n:DnV .poison true 1000 8 1 8 (noneDV 8):=dnV_of fun _ _ _ _ _ _=>by kernel_rfl
end Go.WE
end
