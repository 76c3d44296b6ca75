/- A part of a proof of the helpers' law; no condition of its own. -/
import Derived.Test.YtoeealkcacgcgaaGreatDoorS25
set_option linter.unusedVariables false
set_option maxRecDepth 100000
noncomputable section
namespace Go.WE
open Go Go.Proofs Go.RowKit
theorem dv1_2_1_all:DnV .poison true 1000 2 1 1 (restDV .all 2 1 1 [0]):=dnV_of fun _ _ _ _ _ _=>by kernel_rfl
theorem dv1_4_1_e0:DnV .poison true 0 4 1 1 (restDV .e0 4 1 1 [0]):=dnV_cut (cutA [0] 0 [false,false,true,false]) fun _ _ _ _ _ _=>by kernel_rfl
theorem dv1_7_n:DnV .poison true 1000 7 1 1 (noneDV 7):=dnV_of fun _ _ _ _ _ _=>by kernel_rfl
theorem dv1_10_1_all:DnV .poison true 1000 10 1 1 (restDV .all 10 1 1 [0]):=dnV_of fun _ _ _ _ _ _=>by kernel_rfl
theorem dv2_1_1_e1:DnV .poison true 23 1 1 2 (restDV .e1 1 1 2 [0,1,2]):=dnV_cut (cutA [0,1,2] 1 [false,false,true,false]) fun _ _ _ _ _ _=>by kernel_rfl
theorem dv2_3_1_all:DnV .poison true 1000 3 1 2 (restDV .all 3 1 2 [0,1,2]):=dnV_of fun _ _ _ _ _ _=>by kernel_rfl
theorem dv2_3_2_e0:DnV .poison true 0 3 2 2 (restDV .e0 3 2 2 [0,1,2]):=dnV_cut (cutA [0,1,2] 0 [false,false,true,false]) fun _ _ _ _ _ _=>by kernel_rfl
theorem dv2_3_3_e1:DnV .poison true 23 3 3 2 (restDV .e1 3 3 2 [0,1,2]):=dnV_cut (cutA [0,1,2] 1 [false,false,true,false]) fun _ _ _ _ _ _=>by kernel_rfl
theorem dv2_4_1_all:DnV .poison true 1000 4 1 2 (restDV .all 4 1 2 [0,1,2]):=dnV_of fun _ _ _ _ _ _=>by kernel_rfl
theorem dv2_5_1_e0:DnV .poison true 0 5 1 2 (restDV .e0 5 1 2 [0,1,2]):=dnV_cut (cutA [0,1,2] 0 [false,false,true,false]) fun _ _ _ _ _ _=>by kernel_rfl
theorem dv2_8_n:DnV .poison true 1000 8 1 2 (noneDV 8):=dnV_of fun _ _ _ _ _ _=>by kernel_rfl
theorem dv3_2_n:DnV .poison true 1000 2 1 3 (noneDV 2):=dnV_of fun _ _ _ _ _ _=>by kernel_rfl
theorem dv3_5_1_all:DnV .poison true 1000 5 1 3 (restDV .all 5 1 3 [0]):=dnV_of fun _ _ _ _ _ _=>by kernel_rfl
theorem dv3_8_n:DnV .poison true 1000 8 1 3 (noneDV 8):=dnV_of fun _ _ _ _ _ _=>by kernel_rfl
theorem dv4_2_n:DnV .poison true 1000 2 1 4 (noneDV 2):=dnV_of fun _ _ _ _ _ _=>by kernel_rfl
theorem dv4_6_1_all:DnV .poison true 1000 6 1 4 (restDV .all 6 1 4 [1,2]):=dnV_of fun _ _ _ _ _ _=>by kernel_rfl
theorem dv4_6_3_all:DnV .poison true 1000 6 3 4 (restDV .all 6 3 4 [1,2]):=dnV_of fun _ _ _ _ _ _=>by kernel_rfl
theorem dv4_7_1_all:DnV .poison true 1000 7 1 4 (restDV .all 7 1 4 [1,2]):=dnV_of fun _ _ _ _ _ _=>by kernel_rfl
theorem dv4_7_3_all:DnV .poison true 1000 7 3 4 (restDV .all 7 3 4 [1,2]):=dnV_of fun _ _ _ _ _ _=>by kernel_rfl
theorem dv4_8_1_all:DnV .poison true 1000 8 1 4 (restDV .all 8 1 4 [1,2]):=dnV_of fun _ _ _ _ _ _=>by kernel_rfl
theorem dv5_1_n:DnV .poison true 1000 1 1 5 (noneDV 1):=dnV_of fun _ _ _ _ _ _=>by kernel_rfl
theorem dv5_5_n:DnV .poison true 1000 5 1 5 (noneDV 5):=dnV_of fun _ _ _ _ _ _=>by kernel_rfl
theorem dv5_6_1_nr_w:DwV false 1000 6 1 5 (restDW .nr 6 1 5 [3]):=dwV_of fun _ _ _ _ _ _=>by kernel_rfl
theorem dv5_6_2_nr_w:DwV false 1000 6 2 5 (restDW .nr 6 2 5 [3]):=dwV_of fun _ _ _ _ _ _=>by kernel_rfl
theorem dv5_6_3_nr_w:DwV false 1000 6 3 5 (restDW .nr 6 3 5 [3]):=dwV_of fun _ _ _ _ _ _=>by kernel_rfl
theorem dv5_6_4_nr_w:DwV false 1000 6 4 5 (restDW .nr 6 4 5 [3]):=dwV_of fun _ _ _ _ _ _=>by kernel_rfl
theorem dv5_7_1_nr_w:DwV false 1000 7 1 5 (restDW .nr 7 1 5 [3]):=dwV_of fun _ _ _ _ _ _=>by kernel_rfl
theorem dv5_7_2_nr_w:DwV false 1000 7 2 5 (restDW .nr 7 2 5 [3]):=dwV_of fun _ _ _ _ _ _=>by kernel_rfl
theorem dv5_7_3_nr_w:DwV false 1000 7 3 5 (restDW .nr 7 3 5 [3]):=dwV_of fun _ _ _ _ _ _=>by kernel_rfl
theorem dv5_7_4_nr_w:DwV false 1000 7 4 5 (restDW .nr 7 4 5 [3]):=dwV_of fun _ _ _ _ _ _=>by kernel_rfl
theorem dv6_1_n:DnV .poison true 1000 1 1 6 (noneDV 1):=dnV_of fun _ _ _ _ _ _=>by kernel_rfl
theorem dv6_5_n:DnV .poison true 1000 5 1 6 (noneDV 5):=dnV_of fun _ _ _ _ _ _=>by kernel_rfl
theorem dv6_6_1_nr_w:DwV false 1000 6 1 6 (restDW .nr 6 1 6 [3]):=dwV_of fun _ _ _ _ _ _=>by kernel_rfl
theorem dv6_6_2_nr_w:DwV false 1000 6 2 6 (restDW .nr 6 2 6 [3]):=dwV_of fun _ _ _ _ _ _=>by kernel_rfl
theorem dv6_6_3_nr_w:DwV false 1000 6 3 6 (restDW .nr 6 3 6 [3]):=dwV_of fun _ _ _ _ _ _=>by kernel_rfl
theorem dv6_6_4_nr_w:DwV false 1000 6 4 6 (restDW .nr 6 4 6 [3]):=dwV_of fun _ _ _ _ _ _=>by kernel_rfl
theorem dv6_7_1_nr_w:DwV false 1000 7 1 6 (restDW .nr 7 1 6 [3]):=dwV_of fun _ _ _ _ _ _=>by kernel_rfl
theorem dv6_7_2_nr_w:DwV false 1000 7 2 6 (restDW .nr 7 2 6 [3]):=dwV_of fun _ _ _ _ _ _=>by kernel_rfl
theorem dv6_7_3_nr_w:DwV false 1000 7 3 6 (restDW .nr 7 3 6 [3]):=dwV_of fun _ _ _ _ _ _=>by kernel_rfl
theorem dv6_7_4_nr_w:DwV false 1000 7 4 6 (restDW .nr 7 4 6 [3]):=dwV_of fun _ _ _ _ _ _=>by kernel_rfl
theorem dv6_10_n:DnV .poison true 1000 10 1 6 (noneDV 10):=dnV_of fun _ _ _ _ _ _=>by kernel_rfl
theorem dv8_3_1_all_w:DwV true 1000 3 1 8 (restDW .all 3 1 8 [0,3]):=dwV_of fun _ _ _ _ _ _=>by kernel_rfl
theorem dv8_3_1_nr_w:DwV false 1000 3 1 8 (restDW .nr 3 1 8 [0,3]):=dwV_of fun _ _ _ _ _ _=>by kernel_rfl
theorem dv8_3_2_e0_w:DwV true 0 3 2 8 (restDW .e0 3 2 8 [0,3]):=dwV_cut (cutA [0,3] 0 [false,false,true,false]) fun _ _ _ _ _ _=>by kernel_rfl
theorem dv8_3_3_all_w:DwV true 1000 3 3 8 (restDW .all 3 3 8 [0,3]):=dwV_of fun _ _ _ _ _ _=>by kernel_rfl
theorem dv8_3_3_nr_w:DwV false 1000 3 3 8 (restDW .nr 3 3 8 [0,3]):=dwV_of fun _ _ _ _ _ _=>by kernel_rfl
theorem dv8_3_4_e0_w:DwV true 0 3 4 8 (restDW .e0 3 4 8 [0,3]):=dwV_cut (cutA [0,3] 0 [false,false,true,false]) fun _ _ _ _ _ _=>by kernel_rfl
theorem dv8_5_n:DnV .poison true 1000 5 1 8 (noneDV 5):=dnV_of fun _ _ _ _ _ _=>by kernel_rfl
theorem dv8_9_n:DnV .poison true 1000 9 1 8 (noneDV 9):=dnV_of fun _ _ _ _ _ _=>by kernel_rfl
end Go.WE
end
