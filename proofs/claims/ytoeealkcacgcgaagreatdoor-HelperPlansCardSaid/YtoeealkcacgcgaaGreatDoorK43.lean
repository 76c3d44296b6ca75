/- A part of a proof of the helpers' law; no condition of its own. -/
import Derived.Test.YtoeealkcacgcgaaGreatDoorK18
import Derived.Test.YtoeealkcacgcgaaGreatDoorK25
import Derived.Test.YtoeealkcacgcgaaGreatDoorK32
import Derived.Test.YtoeealkcacgcgaaGreatDoorK38
import Derived.Test.YtoeealkcacgcgaaGreatDoorK39
import Derived.Test.YtoeealkcacgcgaaGreatDoorK40
import Derived.Test.YtoeealkcacgcgaaGreatDoorK41
import Derived.Test.YtoeealkcacgcgaaGreatDoorK42
set_option linter.unusedVariables false
set_option maxRecDepth 100000
noncomputable section
namespace Go.WE
open Go Go.Proofs Go.RowKit
theorem cvg_1:∀{j w op:Nat} {L:List Nat},argsOf 1 j=some (op,L)->wOK j w=true->CkV none j w 1 (goodV j w 1 L)
 | 0,w,op,L,h,_=>by cases h
 | 1,w,op,L,h,hw=>by cases h;obtain rfl:=w_one hw;exact cv1_1_1
 | 2,w,op,L,h,hw=>by cases h;obtain rfl:=w_one hw;exact cv1_2_1
 | 3,w,op,L,h,_=>by cases h
 | 4,w,op,L,h,hw=>by cases h;obtain rfl:=w_one hw;exact cv1_4_1
 | 5,w,op,L,h,hw=>by cases h;obtain rfl:=w_one hw;exact cv1_5_1
 | 6,w,op,L,h,_=>by cases h
 | 7,w,op,L,h,_=>by cases h
 | 8,w,op,L,h,_=>by cases h
 | 9,w,op,L,h,hw=>by cases h;obtain rfl:=w_one hw;exact cv1_9_1
 | 10,w,op,L,h,hw=>by cases h;obtain rfl:=w_one hw;exact cv1_10_1
 | j+11,w,op,L,h,_=>by cases h
theorem cvb_1 {y:Nat}:∀{j w op:Nat} {L:List Nat},argsOf 1 j=some (op,L)->wOK j w=true->y∈L->CkV (some y) j w 1 (badV y j w L)
 | 0,w,op,L,h,_,_=>by cases h
 | 1,w,op,L,h,hw,hy=>by cases h;simp only [List.mem_cons,List.not_mem_nil,or_false] at hy;obtain rfl:=w_one hw;subst hy;exact cv1_1_1_b0
 | 2,w,op,L,h,hw,hy=>by cases h;simp only [List.mem_cons,List.not_mem_nil,or_false] at hy;obtain rfl:=w_one hw;subst hy;exact cv1_2_1_b0
 | 3,w,op,L,h,_,_=>by cases h
 | 4,w,op,L,h,hw,hy=>by cases h;simp only [List.mem_cons,List.not_mem_nil,or_false] at hy;obtain rfl:=w_one hw;subst hy;exact cv1_4_1_b0
 | 5,w,op,L,h,hw,hy=>by cases h;simp only [List.mem_cons,List.not_mem_nil,or_false] at hy;obtain rfl:=w_one hw;subst hy;exact cv1_5_1_b0
 | 6,w,op,L,h,_,_=>by cases h
 | 7,w,op,L,h,_,_=>by cases h
 | 8,w,op,L,h,_,_=>by cases h
 | 9,w,op,L,h,hw,hy=>by cases h;simp only [List.mem_cons,List.not_mem_nil,or_false] at hy;obtain rfl:=w_one hw;subst hy;exact cv1_9_1_b0
 | 10,w,op,L,h,hw,hy=>by cases h;simp only [List.mem_cons,List.not_mem_nil,or_false] at hy;obtain rfl:=w_one hw;subst hy;exact cv1_10_1_b0
 | j+11,w,op,L,h,_,_=>by cases h
theorem cvz_1:∀{j:Nat},1≤j->j≤10->argsOf 1 j=none->CkV none j 1 1 (noneC j)
 | 0,h,_,_=>absurd h (by decide)
 | 1,_,_,h=>by cases h
 | 2,_,_,h=>by cases h
 | 3,_,_,h=>cv1_3_n
 | 4,_,_,h=>by cases h
 | 5,_,_,h=>by cases h
 | 6,_,_,h=>cv1_6_n
 | 7,_,_,h=>cv1_7_n
 | 8,_,_,h=>cv1_8_n
 | 9,_,_,h=>by cases h
 | 10,_,_,h=>by cases h
 | j+11,_,h,_=>absurd h (by omega)
theorem cvg_2:∀{j w op:Nat} {L:List Nat},argsOf 2 j=some (op,L)->wOK j w=true->CkV none j w 2 (goodV j w 2 L)
 | 0,w,op,L,h,_=>by cases h
 | 1,w,op,L,h,hw=>by cases h;obtain rfl:=w_one hw;exact cv2_1_1
 | 2,w,op,L,h,hw=>by cases h;obtain rfl:=w_one hw;exact cv2_2_1
 | 3,w,op,L,h,hw=>by
   cases h;rcases w_four hw with rfl|rfl|rfl|rfl
   · exact cv2_3_1
   · exact cv2_3_2
   · exact cv2_3_3
   · exact cv2_3_4
 | 4,w,op,L,h,hw=>by cases h;obtain rfl:=w_one hw;exact cv2_4_1
 | 5,w,op,L,h,hw=>by cases h;obtain rfl:=w_one hw;exact cv2_5_1
 | 6,w,op,L,h,_=>by cases h
 | 7,w,op,L,h,_=>by cases h
 | 8,w,op,L,h,_=>by cases h
 | 9,w,op,L,h,_=>by cases h
 | 10,w,op,L,h,_=>by cases h
 | j+11,w,op,L,h,_=>by cases h
theorem cvb_2 {y:Nat}:∀{j w op:Nat} {L:List Nat},argsOf 2 j=some (op,L)->wOK j w=true->y∈L->CkV (some y) j w 2 (badV y j w L)
 | 0,w,op,L,h,_,_=>by cases h
 | 1,w,op,L,h,hw,hy=>by
   cases h;simp only [List.mem_cons,List.not_mem_nil,or_false] at hy;obtain rfl:=w_one hw;rcases hy with rfl|rfl|rfl
   · exact cv2_1_1_b0
   · exact cv2_1_1_b1
   · exact cv2_1_1_b2
 | 2,w,op,L,h,hw,hy=>by
   cases h;simp only [List.mem_cons,List.not_mem_nil,or_false] at hy;obtain rfl:=w_one hw;rcases hy with rfl|rfl|rfl
   · exact cv2_2_1_b0
   · exact cv2_2_1_b1
   · exact cv2_2_1_b2
 | 3,w,op,L,h,hw,hy=>by
   cases h;simp only [List.mem_cons,List.not_mem_nil,or_false] at hy;rcases w_four hw with rfl|rfl|rfl|rfl
   · rcases hy with rfl|rfl|rfl
     · exact cv2_3_1_b0
     · exact cv2_3_1_b1
     · exact cv2_3_1_b2
   · rcases hy with rfl|rfl|rfl
     · exact cv2_3_2_b0
     · exact cv2_3_2_b1
     · exact cv2_3_2_b2
   · rcases hy with rfl|rfl|rfl
     · exact cv2_3_3_b0
     · exact cv2_3_3_b1
     · exact cv2_3_3_b2
   · rcases hy with rfl|rfl|rfl
     · exact cv2_3_4_b0
     · exact cv2_3_4_b1
     · exact cv2_3_4_b2
 | 4,w,op,L,h,hw,hy=>by
   cases h;simp only [List.mem_cons,List.not_mem_nil,or_false] at hy;obtain rfl:=w_one hw;rcases hy with rfl|rfl|rfl
   · exact cv2_4_1_b0
   · exact cv2_4_1_b1
   · exact cv2_4_1_b2
 | 5,w,op,L,h,hw,hy=>by
   cases h;simp only [List.mem_cons,List.not_mem_nil,or_false] at hy;obtain rfl:=w_one hw;rcases hy with rfl|rfl|rfl
   · exact cv2_5_1_b0
   · exact cv2_5_1_b1
   · exact cv2_5_1_b2
 | 6,w,op,L,h,_,_=>by cases h
 | 7,w,op,L,h,_,_=>by cases h
 | 8,w,op,L,h,_,_=>by cases h
 | 9,w,op,L,h,_,_=>by cases h
 | 10,w,op,L,h,_,_=>by cases h
 | j+11,w,op,L,h,_,_=>by cases h
theorem cvz_2:∀{j:Nat},1≤j->j≤10->argsOf 2 j=none->CkV none j 1 2 (noneC j)
 | 0,h,_,_=>absurd h (by decide)
 | 1,_,_,h=>by cases h
 | 2,_,_,h=>by cases h
 | 3,_,_,h=>by cases h
 | 4,_,_,h=>by cases h
 | 5,_,_,h=>by cases h
 | 6,_,_,h=>cv2_6_n
 | 7,_,_,h=>cv2_7_n
 | 8,_,_,h=>cv2_8_n
 | 9,_,_,h=>cv2_9_n
 | 10,_,_,h=>cv2_10_n
 | j+11,_,h,_=>absurd h (by omega)
theorem cvg_3:∀{j w op:Nat} {L:List Nat},argsOf 3 j=some (op,L)->wOK j w=true->CkV none j w 3 (goodV j w 3 L)
 | 0,w,op,L,h,_=>by cases h
 | 1,w,op,L,h,_=>by cases h
 | 2,w,op,L,h,_=>by cases h
 | 3,w,op,L,h,_=>by cases h
 | 4,w,op,L,h,hw=>by cases h;obtain rfl:=w_one hw;exact cv3_4_1
 | 5,w,op,L,h,hw=>by cases h;obtain rfl:=w_one hw;exact cv3_5_1
 | 6,w,op,L,h,_=>by cases h
 | 7,w,op,L,h,_=>by cases h
 | 8,w,op,L,h,_=>by cases h
 | 9,w,op,L,h,_=>by cases h
 | 10,w,op,L,h,_=>by cases h
 | j+11,w,op,L,h,_=>by cases h
theorem cvb_3 {y:Nat}:∀{j w op:Nat} {L:List Nat},argsOf 3 j=some (op,L)->wOK j w=true->y∈L->CkV (some y) j w 3 (badV y j w L)
 | 0,w,op,L,h,_,_=>by cases h
 | 1,w,op,L,h,_,_=>by cases h
 | 2,w,op,L,h,_,_=>by cases h
 | 3,w,op,L,h,_,_=>by cases h
 | 4,w,op,L,h,hw,hy=>by cases h;simp only [List.mem_cons,List.not_mem_nil,or_false] at hy;obtain rfl:=w_one hw;subst hy;exact cv3_4_1_b0
 | 5,w,op,L,h,hw,hy=>by cases h;simp only [List.mem_cons,List.not_mem_nil,or_false] at hy;obtain rfl:=w_one hw;subst hy;exact cv3_5_1_b0
 | 6,w,op,L,h,_,_=>by cases h
 | 7,w,op,L,h,_,_=>by cases h
 | 8,w,op,L,h,_,_=>by cases h
 | 9,w,op,L,h,_,_=>by cases h
 | 10,w,op,L,h,_,_=>by cases h
 | j+11,w,op,L,h,_,_=>by cases h
theorem cvz_3:∀{j:Nat},1≤j->j≤10->argsOf 3 j=none->CkV none j 1 3 (noneC j)
 | 0,h,_,_=>absurd h (by decide)
 | 1,_,_,h=>cv3_1_n
 | 2,_,_,h=>cv3_2_n
 | 3,_,_,h=>cv3_3_n
 | 4,_,_,h=>by cases h
 | 5,_,_,h=>by cases h
 | 6,_,_,h=>cv3_6_n
 | 7,_,_,h=>cv3_7_n
 | 8,_,_,h=>cv3_8_n
 | 9,_,_,h=>cv3_9_n
 | 10,_,_,h=>cv3_10_n
 | j+11,_,h,_=>absurd h (by omega)
theorem cvg_4:∀{j w op:Nat} {L:List Nat},argsOf 4 j=some (op,L)->wOK j w=true->CkV none j w 4 (goodV j w 4 L)
 | 0,w,op,L,h,_=>by cases h
 | 1,w,op,L,h,_=>by cases h
 | 2,w,op,L,h,_=>by cases h
 | 3,w,op,L,h,_=>by cases h
 | 4,w,op,L,h,_=>by cases h
 | 5,w,op,L,h,_=>by cases h
 | 6,w,op,L,h,hw=>by
   cases h;rcases w_four hw with rfl|rfl|rfl|rfl
   · exact cv4_6_1
   · exact cv4_6_2
   · exact cv4_6_3
   · exact cv4_6_4
 | 7,w,op,L,h,hw=>by
   cases h;rcases w_four hw with rfl|rfl|rfl|rfl
   · exact cv4_7_1
   · exact cv4_7_2
   · exact cv4_7_3
   · exact cv4_7_4
 | 8,w,op,L,h,hw=>by cases h;obtain rfl:=w_one hw;exact cv4_8_1
 | 9,w,op,L,h,_=>by cases h
 | 10,w,op,L,h,_=>by cases h
 | j+11,w,op,L,h,_=>by cases h
theorem cvb_4 {y:Nat}:∀{j w op:Nat} {L:List Nat},argsOf 4 j=some (op,L)->wOK j w=true->y∈L->CkV (some y) j w 4 (badV y j w L)
 | 0,w,op,L,h,_,_=>by cases h
 | 1,w,op,L,h,_,_=>by cases h
 | 2,w,op,L,h,_,_=>by cases h
 | 3,w,op,L,h,_,_=>by cases h
 | 4,w,op,L,h,_,_=>by cases h
 | 5,w,op,L,h,_,_=>by cases h
 | 6,w,op,L,h,hw,hy=>by
   cases h;simp only [List.mem_cons,List.not_mem_nil,or_false] at hy;rcases w_four hw with rfl|rfl|rfl|rfl
   · rcases hy with rfl|rfl
     · exact cv4_6_1_b1
     · exact cv4_6_1_b2
   · rcases hy with rfl|rfl
     · exact cv4_6_2_b1
     · exact cv4_6_2_b2
   · rcases hy with rfl|rfl
     · exact cv4_6_3_b1
     · exact cv4_6_3_b2
   · rcases hy with rfl|rfl
     · exact cv4_6_4_b1
     · exact cv4_6_4_b2
 | 7,w,op,L,h,hw,hy=>by
   cases h;simp only [List.mem_cons,List.not_mem_nil,or_false] at hy;rcases w_four hw with rfl|rfl|rfl|rfl
   · rcases hy with rfl|rfl
     · exact cv4_7_1_b1
     · exact cv4_7_1_b2
   · rcases hy with rfl|rfl
     · exact cv4_7_2_b1
     · exact cv4_7_2_b2
   · rcases hy with rfl|rfl
     · exact cv4_7_3_b1
     · exact cv4_7_3_b2
   · rcases hy with rfl|rfl
     · exact cv4_7_4_b1
     · exact cv4_7_4_b2
 | 8,w,op,L,h,hw,hy=>by
   cases h;simp only [List.mem_cons,List.not_mem_nil,or_false] at hy;obtain rfl:=w_one hw;rcases hy with rfl|rfl
   · exact cv4_8_1_b1
   · exact cv4_8_1_b2
 | 9,w,op,L,h,_,_=>by cases h
 | 10,w,op,L,h,_,_=>by cases h
 | j+11,w,op,L,h,_,_=>by cases h
theorem cvz_4:∀{j:Nat},1≤j->j≤10->argsOf 4 j=none->CkV none j 1 4 (noneC j)
 | 0,h,_,_=>absurd h (by decide)
 | 1,_,_,h=>cv4_1_n
 | 2,_,_,h=>cv4_2_n
 | 3,_,_,h=>cv4_3_n
 | 4,_,_,h=>cv4_4_n
 | 5,_,_,h=>cv4_5_n
 | 6,_,_,h=>by cases h
 | 7,_,_,h=>by cases h
 | 8,_,_,h=>by cases h
 | 9,_,_,h=>cv4_9_n
 | 10,_,_,h=>cv4_10_n
 | j+11,_,h,_=>absurd h (by omega)
theorem cvg_5:∀{j w op:Nat} {L:List Nat},argsOf 5 j=some (op,L)->wOK j w=true->CkV none j w 5 (goodV j w 5 L)
 | 0,w,op,L,h,_=>by cases h
 | 1,w,op,L,h,_=>by cases h
 | 2,w,op,L,h,_=>by cases h
 | 3,w,op,L,h,_=>by cases h
 | 4,w,op,L,h,_=>by cases h
 | 5,w,op,L,h,_=>by cases h
 | 6,w,op,L,h,hw=>by
   cases h;rcases w_four hw with rfl|rfl|rfl|rfl
   · exact cv5_6_1
   · exact cv5_6_2
   · exact cv5_6_3
   · exact cv5_6_4
 | 7,w,op,L,h,hw=>by
   cases h;rcases w_four hw with rfl|rfl|rfl|rfl
   · exact cv5_7_1
   · exact cv5_7_2
   · exact cv5_7_3
   · exact cv5_7_4
 | 8,w,op,L,h,_=>by cases h
 | 9,w,op,L,h,_=>by cases h
 | 10,w,op,L,h,_=>by cases h
 | j+11,w,op,L,h,_=>by cases h
theorem cvb_5 {y:Nat}:∀{j w op:Nat} {L:List Nat},argsOf 5 j=some (op,L)->wOK j w=true->y∈L->CkV (some y) j w 5 (badV y j w L)
 | 0,w,op,L,h,_,_=>by cases h
 | 1,w,op,L,h,_,_=>by cases h
 | 2,w,op,L,h,_,_=>by cases h
 | 3,w,op,L,h,_,_=>by cases h
 | 4,w,op,L,h,_,_=>by cases h
 | 5,w,op,L,h,_,_=>by cases h
 | 6,w,op,L,h,hw,hy=>by
   cases h;simp only [List.mem_cons,List.not_mem_nil,or_false] at hy;rcases w_four hw with rfl|rfl|rfl|rfl
   · subst hy;exact cv5_6_1_b3
   · subst hy;exact cv5_6_2_b3
   · subst hy;exact cv5_6_3_b3
   · subst hy;exact cv5_6_4_b3
 | 7,w,op,L,h,hw,hy=>by
   cases h;simp only [List.mem_cons,List.not_mem_nil,or_false] at hy;rcases w_four hw with rfl|rfl|rfl|rfl
   · subst hy;exact cv5_7_1_b3
   · subst hy;exact cv5_7_2_b3
   · subst hy;exact cv5_7_3_b3
   · subst hy;exact cv5_7_4_b3
 | 8,w,op,L,h,_,_=>by cases h
 | 9,w,op,L,h,_,_=>by cases h
 | 10,w,op,L,h,_,_=>by cases h
 | j+11,w,op,L,h,_,_=>by cases h
theorem cvz_5:∀{j:Nat},1≤j->j≤10->argsOf 5 j=none->CkV none j 1 5 (noneC j)
 | 0,h,_,_=>absurd h (by decide)
 | 1,_,_,h=>cv5_1_n
 | 2,_,_,h=>cv5_2_n
 | 3,_,_,h=>cv5_3_n
 | 4,_,_,h=>cv5_4_n
 | 5,_,_,h=>cv5_5_n
 | 6,_,_,h=>by cases h
 | 7,_,_,h=>by cases h
 | 8,_,_,h=>cv5_8_n
 | 9,_,_,h=>cv5_9_n
 | 10,_,_,h=>cv5_10_n
 | j+11,_,h,_=>absurd h (by omega)
theorem cvg_6:∀{j w op:Nat} {L:List Nat},argsOf 6 j=some (op,L)->wOK j w=true->CkV none j w 6 (goodV j w 6 L)
 | 0,w,op,L,h,_=>by cases h
 | 1,w,op,L,h,_=>by cases h
 | 2,w,op,L,h,_=>by cases h
 | 3,w,op,L,h,_=>by cases h
 | 4,w,op,L,h,_=>by cases h
 | 5,w,op,L,h,_=>by cases h
 | 6,w,op,L,h,hw=>by
   cases h;rcases w_four hw with rfl|rfl|rfl|rfl
   · exact cv6_6_1
   · exact cv6_6_2
   · exact cv6_6_3
   · exact cv6_6_4
 | 7,w,op,L,h,hw=>by
   cases h;rcases w_four hw with rfl|rfl|rfl|rfl
   · exact cv6_7_1
   · exact cv6_7_2
   · exact cv6_7_3
   · exact cv6_7_4
 | 8,w,op,L,h,hw=>by cases h;obtain rfl:=w_one hw;exact cv6_8_1
 | 9,w,op,L,h,_=>by cases h
 | 10,w,op,L,h,_=>by cases h
 | j+11,w,op,L,h,_=>by cases h
theorem cvb_6 {y:Nat}:∀{j w op:Nat} {L:List Nat},argsOf 6 j=some (op,L)->wOK j w=true->y∈L->CkV (some y) j w 6 (badV y j w L)
 | 0,w,op,L,h,_,_=>by cases h
 | 1,w,op,L,h,_,_=>by cases h
 | 2,w,op,L,h,_,_=>by cases h
 | 3,w,op,L,h,_,_=>by cases h
 | 4,w,op,L,h,_,_=>by cases h
 | 5,w,op,L,h,_,_=>by cases h
 | 6,w,op,L,h,hw,hy=>by
   cases h;simp only [List.mem_cons,List.not_mem_nil,or_false] at hy;rcases w_four hw with rfl|rfl|rfl|rfl
   · subst hy;exact cv6_6_1_b3
   · subst hy;exact cv6_6_2_b3
   · subst hy;exact cv6_6_3_b3
   · subst hy;exact cv6_6_4_b3
 | 7,w,op,L,h,hw,hy=>by
   cases h;simp only [List.mem_cons,List.not_mem_nil,or_false] at hy;rcases w_four hw with rfl|rfl|rfl|rfl
   · subst hy;exact cv6_7_1_b3
   · subst hy;exact cv6_7_2_b3
   · subst hy;exact cv6_7_3_b3
   · subst hy;exact cv6_7_4_b3
 | 8,w,op,L,h,hw,hy=>by cases h;simp only [List.mem_cons,List.not_mem_nil,or_false] at hy;obtain rfl:=w_one hw;subst hy;exact cv6_8_1_b1
 | 9,w,op,L,h,_,_=>by cases h
 | 10,w,op,L,h,_,_=>by cases h
 | j+11,w,op,L,h,_,_=>by cases h
theorem cvz_6:∀{j:Nat},1≤j->j≤10->argsOf 6 j=none->CkV none j 1 6 (noneC j)
 | 0,h,_,_=>absurd h (by decide)
 | 1,_,_,h=>cv6_1_n
 | 2,_,_,h=>cv6_2_n
 | 3,_,_,h=>cv6_3_n
 | 4,_,_,h=>cv6_4_n
 | 5,_,_,h=>cv6_5_n
 | 6,_,_,h=>by cases h
 | 7,_,_,h=>by cases h
 | 8,_,_,h=>by cases h
 | 9,_,_,h=>cv6_9_n
 | 10,_,_,h=>cv6_10_n
 | j+11,_,h,_=>absurd h (by omega)
theorem cvg_8:∀{j w op:Nat} {L:List Nat},argsOf 8 j=some (op,L)->wOK j w=true->CkV none j w 8 (goodV j w 8 L)
 | 0,w,op,L,h,_=>by cases h
 | 1,w,op,L,h,_=>by cases h
 | 2,w,op,L,h,_=>by cases h
 | 3,w,op,L,h,hw=>by
   cases h;rcases w_four hw with rfl|rfl|rfl|rfl
   · exact cv8_3_1
   · exact cv8_3_2
   · exact cv8_3_3
   · exact cv8_3_4
 | 4,w,op,L,h,_=>by cases h
 | 5,w,op,L,h,_=>by cases h
 | 6,w,op,L,h,_=>by cases h
 | 7,w,op,L,h,_=>by cases h
 | 8,w,op,L,h,_=>by cases h
 | 9,w,op,L,h,_=>by cases h
 | 10,w,op,L,h,_=>by cases h
 | j+11,w,op,L,h,_=>by cases h
theorem cvb_8 {y:Nat}:∀{j w op:Nat} {L:List Nat},argsOf 8 j=some (op,L)->wOK j w=true->y∈L->CkV (some y) j w 8 (badV y j w L)
 | 0,w,op,L,h,_,_=>by cases h
 | 1,w,op,L,h,_,_=>by cases h
 | 2,w,op,L,h,_,_=>by cases h
 | 3,w,op,L,h,hw,hy=>by
   cases h;simp only [List.mem_cons,List.not_mem_nil,or_false] at hy;rcases w_four hw with rfl|rfl|rfl|rfl
   · rcases hy with rfl|rfl
     · exact cv8_3_1_b0
     · exact cv8_3_1_b3
   · rcases hy with rfl|rfl
     · exact cv8_3_2_b0
     · exact cv8_3_2_b3
   · rcases hy with rfl|rfl
     · exact cv8_3_3_b0
     · exact cv8_3_3_b3
   · rcases hy with rfl|rfl
     · exact cv8_3_4_b0
     · exact cv8_3_4_b3
 | 4,w,op,L,h,_,_=>by cases h
 | 5,w,op,L,h,_,_=>by cases h
 | 6,w,op,L,h,_,_=>by cases h
 | 7,w,op,L,h,_,_=>by cases h
 | 8,w,op,L,h,_,_=>by cases h
 | 9,w,op,L,h,_,_=>by cases h
 | 10,w,op,L,h,_,_=>by cases h
 | j+11,w,op,L,h,_,_=>by cases h
theorem cvz_8:∀{j:Nat},1≤j->j≤10->argsOf 8 j=none->CkV none j 1 8 (noneC j)
 | 0,h,_,_=>absurd h (by decide)
 | 1,_,_,h=>cv8_1_n
 | 2,_,_,h=>cv8_2_n
 | 3,_,_,h=>by cases h
 | 4,_,_,h=>cv8_4_n
 | 5,_,_,h=>cv8_5_n
 | 6,_,_,h=>cv8_6_n
 | 7,_,_,h=>cv8_7_n
 | 8,_,_,h=>cv8_8_n
 | 9,_,_,h=>cv8_9_n
 | 10,_,_,h=>cv8_10_n
 | j+11,_,h,_=>absurd h (by omega)
theorem cq1_1_1:CkQ 1 1 1 (goodQ 1 1 1 [0]):=⟨fun _ _ _ _=>by kernel_rfl⟩
theorem cq1_3_n:CkQ 3 1 1 (noneC 3):=⟨fun _ _ _ _=>by kernel_rfl⟩
theorem cq1_5_1:CkQ 5 1 1 (goodQ 5 1 1 [0]):=⟨fun _ _ _ _=>by kernel_rfl⟩
theorem cq1_7_n:CkQ 7 1 1 (noneC 7):=⟨fun _ _ _ _=>by kernel_rfl⟩
theorem cq1_9_1:CkQ 9 1 1 (goodQ 9 1 1 [0]):=⟨fun _ _ _ _=>by kernel_rfl⟩
theorem cq2_1_1:CkQ 1 1 2 (goodQ 1 1 2 [0,1,2]):=⟨fun _ _ _ _=>by kernel_rfl⟩
theorem cq2_3_1:CkQ 3 1 2 (goodQ 3 1 2 [0,1,2]):=⟨fun _ _ _ _=>by kernel_rfl⟩
theorem cq2_3_3:CkQ 3 3 2 (goodQ 3 3 2 [0,1,2]):=⟨fun _ _ _ _=>by kernel_rfl⟩
theorem cq2_4_1:CkQ 4 1 2 (goodQ 4 1 2 [0,1,2]):=⟨fun _ _ _ _=>by kernel_rfl⟩
theorem cq2_6_n:CkQ 6 1 2 (noneC 6):=⟨fun _ _ _ _=>by kernel_rfl⟩
theorem cq2_8_n:CkQ 8 1 2 (noneC 8):=⟨fun _ _ _ _=>by kernel_rfl⟩
theorem cq2_10_n:CkQ 10 1 2 (noneC 10):=⟨fun _ _ _ _=>by kernel_rfl⟩
theorem cq3_2_n:CkQ 2 1 3 (noneC 2):=⟨fun _ _ _ _=>by kernel_rfl⟩
theorem cq3_4_1:CkQ 4 1 3 (goodQ 4 1 3 [0]):=⟨fun _ _ _ _=>by kernel_rfl⟩
theorem cq3_6_n:CkQ 6 1 3 (noneC 6):=⟨fun _ _ _ _=>by kernel_rfl⟩
theorem cq3_8_n:CkQ 8 1 3 (noneC 8):=⟨fun _ _ _ _=>by kernel_rfl⟩
theorem cq3_10_n:CkQ 10 1 3 (noneC 10):=⟨fun _ _ _ _=>by kernel_rfl⟩
theorem cq4_2_n:CkQ 2 1 4 (noneC 2):=⟨fun _ _ _ _=>by kernel_rfl⟩
theorem cq4_4_n:CkQ 4 1 4 (noneC 4):=⟨fun _ _ _ _=>by kernel_rfl⟩
theorem cq4_6_1:CkQ 6 1 4 (goodQ 6 1 4 [1,2]):=⟨fun _ _ _ _=>by kernel_rfl⟩
theorem cq4_6_3:CkQ 6 3 4 (goodQ 6 3 4 [1,2]):=⟨fun _ _ _ _=>by kernel_rfl⟩
theorem cq4_7_1:CkQ 7 1 4 (goodQ 7 1 4 [1,2]):=⟨fun _ _ _ _=>by kernel_rfl⟩
theorem cq4_7_3:CkQ 7 3 4 (goodQ 7 3 4 [1,2]):=⟨fun _ _ _ _=>by kernel_rfl⟩
theorem cq4_8_1:CkQ 8 1 4 (goodQ 8 1 4 [1,2]):=⟨fun _ _ _ _=>by kernel_rfl⟩
theorem cq4_10_n:CkQ 10 1 4 (noneC 10):=⟨fun _ _ _ _=>by kernel_rfl⟩
theorem cq5_2_n:CkQ 2 1 5 (noneC 2):=⟨fun _ _ _ _=>by kernel_rfl⟩
theorem cq5_4_n:CkQ 4 1 5 (noneC 4):=⟨fun _ _ _ _=>by kernel_rfl⟩
theorem cq5_6_1:CkQ 6 1 5 (goodQ 6 1 5 [3]):=⟨fun _ _ _ _=>by kernel_rfl⟩
theorem cq5_6_3:CkQ 6 3 5 (goodQ 6 3 5 [3]):=⟨fun _ _ _ _=>by kernel_rfl⟩
theorem cq5_7_1:CkQ 7 1 5 (goodQ 7 1 5 [3]):=⟨fun _ _ _ _=>by kernel_rfl⟩
theorem cq5_7_3:CkQ 7 3 5 (goodQ 7 3 5 [3]):=⟨fun _ _ _ _=>by kernel_rfl⟩
theorem cq5_8_n:CkQ 8 1 5 (noneC 8):=⟨fun _ _ _ _=>by kernel_rfl⟩
theorem cq5_10_n:CkQ 10 1 5 (noneC 10):=⟨fun _ _ _ _=>by kernel_rfl⟩
theorem cq6_2_n:CkQ 2 1 6 (noneC 2):=⟨fun _ _ _ _=>by kernel_rfl⟩
theorem cq6_4_n:CkQ 4 1 6 (noneC 4):=⟨fun _ _ _ _=>by kernel_rfl⟩
theorem cq6_6_1:CkQ 6 1 6 (goodQ 6 1 6 [3]):=⟨fun _ _ _ _=>by kernel_rfl⟩
theorem cq6_6_3:CkQ 6 3 6 (goodQ 6 3 6 [3]):=⟨fun _ _ _ _=>by kernel_rfl⟩
theorem cq6_7_1:CkQ 7 1 6 (goodQ 7 1 6 [3]):=⟨fun _ _ _ _=>by kernel_rfl⟩
theorem cq6_7_3:CkQ 7 3 6 (goodQ 7 3 6 [3]):=⟨fun _ _ _ _=>by kernel_rfl⟩
theorem cq6_8_1:CkQ 8 1 6 (goodQ 8 1 6 [1]):=⟨fun _ _ _ _=>by kernel_rfl⟩
theorem cq6_10_n:CkQ 10 1 6 (noneC 10):=⟨fun _ _ _ _=>by kernel_rfl⟩
theorem cq8_2_n:CkQ 2 1 8 (noneC 2):=⟨fun _ _ _ _=>by kernel_rfl⟩
theorem cq8_3_2:CkQ 3 2 8 (goodQ 3 2 8 [0,3]):=⟨fun _ _ _ _=>by kernel_rfl⟩
theorem cq8_3_4:CkQ 3 4 8 (goodQ 3 4 8 [0,3]):=⟨fun _ _ _ _=>by kernel_rfl⟩
theorem cq8_5_n:CkQ 5 1 8 (noneC 5):=⟨fun _ _ _ _=>by kernel_rfl⟩
theorem cq8_7_n:CkQ 7 1 8 (noneC 7):=⟨fun _ _ _ _=>by kernel_rfl⟩
theorem cq8_9_n:CkQ 9 1 8 (noneC 9):=⟨fun _ _ _ _=>by kernel_rfl⟩
theorem cq1_2_1:CkQ 2 1 1 (goodQ 2 1 1 [0]):=⟨fun _ _ _ _=>by kernel_rfl⟩
theorem cq1_4_1:CkQ 4 1 1 (goodQ 4 1 1 [0]):=⟨fun _ _ _ _=>by kernel_rfl⟩
theorem cq1_6_n:CkQ 6 1 1 (noneC 6):=⟨fun _ _ _ _=>by kernel_rfl⟩
theorem cq1_8_n:CkQ 8 1 1 (noneC 8):=⟨fun _ _ _ _=>by kernel_rfl⟩
theorem cq1_10_1:CkQ 10 1 1 (goodQ 10 1 1 [0]):=⟨fun _ _ _ _=>by kernel_rfl⟩
theorem cq2_2_1:CkQ 2 1 2 (goodQ 2 1 2 [0,1,2]):=⟨fun _ _ _ _=>by kernel_rfl⟩
theorem cq2_3_2:CkQ 3 2 2 (goodQ 3 2 2 [0,1,2]):=⟨fun _ _ _ _=>by kernel_rfl⟩
theorem cq2_3_4:CkQ 3 4 2 (goodQ 3 4 2 [0,1,2]):=⟨fun _ _ _ _=>by kernel_rfl⟩
theorem cq2_5_1:CkQ 5 1 2 (goodQ 5 1 2 [0,1,2]):=⟨fun _ _ _ _=>by kernel_rfl⟩
theorem cq2_7_n:CkQ 7 1 2 (noneC 7):=⟨fun _ _ _ _=>by kernel_rfl⟩
theorem cq2_9_n:CkQ 9 1 2 (noneC 9):=⟨fun _ _ _ _=>by kernel_rfl⟩
theorem cq3_1_n:CkQ 1 1 3 (noneC 1):=⟨fun _ _ _ _=>by kernel_rfl⟩
theorem cq3_3_n:CkQ 3 1 3 (noneC 3):=⟨fun _ _ _ _=>by kernel_rfl⟩
theorem cq3_5_1:CkQ 5 1 3 (goodQ 5 1 3 [0]):=⟨fun _ _ _ _=>by kernel_rfl⟩
theorem cq3_7_n:CkQ 7 1 3 (noneC 7):=⟨fun _ _ _ _=>by kernel_rfl⟩
theorem cq3_9_n:CkQ 9 1 3 (noneC 9):=⟨fun _ _ _ _=>by kernel_rfl⟩
theorem cq4_1_n:CkQ 1 1 4 (noneC 1):=⟨fun _ _ _ _=>by kernel_rfl⟩
theorem cq4_3_n:CkQ 3 1 4 (noneC 3):=⟨fun _ _ _ _=>by kernel_rfl⟩
theorem cq4_5_n:CkQ 5 1 4 (noneC 5):=⟨fun _ _ _ _=>by kernel_rfl⟩
theorem cq4_6_2:CkQ 6 2 4 (goodQ 6 2 4 [1,2]):=⟨fun _ _ _ _=>by kernel_rfl⟩
theorem cq4_6_4:CkQ 6 4 4 (goodQ 6 4 4 [1,2]):=⟨fun _ _ _ _=>by kernel_rfl⟩
theorem cq4_7_2:CkQ 7 2 4 (goodQ 7 2 4 [1,2]):=⟨fun _ _ _ _=>by kernel_rfl⟩
theorem cq4_7_4:CkQ 7 4 4 (goodQ 7 4 4 [1,2]):=⟨fun _ _ _ _=>by kernel_rfl⟩
theorem cq4_9_n:CkQ 9 1 4 (noneC 9):=⟨fun _ _ _ _=>by kernel_rfl⟩
theorem cq5_1_n:CkQ 1 1 5 (noneC 1):=⟨fun _ _ _ _=>by kernel_rfl⟩
theorem cq5_3_n:CkQ 3 1 5 (noneC 3):=⟨fun _ _ _ _=>by kernel_rfl⟩
theorem cq5_5_n:CkQ 5 1 5 (noneC 5):=⟨fun _ _ _ _=>by kernel_rfl⟩
theorem cq5_6_2:CkQ 6 2 5 (goodQ 6 2 5 [3]):=⟨fun _ _ _ _=>by kernel_rfl⟩
theorem cq5_6_4:CkQ 6 4 5 (goodQ 6 4 5 [3]):=⟨fun _ _ _ _=>by kernel_rfl⟩
theorem cq5_7_2:CkQ 7 2 5 (goodQ 7 2 5 [3]):=⟨fun _ _ _ _=>by kernel_rfl⟩
theorem cq5_7_4:CkQ 7 4 5 (goodQ 7 4 5 [3]):=⟨fun _ _ _ _=>by kernel_rfl⟩
theorem cq5_9_n:CkQ 9 1 5 (noneC 9):=⟨fun _ _ _ _=>by kernel_rfl⟩
theorem cq6_1_n:CkQ 1 1 6 (noneC 1):=⟨fun _ _ _ _=>by kernel_rfl⟩
theorem cq6_3_n:CkQ 3 1 6 (noneC 3):=⟨fun _ _ _ _=>by kernel_rfl⟩
theorem cq6_5_n:CkQ 5 1 6 (noneC 5):=⟨fun _ _ _ _=>by kernel_rfl⟩
theorem cq6_6_2:CkQ 6 2 6 (goodQ 6 2 6 [3]):=⟨fun _ _ _ _=>by kernel_rfl⟩
theorem cq6_6_4:CkQ 6 4 6 (goodQ 6 4 6 [3]):=⟨fun _ _ _ _=>by kernel_rfl⟩
theorem cq6_7_2:CkQ 7 2 6 (goodQ 7 2 6 [3]):=⟨fun _ _ _ _=>by kernel_rfl⟩
theorem cq6_7_4:CkQ 7 4 6 (goodQ 7 4 6 [3]):=⟨fun _ _ _ _=>by kernel_rfl⟩
theorem cq6_9_n:CkQ 9 1 6 (noneC 9):=⟨fun _ _ _ _=>by kernel_rfl⟩
theorem cq8_1_n:CkQ 1 1 8 (noneC 1):=⟨fun _ _ _ _=>by kernel_rfl⟩
theorem cq8_3_1:CkQ 3 1 8 (goodQ 3 1 8 [0,3]):=⟨fun _ _ _ _=>by kernel_rfl⟩
theorem cq8_3_3:CkQ 3 3 8 (goodQ 3 3 8 [0,3]):=⟨fun _ _ _ _=>by kernel_rfl⟩
theorem cq8_4_n:CkQ 4 1 8 (noneC 4):=⟨fun _ _ _ _=>by kernel_rfl⟩
theorem cq8_6_n:CkQ 6 1 8 (noneC 6):=⟨fun _ _ _ _=>by kernel_rfl⟩
theorem cq8_8_n:CkQ 8 1 8 (noneC 8):=⟨fun _ _ _ _=>by kernel_rfl⟩
theorem cq8_10_n:CkQ 10 1 8 (noneC 10):=⟨fun _ _ _ _=>by kernel_rfl⟩
theorem cqg_1:∀{j w op:Nat} {L:List Nat},argsOf 1 j=some (op,L)->wOK j w=true->CkQ j w 1 (goodQ j w 1 L)
 | 0,w,op,L,h,_=>by cases h
 | 1,w,op,L,h,hw=>by cases h;obtain rfl:=w_one hw;exact cq1_1_1
 | 2,w,op,L,h,hw=>by cases h;obtain rfl:=w_one hw;exact cq1_2_1
 | 3,w,op,L,h,_=>by cases h
 | 4,w,op,L,h,hw=>by cases h;obtain rfl:=w_one hw;exact cq1_4_1
 | 5,w,op,L,h,hw=>by cases h;obtain rfl:=w_one hw;exact cq1_5_1
 | 6,w,op,L,h,_=>by cases h
 | 7,w,op,L,h,_=>by cases h
 | 8,w,op,L,h,_=>by cases h
 | 9,w,op,L,h,hw=>by cases h;obtain rfl:=w_one hw;exact cq1_9_1
 | 10,w,op,L,h,hw=>by cases h;obtain rfl:=w_one hw;exact cq1_10_1
 | j+11,w,op,L,h,_=>by cases h
theorem cqz_1:∀{j:Nat},1≤j->j≤10->argsOf 1 j=none->CkQ j 1 1 (noneC j)
 | 0,h,_,_=>absurd h (by decide)
 | 1,_,_,h=>by cases h
 | 2,_,_,h=>by cases h
 | 3,_,_,h=>cq1_3_n
 | 4,_,_,h=>by cases h
 | 5,_,_,h=>by cases h
 | 6,_,_,h=>cq1_6_n
 | 7,_,_,h=>cq1_7_n
 | 8,_,_,h=>cq1_8_n
 | 9,_,_,h=>by cases h
 | 10,_,_,h=>by cases h
 | j+11,_,h,_=>absurd h (by omega)
theorem cqg_2:∀{j w op:Nat} {L:List Nat},argsOf 2 j=some (op,L)->wOK j w=true->CkQ j w 2 (goodQ j w 2 L)
 | 0,w,op,L,h,_=>by cases h
 | 1,w,op,L,h,hw=>by cases h;obtain rfl:=w_one hw;exact cq2_1_1
 | 2,w,op,L,h,hw=>by cases h;obtain rfl:=w_one hw;exact cq2_2_1
 | 3,w,op,L,h,hw=>by
   cases h;rcases w_four hw with rfl|rfl|rfl|rfl
   · exact cq2_3_1
   · exact cq2_3_2
   · exact cq2_3_3
   · exact cq2_3_4
 | 4,w,op,L,h,hw=>by cases h;obtain rfl:=w_one hw;exact cq2_4_1
 | 5,w,op,L,h,hw=>by cases h;obtain rfl:=w_one hw;exact cq2_5_1
 | 6,w,op,L,h,_=>by cases h
 | 7,w,op,L,h,_=>by cases h
 | 8,w,op,L,h,_=>by cases h
 | 9,w,op,L,h,_=>by cases h
 | 10,w,op,L,h,_=>by cases h
 | j+11,w,op,L,h,_=>by cases h
theorem cqz_2:∀{j:Nat},1≤j->j≤10->argsOf 2 j=none->CkQ j 1 2 (noneC j)
 | 0,h,_,_=>absurd h (by decide)
 | 1,_,_,h=>by cases h
 | 2,_,_,h=>by cases h
 | 3,_,_,h=>by cases h
 | 4,_,_,h=>by cases h
 | 5,_,_,h=>by cases h
 | 6,_,_,h=>cq2_6_n
 | 7,_,_,h=>cq2_7_n
 | 8,_,_,h=>cq2_8_n
 | 9,_,_,h=>cq2_9_n
 | 10,_,_,h=>cq2_10_n
 | j+11,_,h,_=>absurd h (by omega)
theorem cqg_3:∀{j w op:Nat} {L:List Nat},argsOf 3 j=some (op,L)->wOK j w=true->CkQ j w 3 (goodQ j w 3 L)
 | 0,w,op,L,h,_=>by cases h
 | 1,w,op,L,h,_=>by cases h
 | 2,w,op,L,h,_=>by cases h
 | 3,w,op,L,h,_=>by cases h
 | 4,w,op,L,h,hw=>by cases h;obtain rfl:=w_one hw;exact cq3_4_1
 | 5,w,op,L,h,hw=>by cases h;obtain rfl:=w_one hw;exact cq3_5_1
 | 6,w,op,L,h,_=>by cases h
 | 7,w,op,L,h,_=>by cases h
 | 8,w,op,L,h,_=>by cases h
 | 9,w,op,L,h,_=>by cases h
 | 10,w,op,L,h,_=>by cases h
 | j+11,w,op,L,h,_=>by cases h
theorem cqz_3:∀{j:Nat},1≤j->j≤10->argsOf 3 j=none->CkQ j 1 3 (noneC j)
 | 0,h,_,_=>absurd h (by decide)
 | 1,_,_,h=>cq3_1_n
 | 2,_,_,h=>cq3_2_n
 | 3,_,_,h=>cq3_3_n
 | 4,_,_,h=>by cases h
 | 5,_,_,h=>by cases h
 | 6,_,_,h=>cq3_6_n
 | 7,_,_,h=>cq3_7_n
 | 8,_,_,h=>cq3_8_n
 | 9,_,_,h=>cq3_9_n
 | 10,_,_,h=>cq3_10_n
 | j+11,_,h,_=>absurd h (by omega)
theorem cqg_4:∀{j w op:Nat} {L:List Nat},argsOf 4 j=some (op,L)->wOK j w=true->CkQ j w 4 (goodQ j w 4 L)
 | 0,w,op,L,h,_=>by cases h
 | 1,w,op,L,h,_=>by cases h
 | 2,w,op,L,h,_=>by cases h
 | 3,w,op,L,h,_=>by cases h
 | 4,w,op,L,h,_=>by cases h
 | 5,w,op,L,h,_=>by cases h
 | 6,w,op,L,h,hw=>by
   cases h;rcases w_four hw with rfl|rfl|rfl|rfl
   · exact cq4_6_1
   · exact cq4_6_2
   · exact cq4_6_3
   · exact cq4_6_4
 | 7,w,op,L,h,hw=>by
   cases h;rcases w_four hw with rfl|rfl|rfl|rfl
   · exact cq4_7_1
   · exact cq4_7_2
   · exact cq4_7_3
   · exact cq4_7_4
 | 8,w,op,L,h,hw=>by cases h;obtain rfl:=w_one hw;exact cq4_8_1
 | 9,w,op,L,h,_=>by cases h
 | 10,w,op,L,h,_=>by cases h
 | j+11,w,op,L,h,_=>by cases h
theorem cqz_4:∀{j:Nat},1≤j->j≤10->argsOf 4 j=none->CkQ j 1 4 (noneC j)
 | 0,h,_,_=>absurd h (by decide)
 | 1,_,_,h=>cq4_1_n
 | 2,_,_,h=>cq4_2_n
 | 3,_,_,h=>cq4_3_n
 | 4,_,_,h=>cq4_4_n
 | 5,_,_,h=>cq4_5_n
 | 6,_,_,h=>by cases h
 | 7,_,_,h=>by cases h
 | 8,_,_,h=>by cases h
 | 9,_,_,h=>cq4_9_n
 | 10,_,_,h=>cq4_10_n
 | j+11,_,h,_=>absurd h (by omega)
theorem cqg_5:∀{j w op:Nat} {L:List Nat},argsOf 5 j=some (op,L)->wOK j w=true->CkQ j w 5 (goodQ j w 5 L)
 | 0,w,op,L,h,_=>by cases h
 | 1,w,op,L,h,_=>by cases h
 | 2,w,op,L,h,_=>by cases h
 | 3,w,op,L,h,_=>by cases h
 | 4,w,op,L,h,_=>by cases h
 | 5,w,op,L,h,_=>by cases h
 | 6,w,op,L,h,hw=>by
   cases h;rcases w_four hw with rfl|rfl|rfl|rfl
   · exact cq5_6_1
   · exact cq5_6_2
   · exact cq5_6_3
   · exact cq5_6_4
 | 7,w,op,L,h,hw=>by
   cases h;rcases w_four hw with rfl|rfl|rfl|rfl
   · exact cq5_7_1
   · exact cq5_7_2
   · exact cq5_7_3
   · exact cq5_7_4
 | 8,w,op,L,h,_=>by cases h
 | 9,w,op,L,h,_=>by cases h
 | 10,w,op,L,h,_=>by cases h
 | j+11,w,op,L,h,_=>by cases h
theorem cqz_5:∀{j:Nat},1≤j->j≤10->argsOf 5 j=none->CkQ j 1 5 (noneC j)
 | 0,h,_,_=>absurd h (by decide)
 | 1,_,_,h=>cq5_1_n
 | 2,_,_,h=>cq5_2_n
 | 3,_,_,h=>cq5_3_n
 | 4,_,_,h=>cq5_4_n
 | 5,_,_,h=>cq5_5_n
 | 6,_,_,h=>by cases h
 | 7,_,_,h=>by cases h
 | 8,_,_,h=>cq5_8_n
 | 9,_,_,h=>cq5_9_n
 | 10,_,_,h=>cq5_10_n
 | j+11,_,h,_=>absurd h (by omega)
theorem cqg_6:∀{j w op:Nat} {L:List Nat},argsOf 6 j=some (op,L)->wOK j w=true->CkQ j w 6 (goodQ j w 6 L)
 | 0,w,op,L,h,_=>by cases h
 | 1,w,op,L,h,_=>by cases h
 | 2,w,op,L,h,_=>by cases h
 | 3,w,op,L,h,_=>by cases h
 | 4,w,op,L,h,_=>by cases h
 | 5,w,op,L,h,_=>by cases h
 | 6,w,op,L,h,hw=>by
   cases h;rcases w_four hw with rfl|rfl|rfl|rfl
   · exact cq6_6_1
   · exact cq6_6_2
   · exact cq6_6_3
   · exact cq6_6_4
 | 7,w,op,L,h,hw=>by
   cases h;rcases w_four hw with rfl|rfl|rfl|rfl
   · exact cq6_7_1
   · exact cq6_7_2
   · exact cq6_7_3
   · exact cq6_7_4
 | 8,w,op,L,h,hw=>by cases h;obtain rfl:=w_one hw;exact cq6_8_1
 | 9,w,op,L,h,_=>by cases h
 | 10,w,op,L,h,_=>by cases h
 | j+11,w,op,L,h,_=>by cases h
theorem cqz_6:∀{j:Nat},1≤j->j≤10->argsOf 6 j=none->CkQ j 1 6 (noneC j)
 | 0,h,_,_=>absurd h (by decide)
 | 1,_,_,h=>cq6_1_n
 | 2,_,_,h=>cq6_2_n
 | 3,_,_,h=>cq6_3_n
 | 4,_,_,h=>cq6_4_n
 | 5,_,_,h=>cq6_5_n
 | 6,_,_,h=>by cases h
 | 7,_,_,h=>by cases h
 | 8,_,_,h=>by cases h
 | 9,_,_,h=>cq6_9_n
 | 10,_,_,h=>cq6_10_n
 | j+11,_,h,_=>absurd h (by omega)
theorem cqg_8:∀{j w op:Nat} {L:List Nat},argsOf 8 j=some (op,L)->wOK j w=true->CkQ j w 8 (goodQ j w 8 L)
 | 0,w,op,L,h,_=>by cases h
 | 1,w,op,L,h,_=>by cases h
 | 2,w,op,L,h,_=>by cases h
 | 3,w,op,L,h,hw=>by
   cases h;rcases w_four hw with rfl|rfl|rfl|rfl
   · exact cq8_3_1
   · exact cq8_3_2
   · exact cq8_3_3
   · exact cq8_3_4
 | 4,w,op,L,h,_=>by cases h
 | 5,w,op,L,h,_=>by cases h
 | 6,w,op,L,h,_=>by cases h
 | 7,w,op,L,h,_=>by cases h
 | 8,w,op,L,h,_=>by cases h
 | 9,w,op,L,h,_=>by cases h
 | 10,w,op,L,h,_=>by cases h
 | j+11,w,op,L,h,_=>by cases h
theorem cqz_8:∀{j:Nat},1≤j->j≤10->argsOf 8 j=none->CkQ j 1 8 (noneC j)
 | 0,h,_,_=>absurd h (by decide)
 | 1,_,_,h=>cq8_1_n
 | 2,_,_,h=>cq8_2_n
 | 3,_,_,h=>by cases h
 | 4,_,_,h=>cq8_4_n
 | 5,_,_,h=>cq8_5_n
 | 6,_,_,h=>cq8_6_n
 | 7,_,_,h=>cq8_7_n
 | 8,_,_,h=>cq8_8_n
 | 9,_,_,h=>cq8_9_n
 | 10,_,_,h=>cq8_10_n
 | j+11,_,h,_=>absurd h (by omega)
def errsF (s:FSt) (w:Nat):List Nat->Nat->U
 | [],_=>K 0
 | x::L,r=>cond (argE s w x r==K 0) (errsF s w L (r+1)) (argE s w x r)
def poC (c:U):PO:=bif c==K 0 then .ok (K 0) (K 0) (K 0) (K 0) (K 0) none else .err c
def ckA (s:FSt) (D:DF):Option (Nat×List Nat)->PO
 | none =>.err (K 18)
 | some (_,L)=>poC (errsF s (D.w (ixU (vvf s.regs))).toNat L 2)
def ckP (n:Nat) (D:DF) (s:FSt) (no:U):PO:=bif !(inH no) then .err (K 18) else bif no==K 7 then .ok (K 0) (K 0) (K 0) (K 0) (K 0) none else
 headF n (vvf s.regs) (ckA s D (argsOf no.toNat (D.k (ixU (vvf s.regs))).toNat))
def ckEnd (laid:List Nat->Nat->FSt->FSt) (D:DF) (s:FSt) (no id:U):FSt:=bif no==K 7 then out6F s kCpu else
 match argsOf no.toNat (D.k (ixU (vvf s.regs))).toNat with
 | some (_,L)=>out6F (laid L (D.w (ixU (vvf s.regs))).toNat s) (outK no.toNat (D.k (ixU (vvf s.regs))).toNat D s id)
 | none=>s
def ckS (laid:List Nat->Nat->FSt->FSt) (n:Nat) (D:DF) (s:FSt) (no id:U):FSt:=match ckP n D s no with
 | .err _=>s
 | .ok .. => ckEnd laid D s no id
theorem ckS_t {laid:List Nat->Nat->FSt->FSt} {n:Nat} {D:DF} {s:FSt} {no id:U}:(ckS laid n D s no id).t=(ckP n D s no).pickT s.t (ckEnd laid D s no id).t:=by
 unfold ckS PO.pickT;cases ckP n D s no<;>rfl
theorem okChk_true {s:FSt} {w:Nat}:∀(L:List Nat) (r:Nat) (o:Bool),o=true->errsF s w L r=K 0->okChk s w L r o=true
 | [],r,o,ho,_=>ho
 | x::L,r,o,ho,h=>by
   unfold errsF at h;cases e:argE s w x r==K 0
   · rw [e,cond_false] at h;rw [h] at e;exact absurd e (by decide)
   · rw [e,cond_true] at h;exact okChk_true L (r+1) _ (by rw [e,ho];rfl) h
theorem badChk_pick {s:FSt} {w:Nat}:∀(L:List Nat) (r:Nat) (o:Bool),o=true->L.Nodup->errsF s w L r≠K 0->∃y,y∈L/\PkD (badChk s w y L r o) (errsF s w L r) s.t
 | [],r,o,ho,_,h=>absurd rfl h
 | x::L,r,o,ho,hn,h=>by
   unfold errsF at h ⊢;cases e:argE s w x r==K 0
   · rw [cond_false];refine ⟨x,.head _,?_⟩;unfold badChk;rw [Nat.beq_refl];refine pkd_err ?_ rfl;show (o&&(argE s w x r != K 0))=true;rw [ho,bne,e];rfl
   · rw [e,cond_true] at h;rw [cond_true];obtain ⟨n1,n2⟩:=List.nodup_cons.1 hn;obtain ⟨y,hy,hp⟩:=badChk_pick L (r+1) (o&&(argE s w x r==K 0)) (by rw [ho,e];rfl) n2 h
     refine ⟨y,.tail _ hy,?_⟩;unfold badChk;have:Nat.beq y x=false:=by rw [beq_eq_decide,decide_eq_false];rintro rfl;exact n1 hy
     rw [this];exact hp
theorem chkX_pick {s:FSt} {w:Nat} {fin:PQ} {o:Bool} {t':T} (ho:o=true) (hfin:PkD fin (K 0) t'):∀(L:List Nat) (r:Nat),PkD (chkX s w fin o L r) (poC (errsF s w L r)).code ((poC (errsF s w L r)).pickT s.t t')
 | [],r=>hfin
 | x::L,r=>by
   unfold chkX errsF;cases e:argE s w x r==K 0
   · rw [cond_false];have hne:argE s w x r≠K 0:=fun h=>by
      rw [h] at e;exact absurd e (by decide)
     have e2:poC (argE s w x r) = .err (argE s w x r):=by unfold poC;rw [e];rfl
     rw [e2];exact pkd_t (by rw [bne,e];rfl) (pkd_err ho rfl)
   · rw [cond_true];exact pkd_f (by rw [bne,e];rfl) (chkX_pick ho hfin L (r+1))
theorem slt_not_sle (x y:U):BitVec.slt x y = !(BitVec.sle y x):=by
 rw [BitVec.slt,BitVec.sle,← decide_not];exact decide_eq_decide.2 (by omega)
theorem headX_pick {regs:VV} {t t':T} {n:Nat} (hn:n≤10) {rest:PQ} {po:PO} (h:regs.k 1=K 4->inM n (regs.i 1)=true->PkD rest po.code (po.pickT t t')):PkD (headX (errD t) regs n rest) (headF n regs po).code ((headF n regs po).pickT t t'):=by
 have h63:okB (.b (n63 n))=true:=nB (by omega)
 unfold headX headF;cases h0:regs.k 1==K 0
 · refine pkd_f rfl ?_;simp only [cond_false];cases h1:regs.k 1==K 4
   · have e:(regs.k 1 != K 4)=true:=by rw [bne,h1];rfl
     rw [e];exact pkd_t rfl (pkd_err rfl rfl)
   · have e:(regs.k 1 != K 4)=false:=by rw [bne,h1];rfl
     rw [e];refine pkd_f rfl ?_;simp only [cond_false];rw [slt_not_sle (regs.i 1) (K 1),slt_not_sle (kk n) (regs.i 1)];unfold inM at h ⊢;cases h2:BitVec.sle (K 1) (regs.i 1)
     · exact pkd_t rfl (pkd_err rfl rfl)
     · refine pkd_f rfl ?_;cases h3:BitVec.sle (regs.i 1) (kk n)
       · exact pkd_t rfl (pkd_err h63 rfl)
       · exact pkd_f rfl (h (eq_of_beq h1) (by rw [h2,h3];rfl))
 · exact pkd_t rfl (pkd_err rfl rfl)
structure AllCk (a:Nat):Prop where
 g:∀{j w op:Nat} {L:List Nat},argsOf a j=some (op,L)->wOK j w=true->CkV none j w a (goodV j w a L)
 b:∀{y j w op:Nat} {L:List Nat},argsOf a j=some (op,L)->wOK j w=true->y∈L->CkV (some y) j w a (badV y j w L)
 z:∀{j:Nat},1≤j->j≤10->argsOf a j=none->CkV none j 1 a (noneC j)
 qg:∀{j w op:Nat} {L:List Nat},argsOf a j=some (op,L)->wOK j w=true->CkQ j w a (goodQ j w a L)
 qz:∀{j:Nat},1≤j->j≤10->argsOf a j=none->CkQ j 1 a (noneC j)
theorem allCk {a:Nat} (h:a=1\/a=2\/a=3\/a=4\/a=5\/a=6\/a=8):AllCk a:=by
 rcases h with rfl|rfl|rfl|rfl|rfl|rfl|rfl
 · exact ⟨cvg_1,cvb_1,cvz_1,cqg_1,cqz_1⟩
 · exact ⟨cvg_2,cvb_2,cvz_2,cqg_2,cqz_2⟩
 · exact ⟨cvg_3,cvb_3,cvz_3,cqg_3,cqz_3⟩
 · exact ⟨cvg_4,cvb_4,cvz_4,cqg_4,cqz_4⟩
 · exact ⟨cvg_5,cvb_5,cvz_5,cqg_5,cqz_5⟩
 · exact ⟨cvg_6,cvb_6,cvz_6,cqg_6,cqz_6⟩
 · exact ⟨cvg_8,cvb_8,cvz_8,cqg_8,cqz_8⟩
theorem args_one (a:Nat):(∃op L,argsOf a 1=some (op,L))\/argsOf a 1=none:=by
 cases h:argsOf a 1 with
 | none=>exact .inr rfl
 | some p=>exact .inl ⟨p.1,p.2,rfl⟩
theorem args_nodup {a j op:Nat} {L:List Nat} (h:argsOf a j=some (op,L)):L.Nodup:=by
 rcases argsOf_L h with rfl|rfl|rfl|rfl|rfl|rfl<;>decide
section
variable {n:Nat} {D:DF} {a:Nat} {no:U}
theorem exCk (hn:n≤10) (hD:OKD n D) (hA:AllCk a) (hno:no.toNat=a) (h7:(no==K 7)=false) (s:FSt) (id:U):∃(bad:Option Nat) (j w:Nat),
 PkD (ev16 bad j w a s n D id).dq (headF n (vvf s.regs) (ckA s D (argsOf a (D.k (ixU (vvf s.regs))).toNat))).code ((headF n (vvf s.regs) (ckA s D (argsOf a (D.k (ixU (vvf s.regs))).toNat))).pickT s.t (ckEnd laidF D s no id).t):=by
 by_cases hM:inM n ((vvf s.regs).i 1)=true
 · obtain ⟨m1,m2,_,m4⟩:=inM_nat hn hM;have hix:ixU (vvf s.regs)<n:=by unfold ixU;rw [m4];omega
   obtain ⟨d1,d2,d3⟩:=hD _ hix;obtain ⟨o1,o2⟩:=okI_true hn (D:=D) hM;cases hargs:argsOf a (D.k (ixU (vvf s.regs))).toNat with
   | none=>
     refine ⟨none,(D.k (ixU (vvf s.regs))).toNat,1,?_⟩;rw [(hA.z d1 d2 hargs).eq];exact headG_pick hn fun _ _=>pkd_err o1 rfl
   | some p=>
     obtain ⟨op,L⟩:=p;by_cases hz:errsF s (D.w (ixU (vvf s.regs))).toNat L 2=K 0
     · refine ⟨none,(D.k (ixU (vvf s.regs))).toNat,(D.w (ixU (vvf s.regs))).toNat,?_⟩;rw [(hA.g hargs d3).eq];refine headG_pick hn fun _ _ => ?_;have e1:ckA s D (some (op,L)) = .ok (K 0) (K 0) (K 0) (K 0) (K 0) none:=by
        show poC (errsF s (D.w (ixU (vvf s.regs))).toNat L 2)=_;unfold poC;rw [hz];rfl
       have e2:ckEnd laidF D s no id=out6F (laidF L (D.w (ixU (vvf s.regs))).toNat s) (outK a (D.k (ixU (vvf s.regs))).toNat D s id):=by unfold ckEnd;rw [h7,hno,hargs];rfl
       rw [e1,e2];exact pkd_fin (okChk_true L 2 _ o2 hz)
     · obtain ⟨y,hy,hp⟩:=badChk_pick L 2 (okI D (vvf s.regs) n (D.k (ixU (vvf s.regs))).toNat (D.w (ixU (vvf s.regs))).toNat) o2 (args_nodup hargs) hz;refine ⟨some y,(D.k (ixU (vvf s.regs))).toNat,(D.w (ixU (vvf s.regs))).toNat,?_⟩;rw [(hA.b hargs d3 hy).eq];refine headG_pick hn fun _ _ => ?_;have e1:ckA s D (some (op,L)) = .err (errsF s (D.w (ixU (vvf s.regs))).toNat L 2):=by
        show poC (errsF s (D.w (ixU (vvf s.regs))).toNat L 2)=_;unfold poC;rw [beq_eq_false_iff_ne.2 hz];rfl
       rw [e1];exact hp
 · rcases args_one a with ⟨op,L,h⟩|h
   · refine ⟨none,1,1,?_⟩;have E:=(hA.g h (show wOK 1 1=true from rfl)).eq s n D id
     rw [E];exact headG_pick hn fun _ hm=>absurd hm hM
   · refine ⟨none,1,1,?_⟩;have E:=(hA.z (j:=1) (by decide) (by decide) h).eq s n D id
     rw [E];exact headG_pick hn fun _ hm=>absurd hm hM
theorem exCq (hn:n≤10) (hD:OKD n D) (hA:AllCk a) (hno:no.toNat=a) (h7:(no==K 7)=false) (s:FSt) (id:U):∃(j w:Nat),
 PkD (ev17 j w a s n D id).dq (headF n (vvf s.regs) (ckA s D (argsOf a (D.k (ixU (vvf s.regs))).toNat))).code ((headF n (vvf s.regs) (ckA s D (argsOf a (D.k (ixU (vvf s.regs))).toNat))).pickT s.t (ckEnd laidX D s no id).t):=by
 by_cases hM:inM n ((vvf s.regs).i 1)=true
 · obtain ⟨m1,m2,_,m4⟩:=inM_nat hn hM;have hix:ixU (vvf s.regs)<n:=by unfold ixU;rw [m4];omega
   obtain ⟨d1,d2,d3⟩:=hD _ hix;obtain ⟨o1,o2⟩:=okI_true hn (D:=D) hM;cases hargs:argsOf a (D.k (ixU (vvf s.regs))).toNat with
   | none=>
     refine ⟨(D.k (ixU (vvf s.regs))).toNat,1,?_⟩;rw [(hA.qz d1 d2 hargs).eq];exact headX_pick hn fun _ _=>pkd_err o1 rfl
   | some p=>
     obtain ⟨op,L⟩:=p;refine ⟨(D.k (ixU (vvf s.regs))).toNat,(D.w (ixU (vvf s.regs))).toNat,?_⟩;rw [(hA.qg hargs d3).eq];refine headX_pick hn fun _ _ => ?_;have e2:ckEnd laidX D s no id=out6F (laidX L (D.w (ixU (vvf s.regs))).toNat s) (outK a (D.k (ixU (vvf s.regs))).toNat D s id):=by unfold ckEnd;rw [h7,hno,hargs];rfl
     rw [e2];exact chkX_pick o2 (pkd_fin o2) L 2
 · rcases args_one a with ⟨op,L,h⟩|h
   · refine ⟨1,1,?_⟩;have E:=(hA.qg h (show wOK 1 1=true from rfl)).eq s n D id
     rw [E];exact headX_pick hn fun _ hm=>absurd hm hM
   · refine ⟨1,1,?_⟩;have E:=(hA.qz (j:=1) (by decide) (by decide) h).eq s n D id
     rw [E];exact headX_pick hn fun _ hm=>absurd hm hM
end
def ev16n (s:FSt) (n:Nat) (D:DF) (no id:U):R:=evalF (cxP 1 1) (specG 62 helpS (Γ16 none)) 400 20 16 [slDP n,pt 0,i64 no,i64 id] (hM (mP s.t n D) 3)
def ev17n (s:FSt) (n:Nat) (D:DF) (no id:U):R:=evalF (cxP 1 1) Γ17 400 20 17 [slDP n,pt 0,i64 no,i64 id] (hM (mP s.t n D) 3)
theorem c_no (s:FSt) (n:Nat) (D:DF) (no id:U):(ev16n s n D no id).dq=errD s.t (.b (!(inH no))) (l64 18):=by kernel_rfl
theorem c_7 (s:FSt) (n:Nat) (D:DF) (id:U):(ev16 none 1 1 7 s n D id).dq = .leaf .tt [0] (some ([z64],some (0,(out6F s kCpu).t))):=by kernel_rfl
theorem c_7q (s:FSt) (n:Nat) (D:DF) (id:U):(ev17 1 1 7 s n D id).dq = .leaf .tt [0] (some ([z64],some (0,(out6F s kCpu).t))):=by kernel_rfl
theorem c_noq (s:FSt) (n:Nat) (D:DF) (no id:U):(ev17n s n D no id).dq.cut [false] = .node (inQ no) (errD s.t .tt (l64 18)) .fail:=by kernel_rfl
theorem inQ_not (no:U):inQ no = !(inH no):=by
 unfold inQ inH;rw [slt_not_sle,slt_not_sle];cases BitVec.sle (K 1) no<;>cases BitVec.sle no (K 8)<;>rfl
theorem ckP_no {n:Nat} {D:DF} {s:FSt} {no:U} (h:inH no=false):ckP n D s no = .err (K 18):=by unfold ckP;rw [h];rfl
theorem ckP_7 {n:Nat} {D:DF} {s:FSt}:ckP n D s (K 7) = .ok (K 0) (K 0) (K 0) (K 0) (K 0) none:=rfl
theorem ckP_in {n:Nat} {D:DF} {s:FSt} {no:U} (h:inH no=true) (h7:(no==K 7)=false):ckP n D s no=headF n (vvf s.regs) (ckA s D (argsOf no.toNat (D.k (ixU (vvf s.regs))).toNat)):=by unfold ckP;rw [h,h7];rfl
section
variable {w:World} {r b off n c:Nat} {D:DF} {no id:U} {s:FSt}
theorem pickT_mp {po:PO} {s s':FSt}:notMp (po.pickT s.t s'.t)=true/\(po.pickT s.t s'.t).free=true:=by
 unfold PO.pickT;cases po<;>exact ⟨rfl,rfl⟩
theorem check16 (hn:n≤10) (hD:OKD n D) (hc:n≤c) (hne:r≠b) (h0:Holds w r s.t) (h1:HoldsAt w b off (D.arr n)) :
 Calls Tryz.prog 16 #[.slice (some ⟨b,off,none⟩) n c,.pointer (some ⟨r,0,none⟩),.int .i64 (vof .i64 no),.int .i64 (vof .i64 id)] w (DoneP w r (ckP n D s no).code (ckS laidF n D s no id).t):=by
 rw [ckS_t];cases hin:inH no
 · rw [ckP_no hin];exact done_of (R0:=ev16n s n D no id) (by rw [c_no];exact pkd_err (by show (!(inH no))=true;rw [hin];rfl) rfl) (fun ok v h' hp hok=>(evalF_fn (XP 1 1 (help_ok (Γ16_ok none))) rfl hp hok).2) rfl rfl (mem_p3 hne h0 h1) rfl (us:=[_,_,_,_]) (relArgs hc (by simp only [A.rel]))
 · cases h7:no==K 7
   · obtain ⟨a,ha,hK,hcs⟩:=in_cases hin h7;rw [ckP_in hin h7,ha];obtain ⟨bad,j,w',hpk⟩:=exCk hn hD (allCk hcs) ha h7 s id;exact done_of hpk (fun ok v h' hp hok=>(evalF_fn (XP j w' (Γ16_ok bad)) rfl hp hok).2) pickT_mp.1 pickT_mp.2 (mem_p3 hne h0 h1) rfl (us:=[_,_,_,_]) (relArgs hc (lit_no hK (by omega)))
   · obtain rfl:=eq_of_beq h7;rw [ckP_7];exact done_of (R0:=ev16 none 1 1 7 s n D id) (code:=K 0) (by rw [c_7];exact ⟨.tt,[0],z64,rfl,rfl,rfl,.inl rfl⟩) (fun ok v h' hp hok=>(evalF_fn (XP 1 1 (Γ16_ok none)) rfl hp hok).2) rfl rfl (mem_p3 hne h0 h1) rfl (us:=[_,_,_,_]) (relArgs hc (lit_no (a:=7) rfl (by decide)))
theorem check17 (hn:n≤10) (hD:OKD n D) (hc:n≤c) (hne:r≠b) (h0:Holds w r s.t) (h1:HoldsAt w b off (D.arr n)) :
 Calls Tryz.prog 17 #[.slice (some ⟨b,off,none⟩) n c,.pointer (some ⟨r,0,none⟩),.int .i64 (vof .i64 no),.int .i64 (vof .i64 id)] w (DoneP w r (ckP n D s no).code (ckS laidX n D s no id).t):=by
 rw [ckS_t];cases hin:inH no
 · rw [ckP_no hin];refine done_of (R0:=ev17n s n D no id) (code:=K 18) (t':=s.t) ?_ (fun ok v h' hp hok=>(evalF_fn (XP 1 1 Γ17_ok) rfl hp hok).2) rfl rfl (mem_p3 hne h0 h1) rfl (us:=[_,_,_,_]) (relArgs hc (by simp only [A.rel]))
   obtain ⟨ok,wr,cc,q1,q2⟩:PkD ((ev17n s n D no id).dq.cut [false]) (K 18) s.t:=by rw [c_noq];exact pkd_t (by rw [inQ_not,hin];rfl) (pkd_err rfl rfl)
   exact ⟨ok,wr,cc,cut_pick _ _ q1,q2⟩
 · cases h7:no==K 7
   · obtain ⟨a,ha,hK,hcs⟩:=in_cases hin h7;rw [ckP_in hin h7,ha];obtain ⟨j,w',hpk⟩:=exCq hn hD (allCk hcs) ha h7 s id;exact done_of hpk (fun ok v h' hp hok=>(evalF_fn (XP j w' Γ17_ok) rfl hp hok).2) pickT_mp.1 pickT_mp.2 (mem_p3 hne h0 h1) rfl (us:=[_,_,_,_]) (relArgs hc (lit_no hK (by omega)))
   · obtain rfl:=eq_of_beq h7;rw [ckP_7];exact done_of (R0:=ev17 1 1 7 s n D id) (code:=K 0) (by rw [c_7q];exact ⟨.tt,[0],z64,rfl,rfl,rfl,.inl rfl⟩) (fun ok v h' hp hok=>(evalF_fn (XP 1 1 Γ17_ok) rfl hp hok).2) rfl rfl (mem_p3 hne h0 h1) rfl (us:=[_,_,_,_]) (relArgs hc (lit_no (a:=7) rfl (by decide)))
end
def ckSp (laid:List Nat->Nat->FSt->FSt):List V->H->Option R
 | [.t (.a la),.t (.a (.ptr id [])),.t (.a an),.t (.a ai)],h=>match dfOf h la,stateOf h id,i64Of an,i64Of ai with
   | some (idl,n,D,o),some s,some no,some i=>match Nat.beq id idl with
     | false=>some (.leaf (.b (okPl n D o)) (i64 (ckP n D s no).code) ((h.sees [id,idl]).put id ⟨true,(ckS laid n D s no i).t⟩))
     | true=>none
   | _,_,_,_=>none
 | _,_=>none
theorem ckSp_inv {laid:List Nat->Nat->FSt->FSt} {args:List V} {h:H} {q:R} (e:ckSp laid args h=some q):∃la id an ai idl n D o s no i,args=[.t (.a la),.t (.a (.ptr id [])),.t (.a an),.t (.a ai)]/\dfOf h la=some (idl,n,D,o)/\stateOf h id=some s/\i64Of an=some no/\i64Of ai=some i/\id≠idl/\q = .leaf (.b (okPl n D o)) (i64 (ckP n D s no).code) ((h.sees [id,idl]).put id ⟨true,(ckS laid n D s no i).t⟩):=by
 unfold ckSp at e;split at e
 · split at e
   · rename_i h1 h2 h3 h4;split at e
     · rename_i hb;cases e;exact ⟨_,_,_,_,_,_,_,_,_,_,_,rfl,h1,h2,h3,h4,(fun e=>by rw [e,Nat.beq_refl] at hb;cases hb),rfl⟩
     · cases e
   · cases e
 · cases e
theorem ck_fn {laid:List Nat->Nat->FSt->FSt} {f:Nat} (hent:Enters Tryz.prog f)
 (hc:∀{w:World} {r b off n c:Nat} {D:DF} {no id:U} {s:FSt},n≤10->OKD n D->n≤c->r≠b->Holds w r s.t->HoldsAt w b off (D.arr n)->Calls Tryz.prog f #[.slice (some ⟨b,off,none⟩) n c,.pointer (some ⟨r,0,none⟩),.int .i64 (vof .i64 no),.int .i64 (vof .i64 id)] w (DoneP w r (ckP n D s no).code (ckS laid n D s no id).t)):AnyOK Tryz.prog f (ckSp laid) where
 ent:=hent
 ok:=by
  intro args h q ok v h' he hp hok;obtain ⟨la,id,an,ai,idl,n,D,o,s,no,i,rfl,hd,hs,hno,hi,hne,rfl⟩:=ckSp_inv he;simp only [R.pick,oI,pI] at hp;obtain ⟨rfl,rfl,rfl⟩:=hp;have ho:okPl n D o=true:=hok;unfold okPl at ho;simp only [bA] at ho;obtain ⟨⟨p1,p2⟩,p3,p4⟩:=ho;have p1:=nL p1;have p2:=nL p2;have p4:=of_dec p4;refine fn_turnG (stateOf_some hs) [id,idl] fun S ν w us hm hS hus => ?_
  match us,hus with
  | [u0,u1,u2,u3],⟨r0,r1,r2,r3,_⟩=>
    obtain ⟨B,off,c,hH,rfl,hcc,hνl⟩:=df_here hm hd p3 (hS idl (.tail _ (.head _))) (by omega) r0
    obtain ⟨rr,e1,hh,rfl⟩:=ptr_here hm (stateOf_some hs) (hS id (.head _)) rfl rfl r1;obtain rfl:=i64Of_rel hno r2;obtain rfl:=i64Of_rel hi r3;have hrB:rr≠B:=by rintro rfl;exact hne (hm.nums.inj id _ (stateOf_some hs) rfl idl rr 0 off e1 hνl).symm
    refine ⟨rr,e1,(hc p2 p4 hcc hrB hh hH).mono ?_⟩;rintro e w' ⟨rfl,hb,hh'⟩;refine ⟨_,rfl,?_,hb,hh'⟩;show (A.i .i64 _).rel ν _;simp only [A.rel]
 pan:=by intro args h q ok v h' he hp hok;obtain ⟨la,id,an,ai,idl,n,D,o,s,no,i,rfl,hd,hs,hno,hi,hne,rfl⟩:=ckSp_inv he;simp [R.pickP] at hp
 ext:=by intro args h q he hlo;obtain ⟨la,id,an,ai,idl,n,D,o,s,no,i,rfl,hd,hs,hno,hi,hne,rfl⟩:=ckSp_inv he;exact (sees_ext _ h).trans (put_ext (h:=h.sees _) (by rw [sees_m];exact stateOf_some hs) rfl rfl)
theorem ck16_ok:AnyOK Tryz.prog 16 (ckSp laidF):=ck_fn (enters_of entK 16 _ Tryz.func16 (by simp [Tryz.f16])) check16
theorem ck17_ok:AnyOK Tryz.prog 17 (ckSp laidX):=ck_fn (enters_of entK 17 _ Tryz.func17 (by simp [Tryz.f17])) check17
theorem ckS_same {n:Nat} {D:DF} {s:FSt} (h:InvS s) (no id:U):ckS laidX n D s no id=ckS laidF n D s no id:=by
 have e:∀L w,laidX L w s=laidF L w s:=fun L w=>by
  unfold laidX laidF;split
  · exact lay22R_eq h _ _
  · rfl
 unfold ckS ckEnd;simp only [e]
def Γ6:Gam:=newΓ 25 (newS1 newVF.t) (Γ14 true 1000)
theorem Γ6_ok:ΓOK Tryz.prog Γ6:=new25_ok (Γ14_ok true 1000)
def ev6:R:=evalF cxD Γ6 400 20 6 [] (hM [] 0)
def truthA:A->Option Bool
 | .tt=>some true
 | .ff=>some false
 | .b x=>some x
 | _=>none
theorem truthA_rel {x:A} {b:Bool} (h:truthA x=some b) {ν:Nu} {u:Value} (hr:x.rel ν u):u = .bool b:=by
 unfold truthA at h;split at h
 · cases h;simpa only [A.rel] using hr
 · cases h;simpa only [A.rel] using hr
 · cases h;simpa only [A.rel] using hr
 · cases h
def obsB (r:R):Option (Bool×Option Bool×List Nat):=match r.pick with
 | some (ok,.t (.a x),h)=>some (okB ok,truthA x,h.wr)
 | _=>none
theorem obsB_some {r:R} {b:Bool} {y:Option Bool} {wr:List Nat} (h:obsB r=some (b,y,wr)):∃ok x h',r.pick=some (ok,one x,h')/\okB ok=b/\truthA x=y/\h'.wr=wr:=by
 unfold obsB at h;split at h
 · rename_i ok x h' hp;simp only [oI,pI] at h;obtain ⟨rfl,rfl,rfl⟩:=h;exact ⟨ok,x,h',hp,rfl,rfl,rfl⟩
 · cases h
theorem ev6_true:obsB ev6=some (true,some true,[]):=by kernel_rfl
theorem known6 (w:World):Calls Tryz.prog 6 #[] w fun e w'=>e = .returned (.bool true)/\Below w.heap.size w w':=by
 obtain ⟨ok,x,h',hp,ho,hx,hw⟩:=obsB_some ev6_true;obtain ⟨_,hfn⟩:=evalF_fn (XD Γ6_ok) rfl hp ho;have hm:=mem_z0 w;refine (hfn (fun _=>True) nuE w [] (fun _ _=>trivial) (fun _ _=>trivial) hm trivial).mono ?_;rintro e w' ⟨u,ν',rfl,hu,g⟩;have hu:x.rel ν' u:=hu;refine ⟨by rw [truthA_rel hx hu],g.frm.os,g.frm.tape,g.frm.output,g.frm.size,fun r hr=>g.frm.block r hr fun id base hid=>by cases hid⟩
def knownSp:List V->H->Option R
 | [],h=>some (.leaf .tt (one .tt) (h.sees []))
 | _,_=>none
theorem known6_ok:AnyOK Tryz.prog 6 knownSp where
 ent:=enters_of entK 6 _ Tryz.func6 (by simp [Tryz.f6])
 ok:=by
  intro args h r ok v h' he hp hok;unfold knownSp at he;split at he
  · cases he;simp only [R.pick,oI,pI] at hp;obtain ⟨rfl,rfl,rfl⟩:=hp;refine fn_calm [] fun S ν w us hm hS hus => ?_
    match us,hus with
    | [],_=>
      refine (known6 w).mono ?_;rintro e w' ⟨rfl,hb⟩;refine ⟨_,rfl,?_,hb⟩;show A.tt.rel ν _;simp only [A.rel]
  · cases he
 pan:=by
  intro args h r ok v h' he hp hok;unfold knownSp at he;split at he
  · cases he;simp [R.pickP] at hp
  · cases he
 ext:=by
  intro args h r he hlo;unfold knownSp at he;split at he
  · cases he;exact sees_ext _ h
  · cases he
def kDecl (k:U):Bool:=cond (BitVec.slt k (K 1)) true (BitVec.sle (K 11) k)
def okKd (k:U):Bool:=cond (kDecl k) true (((!(BitVec.msb k))&&Nat.blt k.toNat 11)&&Nat.blt k.toNat 11)
def kW (k:U):U:=cond (kDecl k) (K 0) (cond (Nat.beq k.toNat 0) (K 0) (cond (Nat.beq k.toNat 1) (K 1) (cond (Nat.beq k.toNat 2) (K 1) (cond (Nat.beq k.toNat 3) (K 4) (cond (Nat.beq k.toNat 4) (K 1) (cond (Nat.beq k.toNat 5) (K 1) (cond (Nat.beq k.toNat 6) (K 4) (cond (Nat.beq k.toNat 7) (K 4) (K 1)))))))))
def kB (k:U):Bool:=cond (kDecl k) false (cond (Nat.beq k.toNat 0) false (cond (Nat.beq k.toNat 1) false (cond (Nat.beq k.toNat 2) false (cond (Nat.beq k.toNat 3) false (cond (Nat.beq k.toNat 4) true (cond (Nat.beq k.toNat 5) false (cond (Nat.beq k.toNat 6) false (cond (Nat.beq k.toNat 7) false (cond (Nat.beq k.toNat 8) true (cond (Nat.beq k.toNat 9) false true))))))))))
def kN (k:U):Bool:=cond (kDecl k) false (cond (Nat.beq k.toNat 0) false (cond (Nat.beq k.toNat 1) false (cond (Nat.beq k.toNat 2) false (cond (Nat.beq k.toNat 3) false (cond (Nat.beq k.toNat 4) false (cond (Nat.beq k.toNat 5) false (cond (Nat.beq k.toNat 6) false (cond (Nat.beq k.toNat 7) false (cond (Nat.beq k.toNat 8) false true)))))))))
def inE (e:U):Bool:=cond (BitVec.sle (K 1) e) (BitVec.sle e (K 64)) false
def inW (k w:U):Bool:=cond (BitVec.sle (K 1) w) (BitVec.sle w (kW k)) false
def inB32 (b:U):Bool:=cond (BitVec.sle (K 1) b) (BitVec.sle b (K 32)) false
def popU (b:U):U:=
 let t55:U:=b>>>(BitVec.toNat (K 1))
 let t56:U:=t55&&&(K 6148914691236517205)
 let t57:U:=b&&&(K 6148914691236517205)
 let t58:U:=(t56+t57)>>>(BitVec.toNat (K 2))
 let t59:U:=t58&&&(K 3689348814741910323)
 let t60:U:=(t56+t57)&&&(K 3689348814741910323)
 let t61:U:=(t59+t60)>>>(BitVec.toNat (K 4))
 let t62:U:=t61+(t59+t60)
 let t63:U:=t62&&&(K 1085102592571150095)
 let t64:U:=t63>>>(BitVec.toNat (K 8))
 let t65:U:=(t63+t64)>>>(BitVec.toNat (K 16))
 let t66:U:=(t63+t64)+t65
 let t67:U:=t66>>>(BitVec.toNat (K 32))
 (t66+t67)&&&(K 127)
def chA (k e w:U):Bool:=cond (!(cond (kDecl k) false true)) true (cond (!(inE e)) true (!(inW k w)))
def okA (k e:U):Bool:=cond (!(cond (kDecl k) false true)) (okKd k) (cond (!(inE e)) (okKd k) (okKd k))
def chB0 (k b:U):Bool:=cond (!(kB k)) (b != K 0) false
def chB (k b:U):Bool:=cond (kB k) (cond (!(inB32 b)) true (cond (popU b != K 1) true (chB0 k b))) (chB0 k b)
def okBb (k e b:U):Bool:=cond (kB k) (cond (!(inB32 b)) (okA k e) (okA k e)) (okA k e)
def chC0 (k i:U):Bool:=cond (!(kN k)) (i != K 0) false
def chC (n:Nat) (k i:U):Bool:=cond (kN k) (cond (!(inM n i)) true (chC0 k i)) (chC0 k i)
def okDc (n:Nat) (k e b:U):Bool:=cond (kN k) (okBb k e b&&Nat.blt n (2 ^ 63)) (okBb k e b)
def ixD (i:U):Nat:=0+(i-K 1).toNat
def chD (D:DF) (k i:U):Bool:=cond (kN k) ((!(kN (D.k (ixD i))))&&true) true
def okX (n:Nat) (D:DF) (k e b i:U):Bool:=((okDc n k e b&&((!(BitVec.msb (i-K 1)))&&Nat.blt (i-K 1).toNat n))&&Nat.blt (ixD i) n)&&okKd (D.k (ixD i))
def chk1 (n:Nat) (D:DF) (k e w b i:U):U:=cond (chA k e w) (K 1) (cond (chB k b) (K 1) (cond (chC n k i) (K 1) (cond (chD D k i) (K 0) (K 14))))
def ok1 (n:Nat) (D:DF) (k e w b i:U):Bool:=cond (chA k e w) (okA k e) (cond (chB k b) (okBb k e b) (cond (chC n k i) (okDc n k e b) (cond (chD D k i) (cond (kN k) (okX n D k e b i) (okDc n k e b)) (okX n D k e b i))))
theorem chk_ev (n:Nat) (D:DF) (k e w b i:U):(evalF cxK noΓ 400 20 74 [slD n,dT (.i .i64 k) (.i .i64 e) (.i .i64 w) (.i .i64 b) (.i .i64 i)] (hM [(0,⟨false,D.arr n⟩)] 1)).res=some (.b (ok1 n D k e w b i),one (.i .i64 (chk1 n D k e w b i))):=by kernel_rfl
end Go.WE
end
