/- A part of a proof of the helpers' law; no condition of its own. -/
import Derived.Test.YtoeealkcacgcgaaGreatDoorS16
import Derived.Test.YtoeealkcacgcgaaGreatDoorS18
import Derived.Test.YtoeealkcacgcgaaGreatDoorS19
import Derived.Test.YtoeealkcacgcgaaGreatDoorS20
import Derived.Test.YtoeealkcacgcgaaGreatDoorS21
import Derived.Test.YtoeealkcacgcgaaGreatDoorS22
import Derived.Test.YtoeealkcacgcgaaGreatDoorS23
set_option linter.unusedVariables false
set_option maxRecDepth 100000
noncomputable section
namespace Go.WE
open Go Go.Proofs Go.RowKit
theorem evV_1 {S:Sel}:∀{j w op:Nat} {L:List Nat},argsOf 1 j=some (op,L)->wOK j w=true->selV L S=true->∃T,EvV S.b T j w 1 (restV S j w op L)
 | 0,w,op,L,h,_,_=>by cases h
 | 1,w,op,L,h,hw,hs=>by
   cases h;obtain rfl:=w_one hw;cases S with
    | all=>exact ⟨_,v1_1_1_all⟩
    | e0=>exact ⟨_,v1_1_1_e0⟩
    | e1=>cases hs
    | nr=>cases hs
 | 2,w,op,L,h,hw,hs=>by
   cases h;obtain rfl:=w_one hw;cases S with
    | all=>exact ⟨_,v1_2_1_all⟩
    | e0=>exact ⟨_,v1_2_1_e0⟩
    | e1=>cases hs
    | nr=>cases hs
 | 3,w,op,L,h,_,_=>by cases h
 | 4,w,op,L,h,hw,hs=>by
   cases h;obtain rfl:=w_one hw;cases S with
    | all=>exact ⟨_,v1_4_1_all⟩
    | e0=>exact ⟨_,v1_4_1_e0⟩
    | e1=>cases hs
    | nr=>cases hs
 | 5,w,op,L,h,hw,hs=>by
   cases h;obtain rfl:=w_one hw;cases S with
    | all=>exact ⟨_,v1_5_1_all⟩
    | e0=>exact ⟨_,v1_5_1_e0⟩
    | e1=>cases hs
    | nr=>cases hs
 | 6,w,op,L,h,_,_=>by cases h
 | 7,w,op,L,h,_,_=>by cases h
 | 8,w,op,L,h,_,_=>by cases h
 | 9,w,op,L,h,hw,hs=>by
   cases h;obtain rfl:=w_one hw;cases S with
    | all=>exact ⟨_,v1_9_1_all⟩
    | e0=>exact ⟨_,v1_9_1_e0⟩
    | e1=>cases hs
    | nr=>cases hs
 | 10,w,op,L,h,hw,hs=>by
   cases h;obtain rfl:=w_one hw;cases S with
    | all=>exact ⟨_,v1_10_1_all⟩
    | e0=>exact ⟨_,v1_10_1_e0⟩
    | e1=>cases hs
    | nr=>cases hs
 | j+11,w,op,L,h,_,_=>by cases h
theorem evVn_1:∀{j:Nat},1≤j->j≤10->argsOf 1 j=none->EvV true 1000 j 1 1 (noneV j)
 | 0,h,_,_=>absurd h (by decide)
 | 1,_,_,h=>by cases h
 | 2,_,_,h=>by cases h
 | 3,_,_,h=>v1_3_n
 | 4,_,_,h=>by cases h
 | 5,_,_,h=>by cases h
 | 6,_,_,h=>v1_6_n
 | 7,_,_,h=>v1_7_n
 | 8,_,_,h=>v1_8_n
 | 9,_,_,h=>by cases h
 | 10,_,_,h=>by cases h
 | j+11,_,h,_=>absurd h (by omega)
theorem evV_2 {S:Sel}:∀{j w op:Nat} {L:List Nat},argsOf 2 j=some (op,L)->wOK j w=true->selV L S=true->∃T,EvV S.b T j w 2 (restV S j w op L)
 | 0,w,op,L,h,_,_=>by cases h
 | 1,w,op,L,h,hw,hs=>by
   cases h;obtain rfl:=w_one hw;cases S with
    | all=>exact ⟨_,v2_1_1_all⟩
    | e0=>exact ⟨_,v2_1_1_e0⟩
    | e1=>exact ⟨_,v2_1_1_e1⟩
    | nr=>cases hs
 | 2,w,op,L,h,hw,hs=>by
   cases h;obtain rfl:=w_one hw;cases S with
    | all=>exact ⟨_,v2_2_1_all⟩
    | e0=>exact ⟨_,v2_2_1_e0⟩
    | e1=>exact ⟨_,v2_2_1_e1⟩
    | nr=>cases hs
 | 3,w,op,L,h,hw,hs=>by
   cases h;rcases w_four hw with rfl|rfl|rfl|rfl
   · cases S with
      | all=>exact ⟨_,v2_3_1_all⟩
      | e0=>exact ⟨_,v2_3_1_e0⟩
      | e1=>exact ⟨_,v2_3_1_e1⟩
      | nr=>cases hs
   · cases S with
      | all=>exact ⟨_,v2_3_2_all⟩
      | e0=>exact ⟨_,v2_3_2_e0⟩
      | e1=>exact ⟨_,v2_3_2_e1⟩
      | nr=>cases hs
   · cases S with
      | all=>exact ⟨_,v2_3_3_all⟩
      | e0=>exact ⟨_,v2_3_3_e0⟩
      | e1=>exact ⟨_,v2_3_3_e1⟩
      | nr=>cases hs
   · cases S with
      | all=>exact ⟨_,v2_3_4_all⟩
      | e0=>exact ⟨_,v2_3_4_e0⟩
      | e1=>exact ⟨_,v2_3_4_e1⟩
      | nr=>cases hs
 | 4,w,op,L,h,hw,hs=>by
   cases h;obtain rfl:=w_one hw;cases S with
    | all=>exact ⟨_,v2_4_1_all⟩
    | e0=>exact ⟨_,v2_4_1_e0⟩
    | e1=>exact ⟨_,v2_4_1_e1⟩
    | nr=>cases hs
 | 5,w,op,L,h,hw,hs=>by
   cases h;obtain rfl:=w_one hw;cases S with
    | all=>exact ⟨_,v2_5_1_all⟩
    | e0=>exact ⟨_,v2_5_1_e0⟩
    | e1=>exact ⟨_,v2_5_1_e1⟩
    | nr=>cases hs
 | 6,w,op,L,h,_,_=>by cases h
 | 7,w,op,L,h,_,_=>by cases h
 | 8,w,op,L,h,_,_=>by cases h
 | 9,w,op,L,h,_,_=>by cases h
 | 10,w,op,L,h,_,_=>by cases h
 | j+11,w,op,L,h,_,_=>by cases h
theorem evVn_2:∀{j:Nat},1≤j->j≤10->argsOf 2 j=none->EvV true 1000 j 1 2 (noneV j)
 | 0,h,_,_=>absurd h (by decide)
 | 1,_,_,h=>by cases h
 | 2,_,_,h=>by cases h
 | 3,_,_,h=>by cases h
 | 4,_,_,h=>by cases h
 | 5,_,_,h=>by cases h
 | 6,_,_,h=>v2_6_n
 | 7,_,_,h=>v2_7_n
 | 8,_,_,h=>v2_8_n
 | 9,_,_,h=>v2_9_n
 | 10,_,_,h=>v2_10_n
 | j+11,_,h,_=>absurd h (by omega)
theorem evV_3 {S:Sel}:∀{j w op:Nat} {L:List Nat},argsOf 3 j=some (op,L)->wOK j w=true->selV L S=true->∃T,EvV S.b T j w 3 (restV S j w op L)
 | 0,w,op,L,h,_,_=>by cases h
 | 1,w,op,L,h,_,_=>by cases h
 | 2,w,op,L,h,_,_=>by cases h
 | 3,w,op,L,h,_,_=>by cases h
 | 4,w,op,L,h,hw,hs=>by
   cases h;obtain rfl:=w_one hw;cases S with
    | all=>exact ⟨_,v3_4_1_all⟩
    | e0=>exact ⟨_,v3_4_1_e0⟩
    | e1=>cases hs
    | nr=>cases hs
 | 5,w,op,L,h,hw,hs=>by
   cases h;obtain rfl:=w_one hw;cases S with
    | all=>exact ⟨_,v3_5_1_all⟩
    | e0=>exact ⟨_,v3_5_1_e0⟩
    | e1=>cases hs
    | nr=>cases hs
 | 6,w,op,L,h,_,_=>by cases h
 | 7,w,op,L,h,_,_=>by cases h
 | 8,w,op,L,h,_,_=>by cases h
 | 9,w,op,L,h,_,_=>by cases h
 | 10,w,op,L,h,_,_=>by cases h
 | j+11,w,op,L,h,_,_=>by cases h
theorem evVn_3:∀{j:Nat},1≤j->j≤10->argsOf 3 j=none->EvV true 1000 j 1 3 (noneV j)
 | 0,h,_,_=>absurd h (by decide)
 | 1,_,_,h=>v3_1_n
 | 2,_,_,h=>v3_2_n
 | 3,_,_,h=>v3_3_n
 | 4,_,_,h=>by cases h
 | 5,_,_,h=>by cases h
 | 6,_,_,h=>v3_6_n
 | 7,_,_,h=>v3_7_n
 | 8,_,_,h=>v3_8_n
 | 9,_,_,h=>v3_9_n
 | 10,_,_,h=>v3_10_n
 | j+11,_,h,_=>absurd h (by omega)
theorem evV_4 {S:Sel}:∀{j w op:Nat} {L:List Nat},argsOf 4 j=some (op,L)->wOK j w=true->selV L S=true->∃T,EvV S.b T j w 4 (restV S j w op L)
 | 0,w,op,L,h,_,_=>by cases h
 | 1,w,op,L,h,_,_=>by cases h
 | 2,w,op,L,h,_,_=>by cases h
 | 3,w,op,L,h,_,_=>by cases h
 | 4,w,op,L,h,_,_=>by cases h
 | 5,w,op,L,h,_,_=>by cases h
 | 6,w,op,L,h,hw,hs=>by
   cases h;rcases w_four hw with rfl|rfl|rfl|rfl
   · cases S with
      | all=>exact ⟨_,v4_6_1_all⟩
      | e0=>exact ⟨_,v4_6_1_e0⟩
      | e1=>cases hs
      | nr=>cases hs
   · cases S with
      | all=>exact ⟨_,v4_6_2_all⟩
      | e0=>exact ⟨_,v4_6_2_e0⟩
      | e1=>cases hs
      | nr=>cases hs
   · cases S with
      | all=>exact ⟨_,v4_6_3_all⟩
      | e0=>exact ⟨_,v4_6_3_e0⟩
      | e1=>cases hs
      | nr=>cases hs
   · cases S with
      | all=>exact ⟨_,v4_6_4_all⟩
      | e0=>exact ⟨_,v4_6_4_e0⟩
      | e1=>cases hs
      | nr=>cases hs
 | 7,w,op,L,h,hw,hs=>by
   cases h;rcases w_four hw with rfl|rfl|rfl|rfl
   · cases S with
      | all=>exact ⟨_,v4_7_1_all⟩
      | e0=>exact ⟨_,v4_7_1_e0⟩
      | e1=>cases hs
      | nr=>cases hs
   · cases S with
      | all=>exact ⟨_,v4_7_2_all⟩
      | e0=>exact ⟨_,v4_7_2_e0⟩
      | e1=>cases hs
      | nr=>cases hs
   · cases S with
      | all=>exact ⟨_,v4_7_3_all⟩
      | e0=>exact ⟨_,v4_7_3_e0⟩
      | e1=>cases hs
      | nr=>cases hs
   · cases S with
      | all=>exact ⟨_,v4_7_4_all⟩
      | e0=>exact ⟨_,v4_7_4_e0⟩
      | e1=>cases hs
      | nr=>cases hs
 | 8,w,op,L,h,hw,hs=>by
   cases h;obtain rfl:=w_one hw;cases S with
    | all=>exact ⟨_,v4_8_1_all⟩
    | e0=>exact ⟨_,v4_8_1_e0⟩
    | e1=>cases hs
    | nr=>cases hs
 | 9,w,op,L,h,_,_=>by cases h
 | 10,w,op,L,h,_,_=>by cases h
 | j+11,w,op,L,h,_,_=>by cases h
theorem evVn_4:∀{j:Nat},1≤j->j≤10->argsOf 4 j=none->EvV true 1000 j 1 4 (noneV j)
 | 0,h,_,_=>absurd h (by decide)
 | 1,_,_,h=>v4_1_n
 | 2,_,_,h=>v4_2_n
 | 3,_,_,h=>v4_3_n
 | 4,_,_,h=>v4_4_n
 | 5,_,_,h=>v4_5_n
 | 6,_,_,h=>by cases h
 | 7,_,_,h=>by cases h
 | 8,_,_,h=>by cases h
 | 9,_,_,h=>v4_9_n
 | 10,_,_,h=>v4_10_n
 | j+11,_,h,_=>absurd h (by omega)
theorem evV_5 {S:Sel}:∀{j w op:Nat} {L:List Nat},argsOf 5 j=some (op,L)->wOK j w=true->selV L S=true->∃T,EvV S.b T j w 5 (restV S j w op L)
 | 0,w,op,L,h,_,_=>by cases h
 | 1,w,op,L,h,_,_=>by cases h
 | 2,w,op,L,h,_,_=>by cases h
 | 3,w,op,L,h,_,_=>by cases h
 | 4,w,op,L,h,_,_=>by cases h
 | 5,w,op,L,h,_,_=>by cases h
 | 6,w,op,L,h,hw,hs=>by
   cases h;rcases w_four hw with rfl|rfl|rfl|rfl
   · cases S with
      | all=>exact ⟨_,v5_6_1_all⟩
      | e0=>cases hs
      | e1=>cases hs
      | nr=>exact ⟨_,v5_6_1_nr⟩
   · cases S with
      | all=>exact ⟨_,v5_6_2_all⟩
      | e0=>cases hs
      | e1=>cases hs
      | nr=>exact ⟨_,v5_6_2_nr⟩
   · cases S with
      | all=>exact ⟨_,v5_6_3_all⟩
      | e0=>cases hs
      | e1=>cases hs
      | nr=>exact ⟨_,v5_6_3_nr⟩
   · cases S with
      | all=>exact ⟨_,v5_6_4_all⟩
      | e0=>cases hs
      | e1=>cases hs
      | nr=>exact ⟨_,v5_6_4_nr⟩
 | 7,w,op,L,h,hw,hs=>by
   cases h;rcases w_four hw with rfl|rfl|rfl|rfl
   · cases S with
      | all=>exact ⟨_,v5_7_1_all⟩
      | e0=>cases hs
      | e1=>cases hs
      | nr=>exact ⟨_,v5_7_1_nr⟩
   · cases S with
      | all=>exact ⟨_,v5_7_2_all⟩
      | e0=>cases hs
      | e1=>cases hs
      | nr=>exact ⟨_,v5_7_2_nr⟩
   · cases S with
      | all=>exact ⟨_,v5_7_3_all⟩
      | e0=>cases hs
      | e1=>cases hs
      | nr=>exact ⟨_,v5_7_3_nr⟩
   · cases S with
      | all=>exact ⟨_,v5_7_4_all⟩
      | e0=>cases hs
      | e1=>cases hs
      | nr=>exact ⟨_,v5_7_4_nr⟩
 | 8,w,op,L,h,_,_=>by cases h
 | 9,w,op,L,h,_,_=>by cases h
 | 10,w,op,L,h,_,_=>by cases h
 | j+11,w,op,L,h,_,_=>by cases h
theorem evVn_5:∀{j:Nat},1≤j->j≤10->argsOf 5 j=none->EvV true 1000 j 1 5 (noneV j)
 | 0,h,_,_=>absurd h (by decide)
 | 1,_,_,h=>v5_1_n
 | 2,_,_,h=>v5_2_n
 | 3,_,_,h=>v5_3_n
 | 4,_,_,h=>v5_4_n
 | 5,_,_,h=>v5_5_n
 | 6,_,_,h=>by cases h
 | 7,_,_,h=>by cases h
 | 8,_,_,h=>v5_8_n
 | 9,_,_,h=>v5_9_n
 | 10,_,_,h=>v5_10_n
 | j+11,_,h,_=>absurd h (by omega)
theorem evV_6 {S:Sel}:∀{j w op:Nat} {L:List Nat},argsOf 6 j=some (op,L)->wOK j w=true->selV L S=true->∃T,EvV S.b T j w 6 (restV S j w op L)
 | 0,w,op,L,h,_,_=>by cases h
 | 1,w,op,L,h,_,_=>by cases h
 | 2,w,op,L,h,_,_=>by cases h
 | 3,w,op,L,h,_,_=>by cases h
 | 4,w,op,L,h,_,_=>by cases h
 | 5,w,op,L,h,_,_=>by cases h
 | 6,w,op,L,h,hw,hs=>by
   cases h;rcases w_four hw with rfl|rfl|rfl|rfl
   · cases S with
      | all=>exact ⟨_,v6_6_1_all⟩
      | e0=>cases hs
      | e1=>cases hs
      | nr=>exact ⟨_,v6_6_1_nr⟩
   · cases S with
      | all=>exact ⟨_,v6_6_2_all⟩
      | e0=>cases hs
      | e1=>cases hs
      | nr=>exact ⟨_,v6_6_2_nr⟩
   · cases S with
      | all=>exact ⟨_,v6_6_3_all⟩
      | e0=>cases hs
      | e1=>cases hs
      | nr=>exact ⟨_,v6_6_3_nr⟩
   · cases S with
      | all=>exact ⟨_,v6_6_4_all⟩
      | e0=>cases hs
      | e1=>cases hs
      | nr=>exact ⟨_,v6_6_4_nr⟩
 | 7,w,op,L,h,hw,hs=>by
   cases h;rcases w_four hw with rfl|rfl|rfl|rfl
   · cases S with
      | all=>exact ⟨_,v6_7_1_all⟩
      | e0=>cases hs
      | e1=>cases hs
      | nr=>exact ⟨_,v6_7_1_nr⟩
   · cases S with
      | all=>exact ⟨_,v6_7_2_all⟩
      | e0=>cases hs
      | e1=>cases hs
      | nr=>exact ⟨_,v6_7_2_nr⟩
   · cases S with
      | all=>exact ⟨_,v6_7_3_all⟩
      | e0=>cases hs
      | e1=>cases hs
      | nr=>exact ⟨_,v6_7_3_nr⟩
   · cases S with
      | all=>exact ⟨_,v6_7_4_all⟩
      | e0=>cases hs
      | e1=>cases hs
      | nr=>exact ⟨_,v6_7_4_nr⟩
 | 8,w,op,L,h,hw,hs=>by
   cases h;obtain rfl:=w_one hw;cases S with
    | all=>exact ⟨_,v6_8_1_all⟩
    | e0=>exact ⟨_,v6_8_1_e0⟩
    | e1=>cases hs
    | nr=>cases hs
 | 9,w,op,L,h,_,_=>by cases h
 | 10,w,op,L,h,_,_=>by cases h
 | j+11,w,op,L,h,_,_=>by cases h
theorem evVn_6:∀{j:Nat},1≤j->j≤10->argsOf 6 j=none->EvV true 1000 j 1 6 (noneV j)
 | 0,h,_,_=>absurd h (by decide)
 | 1,_,_,h=>v6_1_n
 | 2,_,_,h=>v6_2_n
 | 3,_,_,h=>v6_3_n
 | 4,_,_,h=>v6_4_n
 | 5,_,_,h=>v6_5_n
 | 6,_,_,h=>by cases h
 | 7,_,_,h=>by cases h
 | 8,_,_,h=>by cases h
 | 9,_,_,h=>v6_9_n
 | 10,_,_,h=>v6_10_n
 | j+11,_,h,_=>absurd h (by omega)
theorem evV_8 {S:Sel}:∀{j w op:Nat} {L:List Nat},argsOf 8 j=some (op,L)->wOK j w=true->selV L S=true->∃T,EvV S.b T j w 8 (restV S j w op L)
 | 0,w,op,L,h,_,_=>by cases h
 | 1,w,op,L,h,_,_=>by cases h
 | 2,w,op,L,h,_,_=>by cases h
 | 3,w,op,L,h,hw,hs=>by
   cases h;rcases w_four hw with rfl|rfl|rfl|rfl
   · cases S with
      | all=>exact ⟨_,v8_3_1_all⟩
      | e0=>exact ⟨_,v8_3_1_e0⟩
      | e1=>cases hs
      | nr=>exact ⟨_,v8_3_1_nr⟩
   · cases S with
      | all=>exact ⟨_,v8_3_2_all⟩
      | e0=>exact ⟨_,v8_3_2_e0⟩
      | e1=>cases hs
      | nr=>exact ⟨_,v8_3_2_nr⟩
   · cases S with
      | all=>exact ⟨_,v8_3_3_all⟩
      | e0=>exact ⟨_,v8_3_3_e0⟩
      | e1=>cases hs
      | nr=>exact ⟨_,v8_3_3_nr⟩
   · cases S with
      | all=>exact ⟨_,v8_3_4_all⟩
      | e0=>exact ⟨_,v8_3_4_e0⟩
      | e1=>cases hs
      | nr=>exact ⟨_,v8_3_4_nr⟩
 | 4,w,op,L,h,_,_=>by cases h
 | 5,w,op,L,h,_,_=>by cases h
 | 6,w,op,L,h,_,_=>by cases h
 | 7,w,op,L,h,_,_=>by cases h
 | 8,w,op,L,h,_,_=>by cases h
 | 9,w,op,L,h,_,_=>by cases h
 | 10,w,op,L,h,_,_=>by cases h
 | j+11,w,op,L,h,_,_=>by cases h
theorem evVn_8:∀{j:Nat},1≤j->j≤10->argsOf 8 j=none->EvV true 1000 j 1 8 (noneV j)
 | 0,h,_,_=>absurd h (by decide)
 | 1,_,_,h=>v8_1_n
 | 2,_,_,h=>v8_2_n
 | 3,_,_,h=>by cases h
 | 4,_,_,h=>v8_4_n
 | 5,_,_,h=>v8_5_n
 | 6,_,_,h=>v8_6_n
 | 7,_,_,h=>v8_7_n
 | 8,_,_,h=>v8_8_n
 | 9,_,_,h=>v8_9_n
 | 10,_,_,h=>v8_10_n
 | j+11,_,h,_=>absurd h (by omega)
def isPt (v:VW):Bool := !(!(BitVec.sle (K 0) (cond (v.k != K 1) (K 0) (K (-1)))))
def stP (s:VF) (k:Nat) (v:VW):VF:=⟨s.regs,s.ptr.set k v,fun i j=>bif Nat.beq i k then K 0 else s.by_ i j,fun i j=>bif Nat.beq i k then false else s.ld i j⟩
def b8 (x:U):Nat->U:=fun j=>[x>>>(K 0).toNat,x>>>(K 8).toNat,x>>>(K 16).toNat,x>>>(K 24).toNat,x>>>(K 32).toNat,x>>>(K 40).toNat,x>>>(K 48).toNat,x>>>(K 56).toNat].getD j (K 0)
def stoVR (s:VF) (k:Nat) (v:VW):VF:=VF.bif (isPt v) (stP s k v) (layVN s (8*k) (b8 v.n) 8)
def insnT (k:Nat):V :=.t (.st [.a (.lit .i64 123),.a (.lit .i64 10),.a (.lit .i64 9),.a (.lit .i64 (sP k)),.a (.lit .i64 0)])
def okDo (s:VF) (k:Nat):Bool:=cond (isPt (s.regs.at 9)) (r10B (s.regs.at 10)&&(s.regs.k 9 != K 0)) ((r10B (s.regs.at 10)&&(s.regs.k 9 != K 0))&&(Nat.ble (8*k+8) 128&&Nat.blt 0 8))
def askZ:V :=.tup [.st [.a (.lit .i64 0),.a (.lit .i64 0),.a (.lit .i64 0),.a (.lit .i64 0),.a (.lit .i64 0),.a (.lit .i64 0),.a (.lit .i64 0),.a (.lit .u64 0),.a (.lit .u64 0)],.a (.lit .i64 0)]
theorem do40_ev (s:VF):∀k:Nat,k<16->(evalF cxD ΓR 400 20 40 [pt 0,insnT k] (hM [(0,⟨true,s.t⟩)] 1)).rt = .leaf (.b (okDo s k)) askZ [0] (some ⟨true,(stoVR s k (s.regs.at 9)).t⟩) none
 | 0,_=>by kernel_rfl|1,_=>by kernel_rfl|2,_=>by kernel_rfl|3,_=>by kernel_rfl|4,_=>by kernel_rfl|5,_=>by kernel_rfl|6,_=>by kernel_rfl|7,_=>by kernel_rfl
 | 8,_=>by kernel_rfl|9,_=>by kernel_rfl|10,_=>by kernel_rfl|11,_=>by kernel_rfl|12,_=>by kernel_rfl|13,_=>by kernel_rfl|14,_=>by kernel_rfl|15,_=>by kernel_rfl|n+16,h=>absurd h (by omega)
def uP (k:Nat):Int:=8*(k:Int)+18446744073709551488
def p8 (k:Nat) (v:U) (f:Nat->U):Nat->U:=putN (8*k+7) v (putN (8*k+6) v (putN (8*k+5) v (putN (8*k+4) v (putN (8*k+3) v (putN (8*k+2) v (putN (8*k+1) v (putN (8*k) v f)))))))
def stPQ (s:QF) (k:Nat) (v:VW):QF:=⟨s.regs,p8 k (K 2) s.how,p8 k (K 0) s.b,s.ptr.set k v⟩
def z8L:Nat->U:=fun j=>[K 0,K 0,K 0,K 0,K 0,K 0,K 0,K 0].getD j (K 0)
def stoQR (s:QF) (k:Nat) (v:VW):QF:=QF.bif (v.k != K 1) (stPQ s k v) (layQN s (8*k) (putF z8L 0 v.n) 8)
def okDQ (v:VW) (k:Nat):Bool:=cond (v.k != K 1) true (Nat.ble (8*k+8) 128&&Nat.blt 0 8)
theorem st161_ev (s:QF) (v:VW):∀k:Nat,k<16->(evalF cxD ΓQ 400 20 161 [pt 0,one (.lit .u64 (uP k)),one (.lit .i64 8),.t v.t] (hM [(0,⟨true,s.t⟩)] 1)).rt = .leaf (.b (okDQ v k)) (one (.lit .i64 0)) [0] (some ⟨true,(stoQR s k v).t⟩) none
 | 0,_=>by kernel_rfl|1,_=>by kernel_rfl|2,_=>by kernel_rfl|3,_=>by kernel_rfl|4,_=>by kernel_rfl|5,_=>by kernel_rfl|6,_=>by kernel_rfl|7,_=>by kernel_rfl
 | 8,_=>by kernel_rfl|9,_=>by kernel_rfl|10,_=>by kernel_rfl|11,_=>by kernel_rfl|12,_=>by kernel_rfl|13,_=>by kernel_rfl|14,_=>by kernel_rfl|15,_=>by kernel_rfl|n+16,h=>absurd h (by omega)
def SaysT (f:Nat) (t:T) (rest:List V) (v:V) (t':T):Prop:=∀(ν:Nu) (w:World) (r:Nat) (us:List Value),Holds w r t->relV ν rest us->Calls Tryz.prog f (.pointer (some ⟨r,0,none⟩)::us).toArray w fun e w'=>∃u,e = .returned u/\v.rel ν u/\But r w.heap.size w w'/\Holds w' r t'
theorem pt_rel (r:Nat):(V.t (.a (.ptr 0 []))).rel (nuOne r) (.pointer (some ⟨r,0,none⟩)):=by
 show (A.ptr 0 []).rel (nuOne r) _;simp only [A.rel];exact ⟨r,0,rfl,rfl⟩
theorem says_ev {cx:Cx} {Γ:Gam} (X:CxOK cx Γ) (hP:cx.P=Tryz.prog) {fuel n f:Nat} {t t':T} {rest rest':List V} {ok:A} {v v':V} {wr:List Nat} {b:Option Blk} (hΓ:Γ f (pt 0::rest') (hM [(0,⟨true,t⟩)] 1)=none)
 (he:(evalF cx Γ fuel (n+1) f (pt 0::rest') (hM [(0,⟨true,t⟩)] 1)).rt.pick=some (ok,v,wr,some ⟨true,t'⟩,b)) (hok:okB ok=true) (hw:wr=[0]\/wr=[]) (hn:notMp t'=true) (hfr:t'.free=true) (hv:v.free=true)
 (hvv:∀ν u,v.rel ν u->v'.rel ν u) (hr:∀ν us,relV ν rest us->∀r,relV (nuOne r) rest' us):SaysT f t rest v' t':=by
 obtain ⟨h',hp,hwr,hg,_⟩:=rt_pick he;obtain ⟨_,hfn⟩:=evalF_fn X hΓ hp hok;rw [hP] at hfn;intro ν w r us hh hus;refine (call_one hfn (by rw [hwr];exact hw) hg hn hfr hv hh (vs :=.pointer (some ⟨r,0,none⟩)::us) ⟨pt_rel r,hr ν us hus r⟩ ν).mono ?_
 rintro e w' ⟨u,rfl,hu,hb,hh'⟩;exact ⟨u,rfl,hvv _ _ hu,hb,hh'⟩
def turnSp {σ:Type} (of:H->Nat->Option σ) (t:σ->T) (sp:σ->List V->Option (A×V×σ)):List V->H->Option R
 | .t (.a (.ptr id []))::rest,h=>match of h id with
   | some s=>match sp s rest with
     | some (ok,v,s')=>some (.leaf ok v ((h.sees [id]).put id ⟨true,t s'⟩))
     | none=>none
   | none=>none
 | _,_=>none
theorem turnSp_inv {σ:Type} {of:H->Nat->Option σ} {t:σ->T} {sp:σ->List V->Option (A×V×σ)} {args:List V} {h:H} {r:R} (e:turnSp of t sp args h=some r):∃id rest s ok v s',args = .t (.a (.ptr id []))::rest/\of h id=some s/\sp s rest=some (ok,v,s')/\r = .leaf ok v ((h.sees [id]).put id ⟨true,t s'⟩):=by
 unfold turnSp at e;split at e
 · split at e
   · rename_i h1;split at e
     · rename_i h2;cases e;exact ⟨_,_,_,_,_,_,rfl,h1,h2,rfl⟩
     · cases e
   · cases e
 · cases e
theorem turn_ok {σ:Type} {of:H->Nat->Option σ} {t:σ->T} {sp:σ->List V->Option (A×V×σ)} {f:Nat} (hof:∀{h id s},of h id=some s->h.m.get id=some ⟨true,t s⟩) (hn:∀s,notMp (t s)=true) (hf:∀s,(t s).free=true) (hent:Enters Tryz.prog f)
 (hs:∀s rest ok v s',sp s rest=some (ok,v,s')->okB ok=true->SaysT f (t s) rest v (t s')):AnyOK Tryz.prog f (turnSp of t sp) where
 ent:=hent
 ok:=by intro args h r ok v h' he hp hok;obtain ⟨id,rest,s,ok0,v0,s',rfl,h1,h2,rfl⟩:=turnSp_inv he;simp only [R.pick,oI,pI] at hp;obtain ⟨rfl,rfl,rfl⟩:=hp;exact fn_turn (hof h1) (hn s) (hf s) [id] (.head _) fun S ν w r us hm hS hν hh hus=>hs s rest _ _ s' h2 hok ν w r us hh hus
 pan:=by intro args h r ok v h' he hp hok;obtain ⟨id,rest,s,ok0,v0,s',rfl,h1,h2,rfl⟩:=turnSp_inv he;simp [R.pickP] at hp
 ext:=by intro args h r he hlo;obtain ⟨id,rest,s,ok0,v0,s',rfl,h1,h2,rfl⟩:=turnSp_inv he;exact (sees_ext [id] h).trans (put_ext (h:=h.sees [id]) (by rw [sees_m];exact hof h1) rfl rfl)
def turnV (sp:VF->List V->Option (A×V×VF)):List V->H->Option R:=turnSp vfOf VF.t sp
def turnQ (sp:QF->List V->Option (A×V×QF)):List V->H->Option R:=turnSp qfOf QF.t sp
theorem turnV_ok {sp:VF->List V->Option (A×V×VF)} {f:Nat} (hent:Enters Tryz.prog f) (hs:∀s rest ok v s',sp s rest=some (ok,v,s')->okB ok=true->SaysT f s.t rest v s'.t):AnyOK Tryz.prog f (turnV sp):=
 turn_ok vfOf_some (fun _=>rfl) (fun _=>rfl) hent hs
theorem turnQ_ok {sp:QF->List V->Option (A×V×QF)} {f:Nat} (hent:Enters Tryz.prog f) (hs:∀s rest ok v s',sp s rest=some (ok,v,s')->okB ok=true->SaysT f s.t rest v s'.t):AnyOK Tryz.prog f (turnQ sp):=
 turn_ok qfOf_some (fun _=>rfl) (fun _=>rfl) hent hs
def insnX:List V->Option U
 | [.t (.st [.a (.lit .i64 a),.a (.lit .i64 b),.a (.lit .i64 c),.a ax,.a (.lit .i64 d)])]=>match decide (a=123)&&(decide (b=10)&&(decide (c=9)&&decide (d=0))) with
   | true=>i64Of ax
   | false=>none
 | _=>none
theorem insnX_rel {rest:List V} {x:U} (h:insnX rest=some x) {k:Nat} (hk:k<16) (e:x=K (sP k)) {ν:Nu} {us:List Value} (hr:relV ν rest us) (ν':Nu):relV ν' [insnT k] us:=by
 unfold insnX at h;split at h
 · split at h
   · rename_i hc;simp only [bA,decide_eq_true_eq] at hc;obtain ⟨rfl,rfl,rfl,rfl⟩:=hc
     match us,hr with
     | [u],⟨r1,_⟩=>
       refine ⟨?_,trivial⟩;obtain ⟨vs,rfl,hr⟩:=r1;refine ⟨vs,rfl,?_⟩;simp only [T.rel,relTs] at hr ⊢;obtain ⟨u1,w1,e1,q1,u2,w2,e2,q2,u3,w3,e3,q3,u4,w4,e4,⟨x4,rfl,q4,c4⟩,r4⟩:=hr;have key:∀{n:Int} {vs:List Value},(∃v,vs=[v]/\(A.lit .i64 n).rel ν v/\Cell v)->∃v,vs=[v]/\(A.lit .i64 n).rel ν' v/\Cell v:=fun {n vs} ⟨v,a,b,c⟩=>⟨v,a,by simpa only [A.rel] using b,c⟩
       obtain ⟨u5,w5,e5,q5,e6⟩:=r4;exact ⟨u1,w1,e1,key q1,u2,w2,e2,key q2,u3,w3,e3,key q3,_,w4,e4,⟨x4,rfl,sP_rel hk h e q4,c4⟩,u5,w5,e5,key q5,e6⟩
   · cases h
 · cases h
def doS (s:VF) (rest:List V):Option (A×V×VF):=match insnX rest with
 | some x=>some (.b (isSlot x&&okDo s (slotN x)),askZ,stoVR s (slotN x) (s.regs.at 9))
 | none=>none
theorem do40_ok:AnyOK Tryz.prog 40 (turnV doS):=turnV_ok (enters_of entK 40 _ Tryz.func40 (by simp [Tryz.f40])) fun s rest ok v s' h hok=>by
 unfold doS at h;split at h
 · rename_i x hx;cases h;have hok:(isSlot x&&okDo s (slotN x))=true:=hok;rw [bA] at hok;obtain ⟨k,hk,e,e2⟩:=isSlot_some hok.1;rw [e2] at hok ⊢;exact says_ev (ok :=.b (okDo s k)) (XD ΓR_ok) rfl rfl (by rw [do40_ev s k hk];rfl) hok.2 (.inl rfl) rfl rfl rfl (fun _ _ h=>h) fun ν us hus r=>insnX_rel hx hk e hus _
 · cases h
def sto8:List V->Option (U×VW)
 | [.t (.a au),.t (.a (.lit .i64 m)),.t vt]=>match u64Of au,decide (m=8),vwOfT vt with
   | some x,true,some v=>some (x,v)
   | _,_,_=>none
 | _=>none
theorem uP_val:∀k:Fin 16,K (uP k.val)=K (sP k.val)/\vof .u64 (K (sP k.val))=uP k.val/\IntKind.u64.wrap (uP k.val)=uP k.val:=by decide +kernel
theorem sto8_rel {rest:List V} {x:U} {v:VW} (h:sto8 rest=some (x,v)) {k:Nat} (hk:k<16) (e:x=K (sP k)) {ν:Nu} {us:List Value} (hr:relV ν rest us) (ν':Nu):relV ν' [one (.lit .u64 (uP k)),one (.lit .i64 8),.t v.t] us:=by
 unfold sto8 at h;split at h
 · rename_i au m vt;split at h
   · rename_i h1 h2 h3;cases h;have h2:=of_decide_eq_true h2;subst h2
     match us,hr with
     | [u1,u2,u3],⟨r1,r2,r3,_⟩=>
       refine ⟨?_,lt8_rel (ν:=ν) (ν':=ν') r2,vwOfT_rel h3 r3,trivial⟩;have r1:au.rel ν u1:=r1;have:=u64Of_rel h1 r1;show (A.lit .u64 (uP k)).rel ν' u1;simp only [A.rel];obtain ⟨_,q2,q3⟩:=uP_val ⟨k,hk⟩;rw [this,e,q2];exact ⟨rfl,q3⟩
   · cases h
 · cases h
def stoQS (s:QF) (rest:List V):Option (A×V×QF):=match sto8 rest with
 | some (x,v)=>some (.b (isSlot x&&okDQ v (slotN x)),one (.lit .i64 0),stoQR s (slotN x) v)
 | none=>none
theorem sto161_ok:AnyOK Tryz.prog 161 (turnQ stoQS):=turnQ_ok (enters_of entK 161 _ Tryz.func161 (by simp [Tryz.f161])) fun s rest ok v s' h hok=>by
 unfold stoQS at h;split at h
 · rename_i x vv hx;cases h;have hok:(isSlot x&&okDQ vv (slotN x))=true:=hok;rw [bA] at hok;obtain ⟨k,hk,e,e2⟩:=isSlot_some hok.1;rw [e2] at hok ⊢;exact says_ev (ok :=.b (okDQ vv k)) (XD ΓQ_ok) rfl rfl (by rw [st161_ev s vv k hk];rfl) hok.2 (.inl rfl) rfl rfl rfl (fun _ _ h=>h) fun ν us hus r=>sto8_rel hx hk e hus _
 · cases h
def ΓD:Gam:=anyΓ 161 (turnQ stoQS) ΓQ
theorem ΓD_ok:ΓOK Tryz.prog ΓD:=anyΓ_ok sto161_ok ΓQ_ok
def insnY (x:U):V :=.t (.st [.a (.lit .i64 123),.a (.lit .i64 10),.a (.lit .i64 9),.a (.i .i64 x),.a (.lit .i64 0)])
def doQ (s:QF) (x:U):QF:=QF.bif (s.regs.k 10==K 0) s (QF.bif (s.regs.k 9==K 0) s (QF.bif (s.regs.k 10==K 1) s (QF.bif (s.regs.k 10==K 3) (stoQR s (slotN (s.regs.n 10+x)) (s.regs.at 9)) s)))
def okQ (s:QF) (x:U):Bool:=cond (s.regs.k 10==K 0) true (cond (s.regs.k 9==K 0) true (cond (s.regs.k 10==K 1) true (cond (s.regs.k 10==K 3) (isSlot (s.regs.n 10+x)&&okDQ (s.regs.at 9) (slotN (s.regs.n 10+x))) true)))
def RT.sum (r:RT):Option (A×Bool×List Nat×Option Blk):=r.pick.map fun p=>(p.1,p.2.1.free,p.2.2.1,p.2.2.2.1)
theorem do43_ev (s:QF) (x:U):(evalF cxD ΓD 400 20 43 [pt 0,insnY x] (hM [(0,⟨true,s.t⟩)] 1)).rt.sum=some (.b (okQ s x),true,[0],some ⟨true,(doQ s x).t⟩):=by kernel_rfl
theorem says_sum {cx:Cx} {Γ:Gam} (X:CxOK cx Γ) (hP:cx.P=Tryz.prog) {fuel n f:Nat} {t t':T} {rest rest':List V} {ok:A} {wr:List Nat} (hΓ:Γ f (pt 0::rest') (hM [(0,⟨true,t⟩)] 1)=none)
 (he:(evalF cx Γ fuel (n+1) f (pt 0::rest') (hM [(0,⟨true,t⟩)] 1)).rt.sum=some (ok,true,wr,some ⟨true,t'⟩)) (hok:okB ok=true) (hw:wr=[0]\/wr=[]) (hn:notMp t'=true) (hfr:t'.free=true)
 (hr:∀ν us,relV ν rest us->∀r,relV (nuOne r) rest' us):SaysT f t rest (one .poison) t':=by
 unfold RT.sum at he;cases hp:(evalF cx Γ fuel (n+1) f (pt 0::rest') (hM [(0,⟨true,t⟩)] 1)).rt.pick with
 | none=>rw [hp] at he;cases he
 | some p=>
   obtain ⟨ok0,v0,wr0,b0,b⟩:=p;rw [hp] at he;simp only [Option.map_some,oI,pI] at he;obtain ⟨rfl,hv,rfl,rfl⟩:=he;exact says_ev X hP hΓ hp hok hw hn hfr hv (fun ν u _=>by show A.poison.rel ν u;simp only [A.rel]) hr
theorem insnX_relY {rest:List V} {x:U} (h:insnX rest=some x) {ν:Nu} {us:List Value} (hr:relV ν rest us) (ν':Nu):relV ν' [insnY x] us:=by
 unfold insnX at h;split at h
 · split at h
   · rename_i hc;simp only [bA,decide_eq_true_eq] at hc;obtain ⟨rfl,rfl,rfl,rfl⟩:=hc
     match us,hr with
     | [u],⟨r1,_⟩=>
       refine ⟨?_,trivial⟩;obtain ⟨vs,rfl,hr⟩:=r1;refine ⟨vs,rfl,?_⟩;simp only [T.rel,relTs] at hr ⊢;obtain ⟨u1,w1,e1,q1,u2,w2,e2,q2,u3,w3,e3,q3,u4,w4,e4,⟨x4,rfl,q4,c4⟩,r4⟩:=hr;have key:∀{n:Int} {vs:List Value},(∃v,vs=[v]/\(A.lit .i64 n).rel ν v/\Cell v)->∃v,vs=[v]/\(A.lit .i64 n).rel ν' v/\Cell v:=fun {n vs} ⟨v,a,b,c⟩=>⟨v,a,by simpa only [A.rel] using b,c⟩
       obtain ⟨u5,w5,e5,q5,e6⟩:=r4;exact ⟨u1,w1,e1,key q1,u2,w2,e2,key q2,u3,w3,e3,key q3,_,w4,e4,⟨x4,rfl,by
        simp only [A.rel];exact i64Of_rel h q4,c4⟩,u5,w5,e5,key q5,e6⟩
   · cases h
 · cases h
def doSQ (s:QF) (rest:List V):Option (A×V×QF):=match insnX rest with
 | some x=>some (.b (okQ s x),one .poison,doQ s x)
 | none=>none
theorem do43_ok:AnyOK Tryz.prog 43 (turnQ doSQ):=turnQ_ok (enters_of entK 43 _ Tryz.func43 (by simp [Tryz.f43])) fun s rest ok v s' h hok=>by
 unfold doSQ at h;split at h
 · rename_i x hx;cases h;exact says_sum (ok :=.b (okQ s x)) (XD ΓD_ok) rfl rfl (do43_ev s x) hok (.inl rfl) rfl rfl fun ν us hus r=>insnX_relY hx hus _
 · cases h
theorem p8_at {k:Nat} {v:U} {f:Nat->U} {j:Nat}:p8 k v f j=if j / 8=k then v else f j:=by
 unfold p8;simp only [putN_at];by_cases h:j / 8=k
 · rw [if_pos h];have:j=8*k\/j=8*k+1\/j=8*k+2\/j=8*k+3\/j=8*k+4\/j=8*k+5\/j=8*k+6\/j=8*k+7:=by omega
   rcases this with rfl|rfl|rfl|rfl|rfl|rfl|rfl|rfl<;>simp
 · rw [if_neg h,if_neg (by omega),if_neg (by omega),if_neg (by omega),if_neg (by omega),if_neg (by omega),if_neg (by omega),if_neg (by omega),if_neg (by omega)]
theorem isPt_eq (v:VW):isPt v=(v.k != K 1):=by
 unfold isPt;cases v.k != K 1<;>rfl
theorem layQN_congr {s:QF} {b:Nat} {c c':Nat->U}:∀n,(∀j,j<n->c j=c' j)->layQN s b c n=layQN s b c' n
 | 0,_=>rfl
 | n+1,h=>by show layQE _ _ _=layQE _ _ _;rw [layQN_congr n (fun j hj=>h j (by omega)),h n (by omega)]
theorem b8_put (x:U):∀j,j<8->putF z8L 0 x j=b8 x j:=fun j hj=>by
 have:j=0\/j=1\/j=2\/j=3\/j=4\/j=5\/j=6\/j=7:=by omega
 rcases this with rfl|rfl|rfl|rfl|rfl|rfl|rfl|rfl<;>rfl
theorem set_k (f:VV) (j:Nat) (v:VW) (i:Nat):(f.set j v).at i=if i=j then v else f.at i:=by
 show VW.mk _ _ _ _=_;simp only [VV.set,putN_at];by_cases h:i=j
 · simp only [if_pos h]
 · simp only [if_neg h];rfl
theorem rel_stP {s:VF} {q:QF} (h:Rel23 s q) (k:Nat) {v:VW} (hv:v.k≠K 0):Rel23 (stP s k v) (stPQ q k v):=by
 have hk:∀i,(s.ptr.set k v).k i=if i=k then v.k else s.ptr.k i:=fun i=>by
  have:=congrArg VW.k (set_k s.ptr k v i);by_cases e:i=k
  · rw [if_pos e] at this ⊢;exact this
  · rw [if_neg e] at this ⊢;exact this
 refine ⟨h.regs,fun j => ?_,fun j => ?_,fun i hi => ?_,fun i j hi => ?_⟩
 · show p8 k (K 2) q.how j=if (s.ptr.set k v).k (j / 8)≠K 0 then K 2 else if (bif Nat.beq (j / 8) k then false else s.ld (j / 8) (j % 8))=true then K 1 else K 0
   rw [p8_at,hk];by_cases e:j / 8=k
   · simp only [if_pos e];rw [if_pos hv]
   · simp only [if_neg e];have:Nat.beq (j / 8) k=false:=by
      rw [beq_eq_decide,decide_eq_false e]
     rw [this];exact h.how j
 · show p8 k (K 0) q.b j=bif Nat.beq (j / 8) k then K 0 else s.by_ (j / 8) (j % 8);rw [p8_at,beq_eq_decide];by_cases e:j / 8=k
   · rw [if_pos e,decide_eq_true e];rfl
   · rw [if_neg e,decide_eq_false e];exact h.b j
 · have hi:(s.ptr.set k v).k i≠K 0:=hi;show (q.ptr.set k v).at i=(s.ptr.set k v).at i;rw [set_k,set_k];by_cases e:i=k
   · rw [if_pos e,if_pos e]
   · rw [if_neg e,if_neg e];rw [hk,if_neg e] at hi;exact h.ptr i hi
 · have hi:(s.ptr.set k v).k i≠K 0:=hi;show (bif Nat.beq i k then K 0 else s.by_ i j)=K 0/\(bif Nat.beq i k then false else s.ld i j)=false;by_cases e:i=k
   · rw [beq_eq_decide,decide_eq_true e];exact ⟨rfl,rfl⟩
   · rw [beq_eq_decide,decide_eq_false e];rw [hk,if_neg e] at hi;exact h.nul i j hi
theorem rel_sto {s:VF} {q:QF} (h:Rel23 s q) {k:Nat} (hk:k<16) {v:VW} (hv:v.k≠K 0):Rel23 (stoVR s k v) (stoQR q k v):=by
 unfold stoVR stoQR;rw [isPt_eq];cases v.k != K 1
 · show Rel23 (layVN s (8*k) (b8 v.n) 8) (layQN q (8*k) (putF z8L 0 v.n) 8);rw [layQN_congr 8 (b8_put v.n)];exact rel_layN h _ 8 (by omega)
 · exact rel_stP h k hv
theorem rel_regs {s:VF} {q:QF} (h:Rel23 s q) (R:VV):Rel23 { s with regs:=R } { q with regs:=R }:=⟨rfl,h.how,h.b,h.ptr,h.nul⟩
def outV (x:U):Bool:=cond (BitVec.slt x (K 0)) true (BitVec.slt (K 9) x)
def setR (f:VV) (x:U) (v:VW):VV:=VV.bif (outV x) f (f.set x.toNat v)
def setVF (s:VF) (x:U) (v:VW):VF:={ s with regs:=setR s.regs x v }
def setQF (s:QF) (x:U) (v:VW):QF:={ s with regs:=setR s.regs x v }
def setVF0 (s:VF) (x:U) (v:VW):VF:=VF.bif (outV x) s { s with regs:=s.regs.set x.toNat v }
def setQF0 (s:QF) (x:U) (v:VW):QF:=QF.bif (outV x) s { s with regs:=s.regs.set x.toNat v }
theorem setVF_eq (s:VF) (x:U) (v:VW):setVF0 s x v=setVF s x v:=by
 unfold setVF0 setVF setR;cases outV x<;>rfl
theorem setQF_eq (s:QF) (x:U) (v:VW):setQF0 s x v=setQF s x v:=by
 unfold setQF0 setQF setR;cases outV x<;>rfl
def okSetV (x:U):Bool:=cond (outV x) true (vB x 11&&wB x 11)
theorem set31_ev (s:VF) (x:U) (v:VW):(evalF cxK noΓ 400 20 31 [pt 0,i64 x,.t v.t] (hM [(0,⟨true,s.t⟩)] 1)).rt.sum=some (.b (okSetV x),true,[0],some ⟨true,(setVF0 s x v).t⟩):=by kernel_rfl
theorem set32_ev (s:QF) (x:U) (v:VW):(evalF cxK noΓ 400 20 32 [pt 0,i64 x,.t v.t] (hM [(0,⟨true,s.t⟩)] 1)).rt.sum=some (.b (okSetV x),true,[0],some ⟨true,(setQF0 s x v).t⟩):=by kernel_rfl
theorem okSetV_true (x:U):okSetV x=true:=by
 unfold okSetV;cases h:outV x
 · simp only [cond_false];unfold outV at h;cases h1:BitVec.slt x (K 0)
   · rw [h1,cond_false] at h;rw [BitVec.slt,decide_eq_false_iff_not] at h1 h;have e0:(K 0).toInt=0:=rfl;have e1:(K 9).toInt=9:=rfl;rw [e0] at h1;rw [e1] at h;have h2:=BitVec.toInt_eq_toNat_cond x;have h3:=x.isLt;have h4:x.toNat<10:=by split at h2<;>omega
     have h5:x.msb=false:=by rw [BitVec.msb_eq_decide];simp only [decide_eq_false_iff_not];omega
     have h6:Nat.blt x.toNat 11=true:=nB (by omega)
     simp [vB,wB,h5,h6]
   · rw [h1,cond_true] at h;cases h
 · rfl
def setA:List V->Option (U×VW)
 | [.t (.a ax),.t vt]=>match i64Of ax,vwOfT vt with
   | some x,some v=>some (x,v)
   | _,_=>none
 | _=>none
theorem setA_rel {rest:List V} {x:U} {v:VW} (h:setA rest=some (x,v)) {ν:Nu} {us:List Value} (hr:relV ν rest us) (ν':Nu):relV ν' [i64 x,.t v.t] us:=by
 unfold setA at h;split at h
 · split at h
   · rename_i h1 h2;cases h
     match us,hr with
     | [u1,u2],⟨r1,r2,_⟩=>
       refine ⟨?_,vwOfT_rel h2 r2,trivial⟩;show (A.i .i64 x).rel ν' u1;simp only [A.rel];exact i64Of_rel h1 r1
   · cases h
 · cases h
def setSV (s:VF) (rest:List V):Option (A×V×VF):=match setA rest with
 | some (x,v)=>some (.tt,one .poison,setVF s x v)
 | none=>none
def setSQ (s:QF) (rest:List V):Option (A×V×QF):=match setA rest with
 | some (x,v)=>some (.tt,one .poison,setQF s x v)
 | none=>none
theorem set31_ok:AnyOK Tryz.prog 31 (turnV setSV):=turnV_ok (enters_of entK 31 _ Tryz.func31 (by simp [Tryz.f31])) fun s rest ok v s' h hok=>by
 unfold setSV at h;split at h
 · rename_i x vv hx;cases h;rw [← setVF_eq];exact says_sum (ok :=.b (okSetV x)) (XK noΓ_ok) rfl rfl (set31_ev s x vv) (okSetV_true x) (.inl rfl) rfl rfl fun ν us hus r=>setA_rel hx hus _
 · cases h
theorem set32_ok:AnyOK Tryz.prog 32 (turnQ setSQ):=turnQ_ok (enters_of entK 32 _ Tryz.func32 (by simp [Tryz.f32])) fun s rest ok v s' h hok=>by
 unfold setSQ at h;split at h
 · rename_i x vv hx;cases h;rw [← setQF_eq];exact says_sum (ok :=.b (okSetV x)) (XK noΓ_ok) rfl rfl (set32_ev s x vv) (okSetV_true x) (.inl rfl) rfl rfl fun ν us hus r=>setA_rel hx hus _
 · cases h
theorem rel_set {s:VF} {q:QF} (h:Rel23 s q) (x:U) (v:VW):Rel23 (setVF s x v) (setQF q x v):=by
 unfold setVF setQF;rw [h.regs];exact rel_regs h _
def RF.bif (c:Bool) (p q:RF):RF:=⟨fun j=>bif c then p.k j else q.k j,fun j=>bif c then p.o j else q.o j,fun j=>bif c then p.m j else q.m j,fun j=>bif c then p.i j else q.i j,fun j=>bif c then p.tv j else q.tv j,fun j=>bif c then p.tm j else q.tm j,fun j=>bif c then p.ul j else q.ul j,fun j=>bif c then p.uh j else q.uh j,fun j=>bif c then p.sl j else q.sl j,fun j=>bif c then p.sh j else q.sh j⟩
def FSt.bif (c:Bool) (p q:FSt):FSt:=⟨RF.bif c p.regs q.regs,fun j=>bif c then p.g j else q.g j,RF.bif c p.kept q.kept⟩
def outF (x:U):Bool:=cond (BitVec.slt x (K 0)) true (BitVec.sle (K 10) x)
theorem outF_eq (x:U):outF x=outV x:=by
 unfold outF outV;have:BitVec.sle (K 10) x=BitVec.slt (K 9) x:=by rw [BitVec.sle,BitVec.slt];have e0:(K 10).toInt=10:=rfl;have e1:(K 9).toInt=9:=rfl;rw [e0,e1];exact decide_eq_decide.2 ⟨fun h=>by omega,fun h=>by omega⟩
 rw [this]
def setFS (s:FSt) (x:U) (r:RW):FSt:={ s with regs:=RF.bif (outV x) s.regs (s.regs.setR x.toNat r) }
def setFS0 (c:Bool) (s:FSt) (x:U) (r:RW):FSt:=FSt.bif c s { s with regs:=s.regs.setR x.toNat r }
theorem setFS_eq (s:FSt) (x:U) (r:RW):setFS0 (outV x) s x r=setFS s x r:=by
 unfold setFS0 setFS;cases outV x<;>rfl
theorem set33_ev (s:FSt) (x:U) (r:RW):resM (evS 33 s [i64 x,.t r.t])=some (.b (cond (outF x) true (vB x 11&&wB x 11)),one (.b (cond (outF x) false true)),[0],some ⟨true,(setFS0 (outF x) s x r).t⟩):=by kernel_rfl
theorem set34_ev (s:FSt) (x:U) (r:RW):resM (evS 34 s [i64 x,.t r.t])=some (.b (cond (outV x) true (vB x 11&&wB x 11)),one (.b (cond (outV x) false true)),[0],some ⟨true,(setFS0 (outV x) s x r).t⟩):=by kernel_rfl
def setS (s:FSt):List V->Option (A×V×FSt)
 | [.t (.a ax),.t t]=>match i64Of ax,rwOfT t with
   | some x,some r=>some (.tt,one (.b (cond (outV x) false true)),setFS s x r)
   | _,_=>none
 | _=>none
theorem setS_ok {f:Nat} (he:∀s x r,resM (evS f s [i64 x,.t r.t])=some (.b (cond (outV x) true (vB x 11&&wB x 11)),one (.b (cond (outV x) false true)),[0],some ⟨true,(setFS0 (outV x) s x r).t⟩)) (hΓL:∀(s:FSt) x (r:RW),ΓL f [pt 0,i64 x,.t r.t] (hM [(0,⟨true,s.t⟩)] 1)=none) {Γ:Gam} (hΓ:ΓOK Tryz.prog Γ):ΓOK Tryz.prog (stΓ f setS Γ):=by
 refine stΓ_ok (fun s rest ok v s' hs hok => ?_) hΓ;unfold setS at hs;split at hs
 · split at hs
   · rename_i h1 h2;cases hs;rw [← setFS_eq];refine saysW_ev (hΓL s _ _) (he s _ _) (okSetV_true _) (.inl rfl) rfl fun ν ν' us hu => ?_
     match us,hu with
     | [u1,u2],⟨r1,r2,_⟩=>
       refine ⟨?_,rwOfT_rel h2 r2,trivial⟩;show (A.i .i64 _).rel ν' u1;simp only [A.rel];exact i64Of_rel h1 r1
   · cases hs
 · cases hs
theorem set33_ok {Γ:Gam} (hΓ:ΓOK Tryz.prog Γ):ΓOK Tryz.prog (stΓ 33 setS Γ):=setS_ok (fun s x r=>by rw [set33_ev,outF_eq]) (fun _ _ _=>rfl) hΓ
theorem set34_ok {Γ:Gam} (hΓ:ΓOK Tryz.prog Γ):ΓOK Tryz.prog (stΓ 34 setS Γ):=setS_ok (fun s x r=>set34_ev s x r) (fun _ _ _=>rfl) hΓ
theorem inv_setFS {s:FSt} (h:InvS s) (x:U) (r:RW):InvS (setFS s x r):=inv_regs h _
theorem PureOK.weak {P:Program} {f:FuncId} {args:List V} {v v':V} (h:PureOK P f args v) (hv:∀ν u,v.rel ν u->v'.rel ν u):PureOK P f args v':=by
 rcases h with ⟨h1,h2⟩|h
 · exact .inl ⟨h1,fun h=>fn_weak (h2 h) hv⟩
 · exact .inr fun ν w vs ha=>by obtain ⟨u,h1,h2⟩:=h ν w vs ha;exact ⟨u,h1,hv _ _ h2⟩
theorem pick_ev (x:U):(evalF cxK noΓ 400 20 8 [i64 x,one (.lit .i64 9)] H.none).res=some (.tt,i64 (pickU x (K 9))):=by kernel_rfl
def pickS (j:Nat):List V->Option (A×V)
 | [.t (.a ax),.t (.a (.lit .i64 (.ofNat 9)))]=>match i64Of ax with
   | some x=>some (.b (pickU x (K 9)==kk j),one (.lit .i64 (.ofNat j)))
   | none=>none
 | _=>none
theorem pickS_ok {j:Nat} (hj:j<9) {Γ:Gam} (hΓ:ΓOK Tryz.prog Γ):ΓOK Tryz.prog (specG 8 (pickS j) Γ):=by
 refine specG_ok (fun args ok v hs hok => ?_) hΓ;unfold pickS at hs;split at hs
 · split at hs
   · rename_i x hx;cases hs;have hok:(pickU x (K 9)==kk j)=true:=hok;have e:=eq_of_beq hok;refine PureOK.weak (v:=i64 (pickU x (K 9))) (PureOK.more (pure_of_eval (XK noΓ_ok) rfl (pick_ev x) rfl rfl rfl) fun ν vs hv => ?_) fun ν u hu => ?_
     · match vs,hv with
       | [u0,u1],⟨r0,r1,_⟩=>
         refine ⟨?_,r1,trivial⟩;show (A.i .i64 x).rel ν u0;simp only [A.rel];exact i64Of_rel hx r0
     · have hu:(A.i .i64 (pickU x (K 9))).rel ν u:=hu;show (A.lit .i64 (.ofNat j)).rel ν u;simp only [A.rel] at hu ⊢;have e2:vof .i64 (kk j)=(j:Int):=vof_kk (by omega)
       rw [hu,e,e2];refine ⟨rfl,?_⟩;have:∀j:Fin 9,IntKind.i64.wrap (Int.ofNat j.val)=Int.ofNat j.val:=by decide
       exact this ⟨j,hj⟩
   · cases hs
 · cases hs
def ΓS0 (kn:TW->Nat->RW) (j:Nat):Gam:=specG 8 (pickS j) (anyΓ 29 valSp (anyΓ 30 (knoSp kn) (anyΓ 31 (turnV setSV) (anyΓ 32 (turnQ setSQ) (anyΓ 36 lay3V (anyΓ 37 lay3Q (anyΓ 40 (turnV doS) (anyΓ 43 (turnQ doSQ) (stΓ 33 setS (stΓ 34 setS (stΓ 44 stoS (stΓ 45 stoS (newΓ 25 (newS1 newVF.t) (newΓ 26 (newS1 newQF.t) (newΓ 27 newS (newΓ 28 newS ΓL))))))))))))))))
theorem ΓS0_ok {kn:TW->Nat->RW} (hk:AnyOK Tryz.prog 30 (knoSp kn)) {j:Nat} (hj:j<9):ΓOK Tryz.prog (ΓS0 kn j):=
 pickS_ok hj (anyΓ_ok val29_ok (anyΓ_ok hk (anyΓ_ok set31_ok (anyΓ_ok set32_ok (anyΓ_ok lay3V_ok (anyΓ_ok lay3Q_ok (anyΓ_ok do40_ok (anyΓ_ok do43_ok (set33_ok (set34_ok (sto_ok (sto22_ok (new25_ok (new26_ok (new_ok (new22_ok ΓL_ok))))))))))))))))
def c7:Code:=bodyOf Tryz.prog 7
def y0:Code:=c7.sA
def y1:Code:=c7.sB.sA
def y2:Code:=c7.sB.sB.sA
def y3:Code:=c7.sB.sB.sB.sA
def y4:Code:=c7.sB.sB.sB.sB.sA
def y5:Code:=c7.sB.sB.sB.sB.sB.sA.sA
def yL:Code:=c7.sB.sB.sB.sB.sB.sA.sB.inn.inn
def y39:Code:=c7.sB.sB.sB.sB.sB.sB
theorem c7_eq:c7 = .seq y0 (.seq y1 (.seq y2 (.seq y3 (.seq y4 (.seq (.seq y5 (.block 0 (.loop yL))) y39))))):=by kernel_rfl
def yh:Code:=yL.sA
def yB:Code:=yL.sB.sA.inn
def yi:Code:=yL.sB.sB
theorem yL_eq:yL = .seq yh (.seq (.block 1 yB) yi):=by kernel_rfl
def y8:Code:=yB.sA
def y9:Code:=yB.sB.sA
def y10:Code:=yB.sB.sB.sA
def y11:Code:=yB.sB.sB.sB.sA
def y16:Code:=yB.sB.sB.sB.sB.sA
def y17:Code:=yB.sB.sB.sB.sB.sB.sA
def y28:Code:=yB.sB.sB.sB.sB.sB.sB.sA
def y29:Code:=yB.sB.sB.sB.sB.sB.sB.sB
theorem yB_eq:yB = .seq y8 (.seq y9 (.seq y10 (.seq y11 (.seq y16 (.seq y17 (.seq y28 y29)))))):=by kernel_rfl
def fp7:Fp:=⟨664613997897444755462317612556353523,158,66,fun _ _=>none⟩
def ev7 (kn:TW->Nat->RW) (j:Nat) (c:Code) (l:List (Nat×V)) (ms:List (Nat×Blk)) (n:Nat):Out:=evalC cxK (evalF cxK (ΓS0 kn j) 400 20) fp7 400 c (stOf l (hM ms n))
def mD (n:Nat) (D:DF) (nt:Nat) (F:TF):List (Nat×Blk):=[(0,⟨false,D.arr n⟩),(1,⟨false,F.arr nt⟩)]
def mS (n:Nat) (D:DF) (nt:Nat) (F:TF) (s:VF) (q:QF) (f g:FSt):List (Nat×Blk):=mD n D nt F++[(2,⟨true,s.t⟩),(3,⟨true,q.t⟩),(4,⟨true,f.t⟩),(5,⟨true,g.t⟩)]
abbrev slT (nt:Nat):V:=one (.sl 1 [] 8 (.lit 0) (.sym nt) none)
def vA (n nt:Nat):List (Nat×V):=[(0,slD n),(1,slT nt)]
def vS (n nt:Nat):List (Nat×V):=[(0,slD n),(1,slT nt),(8,pt 2),(9,pt 3),(10,pt 4),(11,pt 5)]
def vI (n nt:Nat) (i:A):List (Nat×V):=vS n nt++[(12,one i)]
section
variable (kn:TW->Nat->RW) (n:Nat) (D:DF) (nt:Nat) (F:TF) (s:VF) (q:QF) (f g:FSt) (i:U)
theorem y0_ev:endM fp7.km [0,1] [0,1] 2 (ev7 kn 0 y0 (vA n nt) (mD n D nt F) 2).pick=some ⟨.nrm,.tt,vA n nt,mD n D nt F⟩:=by kernel_rfl
theorem y1_ev:endM fp7.km [0,1,8] [0,1,2] 3 (ev7 kn 0 y1 (vA n nt) (mD n D nt F) 2).pick=some ⟨.nrm,.tt,vA n nt++[(8,pt 2)],mD n D nt F++[(2,⟨true,newVF.t⟩)]⟩:=by kernel_rfl
theorem y2_ev:endM fp7.km [0,1,8,9] [0,1,2,3] 4 (ev7 kn 0 y2 (vA n nt++[(8,pt 2)]) (mD n D nt F++[(2,⟨true,newVF.t⟩)]) 3).pick=some ⟨.nrm,.tt,vA n nt++[(8,pt 2),(9,pt 3)],mD n D nt F++[(2,⟨true,newVF.t⟩),(3,⟨true,newQF.t⟩)]⟩:=by kernel_rfl
theorem y3_ev:endM fp7.km [0,1,8,9,10] [0,1,2,3,4] 5 (ev7 kn 0 y3 (vA n nt++[(8,pt 2),(9,pt 3)]) (mD n D nt F++[(2,⟨true,newVF.t⟩),(3,⟨true,newQF.t⟩)]) 4).pick=some ⟨.nrm,.tt,vA n nt++[(8,pt 2),(9,pt 3),(10,pt 4)],mD n D nt F++[(2,⟨true,newVF.t⟩),(3,⟨true,newQF.t⟩),(4,⟨true,newFS.t⟩)]⟩:=by kernel_rfl
theorem y4_ev:endM fp7.km [0,1,8,9,10,11] [0,1,2,3,4,5] 6 (ev7 kn 0 y4 (vA n nt++[(8,pt 2),(9,pt 3),(10,pt 4)]) (mD n D nt F++[(2,⟨true,newVF.t⟩),(3,⟨true,newQF.t⟩),(4,⟨true,newFS.t⟩)]) 5).pick=some ⟨.nrm,.tt,vS n nt,mS n D nt F newVF newQF newFS newFS⟩:=by kernel_rfl
theorem y5_ev:endM fp7.km [0,1,8,9,10,11,12] [0,1,2,3,4,5] 6 (ev7 kn 0 y5 (vS n nt) (mS n D nt F s q f g) 6).pick=some ⟨.nrm,.tt,vI n nt (.lit .i64 0),mS n D nt F s q f g⟩:=by kernel_rfl
theorem yi_ev:endM fp7.km [0,1,8,9,10,11,12] [0,1,2,3,4,5] 6 (ev7 kn 0 yi (vI n nt (.i .i64 i)) (mS n D nt F s q f g) 6).pick=some ⟨.nrm,.tt,vI n nt (.i .i64 (i+K 1)),mS n D nt F s q f g⟩:=by kernel_rfl
theorem yh_c:(ev7 kn 0 yh (vI n nt (.i .i64 i)) (mS n D nt F s q f g) 6).cnd=some (BitVec.slt i (kk nt)):=by kernel_rfl
theorem yh_t:endM fp7.km [0,1,8,9,10,11,12] [0,1,2,3,4,5] 6 ((ev7 kn 0 yh (vI n nt (.i .i64 i)) (mS n D nt F s q f g) 6).at true)=some ⟨.nrm,.b (Nat.blt nt (2 ^ 63)),vI n nt (.i .i64 i),mS n D nt F s q f g⟩:=by kernel_rfl
theorem yh_f:endM fp7.km [0,1,8,9,10,11] [0,1,2,3,4,5] 6 ((ev7 kn 0 yh (vI n nt (.i .i64 i)) (mS n D nt F s q f g) 6).at false)=some ⟨.exit 0,.b (Nat.blt nt (2 ^ 63)),vS n nt,mS n D nt F s q f g⟩:=by kernel_rfl
end
def cutP (w:U):U:=cond (BitVec.slt (K 10) (cond (BitVec.slt (K 25) w) (K 25) w)) (cond (BitVec.slt (K 25) w) (K 25) w) (K 10)
def placeU (w:U):U:=K (-8)*(cutP w-K 9)
def list8 (x:U):List U:=[x>>>(K 0).toNat,x>>>(K 8).toNat,x>>>(K 16).toNat,x>>>(K 24).toNat,x>>>(K 32).toNat,x>>>(K 40).toNat,x>>>(K 48).toNat,x>>>(K 56).toNat]
def bytC (x:U) (j:Nat):Nat->U:=fun i=>((list8 x).take j).getD i (K 0)
def atV (w:U):VW:=⟨K 3,placeU w,K 0,K 0⟩
def mT (n:Nat) (D:DF) (nt:Nat) (F:TF) (s:VF) (q:QF) (f g:FSt) (t:TW):List (Nat×Blk):=mS n D nt F s q f g++[(6,⟨true,t.t⟩)]
def mV (n:Nat) (D:DF) (nt:Nat) (F:TF) (s:VF) (q:QF) (f g:FSt) (t:TW) (v:VW):List (Nat×Blk):=mS n D nt F s q f g++[(6,⟨true,t.t⟩),(7,⟨true,v.t⟩)]
def mB (n:Nat) (D:DF) (nt:Nat) (F:TF) (s:VF) (q:QF) (f g:FSt) (t:TW) (v:VW) (k:RW):List (Nat×Blk):=mS n D nt F s q f g++[(6,⟨true,t.t⟩),(7,⟨true,v.t⟩),(8,⟨true,k.t⟩)]
def vB3 (n nt:Nat) (i:A):List (Nat×V):=vI n nt i++[(13,pt 6),(14,pt 7),(15,pt 8)]
def vB4 (n nt:Nat) (i:A) (j:Nat):List (Nat×V):=vB3 n nt i++[(16,one (.lit .i64 (.ofNat j)))]
section
variable (kn:TW->Nat->RW) (n:Nat) (D:DF) (nt:Nat) (F:TF) (s:VF) (q:QF) (f g:FSt) (i:U) (t:TW) (v:VW) (k:RW)
theorem y8_ev:endM fp7.km [0,1,8,9,10,11,12,13] [0,1,2,3,4,5,6] 7 (ev7 kn 0 y8 (vI n nt (.i .i64 i)) (mS n D nt F s q f g) 6).pick=some ⟨.nrm,.b (vB i nt&&Nat.blt (0+i.toNat) nt),vI n nt (.i .i64 i)++[(13,pt 6)],mT n D nt F s q f g (F.at (0+i.toNat))⟩:=by kernel_rfl
theorem y9_ev:endM fp7.km [0,1,8,9,10,11,12,13,14] [0,1,2,3,4,5,6,7] 8 (ev7 kn 0 y9 (vI n nt (.i .i64 i)++[(13,pt 6)]) (mT n D nt F s q f g t) 7).pick=some ⟨.nrm,.b (okH t n (Nat.beq n n)),vI n nt (.i .i64 i)++[(13,pt 6),(14,pt 7)],mV n D nt F s q f g t (valW t n)⟩:=by kernel_rfl
theorem y10_ev:endM fp7.km [0,1,8,9,10,11,12,13,14,15] [0,1,2,3,4,5,6,7,8] 9 (ev7 kn 0 y10 (vI n nt (.i .i64 i)++[(13,pt 6),(14,pt 7)]) (mV n D nt F s q f g t v) 8).pick=some ⟨.nrm,.b (okH t n (Nat.beq n n)),vB3 n nt (.i .i64 i),mB n D nt F s q f g t v (kn t n)⟩:=by kernel_rfl
theorem y11_c:(ev7 kn 0 y11 (vB3 n nt (.i .i64 i)) (mB n D nt F s q f g t v k) 9).cnd=some (BitVec.slt t.w (K 10)):=by kernel_rfl
theorem y11_t:endM fp7.km [0,1,8,9,10,11,12] [0,1,2,3,4,5] 6 ((ev7 kn 0 y11 (vB3 n nt (.i .i64 i)) (mB n D nt F s q f g t v k) 9).at true)=some ⟨.exit 1,.tt,vI n nt (.i .i64 i),mS n D nt F (setVF s t.w v) (setQF q t.w v) (setFS f t.w k) (setFS g t.w k)⟩:=by kernel_rfl
theorem y11_f:endM fp7.km [0,1,8,9,10,11,12,13,14,15] [0,1,2,3,4,5,6,7,8] 9 ((ev7 kn 0 y11 (vB3 n nt (.i .i64 i)) (mB n D nt F s q f g t v k) 9).at false)=some ⟨.nrm,.tt,vB3 n nt (.i .i64 i),mB n D nt F s q f g t v k⟩:=by kernel_rfl
theorem y16_ev (j:Nat):endM fp7.km [0,1,8,9,10,11,12,13,14,15,16] [0,1,2,3,4,5,6,7,8] 9 (ev7 kn j y16 (vB3 n nt (.i .i64 i)) (mB n D nt F s q f g t v k) 9).pick=some ⟨.nrm,.b (pickU t.b (K 9)==kk j),vB4 n nt (.i .i64 i) j,mB n D nt F s q f g t v k⟩:=by kernel_rfl
theorem y17_0:endM fp7.km [0,1,8,9,10,11,12,13,14,15] [0,1,2,3,4,5,6,7,8] 9 (ev7 kn 0 y17 (vB4 n nt (.i .i64 i) 0) (mB n D nt F s q f g t v k) 9).pick=some ⟨.nrm,.tt,vB3 n nt (.i .i64 i),mB n D nt F s q f g t v k⟩:=by kernel_rfl
theorem y28_c:(ev7 kn 0 y28 (vB3 n nt (.i .i64 i)) (mB n D nt F s q f g t v k) 9).cnd=some (v.k==K 0):=by kernel_rfl
theorem y28_t:endM fp7.km [0,1,8,9,10,11,12] [0,1,2,3,4,5] 6 ((ev7 kn 0 y28 (vB3 n nt (.i .i64 i)) (mB n D nt F s q f g t v k) 9).at true)=some ⟨.exit 1,.tt,vI n nt (.i .i64 i),mS n D nt F s q f g⟩:=by kernel_rfl
theorem y28_f:endM fp7.km [0,1,8,9,10,11,12,13,14,15] [0,1,2,3,4,5,6,7,8] 9 ((ev7 kn 0 y28 (vB3 n nt (.i .i64 i)) (mB n D nt F s q f g t v k) 9).at false)=some ⟨.nrm,.tt,vB3 n nt (.i .i64 i),mB n D nt F s q f g t v k⟩:=by kernel_rfl
def dvA (s:VF) (w:U) (v:VW):VF:=setVF s (K 9) v
def dvB (s:VF) (w:U) (v:VW):VF:=stoVR (dvA s w v) (slotN (placeU w)) ((dvA s w v).regs.at 9)
def dvC (s:VF) (w:U) (v:VW):VF:=setVF (dvB s w v) (K 9) (s.regs.at 9)
def dqA (q:QF) (w:U) (v:VW):QF:=setQF q (K 9) v
def dqB (q:QF) (w:U) (v:VW):QF:=doQ (dqA q w v) (placeU w)
def dqC (q:QF) (w:U) (v:VW):QF:=setQF (dqB q w v) (K 9) (q.regs.at 9)
theorem y29_ev:endM fp7.km [0,1,8,9,10,11,12] [0,1,2,3,4,5] 6 (ev7 kn 0 y29 (vB3 n nt (.i .i64 i)) (mB n D nt F s q f g t v k) 9).pick=some ⟨.nrm,.b ((((isSlot (placeU t.w)&&okDo (dvA s t.w v) (slotN (placeU t.w)))&&okQ (dqA q t.w v) (placeU t.w))&&isSlot (placeU t.w))&&isSlot (placeU t.w)),vI n nt (.i .i64 i),mS n D nt F (dvC s t.w v) (dqC q t.w v) (stoK f (slotN (placeU t.w)) k) (stoK g (slotN (placeU t.w)) k)⟩:=by kernel_rfl
end
theorem y17_j (kn:TW->Nat->RW) (n:Nat) (D:DF) (nt:Nat) (F:TF) (s:VF) (q:QF) (f g:FSt) (i:U) (t:TW) (v:VW) (k:RW):∀j:Nat,0<j->j<9->endM fp7.km [0,1,8,9,10,11,12] [0,1,2,3,4,5] 6 (ev7 kn j y17 (vB4 n nt (.i .i64 i) j) (mB n D nt F s q f g t v k) 9).pick=some ⟨.exit 1,.tt,vI n nt (.i .i64 i),mS n D nt F (layVR s (atV t.w) (bytC t.v j) j) (layQR q (atV t.w) (bytC t.v j) j) (layR f (placeU t.w) (K j)) (lay22R g (placeU t.w) (K j))⟩
 | 0,h,_=>absurd h (by decide)|1,_,_=>by kernel_rfl|2,_,_=>by kernel_rfl|3,_,_=>by kernel_rfl|4,_,_=>by kernel_rfl|5,_,_=>by kernel_rfl|6,_,_=>by kernel_rfl|7,_,_=>by kernel_rfl|8,_,_=>by kernel_rfl|n+9,_,h=>absurd h (by omega)
theorem KtoInt {n:Int} (h : -1000000≤n/\n≤1000000):(K n).toInt=n:=by
 rw [K,BitVec.toInt_ofInt];simp only [Int.bmod_def];split<;>omega
theorem pick_lt (n:Nat) (hn:0<n) (hb:n<1000000) (x:U):(pickU x (K n)).toNat<n:=by
 have hr:(BitVec.srem x (K n)).toInt=x.toInt.tmod n:=by rw [BitVec.toInt_srem,KtoInt (by omega)]
 have h1:x.toInt.tmod n<n:=Int.tmod_lt_of_pos _ (by omega)
 have h2 : -(n:Int)<x.toInt.tmod n:=by
  have:=Int.lt_tmod_of_pos x.toInt (b:=n) (by omega)
  omega
 have hn1:BitVec.slt (K n) (K 1)=false:=by
  rw [BitVec.slt,decide_eq_false_iff_not,KtoInt (by omega),KtoInt (by omega)]
  omega
 unfold pickU;rw [hn1,cond_false];have hs:BitVec.slt (BitVec.srem x (K n)) (K 0)=decide (x.toInt.tmod n<0):=by rw [BitVec.slt,hr,KtoInt (by omega)]
 rw [hs];by_cases h:x.toInt.tmod n<0
 · simp only [h,decide_true,cond_true];have e:(BitVec.srem x (K n)+K n).toInt=x.toInt.tmod n+n:=by
    rw [BitVec.toInt_add,hr,KtoInt (n:=(n:Int)) (by omega)]
    simp only [Int.bmod_def];split<;>omega
   have h3:=BitVec.toInt_eq_toNat_cond (BitVec.srem x (K n)+K n);have h4:=(BitVec.srem x (K n)+K n).isLt;split at h3<;>omega
 · simp only [h,decide_false,cond_false];have h3:=BitVec.toInt_eq_toNat_cond (BitVec.srem x (K n));have h4:=(BitVec.srem x (K n)).isLt;split at h3<;>omega
theorem kk_back (x:U):kk x.toNat=x:=by unfold kk;simp
theorem place_slot:∀c:Fin 16,isSlot (K (-8)*(K (10+c.val:Nat)-K 9))=true:=by decide +kernel
theorem cut_range (w:U):∃c:Fin 16,cutP w=K (10+c.val:Nat):=by
 unfold cutP;have e10:(K 10).toInt=10:=rfl;have e25:(K 25).toInt=25:=rfl;by_cases h:w.toInt≤25
 · have h1:BitVec.slt (K 25) w=false:=by rw [BitVec.slt,decide_eq_false_iff_not,e25];omega
   rw [h1,cond_false];by_cases h2:10<w.toInt
   · have h3:BitVec.slt (K 10) w=true:=by rw [BitVec.slt,decide_eq_true_eq,e10];omega
     rw [h3,cond_true];refine ⟨⟨(w.toInt-10).toNat,by omega⟩,BitVec.eq_of_toInt_eq ?_⟩
     rw [KtoInt (by simp only;omega)]
     simp only;omega
   · have h3:BitVec.slt (K 10) w=false:=by rw [BitVec.slt,decide_eq_false_iff_not,e10];omega
     rw [h3,cond_false];exact ⟨0,rfl⟩
 · have h1:BitVec.slt (K 25) w=true:=by rw [BitVec.slt,decide_eq_true_eq,e25];omega
   rw [h1,cond_true];exact ⟨15,rfl⟩
theorem place_ok (w:U):isSlot (placeU w)=true:=by
 obtain ⟨c,hc⟩:=cut_range w;unfold placeU;rw [hc];exact place_slot c
def stepV (n:Nat) (t:TW) (s:VF):VF:=cond (BitVec.slt t.w (K 10)) (setVF s t.w (valW t n)) (match (pickU t.b (K 9)).toNat with
 | 0=>cond ((valW t n).k==K 0) s (dvC s t.w (valW t n))
 | j+1=>layVR s (atV t.w) (bytC t.v (j+1)) (j+1))
def stepQ (n:Nat) (t:TW) (s:QF):QF:=cond (BitVec.slt t.w (K 10)) (setQF s t.w (valW t n)) (match (pickU t.b (K 9)).toNat with
 | 0=>cond ((valW t n).k==K 0) s (dqC s t.w (valW t n))
 | j+1=>layQR s (atV t.w) (bytC t.v (j+1)) (j+1))
def stepF (kn:TW->Nat->RW) (n:Nat) (t:TW) (s:FSt):FSt:=cond (BitVec.slt t.w (K 10)) (setFS s t.w (kn t n)) (match (pickU t.b (K 9)).toNat with
 | 0=>cond ((valW t n).k==K 0) s (stoK s (slotN (placeU t.w)) (kn t n))
 | j+1=>layR s (placeU t.w) (K ((j+1:Nat):Int)))
structure StI (s:VF) (q:QF) (f:FSt):Prop where
 rel:Rel23 s q
 r10:r10B (s.regs.at 10)=true
 inv:InvS f
theorem setR_at10 (f:VV) (x:U) (v:VW):(setR f x v).at 10=f.at 10:=by
 unfold setR;cases h:outV x
 · show (f.set x.toNat v).at 10=f.at 10;rw [set_k,if_neg];intro e;unfold outV at h;cases h1:BitVec.slt x (K 0)
   · rw [h1,cond_false] at h;have hx:x=K 10:=by
      apply BitVec.eq_of_toNat_eq;rw [← e];rfl
     rw [hx] at h;exact absurd h (by decide)
   · rw [h1,cond_true] at h;cases h
 · rfl
theorem layVN_regs (s:VF) (b:Nat) (c:Nat->U):∀n,(layVN s b c n).regs=s.regs
 | 0=>rfl
 | n+1=>layVN_regs s b c n
theorem layVR_regs (s:VF) (v:VW) (c:Nat->U) (n:Nat):(layVR s v c n).regs=s.regs:=by
 unfold layVR;cases stackE v n==K 0
 · rfl
 · exact layVN_regs _ _ _ _
theorem stoVR_regs (s:VF) (k:Nat) (v:VW):(stoVR s k v).regs=s.regs:=by
 unfold stoVR;cases isPt v
 · exact layVN_regs _ _ _ _
 · rfl
theorem set9_at9 (f:VV) (v:VW):(setR f (K 9) v).at 9=v:=by
 show (f.set 9 v).at 9=v;rw [set_k,if_pos rfl]
theorem slot_lt (w:U):slotN (placeU w)<16:=by
 obtain ⟨k,hk,_,e⟩:=isSlot_some (place_ok w);rw [e];exact hk
theorem doQ_eq {q:QF} {v:VW} (hr:r10B (q.regs.at 10)=true) (hv:v.k≠K 0) (w:U):dqB q w v=stoQR (dqA q w v) (slotN (placeU w)) v:=by
 unfold dqB doQ;have e10:(dqA q w v).regs.at 10=q.regs.at 10:=setR_at10 _ _ _;have e9:(dqA q w v).regs.at 9=v:=set9_at9 _ _;rw [← e10] at hr;unfold r10B at hr;simp only [bA,beq_iff_eq] at hr;obtain ⟨h1,h2,_⟩:=hr;have h1:(dqA q w v).regs.k 10=K 3:=h1;have h2:(dqA q w v).regs.n 10=K 0:=h2;have h9:(dqA q w v).regs.k 9=v.k:=congrArg VW.k e9;have n9:(v.k==K 0)=false:=by simpa using hv
 have z:K 0+placeU w=placeU w:=by show 0#64+_=_;rw [BitVec.zero_add]
 rw [h1,h2,h9,n9,e9,z];rfl
theorem okB_do {s:VF} {v:VW} (hr:r10B (s.regs.at 10)=true) (hv:v.k≠K 0) (w:U):okDo (dvA s w v) (slotN (placeU w))=true:=by
 have e10:(dvA s w v).regs.at 10=s.regs.at 10:=setR_at10 _ _ _;have e9:(dvA s w v).regs.at 9=v:=set9_at9 _ _;have h9:(dvA s w v).regs.k 9=v.k:=congrArg VW.k e9;have n9:(v.k != K 0)=true:=bne_iff_ne.2 hv;have hk:=slot_lt w;have q1:Nat.ble (8*slotN (placeU w)+8) 128=true:=nB (by omega)
 unfold okDo;rw [e9,e10,h9,hr,n9,q1];cases isPt v<;>rfl
theorem okB_dq {q:QF} {v:VW} (hr:r10B (q.regs.at 10)=true) (hv:v.k≠K 0) (w:U):okQ (dqA q w v) (placeU w)=true:=by
 unfold okQ;have e10:(dqA q w v).regs.at 10=q.regs.at 10:=setR_at10 _ _ _;have e9:(dqA q w v).regs.at 9=v:=set9_at9 _ _;rw [← e10] at hr;unfold r10B at hr;simp only [bA,beq_iff_eq] at hr;obtain ⟨h1,h2,_⟩:=hr;have h1:(dqA q w v).regs.k 10=K 3:=h1;have h2:(dqA q w v).regs.n 10=K 0:=h2;have h9:(dqA q w v).regs.k 9=v.k:=congrArg VW.k e9;have n9:(v.k==K 0)=false:=by simpa using hv
 have z:K 0+placeU w=placeU w:=by show 0#64+_=_;rw [BitVec.zero_add]
 have hk:=slot_lt w;have q1:Nat.ble (8*slotN (placeU w)+8) 128=true:=nB (by omega)
 rw [h1,h2,h9,n9,e9,z,place_ok];unfold okDQ;rw [q1];cases v.k != K 1<;>rfl
theorem kd_kno {kn:TW->Nat->RW} (hk:∀t n,(kn t n).k=kdU t.k) (t:TW) (n:Nat) (h:((valW t n).k==K 0)=false):(kn t n).k≠K 0:=by
 rw [hk];intro e;have:(kdU t.k==K 0)=false:=h;rw [e] at this;exact absurd this (by decide)
theorem step_I {kn:TW->Nat->RW} (hk:∀t n,(kn t n).k=kdU t.k) {s:VF} {q:QF} {f:FSt} (h:StI s q f) (n:Nat) (t:TW):StI (stepV n t s) (stepQ n t q) (stepF kn n t f):=by
 unfold stepV stepQ stepF;cases BitVec.slt t.w (K 10)
 · simp only [cond_false];have hj:(pickU t.b (K 9)).toNat<9:=pick_lt 9 (by omega) (by omega) _
   cases e:(pickU t.b (K 9)).toNat with
   | zero=>
     simp only;cases hv:(valW t n).k==K 0
     · simp only [cond_false];have hv':(valW t n).k≠K 0:=by simpa using hv
       have hq10:r10B (q.regs.at 10)=true:=by rw [h.rel.regs];exact h.r10
       refine ⟨?_,?_,inv_sto h.inv (kd_kno hk t n hv)⟩
       · unfold dvC dqC;rw [doQ_eq hq10 hv',h.rel.regs];refine rel_set ?_ _ _;unfold dvB;have e9:(dvA s t.w (valW t n)).regs.at 9=valW t n:=set9_at9 _ _;rw [e9];exact rel_sto (rel_set h.rel _ _) (slot_lt _) hv'
       · show r10B ((setR (dvB s t.w (valW t n)).regs (K 9) (s.regs.at 9)).at 10)=true;rw [setR_at10];unfold dvB;rw [stoVR_regs];show r10B ((setR s.regs (K 9) (valW t n)).at 10)=true;rw [setR_at10];exact h.r10
     · exact h
   | succ j=>
     simp only;refine ⟨rel_layR h.rel _ _ ?_,by rw [layVR_regs];exact h.r10,inv_layR h.inv _ _⟩
     rw [e] at hj;have:∀j:Fin 9,0<j.val->isLn j.val=true:=by decide
     exact this ⟨j+1,hj⟩ (Nat.succ_pos _)
 · refine ⟨rel_set h.rel _ _,?_,inv_setFS h.inv _ _⟩;show r10B ((setR s.regs t.w _).at 10)=true;rw [setR_at10];exact h.r10
def foldV (n:Nat) (F:TF):Nat->VF
 | 0=>newVF
 | i+1=>stepV n (F.at i) (foldV n F i)
def foldQ (n:Nat) (F:TF):Nat->QF
 | 0=>newQF
 | i+1=>stepQ n (F.at i) (foldQ n F i)
def foldF (kn:TW->Nat->RW) (n:Nat) (F:TF):Nat->FSt
 | 0=>newFS
 | i+1=>stepF kn n (F.at i) (foldF kn n F i)
theorem fold_I {kn:TW->Nat->RW} (hk:∀t n,(kn t n).k=kdU t.k) (n:Nat) (F:TF):∀i,StI (foldV n F i) (foldQ n F i) (foldF kn n F i)
 | 0=>⟨rel_new,rfl,inv_new⟩
 | i+1=>step_I hk (fold_I hk n F i) n _
def nu3 (r b off:Nat):Nu:=fun i=>if i=0 then some (r,0) else if i=1\/i=2 then some (b,off) else none
theorem nu3_some {r b off i B o:Nat} (h:nu3 r b off i=some (B,o)):(i=0/\B=r/\o=0)\/((i=1\/i=2)/\B=b/\o=off):=by
 unfold nu3 at h;split at h
 · simp at h;exact .inl ⟨by assumption,h.1.symm,h.2.symm⟩
 · split at h
   · simp at h;exact .inr ⟨by assumption,h.1.symm,h.2.symm⟩
   · cases h
theorem get_mP {t:T} {n:Nat} {D:DF} {i:Nat} {x:Blk} (e:(hM (mP t n D) 3).m.get i=some x):(i=0/\x=⟨true,t⟩)\/(i=1/\x=⟨false,D.arr n⟩)\/(i=2/\x=⟨false,.lst 7777 []⟩):=by
 have:=get_memT _ i x e;unfold mP at this;simp only [List.mem_cons,List.not_mem_nil,or_false,pI] at this;exact this
theorem mem_p3 {w:World} {r b off n:Nat} {t:T} {D:DF} (hne:r≠b) (h0:Holds w r t) (h1:HoldsAt w b off (D.arr n)):Mem (fun _=>True) (nu3 r b off) w (hM (mP t n D) 3):=by
 refine ⟨⟨fun i r' b' e => ?_,fun i x e hrw i' r' b1 b2 e1 e2 => ?_,fun i hi => ?_,fun i x e => ?_,Nat.le_refl _,fun g hg=>(by cases hg)⟩,fun i x e _ => ?_⟩
 · rcases nu3_some e with ⟨_,rfl,_⟩|⟨_,rfl,_⟩
   · exact h0.lt
   · exact h1.lt
 · rcases get_mP e with ⟨rfl,rfl⟩|⟨_,rfl⟩|⟨_,rfl⟩
   · rcases nu3_some e1 with ⟨_,rfl,_⟩|⟨h,_⟩
     · rcases nu3_some e2 with ⟨h,_⟩|⟨_,h,_⟩
       · exact h
       · exact absurd h hne
     · omega
   · cases hrw
   · cases hrw
 · have hi:3≤i:=hi;unfold nu3;rw [if_neg (by omega),if_neg (by omega)]
 · rcases get_mP e with ⟨rfl,_⟩|⟨rfl,_⟩|⟨rfl,_⟩<;>(show _<3;decide)
 · rcases get_mP e with ⟨rfl,rfl⟩|⟨rfl,rfl⟩|⟨rfl,rfl⟩
   · obtain ⟨cs,ty,vs,post,q1,q2,q3⟩:=h0;exact .inl ⟨r,0,cs,ty,(0,0),[],vs,post,by simp [nu3],q1,by simpa using q2,rfl,T.rel_mono (fun i p e=>by cases e) q3,fun _=>⟨rfl,rfl⟩⟩
   · obtain ⟨cs,ty,fr,pre,vs,post,q1,q2,q3,q4⟩:=h1;exact .inl ⟨b,off,cs,ty,fr,pre,vs,post,by simp [nu3],q1,q2,q3,T.rel_mono (fun i p e=>by cases e) q4,fun h=>by cases h⟩
   · obtain ⟨cs,ty,fr,pre,vs,post,q1,q2,q3,q4⟩:=h1;exact .inl ⟨b,off,cs,ty,fr,pre,[],vs++post,by simp [nu3],q1,by simpa using q2,q3,by simp [T.rel,relLst],fun h=>by cases h⟩
def pOp (po:PO) (l:Value):Value :=.agg #[.int .i64 (vof .i64 po.op),.int .u64 (vof .u64 po.key),l,.int .i64 (vof .i64 po.flag),.int .i64 (vof .i64 po.cpu)]
def PlanP (w:World) (po:PO) (e:Ending) (w':World):Prop:=Below w.heap.size w w'/\match po.val with
 | none=>e = .returned (.tuple #[.int .i64 (vof .i64 po.m),pOp po (.slice none 0 0),.int .i64 (vof .i64 po.code)])
 | some (k,g)=>∃B c,w.heap.size≤B/\k≤c/\e = .returned (.tuple #[.int .i64 (vof .i64 po.m),pOp po (.slice (some ⟨B,0,none⟩) k c),.int .i64 (vof .i64 po.code)])/\Holds w' B (.arr 1 (.lit k) (.int .u64 g))
theorem plan_of {P:Program} {f:Nat} {args:List V} {t:T} {n:Nat} {D:DF} {R0:R} {po:PO} {ok:A} {ob:Ob} (hpk:R0.pq.pick=some (ok,[],ob)) (hR:ObR ob po) (hfn:∀v h',R0.pick=some (ok,v,h')->FnOK P f args (hM (mP t n D) 3) v h') (hpos:∀k g,po.val=some (k,g)->0<k)
 {w:World} {r b off:Nat} (hne:r≠b) (h0:Holds w r t) (h1:HoldsAt w b off (D.arr n)) {us:List Value} (ha:relV (nu3 r b off) args us):Calls P f us.toArray w (PlanP w po):=by
 obtain ⟨v,h',hp,hw,ho⟩:=pq_pick hpk;have hm:=mem_p3 hne h0 h1;refine (hfn v h' hp (fun _=>True) (nu3 r b off) w us (fun _ _=>trivial) (fun _ _=>trivial) hm ha).mono ?_;rintro e w' ⟨u,ν',rfl,hu,g⟩;have hb:Below w.heap.size w w':=⟨g.frm.os,g.frm.tape,g.frm.output,g.frm.size,fun r hr=>g.frm.block r hr fun id base hid=>by
  refine ⟨?_,by rw [hw];intro h;cases h⟩
  rw [g.ext.lo];show id<3;rcases nu3_some hid with ⟨rfl,_⟩|⟨rfl|rfl,_⟩<;>decide⟩
 refine ⟨hb,?_⟩;obtain ⟨m,op,key,flag,cpu,c,e1,r1,r2,r3,r4,r5,r6,r7⟩:=hR;unfold obsV at ho;split at ho
 · rename_i m0 op0 key0 val0 flag0 cpu0 c0;obtain ⟨xs,rfl,hx⟩:=hu
   match xs,hx with
   | ⟨[u1,u2,u3]⟩,hx=>
     obtain ⟨x1,x2,x3,_⟩:=hx;have x1:m0.rel ν' u1:=x1;have x3:c0.rel ν' u3:=x3;obtain ⟨vs,rfl,hst⟩:=x2;simp only [T.rel,relTs] at hst;obtain ⟨a1,b1,f1,⟨v1,rfl,y1,_⟩,a2,b2,f2,⟨v2,rfl,y2,_⟩,a3,b3,f3,⟨v3,rfl,y3,_⟩,a4,b4,f4,⟨v4,rfl,y4,_⟩,a5,b5,f5,⟨v5,rfl,y5,_⟩,f6⟩:=hst;subst f6;subst f5;subst f4;subst f3;subst f2;obtain ⟨vs⟩:=vs;have f1:vs=[v1,v2,v3,v4,v5]:=f1;subst f1;split at ho
     · cases ho;simp only at e1 r7;cases e1;cases hv:po.val with
       | none=>
         simp only;have y3:A.nils.rel ν' v3:=y3;simp only [A.rel] at y3;rw [i64Of_rel r1 x1,i64Of_rel r2 y1,u64Of_rel r3 y2,y3,i64Of_rel r4 y4,i64Of_rel r5 y5,i64Of_rel r6 x3];rfl
       | some p=>rw [hv] at r7;exact r7.elim
     · rename_i id w0;split at ho
       · rename_i t0 h3 hg;cases ho;simp only at e1 r7;cases e1;cases hv:po.val with
         | none=>rw [hv] at r7;exact r7.elim
         | some p=>
           obtain ⟨k,gg⟩:=p;rw [hv] at r7;obtain ⟨rfl,rfl⟩:=r7;have hk:=hpos _ _ hv;simp only;simp only [A.rel] at y3;obtain ⟨B,base,o,c',q1,rfl,q3,q4,q5⟩:=y3;have hsn:=g.mem.seen id _ hg (.inl trivial);obtain ⟨r',base',cs,ty,fr,pre,vs,post,z1,z2,z3,z4,z5,z6⟩:=hsn.cells rfl;rw [q1] at z1;cases z1;obtain ⟨rfl,rfl⟩:=z6 rfl;have hid:3≤id:=nL h3;have ho0:o=0:=by
            have q4':k≤c':=q4;have:=q3 (by omega)
            simpa [pathOff,Ix.val] using this
           subst ho0;refine ⟨B,c',g.new id B 0 ?_ q1,q4,?_,seen_holds hsn rfl rfl q1⟩
           · unfold nu3;rw [if_neg (by omega),if_neg (by omega)]
           · rw [i64Of_rel r1 x1,i64Of_rel r2 y1,u64Of_rel r3 y2,i64Of_rel r4 y4,i64Of_rel r5 y5,i64Of_rel r6 x3];rfl
       · cases ho
     · cases ho
 · cases ho
def OKD (n:Nat) (D:DF):Prop:=∀i,i<n->1≤(D.k i).toNat/\(D.k i).toNat≤10/\wOK (D.k i).toNat (D.w i).toNat=true
theorem Kof (x:U):K (x.toNat:Int)=x:=by
 rw [K,BitVec.ofInt_natCast];simp
theorem inM_nat {n:Nat} (hn:n≤10) {m:U} (h:inM n m=true):1≤m.toNat/\m.toNat≤n/\BitVec.msb (m-K 1)=false/\(m-K 1).toNat=m.toNat-1:=by
 unfold inM at h;cases h1:BitVec.sle (K 1) m
 · rw [h1] at h;cases h
 · rw [h1,cond_true] at h;rw [BitVec.sle,decide_eq_true_eq,KtoInt (by omega)] at h1
   have hk:(kk n).toInt=n:=by
    rw [BitVec.toInt_eq_toNat_cond,kk_nat (by omega)]
    split<;>omega
   rw [BitVec.sle,decide_eq_true_eq,hk] at h;have h2:=BitVec.toInt_eq_toNat_cond m;have h3:=m.isLt;have hm:m.toNat=m.toInt:=by split at h2<;>omega
   have e1:(K 1).toNat=1:=rfl;have hs:(m-K 1).toNat=m.toNat-1:=by rw [BitVec.toNat_sub,e1];omega
   refine ⟨by omega,by omega,?_,hs⟩
   rw [BitVec.msb_eq_decide,hs];simp only [decide_eq_false_iff_not];omega
def headF (n:Nat) (regs:VV) (po:PO):PO:=bif regs.k 1==K 0 then .err (K 15) else bif regs.k 1 != K 4 then .err (K 14) else bif !(inM n (regs.i 1)) then .err (K 18) else po
theorem headV_pick {regs:VV} {n:Nat} (hn:n≤10) {rest:PQ} {po:PO} (h:regs.k 1=K 4->inM n (regs.i 1)=true->Pk rest po):Pk (headV regs n rest) (headF n regs po):=by
 have h63:okB (.b (n63 n))=true:=nB (by omega)
 unfold headV headF;cases h0:regs.k 1==K 0
 · refine pk_f (by rw [bne,h0];rfl) ?_
   simp only [cond_false];cases h1:regs.k 1==K 4
   · have:(regs.k 1 != K 4)=true:=by rw [bne,h1];rfl
     simp only [this,cond_true];exact pk_t rfl (pk_err rfl rfl)
   · have:(regs.k 1 != K 4)=false:=by rw [bne,h1];rfl
     simp only [this,cond_false];refine pk_f rfl ?_;unfold inM;cases h2:BitVec.sle (K 1) (regs.i 1)
     · simp only [cond_false,Bool.not_false,cond_true];exact pk_f rfl (pk_err rfl rfl)
     · refine pk_t rfl ?_;cases h3:BitVec.sle (regs.i 1) (kk n)
       · simp only [cond_true,Bool.not_false];exact pk_t rfl (pk_err h63 rfl)
       · simp only [cond_true,Bool.not_true,cond_false];refine pk_f rfl (h (eq_of_beq h1) ?_);unfold inM;rw [h2,h3];rfl
 · simp only [cond_true];exact pk_t (by rw [bne,h0];rfl) (pk_err rfl rfl)
end Go.WE
end
