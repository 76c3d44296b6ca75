/- A part of a proof of the helpers' law; no condition of its own. -/
import Derived.Test.YtoeealkcacgcgaaGreatDoorK17
import Derived.Test.YtoeealkcacgcgaaGreatDoorK18
import Derived.Test.YtoeealkcacgcgaaGreatDoorK19
import Derived.Test.YtoeealkcacgcgaaGreatDoorK20
import Derived.Test.YtoeealkcacgcgaaGreatDoorK21
import Derived.Test.YtoeealkcacgcgaaGreatDoorK22
import Derived.Test.YtoeealkcacgcgaaGreatDoorK23
set_option linter.unusedVariables false
set_option maxRecDepth 100000
noncomputable section
namespace Go.WE
open Go Go.Proofs Go.RowKit
theorem evV_1 {S:Sel}:∀{j w op:Nat} {L:List Nat},argsOf 1 j=some (op,L)->wOK j w=true->selV L S=true->∃T,EvV S.b T j w 1 (restV S j w op L)
 | 0,w,op,L,h,_,_=>by cases h
 | 1,w,op,L,h,hw,hs=>by
   cases h;obtain rfl:=w_one hw;cases S with
    | all=>exact ⟨_,v1_1_1_all⟩
    | e0=>exact ⟨_,v1_1_1_e0⟩
    | e1=>cases hs
    | nr=>cases hs
 | 2,w,op,L,h,hw,hs=>by
   cases h;obtain rfl:=w_one hw;cases S with
    | all=>exact ⟨_,v1_2_1_all⟩
    | e0=>exact ⟨_,v1_2_1_e0⟩
    | e1=>cases hs
    | nr=>cases hs
 | 3,w,op,L,h,_,_=>by cases h
 | 4,w,op,L,h,hw,hs=>by
   cases h;obtain rfl:=w_one hw;cases S with
    | all=>exact ⟨_,v1_4_1_all⟩
    | e0=>exact ⟨_,v1_4_1_e0⟩
    | e1=>cases hs
    | nr=>cases hs
 | 5,w,op,L,h,hw,hs=>by
   cases h;obtain rfl:=w_one hw;cases S with
    | all=>exact ⟨_,v1_5_1_all⟩
    | e0=>exact ⟨_,v1_5_1_e0⟩
    | e1=>cases hs
    | nr=>cases hs
 | 6,w,op,L,h,_,_=>by cases h
 | 7,w,op,L,h,_,_=>by cases h
 | 8,w,op,L,h,_,_=>by cases h
 | 9,w,op,L,h,hw,hs=>by
   cases h;obtain rfl:=w_one hw;cases S with
    | all=>exact ⟨_,v1_9_1_all⟩
    | e0=>exact ⟨_,v1_9_1_e0⟩
    | e1=>cases hs
    | nr=>cases hs
 | 10,w,op,L,h,hw,hs=>by
   cases h;obtain rfl:=w_one hw;cases S with
    | all=>exact ⟨_,v1_10_1_all⟩
    | e0=>exact ⟨_,v1_10_1_e0⟩
    | e1=>cases hs
    | nr=>cases hs
 | j+11,w,op,L,h,_,_=>by cases h
theorem evVn_1:∀{j:Nat},1≤j->j≤10->argsOf 1 j=none->EvV true 1000 j 1 1 (noneV j)
 | 0,h,_,_=>absurd h (by decide)
 | 1,_,_,h=>by cases h
 | 2,_,_,h=>by cases h
 | 3,_,_,h=>v1_3_n
 | 4,_,_,h=>by cases h
 | 5,_,_,h=>by cases h
 | 6,_,_,h=>v1_6_n
 | 7,_,_,h=>v1_7_n
 | 8,_,_,h=>v1_8_n
 | 9,_,_,h=>by cases h
 | 10,_,_,h=>by cases h
 | j+11,_,h,_=>absurd h (by omega)
theorem evV_2 {S:Sel}:∀{j w op:Nat} {L:List Nat},argsOf 2 j=some (op,L)->wOK j w=true->selV L S=true->∃T,EvV S.b T j w 2 (restV S j w op L)
 | 0,w,op,L,h,_,_=>by cases h
 | 1,w,op,L,h,hw,hs=>by
   cases h;obtain rfl:=w_one hw;cases S with
    | all=>exact ⟨_,v2_1_1_all⟩
    | e0=>exact ⟨_,v2_1_1_e0⟩
    | e1=>exact ⟨_,v2_1_1_e1⟩
    | nr=>cases hs
 | 2,w,op,L,h,hw,hs=>by
   cases h;obtain rfl:=w_one hw;cases S with
    | all=>exact ⟨_,v2_2_1_all⟩
    | e0=>exact ⟨_,v2_2_1_e0⟩
    | e1=>exact ⟨_,v2_2_1_e1⟩
    | nr=>cases hs
 | 3,w,op,L,h,hw,hs=>by
   cases h;rcases w_four hw with rfl|rfl|rfl|rfl
   · cases S with
      | all=>exact ⟨_,v2_3_1_all⟩
      | e0=>exact ⟨_,v2_3_1_e0⟩
      | e1=>exact ⟨_,v2_3_1_e1⟩
      | nr=>cases hs
   · cases S with
      | all=>exact ⟨_,v2_3_2_all⟩
      | e0=>exact ⟨_,v2_3_2_e0⟩
      | e1=>exact ⟨_,v2_3_2_e1⟩
      | nr=>cases hs
   · cases S with
      | all=>exact ⟨_,v2_3_3_all⟩
      | e0=>exact ⟨_,v2_3_3_e0⟩
      | e1=>exact ⟨_,v2_3_3_e1⟩
      | nr=>cases hs
   · cases S with
      | all=>exact ⟨_,v2_3_4_all⟩
      | e0=>exact ⟨_,v2_3_4_e0⟩
      | e1=>exact ⟨_,v2_3_4_e1⟩
      | nr=>cases hs
 | 4,w,op,L,h,hw,hs=>by
   cases h;obtain rfl:=w_one hw;cases S with
    | all=>exact ⟨_,v2_4_1_all⟩
    | e0=>exact ⟨_,v2_4_1_e0⟩
    | e1=>exact ⟨_,v2_4_1_e1⟩
    | nr=>cases hs
 | 5,w,op,L,h,hw,hs=>by
   cases h;obtain rfl:=w_one hw;cases S with
    | all=>exact ⟨_,v2_5_1_all⟩
    | e0=>exact ⟨_,v2_5_1_e0⟩
    | e1=>exact ⟨_,v2_5_1_e1⟩
    | nr=>cases hs
 | 6,w,op,L,h,_,_=>by cases h
 | 7,w,op,L,h,_,_=>by cases h
 | 8,w,op,L,h,_,_=>by cases h
 | 9,w,op,L,h,_,_=>by cases h
 | 10,w,op,L,h,_,_=>by cases h
 | j+11,w,op,L,h,_,_=>by cases h
theorem evVn_2:∀{j:Nat},1≤j->j≤10->argsOf 2 j=none->EvV true 1000 j 1 2 (noneV j)
 | 0,h,_,_=>absurd h (by decide)
 | 1,_,_,h=>by cases h
 | 2,_,_,h=>by cases h
 | 3,_,_,h=>by cases h
 | 4,_,_,h=>by cases h
 | 5,_,_,h=>by cases h
 | 6,_,_,h=>v2_6_n
 | 7,_,_,h=>v2_7_n
 | 8,_,_,h=>v2_8_n
 | 9,_,_,h=>v2_9_n
 | 10,_,_,h=>v2_10_n
 | j+11,_,h,_=>absurd h (by omega)
theorem evV_3 {S:Sel}:∀{j w op:Nat} {L:List Nat},argsOf 3 j=some (op,L)->wOK j w=true->selV L S=true->∃T,EvV S.b T j w 3 (restV S j w op L)
 | 0,w,op,L,h,_,_=>by cases h
 | 1,w,op,L,h,_,_=>by cases h
 | 2,w,op,L,h,_,_=>by cases h
 | 3,w,op,L,h,_,_=>by cases h
 | 4,w,op,L,h,hw,hs=>by
   cases h;obtain rfl:=w_one hw;cases S with
    | all=>exact ⟨_,v3_4_1_all⟩
    | e0=>exact ⟨_,v3_4_1_e0⟩
    | e1=>cases hs
    | nr=>cases hs
 | 5,w,op,L,h,hw,hs=>by
   cases h;obtain rfl:=w_one hw;cases S with
    | all=>exact ⟨_,v3_5_1_all⟩
    | e0=>exact ⟨_,v3_5_1_e0⟩
    | e1=>cases hs
    | nr=>cases hs
 | 6,w,op,L,h,_,_=>by cases h
 | 7,w,op,L,h,_,_=>by cases h
 | 8,w,op,L,h,_,_=>by cases h
 | 9,w,op,L,h,_,_=>by cases h
 | 10,w,op,L,h,_,_=>by cases h
 | j+11,w,op,L,h,_,_=>by cases h
theorem evVn_3:∀{j:Nat},1≤j->j≤10->argsOf 3 j=none->EvV true 1000 j 1 3 (noneV j)
 | 0,h,_,_=>absurd h (by decide)
 | 1,_,_,h=>v3_1_n
 | 2,_,_,h=>v3_2_n
 | 3,_,_,h=>v3_3_n
 | 4,_,_,h=>by cases h
 | 5,_,_,h=>by cases h
 | 6,_,_,h=>v3_6_n
 | 7,_,_,h=>v3_7_n
 | 8,_,_,h=>v3_8_n
 | 9,_,_,h=>v3_9_n
 | 10,_,_,h=>v3_10_n
 | j+11,_,h,_=>absurd h (by omega)
theorem evV_4 {S:Sel}:∀{j w op:Nat} {L:List Nat},argsOf 4 j=some (op,L)->wOK j w=true->selV L S=true->∃T,EvV S.b T j w 4 (restV S j w op L)
 | 0,w,op,L,h,_,_=>by cases h
 | 1,w,op,L,h,_,_=>by cases h
 | 2,w,op,L,h,_,_=>by cases h
 | 3,w,op,L,h,_,_=>by cases h
 | 4,w,op,L,h,_,_=>by cases h
 | 5,w,op,L,h,_,_=>by cases h
 | 6,w,op,L,h,hw,hs=>by
   cases h;rcases w_four hw with rfl|rfl|rfl|rfl
   · cases S with
      | all=>exact ⟨_,v4_6_1_all⟩
      | e0=>exact ⟨_,v4_6_1_e0⟩
      | e1=>cases hs
      | nr=>cases hs
   · cases S with
      | all=>exact ⟨_,v4_6_2_all⟩
      | e0=>exact ⟨_,v4_6_2_e0⟩
      | e1=>cases hs
      | nr=>cases hs
   · cases S with
      | all=>exact ⟨_,v4_6_3_all⟩
      | e0=>exact ⟨_,v4_6_3_e0⟩
      | e1=>cases hs
      | nr=>cases hs
   · cases S with
      | all=>exact ⟨_,v4_6_4_all⟩
      | e0=>exact ⟨_,v4_6_4_e0⟩
      | e1=>cases hs
      | nr=>cases hs
 | 7,w,op,L,h,hw,hs=>by
   cases h;rcases w_four hw with rfl|rfl|rfl|rfl
   · cases S with
      | all=>exact ⟨_,v4_7_1_all⟩
      | e0=>exact ⟨_,v4_7_1_e0⟩
      | e1=>cases hs
      | nr=>cases hs
   · cases S with
      | all=>exact ⟨_,v4_7_2_all⟩
      | e0=>exact ⟨_,v4_7_2_e0⟩
      | e1=>cases hs
      | nr=>cases hs
   · cases S with
      | all=>exact ⟨_,v4_7_3_all⟩
      | e0=>exact ⟨_,v4_7_3_e0⟩
      | e1=>cases hs
      | nr=>cases hs
   · cases S with
      | all=>exact ⟨_,v4_7_4_all⟩
      | e0=>exact ⟨_,v4_7_4_e0⟩
      | e1=>cases hs
      | nr=>cases hs
 | 8,w,op,L,h,hw,hs=>by
   cases h;obtain rfl:=w_one hw;cases S with
    | all=>exact ⟨_,v4_8_1_all⟩
    | e0=>exact ⟨_,v4_8_1_e0⟩
    | e1=>cases hs
    | nr=>cases hs
 | 9,w,op,L,h,_,_=>by cases h
 | 10,w,op,L,h,_,_=>by cases h
 | j+11,w,op,L,h,_,_=>by cases h
theorem evVn_4:∀{j:Nat},1≤j->j≤10->argsOf 4 j=none->EvV true 1000 j 1 4 (noneV j)
 | 0,h,_,_=>absurd h (by decide)
 | 1,_,_,h=>v4_1_n
 | 2,_,_,h=>v4_2_n
 | 3,_,_,h=>v4_3_n
 | 4,_,_,h=>v4_4_n
 | 5,_,_,h=>v4_5_n
 | 6,_,_,h=>by cases h
 | 7,_,_,h=>by cases h
 | 8,_,_,h=>by cases h
 | 9,_,_,h=>v4_9_n
 | 10,_,_,h=>v4_10_n
 | j+11,_,h,_=>absurd h (by omega)
theorem evV_5 {S:Sel}:∀{j w op:Nat} {L:List Nat},argsOf 5 j=some (op,L)->wOK j w=true->selV L S=true->∃T,EvV S.b T j w 5 (restV S j w op L)
 | 0,w,op,L,h,_,_=>by cases h
 | 1,w,op,L,h,_,_=>by cases h
 | 2,w,op,L,h,_,_=>by cases h
 | 3,w,op,L,h,_,_=>by cases h
 | 4,w,op,L,h,_,_=>by cases h
 | 5,w,op,L,h,_,_=>by cases h
 | 6,w,op,L,h,hw,hs=>by
   cases h;rcases w_four hw with rfl|rfl|rfl|rfl
   · cases S with
      | all=>exact ⟨_,v5_6_1_all⟩
      | e0=>cases hs
      | e1=>cases hs
      | nr=>exact ⟨_,v5_6_1_nr⟩
   · cases S with
      | all=>exact ⟨_,v5_6_2_all⟩
      | e0=>cases hs
      | e1=>cases hs
      | nr=>exact ⟨_,v5_6_2_nr⟩
   · cases S with
      | all=>exact ⟨_,v5_6_3_all⟩
      | e0=>cases hs
      | e1=>cases hs
      | nr=>exact ⟨_,v5_6_3_nr⟩
   · cases S with
      | all=>exact ⟨_,v5_6_4_all⟩
      | e0=>cases hs
      | e1=>cases hs
      | nr=>exact ⟨_,v5_6_4_nr⟩
 | 7,w,op,L,h,hw,hs=>by
   cases h;rcases w_four hw with rfl|rfl|rfl|rfl
   · cases S with
      | all=>exact ⟨_,v5_7_1_all⟩
      | e0=>cases hs
      | e1=>cases hs
      | nr=>exact ⟨_,v5_7_1_nr⟩
   · cases S with
      | all=>exact ⟨_,v5_7_2_all⟩
      | e0=>cases hs
      | e1=>cases hs
      | nr=>exact ⟨_,v5_7_2_nr⟩
   · cases S with
      | all=>exact ⟨_,v5_7_3_all⟩
      | e0=>cases hs
      | e1=>cases hs
      | nr=>exact ⟨_,v5_7_3_nr⟩
   · cases S with
      | all=>exact ⟨_,v5_7_4_all⟩
      | e0=>cases hs
      | e1=>cases hs
      | nr=>exact ⟨_,v5_7_4_nr⟩
 | 8,w,op,L,h,_,_=>by cases h
 | 9,w,op,L,h,_,_=>by cases h
 | 10,w,op,L,h,_,_=>by cases h
 | j+11,w,op,L,h,_,_=>by cases h
theorem evVn_5:∀{j:Nat},1≤j->j≤10->argsOf 5 j=none->EvV true 1000 j 1 5 (noneV j)
 | 0,h,_,_=>absurd h (by decide)
 | 1,_,_,h=>v5_1_n
 | 2,_,_,h=>v5_2_n
 | 3,_,_,h=>v5_3_n
 | 4,_,_,h=>v5_4_n
 | 5,_,_,h=>v5_5_n
 | 6,_,_,h=>by cases h
 | 7,_,_,h=>by cases h
 | 8,_,_,h=>v5_8_n
 | 9,_,_,h=>v5_9_n
 | 10,_,_,h=>v5_10_n
 | j+11,_,h,_=>absurd h (by omega)
theorem evV_6 {S:Sel}:∀{j w op:Nat} {L:List Nat},argsOf 6 j=some (op,L)->wOK j w=true->selV L S=true->∃T,EvV S.b T j w 6 (restV S j w op L)
 | 0,w,op,L,h,_,_=>by cases h
 | 1,w,op,L,h,_,_=>by cases h
 | 2,w,op,L,h,_,_=>by cases h
 | 3,w,op,L,h,_,_=>by cases h
 | 4,w,op,L,h,_,_=>by cases h
 | 5,w,op,L,h,_,_=>by cases h
 | 6,w,op,L,h,hw,hs=>by
   cases h;rcases w_four hw with rfl|rfl|rfl|rfl
   · cases S with
      | all=>exact ⟨_,v6_6_1_all⟩
      | e0=>cases hs
      | e1=>cases hs
      | nr=>exact ⟨_,v6_6_1_nr⟩
   · cases S with
      | all=>exact ⟨_,v6_6_2_all⟩
      | e0=>cases hs
      | e1=>cases hs
      | nr=>exact ⟨_,v6_6_2_nr⟩
   · cases S with
      | all=>exact ⟨_,v6_6_3_all⟩
      | e0=>cases hs
      | e1=>cases hs
      | nr=>exact ⟨_,v6_6_3_nr⟩
   · cases S with
      | all=>exact ⟨_,v6_6_4_all⟩
      | e0=>cases hs
      | e1=>cases hs
      | nr=>exact ⟨_,v6_6_4_nr⟩
 | 7,w,op,L,h,hw,hs=>by
   cases h;rcases w_four hw with rfl|rfl|rfl|rfl
   · cases S with
      | all=>exact ⟨_,v6_7_1_all⟩
      | e0=>cases hs
      | e1=>cases hs
      | nr=>exact ⟨_,v6_7_1_nr⟩
   · cases S with
      | all=>exact ⟨_,v6_7_2_all⟩
      | e0=>cases hs
      | e1=>cases hs
      | nr=>exact ⟨_,v6_7_2_nr⟩
   · cases S with
      | all=>exact ⟨_,v6_7_3_all⟩
      | e0=>cases hs
      | e1=>cases hs
      | nr=>exact ⟨_,v6_7_3_nr⟩
   · cases S with
      | all=>exact ⟨_,v6_7_4_all⟩
      | e0=>cases hs
      | e1=>cases hs
      | nr=>exact ⟨_,v6_7_4_nr⟩
 | 8,w,op,L,h,hw,hs=>by
   cases h;obtain rfl:=w_one hw;cases S with
    | all=>exact ⟨_,v6_8_1_all⟩
    | e0=>exact ⟨_,v6_8_1_e0⟩
    | e1=>cases hs
    | nr=>cases hs
 | 9,w,op,L,h,_,_=>by cases h
 | 10,w,op,L,h,_,_=>by cases h
 | j+11,w,op,L,h,_,_=>by cases h
theorem evVn_6:∀{j:Nat},1≤j->j≤10->argsOf 6 j=none->EvV true 1000 j 1 6 (noneV j)
 | 0,h,_,_=>absurd h (by decide)
 | 1,_,_,h=>v6_1_n
 | 2,_,_,h=>v6_2_n
 | 3,_,_,h=>v6_3_n
 | 4,_,_,h=>v6_4_n
 | 5,_,_,h=>v6_5_n
 | 6,_,_,h=>by cases h
 | 7,_,_,h=>by cases h
 | 8,_,_,h=>by cases h
 | 9,_,_,h=>v6_9_n
 | 10,_,_,h=>v6_10_n
 | j+11,_,h,_=>absurd h (by omega)
theorem evV_8 {S:Sel}:∀{j w op:Nat} {L:List Nat},argsOf 8 j=some (op,L)->wOK j w=true->selV L S=true->∃T,EvV S.b T j w 8 (restV S j w op L)
 | 0,w,op,L,h,_,_=>by cases h
 | 1,w,op,L,h,_,_=>by cases h
 | 2,w,op,L,h,_,_=>by cases h
 | 3,w,op,L,h,hw,hs=>by
   cases h;rcases w_four hw with rfl|rfl|rfl|rfl
   · cases S with
      | all=>exact ⟨_,v8_3_1_all⟩
      | e0=>exact ⟨_,v8_3_1_e0⟩
      | e1=>cases hs
      | nr=>exact ⟨_,v8_3_1_nr⟩
   · cases S with
      | all=>exact ⟨_,v8_3_2_all⟩
      | e0=>exact ⟨_,v8_3_2_e0⟩
      | e1=>cases hs
      | nr=>exact ⟨_,v8_3_2_nr⟩
   · cases S with
      | all=>exact ⟨_,v8_3_3_all⟩
      | e0=>exact ⟨_,v8_3_3_e0⟩
      | e1=>cases hs
      | nr=>exact ⟨_,v8_3_3_nr⟩
   · cases S with
      | all=>exact ⟨_,v8_3_4_all⟩
      | e0=>exact ⟨_,v8_3_4_e0⟩
      | e1=>cases hs
      | nr=>exact ⟨_,v8_3_4_nr⟩
 | 4,w,op,L,h,_,_=>by cases h
 | 5,w,op,L,h,_,_=>by cases h
 | 6,w,op,L,h,_,_=>by cases h
 | 7,w,op,L,h,_,_=>by cases h
 | 8,w,op,L,h,_,_=>by cases h
 | 9,w,op,L,h,_,_=>by cases h
 | 10,w,op,L,h,_,_=>by cases h
 | j+11,w,op,L,h,_,_=>by cases h
theorem evVn_8:∀{j:Nat},1≤j->j≤10->argsOf 8 j=none->EvV true 1000 j 1 8 (noneV j)
 | 0,h,_,_=>absurd h (by decide)
 | 1,_,_,h=>v8_1_n
 | 2,_,_,h=>v8_2_n
 | 3,_,_,h=>by cases h
 | 4,_,_,h=>v8_4_n
 | 5,_,_,h=>v8_5_n
 | 6,_,_,h=>v8_6_n
 | 7,_,_,h=>v8_7_n
 | 8,_,_,h=>v8_8_n
 | 9,_,_,h=>v8_9_n
 | 10,_,_,h=>v8_10_n
 | j+11,_,h,_=>absurd h (by omega)
theorem q1_1_1_all:EvQ 1000 1 1 1 (restQ .all 1 1 1 [0]):=evQ_of fun _ _ _ _=>by kernel_rfl
theorem q1_4_1_all:EvQ 1000 4 1 1 (restQ .all 4 1 1 [0]):=evQ_of fun _ _ _ _=>by kernel_rfl
theorem q1_9_1_all:EvQ 1000 9 1 1 (restQ .all 9 1 1 [0]):=evQ_of fun _ _ _ _=>by kernel_rfl
theorem q2_1_1_all:EvQ 1000 1 1 2 (restQ .all 1 1 2 [0,1,2]):=evQ_of fun _ _ _ _=>by kernel_rfl
theorem q2_2_1_e0:EvQ 0 2 1 2 (restQ .e0 2 1 2 [0,1,2]):=evQ_cut (cutA [0,1,2] 0 [false,false,false,false]) fun _ _ _ _=>by kernel_rfl
theorem q2_3_1_e1:EvQ 14 3 1 2 (restQ .e1 3 1 2 [0,1,2]):=evQ_cut (cutA [0,1,2] 1 [false,false,false,false]) fun _ _ _ _=>by kernel_rfl
theorem q2_3_3_all:EvQ 1000 3 3 2 (restQ .all 3 3 2 [0,1,2]):=evQ_of fun _ _ _ _=>by kernel_rfl
theorem q2_3_4_e0:EvQ 0 3 4 2 (restQ .e0 3 4 2 [0,1,2]):=evQ_cut (cutA [0,1,2] 0 [false,false,false,false]) fun _ _ _ _=>by kernel_rfl
theorem q2_4_1_e1:EvQ 14 4 1 2 (restQ .e1 4 1 2 [0,1,2]):=evQ_cut (cutA [0,1,2] 1 [false,false,false,false]) fun _ _ _ _=>by kernel_rfl
theorem q3_4_1_all:EvQ 1000 4 1 3 (restQ .all 4 1 3 [0]):=evQ_of fun _ _ _ _=>by kernel_rfl
theorem q4_6_1_all:EvQ 1000 6 1 4 (restQ .all 6 1 6 [1,2]):=evQ_of fun _ _ _ _=>by kernel_rfl
theorem q4_6_3_all:EvQ 1000 6 3 4 (restQ .all 6 3 6 [1,2]):=evQ_of fun _ _ _ _=>by kernel_rfl
theorem q4_7_1_all:EvQ 1000 7 1 4 (restQ .all 7 1 6 [1,2]):=evQ_of fun _ _ _ _=>by kernel_rfl
theorem q4_7_3_all:EvQ 1000 7 3 4 (restQ .all 7 3 6 [1,2]):=evQ_of fun _ _ _ _=>by kernel_rfl
theorem q4_8_1_all:EvQ 1000 8 1 4 (restQ .all 8 1 6 [1,2]):=evQ_of fun _ _ _ _=>by kernel_rfl
theorem q5_6_3_all:EvQ 1000 6 3 5 (restQ .all 6 3 7 [3]):=evQ_of fun _ _ _ _=>by kernel_rfl
theorem q5_7_3_all:EvQ 1000 7 3 5 (restQ .all 7 3 7 [3]):=evQ_of fun _ _ _ _=>by kernel_rfl
theorem q6_6_3_all:EvQ 1000 6 3 6 (restQ .all 6 3 8 [3]):=evQ_of fun _ _ _ _=>by kernel_rfl
theorem q6_7_3_all:EvQ 1000 7 3 6 (restQ .all 7 3 8 [3]):=evQ_of fun _ _ _ _=>by kernel_rfl
theorem q8_3_1_all:EvQ 1000 3 1 8 (restQ .all 3 1 1 [0,3]):=evQ_of fun _ _ _ _=>by kernel_rfl
theorem q8_3_3_all:EvQ 1000 3 3 8 (restQ .all 3 3 1 [0,3]):=evQ_of fun _ _ _ _=>by kernel_rfl
theorem q1_3_n:EvQ 1000 3 1 1 (noneQ 3):=evQ_of fun _ _ _ _=>by kernel_rfl
theorem q2_6_n:EvQ 1000 6 1 2 (noneQ 6):=evQ_of fun _ _ _ _=>by kernel_rfl
theorem q2_10_n:EvQ 1000 10 1 2 (noneQ 10):=evQ_of fun _ _ _ _=>by kernel_rfl
theorem q3_6_n:EvQ 1000 6 1 3 (noneQ 6):=evQ_of fun _ _ _ _=>by kernel_rfl
theorem q3_10_n:EvQ 1000 10 1 3 (noneQ 10):=evQ_of fun _ _ _ _=>by kernel_rfl
theorem q4_4_n:EvQ 1000 4 1 4 (noneQ 4):=evQ_of fun _ _ _ _=>by kernel_rfl
theorem q5_1_n:EvQ 1000 1 1 5 (noneQ 1):=evQ_of fun _ _ _ _=>by kernel_rfl
theorem q5_5_n:EvQ 1000 5 1 5 (noneQ 5):=evQ_of fun _ _ _ _=>by kernel_rfl
theorem q6_1_n:EvQ 1000 1 1 6 (noneQ 1):=evQ_of fun _ _ _ _=>by kernel_rfl
theorem q6_5_n:EvQ 1000 5 1 6 (noneQ 5):=evQ_of fun _ _ _ _=>by kernel_rfl
theorem q8_2_n:EvQ 1000 2 1 8 (noneQ 2):=evQ_of fun _ _ _ _=>by kernel_rfl
theorem q8_7_n:EvQ 1000 7 1 8 (noneQ 7):=evQ_of fun _ _ _ _=>by kernel_rfl
theorem q1_1_1_e0:EvQ 0 1 1 1 (restQ .e0 1 1 1 [0]):=evQ_cut (cutA [0] 0 [false,false,false,false]) fun _ _ _ _=>by kernel_rfl
theorem q1_4_1_e0:EvQ 0 4 1 1 (restQ .e0 4 1 1 [0]):=evQ_cut (cutA [0] 0 [false,false,false,false]) fun _ _ _ _=>by kernel_rfl
theorem q1_9_1_e0:EvQ 0 9 1 1 (restQ .e0 9 1 1 [0]):=evQ_cut (cutA [0] 0 [false,false,false,false]) fun _ _ _ _=>by kernel_rfl
theorem q2_1_1_e0:EvQ 0 1 1 2 (restQ .e0 1 1 2 [0,1,2]):=evQ_cut (cutA [0,1,2] 0 [false,false,false,false]) fun _ _ _ _=>by kernel_rfl
theorem q2_2_1_e1:EvQ 14 2 1 2 (restQ .e1 2 1 2 [0,1,2]):=evQ_cut (cutA [0,1,2] 1 [false,false,false,false]) fun _ _ _ _=>by kernel_rfl
theorem q2_3_2_all:EvQ 1000 3 2 2 (restQ .all 3 2 2 [0,1,2]):=evQ_of fun _ _ _ _=>by kernel_rfl
theorem q2_3_3_e0:EvQ 0 3 3 2 (restQ .e0 3 3 2 [0,1,2]):=evQ_cut (cutA [0,1,2] 0 [false,false,false,false]) fun _ _ _ _=>by kernel_rfl
theorem q2_3_4_e1:EvQ 14 3 4 2 (restQ .e1 3 4 2 [0,1,2]):=evQ_cut (cutA [0,1,2] 1 [false,false,false,false]) fun _ _ _ _=>by kernel_rfl
theorem q2_5_1_all:EvQ 1000 5 1 2 (restQ .all 5 1 2 [0,1,2]):=evQ_of fun _ _ _ _=>by kernel_rfl
theorem q3_4_1_e0:EvQ 0 4 1 3 (restQ .e0 4 1 3 [0]):=evQ_cut (cutA [0] 0 [false,false,false,false]) fun _ _ _ _=>by kernel_rfl
theorem q4_6_1_e0:EvQ 0 6 1 4 (restQ .e0 6 1 6 [1,2]):=evQ_cut (cutA [1,2] 0 [false,false,false,false]) fun _ _ _ _=>by kernel_rfl
theorem q4_6_3_e0:EvQ 0 6 3 4 (restQ .e0 6 3 6 [1,2]):=evQ_cut (cutA [1,2] 0 [false,false,false,false]) fun _ _ _ _=>by kernel_rfl
theorem q4_7_1_e0:EvQ 0 7 1 4 (restQ .e0 7 1 6 [1,2]):=evQ_cut (cutA [1,2] 0 [false,false,false,false]) fun _ _ _ _=>by kernel_rfl
theorem q4_7_3_e0:EvQ 0 7 3 4 (restQ .e0 7 3 6 [1,2]):=evQ_cut (cutA [1,2] 0 [false,false,false,false]) fun _ _ _ _=>by kernel_rfl
theorem q4_8_1_e0:EvQ 0 8 1 4 (restQ .e0 8 1 6 [1,2]):=evQ_cut (cutA [1,2] 0 [false,false,false,false]) fun _ _ _ _=>by kernel_rfl
theorem q5_6_4_all:EvQ 1000 6 4 5 (restQ .all 6 4 7 [3]):=evQ_of fun _ _ _ _=>by kernel_rfl
theorem q5_7_4_all:EvQ 1000 7 4 5 (restQ .all 7 4 7 [3]):=evQ_of fun _ _ _ _=>by kernel_rfl
theorem q6_6_4_all:EvQ 1000 6 4 6 (restQ .all 6 4 8 [3]):=evQ_of fun _ _ _ _=>by kernel_rfl
theorem q6_7_4_all:EvQ 1000 7 4 6 (restQ .all 7 4 8 [3]):=evQ_of fun _ _ _ _=>by kernel_rfl
theorem q8_3_1_e0:EvQ 0 3 1 8 (restQ .e0 3 1 1 [0,3]):=evQ_cut (cutA [0,3] 0 [false,false,false,false]) fun _ _ _ _=>by kernel_rfl
theorem q8_3_3_e0:EvQ 0 3 3 8 (restQ .e0 3 3 1 [0,3]):=evQ_cut (cutA [0,3] 0 [false,false,false,false]) fun _ _ _ _=>by kernel_rfl
theorem q1_6_n:EvQ 1000 6 1 1 (noneQ 6):=evQ_of fun _ _ _ _=>by kernel_rfl
theorem q2_7_n:EvQ 1000 7 1 2 (noneQ 7):=evQ_of fun _ _ _ _=>by kernel_rfl
theorem q3_1_n:EvQ 1000 1 1 3 (noneQ 1):=evQ_of fun _ _ _ _=>by kernel_rfl
theorem q3_7_n:EvQ 1000 7 1 3 (noneQ 7):=evQ_of fun _ _ _ _=>by kernel_rfl
theorem q4_1_n:EvQ 1000 1 1 4 (noneQ 1):=evQ_of fun _ _ _ _=>by kernel_rfl
theorem q4_5_n:EvQ 1000 5 1 4 (noneQ 5):=evQ_of fun _ _ _ _=>by kernel_rfl
theorem q5_2_n:EvQ 1000 2 1 5 (noneQ 2):=evQ_of fun _ _ _ _=>by kernel_rfl
theorem q5_8_n:EvQ 1000 8 1 5 (noneQ 8):=evQ_of fun _ _ _ _=>by kernel_rfl
theorem q6_2_n:EvQ 1000 2 1 6 (noneQ 2):=evQ_of fun _ _ _ _=>by kernel_rfl
theorem q6_9_n:EvQ 1000 9 1 6 (noneQ 9):=evQ_of fun _ _ _ _=>by kernel_rfl
theorem q8_4_n:EvQ 1000 4 1 8 (noneQ 4):=evQ_of fun _ _ _ _=>by kernel_rfl
theorem q8_8_n:EvQ 1000 8 1 8 (noneQ 8):=evQ_of fun _ _ _ _=>by kernel_rfl
theorem q1_2_1_all:EvQ 1000 2 1 1 (restQ .all 2 1 1 [0]):=evQ_of fun _ _ _ _=>by kernel_rfl
theorem q1_5_1_all:EvQ 1000 5 1 1 (restQ .all 5 1 1 [0]):=evQ_of fun _ _ _ _=>by kernel_rfl
theorem q1_10_1_all:EvQ 1000 10 1 1 (restQ .all 10 1 1 [0]):=evQ_of fun _ _ _ _=>by kernel_rfl
theorem q2_1_1_e1:EvQ 14 1 1 2 (restQ .e1 1 1 2 [0,1,2]):=evQ_cut (cutA [0,1,2] 1 [false,false,false,false]) fun _ _ _ _=>by kernel_rfl
theorem q2_3_1_all:EvQ 1000 3 1 2 (restQ .all 3 1 2 [0,1,2]):=evQ_of fun _ _ _ _=>by kernel_rfl
theorem q2_3_2_e0:EvQ 0 3 2 2 (restQ .e0 3 2 2 [0,1,2]):=evQ_cut (cutA [0,1,2] 0 [false,false,false,false]) fun _ _ _ _=>by kernel_rfl
theorem q2_3_3_e1:EvQ 14 3 3 2 (restQ .e1 3 3 2 [0,1,2]):=evQ_cut (cutA [0,1,2] 1 [false,false,false,false]) fun _ _ _ _=>by kernel_rfl
theorem q2_4_1_all:EvQ 1000 4 1 2 (restQ .all 4 1 2 [0,1,2]):=evQ_of fun _ _ _ _=>by kernel_rfl
theorem q2_5_1_e0:EvQ 0 5 1 2 (restQ .e0 5 1 2 [0,1,2]):=evQ_cut (cutA [0,1,2] 0 [false,false,false,false]) fun _ _ _ _=>by kernel_rfl
theorem q3_5_1_all:EvQ 1000 5 1 3 (restQ .all 5 1 3 [0]):=evQ_of fun _ _ _ _=>by kernel_rfl
theorem q4_6_2_all:EvQ 1000 6 2 4 (restQ .all 6 2 6 [1,2]):=evQ_of fun _ _ _ _=>by kernel_rfl
theorem q4_6_4_all:EvQ 1000 6 4 4 (restQ .all 6 4 6 [1,2]):=evQ_of fun _ _ _ _=>by kernel_rfl
theorem q4_7_2_all:EvQ 1000 7 2 4 (restQ .all 7 2 6 [1,2]):=evQ_of fun _ _ _ _=>by kernel_rfl
theorem q4_7_4_all:EvQ 1000 7 4 4 (restQ .all 7 4 6 [1,2]):=evQ_of fun _ _ _ _=>by kernel_rfl
theorem q5_6_1_all:EvQ 1000 6 1 5 (restQ .all 6 1 7 [3]):=evQ_of fun _ _ _ _=>by kernel_rfl
theorem q5_7_1_all:EvQ 1000 7 1 5 (restQ .all 7 1 7 [3]):=evQ_of fun _ _ _ _=>by kernel_rfl
theorem q6_6_1_all:EvQ 1000 6 1 6 (restQ .all 6 1 8 [3]):=evQ_of fun _ _ _ _=>by kernel_rfl
theorem q6_7_1_all:EvQ 1000 7 1 6 (restQ .all 7 1 8 [3]):=evQ_of fun _ _ _ _=>by kernel_rfl
theorem q6_8_1_all:EvQ 1000 8 1 6 (restQ .all 8 1 8 [1]):=evQ_of fun _ _ _ _=>by kernel_rfl
theorem q8_3_2_all:EvQ 1000 3 2 8 (restQ .all 3 2 1 [0,3]):=evQ_of fun _ _ _ _=>by kernel_rfl
theorem q8_3_4_all:EvQ 1000 3 4 8 (restQ .all 3 4 1 [0,3]):=evQ_of fun _ _ _ _=>by kernel_rfl
theorem q1_7_n:EvQ 1000 7 1 1 (noneQ 7):=evQ_of fun _ _ _ _=>by kernel_rfl
theorem q2_8_n:EvQ 1000 8 1 2 (noneQ 8):=evQ_of fun _ _ _ _=>by kernel_rfl
theorem q3_2_n:EvQ 1000 2 1 3 (noneQ 2):=evQ_of fun _ _ _ _=>by kernel_rfl
theorem q3_8_n:EvQ 1000 8 1 3 (noneQ 8):=evQ_of fun _ _ _ _=>by kernel_rfl
theorem q4_2_n:EvQ 1000 2 1 4 (noneQ 2):=evQ_of fun _ _ _ _=>by kernel_rfl
theorem q4_9_n:EvQ 1000 9 1 4 (noneQ 9):=evQ_of fun _ _ _ _=>by kernel_rfl
theorem q5_3_n:EvQ 1000 3 1 5 (noneQ 3):=evQ_of fun _ _ _ _=>by kernel_rfl
theorem q5_9_n:EvQ 1000 9 1 5 (noneQ 9):=evQ_of fun _ _ _ _=>by kernel_rfl
theorem q6_3_n:EvQ 1000 3 1 6 (noneQ 3):=evQ_of fun _ _ _ _=>by kernel_rfl
theorem q6_10_n:EvQ 1000 10 1 6 (noneQ 10):=evQ_of fun _ _ _ _=>by kernel_rfl
theorem q8_5_n:EvQ 1000 5 1 8 (noneQ 5):=evQ_of fun _ _ _ _=>by kernel_rfl
theorem q8_9_n:EvQ 1000 9 1 8 (noneQ 9):=evQ_of fun _ _ _ _=>by kernel_rfl
theorem q1_2_1_e0:EvQ 0 2 1 1 (restQ .e0 2 1 1 [0]):=evQ_cut (cutA [0] 0 [false,false,false,false]) fun _ _ _ _=>by kernel_rfl
theorem q1_5_1_e0:EvQ 0 5 1 1 (restQ .e0 5 1 1 [0]):=evQ_cut (cutA [0] 0 [false,false,false,false]) fun _ _ _ _=>by kernel_rfl
theorem q1_10_1_e0:EvQ 0 10 1 1 (restQ .e0 10 1 1 [0]):=evQ_cut (cutA [0] 0 [false,false,false,false]) fun _ _ _ _=>by kernel_rfl
theorem q2_2_1_all:EvQ 1000 2 1 2 (restQ .all 2 1 2 [0,1,2]):=evQ_of fun _ _ _ _=>by kernel_rfl
theorem q2_3_1_e0:EvQ 0 3 1 2 (restQ .e0 3 1 2 [0,1,2]):=evQ_cut (cutA [0,1,2] 0 [false,false,false,false]) fun _ _ _ _=>by kernel_rfl
theorem q2_3_2_e1:EvQ 14 3 2 2 (restQ .e1 3 2 2 [0,1,2]):=evQ_cut (cutA [0,1,2] 1 [false,false,false,false]) fun _ _ _ _=>by kernel_rfl
theorem q2_3_4_all:EvQ 1000 3 4 2 (restQ .all 3 4 2 [0,1,2]):=evQ_of fun _ _ _ _=>by kernel_rfl
theorem q2_4_1_e0:EvQ 0 4 1 2 (restQ .e0 4 1 2 [0,1,2]):=evQ_cut (cutA [0,1,2] 0 [false,false,false,false]) fun _ _ _ _=>by kernel_rfl
theorem q2_5_1_e1:EvQ 14 5 1 2 (restQ .e1 5 1 2 [0,1,2]):=evQ_cut (cutA [0,1,2] 1 [false,false,false,false]) fun _ _ _ _=>by kernel_rfl
theorem q3_5_1_e0:EvQ 0 5 1 3 (restQ .e0 5 1 3 [0]):=evQ_cut (cutA [0] 0 [false,false,false,false]) fun _ _ _ _=>by kernel_rfl
theorem q4_6_2_e0:EvQ 0 6 2 4 (restQ .e0 6 2 6 [1,2]):=evQ_cut (cutA [1,2] 0 [false,false,false,false]) fun _ _ _ _=>by kernel_rfl
theorem q4_6_4_e0:EvQ 0 6 4 4 (restQ .e0 6 4 6 [1,2]):=evQ_cut (cutA [1,2] 0 [false,false,false,false]) fun _ _ _ _=>by kernel_rfl
theorem q4_7_2_e0:EvQ 0 7 2 4 (restQ .e0 7 2 6 [1,2]):=evQ_cut (cutA [1,2] 0 [false,false,false,false]) fun _ _ _ _=>by kernel_rfl
theorem q4_7_4_e0:EvQ 0 7 4 4 (restQ .e0 7 4 6 [1,2]):=evQ_cut (cutA [1,2] 0 [false,false,false,false]) fun _ _ _ _=>by kernel_rfl
theorem q5_6_2_all:EvQ 1000 6 2 5 (restQ .all 6 2 7 [3]):=evQ_of fun _ _ _ _=>by kernel_rfl
theorem q5_7_2_all:EvQ 1000 7 2 5 (restQ .all 7 2 7 [3]):=evQ_of fun _ _ _ _=>by kernel_rfl
theorem q6_6_2_all:EvQ 1000 6 2 6 (restQ .all 6 2 8 [3]):=evQ_of fun _ _ _ _=>by kernel_rfl
theorem q6_7_2_all:EvQ 1000 7 2 6 (restQ .all 7 2 8 [3]):=evQ_of fun _ _ _ _=>by kernel_rfl
theorem q6_8_1_e0:EvQ 0 8 1 6 (restQ .e0 8 1 8 [1]):=evQ_cut (cutA [1] 0 [false,false,false,false]) fun _ _ _ _=>by kernel_rfl
theorem q8_3_2_e0:EvQ 0 3 2 8 (restQ .e0 3 2 1 [0,3]):=evQ_cut (cutA [0,3] 0 [false,false,false,false]) fun _ _ _ _=>by kernel_rfl
theorem q8_3_4_e0:EvQ 0 3 4 8 (restQ .e0 3 4 1 [0,3]):=evQ_cut (cutA [0,3] 0 [false,false,false,false]) fun _ _ _ _=>by kernel_rfl
theorem q1_8_n:EvQ 1000 8 1 1 (noneQ 8):=evQ_of fun _ _ _ _=>by kernel_rfl
theorem q2_9_n:EvQ 1000 9 1 2 (noneQ 9):=evQ_of fun _ _ _ _=>by kernel_rfl
theorem q3_3_n:EvQ 1000 3 1 3 (noneQ 3):=evQ_of fun _ _ _ _=>by kernel_rfl
theorem q3_9_n:EvQ 1000 9 1 3 (noneQ 9):=evQ_of fun _ _ _ _=>by kernel_rfl
theorem q4_3_n:EvQ 1000 3 1 4 (noneQ 3):=evQ_of fun _ _ _ _=>by kernel_rfl
theorem q4_10_n:EvQ 1000 10 1 4 (noneQ 10):=evQ_of fun _ _ _ _=>by kernel_rfl
theorem q5_4_n:EvQ 1000 4 1 5 (noneQ 4):=evQ_of fun _ _ _ _=>by kernel_rfl
theorem q5_10_n:EvQ 1000 10 1 5 (noneQ 10):=evQ_of fun _ _ _ _=>by kernel_rfl
theorem q6_4_n:EvQ 1000 4 1 6 (noneQ 4):=evQ_of fun _ _ _ _=>by kernel_rfl
theorem q8_1_n:EvQ 1000 1 1 8 (noneQ 1):=evQ_of fun _ _ _ _=>by kernel_rfl
theorem q8_6_n:EvQ 1000 6 1 8 (noneQ 6):=evQ_of fun _ _ _ _=>by kernel_rfl
theorem q8_10_n:EvQ 1000 10 1 8 (noneQ 10):=evQ_of fun _ _ _ _=>by kernel_rfl
theorem evQ_1 {S:Sel}:∀{j w op:Nat} {L:List Nat},argsOf 1 j=some (op,L)->wOK j w=true->selQ L S=true->∃T,EvQ T j w 1 (restQ S j w op L)
 | 0,w,op,L,h,_,_=>by cases h
 | 1,w,op,L,h,hw,hs=>by
   cases h;obtain rfl:=w_one hw;cases S with
    | all=>exact ⟨_,q1_1_1_all⟩
    | e0=>exact ⟨_,q1_1_1_e0⟩
    | e1=>cases hs
    | nr=>cases hs
 | 2,w,op,L,h,hw,hs=>by
   cases h;obtain rfl:=w_one hw;cases S with
    | all=>exact ⟨_,q1_2_1_all⟩
    | e0=>exact ⟨_,q1_2_1_e0⟩
    | e1=>cases hs
    | nr=>cases hs
 | 3,w,op,L,h,_,_=>by cases h
 | 4,w,op,L,h,hw,hs=>by
   cases h;obtain rfl:=w_one hw;cases S with
    | all=>exact ⟨_,q1_4_1_all⟩
    | e0=>exact ⟨_,q1_4_1_e0⟩
    | e1=>cases hs
    | nr=>cases hs
 | 5,w,op,L,h,hw,hs=>by
   cases h;obtain rfl:=w_one hw;cases S with
    | all=>exact ⟨_,q1_5_1_all⟩
    | e0=>exact ⟨_,q1_5_1_e0⟩
    | e1=>cases hs
    | nr=>cases hs
 | 6,w,op,L,h,_,_=>by cases h
 | 7,w,op,L,h,_,_=>by cases h
 | 8,w,op,L,h,_,_=>by cases h
 | 9,w,op,L,h,hw,hs=>by
   cases h;obtain rfl:=w_one hw;cases S with
    | all=>exact ⟨_,q1_9_1_all⟩
    | e0=>exact ⟨_,q1_9_1_e0⟩
    | e1=>cases hs
    | nr=>cases hs
 | 10,w,op,L,h,hw,hs=>by
   cases h;obtain rfl:=w_one hw;cases S with
    | all=>exact ⟨_,q1_10_1_all⟩
    | e0=>exact ⟨_,q1_10_1_e0⟩
    | e1=>cases hs
    | nr=>cases hs
 | j+11,w,op,L,h,_,_=>by cases h
theorem evQn_1:∀{j:Nat},1≤j->j≤10->argsOf 1 j=none->EvQ 1000 j 1 1 (noneQ j)
 | 0,h,_,_=>absurd h (by decide)
 | 1,_,_,h=>by cases h
 | 2,_,_,h=>by cases h
 | 3,_,_,h=>q1_3_n
 | 4,_,_,h=>by cases h
 | 5,_,_,h=>by cases h
 | 6,_,_,h=>q1_6_n
 | 7,_,_,h=>q1_7_n
 | 8,_,_,h=>q1_8_n
 | 9,_,_,h=>by cases h
 | 10,_,_,h=>by cases h
 | j+11,_,h,_=>absurd h (by omega)
theorem evQ_2 {S:Sel}:∀{j w op:Nat} {L:List Nat},argsOf 2 j=some (op,L)->wOK j w=true->selQ L S=true->∃T,EvQ T j w 2 (restQ S j w op L)
 | 0,w,op,L,h,_,_=>by cases h
 | 1,w,op,L,h,hw,hs=>by
   cases h;obtain rfl:=w_one hw;cases S with
    | all=>exact ⟨_,q2_1_1_all⟩
    | e0=>exact ⟨_,q2_1_1_e0⟩
    | e1=>exact ⟨_,q2_1_1_e1⟩
    | nr=>cases hs
 | 2,w,op,L,h,hw,hs=>by
   cases h;obtain rfl:=w_one hw;cases S with
    | all=>exact ⟨_,q2_2_1_all⟩
    | e0=>exact ⟨_,q2_2_1_e0⟩
    | e1=>exact ⟨_,q2_2_1_e1⟩
    | nr=>cases hs
 | 3,w,op,L,h,hw,hs=>by
   cases h;rcases w_four hw with rfl|rfl|rfl|rfl
   · cases S with
      | all=>exact ⟨_,q2_3_1_all⟩
      | e0=>exact ⟨_,q2_3_1_e0⟩
      | e1=>exact ⟨_,q2_3_1_e1⟩
      | nr=>cases hs
   · cases S with
      | all=>exact ⟨_,q2_3_2_all⟩
      | e0=>exact ⟨_,q2_3_2_e0⟩
      | e1=>exact ⟨_,q2_3_2_e1⟩
      | nr=>cases hs
   · cases S with
      | all=>exact ⟨_,q2_3_3_all⟩
      | e0=>exact ⟨_,q2_3_3_e0⟩
      | e1=>exact ⟨_,q2_3_3_e1⟩
      | nr=>cases hs
   · cases S with
      | all=>exact ⟨_,q2_3_4_all⟩
      | e0=>exact ⟨_,q2_3_4_e0⟩
      | e1=>exact ⟨_,q2_3_4_e1⟩
      | nr=>cases hs
 | 4,w,op,L,h,hw,hs=>by
   cases h;obtain rfl:=w_one hw;cases S with
    | all=>exact ⟨_,q2_4_1_all⟩
    | e0=>exact ⟨_,q2_4_1_e0⟩
    | e1=>exact ⟨_,q2_4_1_e1⟩
    | nr=>cases hs
 | 5,w,op,L,h,hw,hs=>by
   cases h;obtain rfl:=w_one hw;cases S with
    | all=>exact ⟨_,q2_5_1_all⟩
    | e0=>exact ⟨_,q2_5_1_e0⟩
    | e1=>exact ⟨_,q2_5_1_e1⟩
    | nr=>cases hs
 | 6,w,op,L,h,_,_=>by cases h
 | 7,w,op,L,h,_,_=>by cases h
 | 8,w,op,L,h,_,_=>by cases h
 | 9,w,op,L,h,_,_=>by cases h
 | 10,w,op,L,h,_,_=>by cases h
 | j+11,w,op,L,h,_,_=>by cases h
theorem evQn_2:∀{j:Nat},1≤j->j≤10->argsOf 2 j=none->EvQ 1000 j 1 2 (noneQ j)
 | 0,h,_,_=>absurd h (by decide)
 | 1,_,_,h=>by cases h
 | 2,_,_,h=>by cases h
 | 3,_,_,h=>by cases h
 | 4,_,_,h=>by cases h
 | 5,_,_,h=>by cases h
 | 6,_,_,h=>q2_6_n
 | 7,_,_,h=>q2_7_n
 | 8,_,_,h=>q2_8_n
 | 9,_,_,h=>q2_9_n
 | 10,_,_,h=>q2_10_n
 | j+11,_,h,_=>absurd h (by omega)
theorem evQ_3 {S:Sel}:∀{j w op:Nat} {L:List Nat},argsOf 3 j=some (op,L)->wOK j w=true->selQ L S=true->∃T,EvQ T j w 3 (restQ S j w op L)
 | 0,w,op,L,h,_,_=>by cases h
 | 1,w,op,L,h,_,_=>by cases h
 | 2,w,op,L,h,_,_=>by cases h
 | 3,w,op,L,h,_,_=>by cases h
 | 4,w,op,L,h,hw,hs=>by
   cases h;obtain rfl:=w_one hw;cases S with
    | all=>exact ⟨_,q3_4_1_all⟩
    | e0=>exact ⟨_,q3_4_1_e0⟩
    | e1=>cases hs
    | nr=>cases hs
 | 5,w,op,L,h,hw,hs=>by
   cases h;obtain rfl:=w_one hw;cases S with
    | all=>exact ⟨_,q3_5_1_all⟩
    | e0=>exact ⟨_,q3_5_1_e0⟩
    | e1=>cases hs
    | nr=>cases hs
 | 6,w,op,L,h,_,_=>by cases h
 | 7,w,op,L,h,_,_=>by cases h
 | 8,w,op,L,h,_,_=>by cases h
 | 9,w,op,L,h,_,_=>by cases h
 | 10,w,op,L,h,_,_=>by cases h
 | j+11,w,op,L,h,_,_=>by cases h
theorem evQn_3:∀{j:Nat},1≤j->j≤10->argsOf 3 j=none->EvQ 1000 j 1 3 (noneQ j)
 | 0,h,_,_=>absurd h (by decide)
 | 1,_,_,h=>q3_1_n
 | 2,_,_,h=>q3_2_n
 | 3,_,_,h=>q3_3_n
 | 4,_,_,h=>by cases h
 | 5,_,_,h=>by cases h
 | 6,_,_,h=>q3_6_n
 | 7,_,_,h=>q3_7_n
 | 8,_,_,h=>q3_8_n
 | 9,_,_,h=>q3_9_n
 | 10,_,_,h=>q3_10_n
 | j+11,_,h,_=>absurd h (by omega)
theorem evQ_4 {S:Sel}:∀{j w op:Nat} {L:List Nat},argsOf 4 j=some (op,L)->wOK j w=true->selQ L S=true->∃T,EvQ T j w 4 (restQ S j w op L)
 | 0,w,op,L,h,_,_=>by cases h
 | 1,w,op,L,h,_,_=>by cases h
 | 2,w,op,L,h,_,_=>by cases h
 | 3,w,op,L,h,_,_=>by cases h
 | 4,w,op,L,h,_,_=>by cases h
 | 5,w,op,L,h,_,_=>by cases h
 | 6,w,op,L,h,hw,hs=>by
   cases h;rcases w_four hw with rfl|rfl|rfl|rfl
   · cases S with
      | all=>exact ⟨_,q4_6_1_all⟩
      | e0=>exact ⟨_,q4_6_1_e0⟩
      | e1=>cases hs
      | nr=>cases hs
   · cases S with
      | all=>exact ⟨_,q4_6_2_all⟩
      | e0=>exact ⟨_,q4_6_2_e0⟩
      | e1=>cases hs
      | nr=>cases hs
   · cases S with
      | all=>exact ⟨_,q4_6_3_all⟩
      | e0=>exact ⟨_,q4_6_3_e0⟩
      | e1=>cases hs
      | nr=>cases hs
   · cases S with
      | all=>exact ⟨_,q4_6_4_all⟩
      | e0=>exact ⟨_,q4_6_4_e0⟩
      | e1=>cases hs
      | nr=>cases hs
 | 7,w,op,L,h,hw,hs=>by
   cases h;rcases w_four hw with rfl|rfl|rfl|rfl
   · cases S with
      | all=>exact ⟨_,q4_7_1_all⟩
      | e0=>exact ⟨_,q4_7_1_e0⟩
      | e1=>cases hs
      | nr=>cases hs
   · cases S with
      | all=>exact ⟨_,q4_7_2_all⟩
      | e0=>exact ⟨_,q4_7_2_e0⟩
      | e1=>cases hs
      | nr=>cases hs
   · cases S with
      | all=>exact ⟨_,q4_7_3_all⟩
      | e0=>exact ⟨_,q4_7_3_e0⟩
      | e1=>cases hs
      | nr=>cases hs
   · cases S with
      | all=>exact ⟨_,q4_7_4_all⟩
      | e0=>exact ⟨_,q4_7_4_e0⟩
      | e1=>cases hs
      | nr=>cases hs
 | 8,w,op,L,h,hw,hs=>by
   cases h;obtain rfl:=w_one hw;cases S with
    | all=>exact ⟨_,q4_8_1_all⟩
    | e0=>exact ⟨_,q4_8_1_e0⟩
    | e1=>cases hs
    | nr=>cases hs
 | 9,w,op,L,h,_,_=>by cases h
 | 10,w,op,L,h,_,_=>by cases h
 | j+11,w,op,L,h,_,_=>by cases h
theorem evQn_4:∀{j:Nat},1≤j->j≤10->argsOf 4 j=none->EvQ 1000 j 1 4 (noneQ j)
 | 0,h,_,_=>absurd h (by decide)
 | 1,_,_,h=>q4_1_n
 | 2,_,_,h=>q4_2_n
 | 3,_,_,h=>q4_3_n
 | 4,_,_,h=>q4_4_n
 | 5,_,_,h=>q4_5_n
 | 6,_,_,h=>by cases h
 | 7,_,_,h=>by cases h
 | 8,_,_,h=>by cases h
 | 9,_,_,h=>q4_9_n
 | 10,_,_,h=>q4_10_n
 | j+11,_,h,_=>absurd h (by omega)
theorem evQ_5 {S:Sel}:∀{j w op:Nat} {L:List Nat},argsOf 5 j=some (op,L)->wOK j w=true->selQ L S=true->∃T,EvQ T j w 5 (restQ S j w op L)
 | 0,w,op,L,h,_,_=>by cases h
 | 1,w,op,L,h,_,_=>by cases h
 | 2,w,op,L,h,_,_=>by cases h
 | 3,w,op,L,h,_,_=>by cases h
 | 4,w,op,L,h,_,_=>by cases h
 | 5,w,op,L,h,_,_=>by cases h
 | 6,w,op,L,h,hw,hs=>by
   cases h;rcases w_four hw with rfl|rfl|rfl|rfl
   · cases S with
      | all=>exact ⟨_,q5_6_1_all⟩
      | e0=>cases hs
      | e1=>cases hs
      | nr=>cases hs
   · cases S with
      | all=>exact ⟨_,q5_6_2_all⟩
      | e0=>cases hs
      | e1=>cases hs
      | nr=>cases hs
   · cases S with
      | all=>exact ⟨_,q5_6_3_all⟩
      | e0=>cases hs
      | e1=>cases hs
      | nr=>cases hs
   · cases S with
      | all=>exact ⟨_,q5_6_4_all⟩
      | e0=>cases hs
      | e1=>cases hs
      | nr=>cases hs
 | 7,w,op,L,h,hw,hs=>by
   cases h;rcases w_four hw with rfl|rfl|rfl|rfl
   · cases S with
      | all=>exact ⟨_,q5_7_1_all⟩
      | e0=>cases hs
      | e1=>cases hs
      | nr=>cases hs
   · cases S with
      | all=>exact ⟨_,q5_7_2_all⟩
      | e0=>cases hs
      | e1=>cases hs
      | nr=>cases hs
   · cases S with
      | all=>exact ⟨_,q5_7_3_all⟩
      | e0=>cases hs
      | e1=>cases hs
      | nr=>cases hs
   · cases S with
      | all=>exact ⟨_,q5_7_4_all⟩
      | e0=>cases hs
      | e1=>cases hs
      | nr=>cases hs
 | 8,w,op,L,h,_,_=>by cases h
 | 9,w,op,L,h,_,_=>by cases h
 | 10,w,op,L,h,_,_=>by cases h
 | j+11,w,op,L,h,_,_=>by cases h
theorem evQn_5:∀{j:Nat},1≤j->j≤10->argsOf 5 j=none->EvQ 1000 j 1 5 (noneQ j)
 | 0,h,_,_=>absurd h (by decide)
 | 1,_,_,h=>q5_1_n
 | 2,_,_,h=>q5_2_n
 | 3,_,_,h=>q5_3_n
 | 4,_,_,h=>q5_4_n
 | 5,_,_,h=>q5_5_n
 | 6,_,_,h=>by cases h
 | 7,_,_,h=>by cases h
 | 8,_,_,h=>q5_8_n
 | 9,_,_,h=>q5_9_n
 | 10,_,_,h=>q5_10_n
 | j+11,_,h,_=>absurd h (by omega)
theorem evQ_6 {S:Sel}:∀{j w op:Nat} {L:List Nat},argsOf 6 j=some (op,L)->wOK j w=true->selQ L S=true->∃T,EvQ T j w 6 (restQ S j w op L)
 | 0,w,op,L,h,_,_=>by cases h
 | 1,w,op,L,h,_,_=>by cases h
 | 2,w,op,L,h,_,_=>by cases h
 | 3,w,op,L,h,_,_=>by cases h
 | 4,w,op,L,h,_,_=>by cases h
 | 5,w,op,L,h,_,_=>by cases h
 | 6,w,op,L,h,hw,hs=>by
   cases h;rcases w_four hw with rfl|rfl|rfl|rfl
   · cases S with
      | all=>exact ⟨_,q6_6_1_all⟩
      | e0=>cases hs
      | e1=>cases hs
      | nr=>cases hs
   · cases S with
      | all=>exact ⟨_,q6_6_2_all⟩
      | e0=>cases hs
      | e1=>cases hs
      | nr=>cases hs
   · cases S with
      | all=>exact ⟨_,q6_6_3_all⟩
      | e0=>cases hs
      | e1=>cases hs
      | nr=>cases hs
   · cases S with
      | all=>exact ⟨_,q6_6_4_all⟩
      | e0=>cases hs
      | e1=>cases hs
      | nr=>cases hs
 | 7,w,op,L,h,hw,hs=>by
   cases h;rcases w_four hw with rfl|rfl|rfl|rfl
   · cases S with
      | all=>exact ⟨_,q6_7_1_all⟩
      | e0=>cases hs
      | e1=>cases hs
      | nr=>cases hs
   · cases S with
      | all=>exact ⟨_,q6_7_2_all⟩
      | e0=>cases hs
      | e1=>cases hs
      | nr=>cases hs
   · cases S with
      | all=>exact ⟨_,q6_7_3_all⟩
      | e0=>cases hs
      | e1=>cases hs
      | nr=>cases hs
   · cases S with
      | all=>exact ⟨_,q6_7_4_all⟩
      | e0=>cases hs
      | e1=>cases hs
      | nr=>cases hs
 | 8,w,op,L,h,hw,hs=>by
   cases h;obtain rfl:=w_one hw;cases S with
    | all=>exact ⟨_,q6_8_1_all⟩
    | e0=>exact ⟨_,q6_8_1_e0⟩
    | e1=>cases hs
    | nr=>cases hs
 | 9,w,op,L,h,_,_=>by cases h
 | 10,w,op,L,h,_,_=>by cases h
 | j+11,w,op,L,h,_,_=>by cases h
theorem evQn_6:∀{j:Nat},1≤j->j≤10->argsOf 6 j=none->EvQ 1000 j 1 6 (noneQ j)
 | 0,h,_,_=>absurd h (by decide)
 | 1,_,_,h=>q6_1_n
 | 2,_,_,h=>q6_2_n
 | 3,_,_,h=>q6_3_n
 | 4,_,_,h=>q6_4_n
 | 5,_,_,h=>q6_5_n
 | 6,_,_,h=>by cases h
 | 7,_,_,h=>by cases h
 | 8,_,_,h=>by cases h
 | 9,_,_,h=>q6_9_n
 | 10,_,_,h=>q6_10_n
 | j+11,_,h,_=>absurd h (by omega)
theorem evQ_8 {S:Sel}:∀{j w op:Nat} {L:List Nat},argsOf 8 j=some (op,L)->wOK j w=true->selQ L S=true->∃T,EvQ T j w 8 (restQ S j w op L)
 | 0,w,op,L,h,_,_=>by cases h
 | 1,w,op,L,h,_,_=>by cases h
 | 2,w,op,L,h,_,_=>by cases h
 | 3,w,op,L,h,hw,hs=>by
   cases h;rcases w_four hw with rfl|rfl|rfl|rfl
   · cases S with
      | all=>exact ⟨_,q8_3_1_all⟩
      | e0=>exact ⟨_,q8_3_1_e0⟩
      | e1=>cases hs
      | nr=>cases hs
   · cases S with
      | all=>exact ⟨_,q8_3_2_all⟩
      | e0=>exact ⟨_,q8_3_2_e0⟩
      | e1=>cases hs
      | nr=>cases hs
   · cases S with
      | all=>exact ⟨_,q8_3_3_all⟩
      | e0=>exact ⟨_,q8_3_3_e0⟩
      | e1=>cases hs
      | nr=>cases hs
   · cases S with
      | all=>exact ⟨_,q8_3_4_all⟩
      | e0=>exact ⟨_,q8_3_4_e0⟩
      | e1=>cases hs
      | nr=>cases hs
 | 4,w,op,L,h,_,_=>by cases h
 | 5,w,op,L,h,_,_=>by cases h
 | 6,w,op,L,h,_,_=>by cases h
 | 7,w,op,L,h,_,_=>by cases h
 | 8,w,op,L,h,_,_=>by cases h
 | 9,w,op,L,h,_,_=>by cases h
 | 10,w,op,L,h,_,_=>by cases h
 | j+11,w,op,L,h,_,_=>by cases h
theorem evQn_8:∀{j:Nat},1≤j->j≤10->argsOf 8 j=none->EvQ 1000 j 1 8 (noneQ j)
 | 0,h,_,_=>absurd h (by decide)
 | 1,_,_,h=>q8_1_n
 | 2,_,_,h=>q8_2_n
 | 3,_,_,h=>by cases h
 | 4,_,_,h=>q8_4_n
 | 5,_,_,h=>q8_5_n
 | 6,_,_,h=>q8_6_n
 | 7,_,_,h=>q8_7_n
 | 8,_,_,h=>q8_8_n
 | 9,_,_,h=>q8_9_n
 | 10,_,_,h=>q8_10_n
 | j+11,_,h,_=>absurd h (by omega)
def okH (t:TW) (n:Nat) (o:Bool):Bool:=(okT t n&&Nat.blt 0 n)&&o
def thSp (out:TW->Nat->T):List V->H->Option R
 | [.t tt,.t (.a la)],h=>match twOf tt,dfOf h la with
   | some t,some (id,n,_,o)=>some (.leaf (.b (okH t n o)) (.t (out t n)) (h.sees [id]))
   | _,_=>none
 | _,_=>none
theorem thSp_inv {out:TW->Nat->T} {args:List V} {h:H} {r:R} (e:thSp out args h=some r):∃tt la t id n D o,args=[.t tt,.t (.a la)]/\twOf tt=some t/\dfOf h la=some (id,n,D,o)/\r = .leaf (.b (okH t n o)) (.t (out t n)) (h.sees [id]):=by
 unfold thSp at e;split at e
 · split at e
   · rename_i h1 h2;cases e;exact ⟨_,_,_,_,_,_,_,rfl,h1,h2,rfl⟩
   · cases e
 · cases e
theorem th_ok {f:Nat} {out0 out:TW->Nat->T} (hent:Enters Tryz.prog f) (hΓ:∀args,ΓO f args (hM [(0,⟨false,(dz.arr 0)⟩)] 1)=none\/True) (he:∀t n (D:DF),(evalF cxK ΓO 400 20 f [.t t.t,slD n] (hM [(0,⟨false,D.arr n⟩)] 1)).res=some (.b (okT t n),.t (out0 t n))) (hg:∀(t:TW) n (D:DF),ΓO f [.t t.t,slD n] (hM [(0,⟨false,D.arr n⟩)] 1)=none)
 (hf:∀t n,(out0 t n).free=true) (hr:∀t n ν u,(V.t (out0 t n)).rel ν u->(V.t (out t n)).rel ν u):AnyOK Tryz.prog f (thSp out) where
 ent:=hent
 ok:=by
  intro args h r ok v h' he' hp hok;obtain ⟨tt,la,t,id,n,D,o,rfl,h1,h2,rfl⟩:=thSp_inv he';simp only [R.pick,oI,pI] at hp;obtain ⟨rfl,rfl,rfl⟩:=hp;have hok:((okT t n&&Nat.blt 0 n)&&o)=true:=hok;rw [bA,bA] at hok;obtain ⟨hok,ho⟩:=hok;have h0:0<n:=nL hok.2;refine fn_calm [id] fun S ν w us hm hS hus => ?_
  match us,hus with
  | [u0,u1],⟨r0,r1,_⟩=>
    obtain ⟨B,off,c,hH,rfl,hc,_⟩:=df_here hm h2 ho (hS id (.head _)) h0 r1;obtain ⟨h',hp⟩:=res_some (he t n D);obtain ⟨_,hfn⟩:=evalF_fn (XK ΓO_ok) (hg t n D) hp hok.1;refine (call_at hfn hH (vs:=[u0,.slice (some ⟨B,off,none⟩) n c]) ⟨twOf_rel h1 r0,slD_rel hc,trivial⟩ (hf t n) ν).mono ?_;rintro e w' ⟨u,rfl,hu,hb⟩;exact ⟨u,rfl,hr _ _ _ _ hu,hb⟩
 pan:=by intro args h r ok v h' he' hp hok;obtain ⟨tt,la,t,id,n,D,o,rfl,h1,h2,rfl⟩:=thSp_inv he';simp [R.pickP] at hp
 ext:=by intro args h r he' hlo;obtain ⟨tt,la,t,id,n,D,o,rfl,h1,h2,rfl⟩:=thSp_inv he';exact sees_ext [id] h
theorem vwT0_rel {v:VW} (hm:v.m=K 0) {ν:Nu} {u:Value} (h:(V.t (vwT0 v)).rel ν u):(V.t v.t).rel ν u:=by
 obtain ⟨vs,rfl,hr⟩:=h;refine ⟨vs,rfl,?_⟩;unfold vwT0 at hr;unfold VW.t;simp only [T.rel,relTs,A.rel,hm] at hr ⊢;obtain ⟨a1,b1,e1,q1,a2,b2,e2,q2,a3,b3,e3,⟨x3,y3,⟨z3,_⟩,c3⟩,r4⟩:=hr;exact ⟨a1,b1,e1,q1,a2,b2,e2,q2,a3,b3,e3,⟨x3,y3,z3,c3⟩,r4⟩
theorem okT_true (t:TW) {n:Nat} (h1:1≤n) (h2:n≤10):okH t n (Nat.beq n n)=true:=by
 have a0:Nat.beq n n=true:=Nat.beq_refl n;have a1:Nat.blt n (2 ^ 63)=true:=nB (by omega)
 have a2:Nat.blt 0 n=true:=nB h1;have a3:(kk n != kk 0)=true:=bne_iff_ne.2 fun e=>by
  have:=congrArg BitVec.toNat e;rw [kk_nat (by omega),kk_nat (by omega)] at this
  omega
 unfold okH okT;rw [a0,a1,a2,a3];cases t.k==K 0<;>cases t.k==K 2<;>cases t.k==K 3<;>cases t.k==K 4<;>cases BitVec.slt (kk n) (K 1)<;>cases BitVec.slt (BitVec.srem t.m (kk n)) (K 0)<;>rfl
def valSp:List V->H->Option R:=thSp fun t n=>(valW t n).t
def knoSp (kn:TW->Nat->RW):List V->H->Option R:=thSp fun t n=>(kn t n).t
theorem val29_ok:AnyOK Tryz.prog 29 valSp:=th_ok (enters_of entK 29 _ Tryz.func29 (by simp [Tryz.f29])) (fun _ =>.inr trivial) val_ev (fun _ _ _=>rfl) (fun _ _=>rfl) fun t n ν u h=>vwT0_rel rfl h
theorem kno30_ok:AnyOK Tryz.prog 30 (knoSp knoW):=th_ok (enters_of entK 30 _ Tryz.func30 (by simp [Tryz.f30])) (fun _ =>.inr trivial) kno_ev (fun _ _ _=>rfl) kno_free fun t n ν u h=>rwOfT_rel (kno_w t n) h
def isPt (v:VW):Bool := !(!(BitVec.sle (K 0) (cond (v.k != K 1) (K 0) (K (-1)))))
def stP (s:VF) (k:Nat) (v:VW):VF:=⟨s.regs,s.ptr.set k v,fun i j=>bif Nat.beq i k then K 0 else s.by_ i j,fun i j=>bif Nat.beq i k then false else s.ld i j⟩
def b8 (x:U):Nat->U:=fun j=>[x>>>(K 0).toNat,x>>>(K 8).toNat,x>>>(K 16).toNat,x>>>(K 24).toNat,x>>>(K 32).toNat,x>>>(K 40).toNat,x>>>(K 48).toNat,x>>>(K 56).toNat].getD j (K 0)
def stoVR (s:VF) (k:Nat) (v:VW):VF:=VF.bif (isPt v) (stP s k v) (layVN s (8*k) (b8 v.n) 8)
def insnT (k:Nat):V :=.t (.st [.a (.lit .i64 123),.a (.lit .i64 10),.a (.lit .i64 9),.a (.lit .i64 (sP k)),.a (.lit .i64 0)])
def okDo (s:VF) (k:Nat):Bool:=cond (isPt (s.regs.at 9)) (r10B (s.regs.at 10)&&(s.regs.k 9 != K 0)) ((r10B (s.regs.at 10)&&(s.regs.k 9 != K 0))&&(Nat.ble (8*k+8) 128&&Nat.blt 0 8))
def askZ:V :=.tup [.st [.a (.lit .i64 0),.a (.lit .i64 0),.a (.lit .i64 0),.a (.lit .i64 0),.a (.lit .i64 0),.a (.lit .i64 0),.a (.lit .i64 0),.a (.lit .u64 0),.a (.lit .u64 0)],.a (.lit .i64 0)]
theorem do40_ev (s:VF):∀k:Nat,k<16->(evalF cxD ΓR 400 20 40 [pt 0,insnT k] (hM [(0,⟨true,s.t⟩)] 1)).rt = .leaf (.b (okDo s k)) askZ [0] (some ⟨true,(stoVR s k (s.regs.at 9)).t⟩) none
 | 0,_=>by kernel_rfl|1,_=>by kernel_rfl|2,_=>by kernel_rfl|3,_=>by kernel_rfl|4,_=>by kernel_rfl|5,_=>by kernel_rfl|6,_=>by kernel_rfl|7,_=>by kernel_rfl
 | 8,_=>by kernel_rfl|9,_=>by kernel_rfl|10,_=>by kernel_rfl|11,_=>by kernel_rfl|12,_=>by kernel_rfl|13,_=>by kernel_rfl|14,_=>by kernel_rfl|15,_=>by kernel_rfl|n+16,h=>absurd h (by omega)
def uP (k:Nat):Int:=8*(k:Int)+18446744073709551488
def p8 (k:Nat) (v:U) (f:Nat->U):Nat->U:=putN (8*k+7) v (putN (8*k+6) v (putN (8*k+5) v (putN (8*k+4) v (putN (8*k+3) v (putN (8*k+2) v (putN (8*k+1) v (putN (8*k) v f)))))))
def stPQ (s:QF) (k:Nat) (v:VW):QF:=⟨s.regs,p8 k (K 2) s.how,p8 k (K 0) s.b,s.ptr.set k v⟩
def z8L:Nat->U:=fun j=>[K 0,K 0,K 0,K 0,K 0,K 0,K 0,K 0].getD j (K 0)
def stoQR (s:QF) (k:Nat) (v:VW):QF:=QF.bif (v.k != K 1) (stPQ s k v) (layQN s (8*k) (putF z8L 0 v.n) 8)
def okDQ (v:VW) (k:Nat):Bool:=cond (v.k != K 1) true (Nat.ble (8*k+8) 128&&Nat.blt 0 8)
theorem st161_ev (s:QF) (v:VW):∀k:Nat,k<16->(evalF cxD ΓQ 400 20 161 [pt 0,one (.lit .u64 (uP k)),one (.lit .i64 8),.t v.t] (hM [(0,⟨true,s.t⟩)] 1)).rt = .leaf (.b (okDQ v k)) (one (.lit .i64 0)) [0] (some ⟨true,(stoQR s k v).t⟩) none
 | 0,_=>by kernel_rfl|1,_=>by kernel_rfl|2,_=>by kernel_rfl|3,_=>by kernel_rfl|4,_=>by kernel_rfl|5,_=>by kernel_rfl|6,_=>by kernel_rfl|7,_=>by kernel_rfl
 | 8,_=>by kernel_rfl|9,_=>by kernel_rfl|10,_=>by kernel_rfl|11,_=>by kernel_rfl|12,_=>by kernel_rfl|13,_=>by kernel_rfl|14,_=>by kernel_rfl|15,_=>by kernel_rfl|n+16,h=>absurd h (by omega)
def SaysT (f:Nat) (t:T) (rest:List V) (v:V) (t':T):Prop:=∀(ν:Nu) (w:World) (r:Nat) (us:List Value),Holds w r t->relV ν rest us->Calls Tryz.prog f (.pointer (some ⟨r,0,none⟩)::us).toArray w fun e w'=>∃u,e = .returned u/\v.rel ν u/\But r w.heap.size w w'/\Holds w' r t'
theorem pt_rel (r:Nat):(V.t (.a (.ptr 0 []))).rel (nuOne r) (.pointer (some ⟨r,0,none⟩)):=by
 show (A.ptr 0 []).rel (nuOne r) _;simp only [A.rel];exact ⟨r,0,rfl,rfl⟩
theorem says_ev {cx:Cx} {Γ:Gam} (X:CxOK cx Γ) (hP:cx.P=Tryz.prog) {fuel n f:Nat} {t t':T} {rest rest':List V} {ok:A} {v v':V} {wr:List Nat} {b:Option Blk} (hΓ:Γ f (pt 0::rest') (hM [(0,⟨true,t⟩)] 1)=none)
 (he:(evalF cx Γ fuel (n+1) f (pt 0::rest') (hM [(0,⟨true,t⟩)] 1)).rt.pick=some (ok,v,wr,some ⟨true,t'⟩,b)) (hok:okB ok=true) (hw:wr=[0]\/wr=[]) (hn:notMp t'=true) (hfr:t'.free=true) (hv:v.free=true)
 (hvv:∀ν u,v.rel ν u->v'.rel ν u) (hr:∀ν us,relV ν rest us->∀r,relV (nuOne r) rest' us):SaysT f t rest v' t':=by
 obtain ⟨h',hp,hwr,hg,_⟩:=rt_pick he;obtain ⟨_,hfn⟩:=evalF_fn X hΓ hp hok;rw [hP] at hfn;intro ν w r us hh hus;refine (call_one hfn (by rw [hwr];exact hw) hg hn hfr hv hh (vs :=.pointer (some ⟨r,0,none⟩)::us) ⟨pt_rel r,hr ν us hus r⟩ ν).mono ?_
 rintro e w' ⟨u,rfl,hu,hb,hh'⟩;exact ⟨u,rfl,hvv _ _ hu,hb,hh'⟩
def turnSp {σ:Type} (of:H->Nat->Option σ) (t:σ->T) (sp:σ->List V->Option (A×V×σ)):List V->H->Option R
 | .t (.a (.ptr id []))::rest,h=>match of h id with
   | some s=>match sp s rest with
     | some (ok,v,s')=>some (.leaf ok v ((h.sees [id]).put id ⟨true,t s'⟩))
     | none=>none
   | none=>none
 | _,_=>none
theorem turnSp_inv {σ:Type} {of:H->Nat->Option σ} {t:σ->T} {sp:σ->List V->Option (A×V×σ)} {args:List V} {h:H} {r:R} (e:turnSp of t sp args h=some r):∃id rest s ok v s',args = .t (.a (.ptr id []))::rest/\of h id=some s/\sp s rest=some (ok,v,s')/\r = .leaf ok v ((h.sees [id]).put id ⟨true,t s'⟩):=by
 unfold turnSp at e;split at e
 · split at e
   · rename_i h1;split at e
     · rename_i h2;cases e;exact ⟨_,_,_,_,_,_,rfl,h1,h2,rfl⟩
     · cases e
   · cases e
 · cases e
theorem turn_ok {σ:Type} {of:H->Nat->Option σ} {t:σ->T} {sp:σ->List V->Option (A×V×σ)} {f:Nat} (hof:∀{h id s},of h id=some s->h.m.get id=some ⟨true,t s⟩) (hn:∀s,notMp (t s)=true) (hf:∀s,(t s).free=true) (hent:Enters Tryz.prog f)
 (hs:∀s rest ok v s',sp s rest=some (ok,v,s')->okB ok=true->SaysT f (t s) rest v (t s')):AnyOK Tryz.prog f (turnSp of t sp) where
 ent:=hent
 ok:=by intro args h r ok v h' he hp hok;obtain ⟨id,rest,s,ok0,v0,s',rfl,h1,h2,rfl⟩:=turnSp_inv he;simp only [R.pick,oI,pI] at hp;obtain ⟨rfl,rfl,rfl⟩:=hp;exact fn_turn (hof h1) (hn s) (hf s) [id] (.head _) fun S ν w r us hm hS hν hh hus=>hs s rest _ _ s' h2 hok ν w r us hh hus
 pan:=by intro args h r ok v h' he hp hok;obtain ⟨id,rest,s,ok0,v0,s',rfl,h1,h2,rfl⟩:=turnSp_inv he;simp [R.pickP] at hp
 ext:=by intro args h r he hlo;obtain ⟨id,rest,s,ok0,v0,s',rfl,h1,h2,rfl⟩:=turnSp_inv he;exact (sees_ext [id] h).trans (put_ext (h:=h.sees [id]) (by rw [sees_m];exact hof h1) rfl rfl)
def turnV (sp:VF->List V->Option (A×V×VF)):List V->H->Option R:=turnSp vfOf VF.t sp
def turnQ (sp:QF->List V->Option (A×V×QF)):List V->H->Option R:=turnSp qfOf QF.t sp
theorem turnV_ok {sp:VF->List V->Option (A×V×VF)} {f:Nat} (hent:Enters Tryz.prog f) (hs:∀s rest ok v s',sp s rest=some (ok,v,s')->okB ok=true->SaysT f s.t rest v s'.t):AnyOK Tryz.prog f (turnV sp):=
 turn_ok vfOf_some (fun _=>rfl) (fun _=>rfl) hent hs
theorem turnQ_ok {sp:QF->List V->Option (A×V×QF)} {f:Nat} (hent:Enters Tryz.prog f) (hs:∀s rest ok v s',sp s rest=some (ok,v,s')->okB ok=true->SaysT f s.t rest v s'.t):AnyOK Tryz.prog f (turnQ sp):=
 turn_ok qfOf_some (fun _=>rfl) (fun _=>rfl) hent hs
def insnX:List V->Option U
 | [.t (.st [.a (.lit .i64 a),.a (.lit .i64 b),.a (.lit .i64 c),.a ax,.a (.lit .i64 d)])]=>match decide (a=123)&&(decide (b=10)&&(decide (c=9)&&decide (d=0))) with
   | true=>i64Of ax
   | false=>none
 | _=>none
theorem insnX_rel {rest:List V} {x:U} (h:insnX rest=some x) {k:Nat} (hk:k<16) (e:x=K (sP k)) {ν:Nu} {us:List Value} (hr:relV ν rest us) (ν':Nu):relV ν' [insnT k] us:=by
 unfold insnX at h;split at h
 · split at h
   · rename_i hc;simp only [bA,decide_eq_true_eq] at hc;obtain ⟨rfl,rfl,rfl,rfl⟩:=hc
     match us,hr with
     | [u],⟨r1,_⟩=>
       refine ⟨?_,trivial⟩;obtain ⟨vs,rfl,hr⟩:=r1;refine ⟨vs,rfl,?_⟩;simp only [T.rel,relTs] at hr ⊢;obtain ⟨u1,w1,e1,q1,u2,w2,e2,q2,u3,w3,e3,q3,u4,w4,e4,⟨x4,rfl,q4,c4⟩,r4⟩:=hr;have key:∀{n:Int} {vs:List Value},(∃v,vs=[v]/\(A.lit .i64 n).rel ν v/\Cell v)->∃v,vs=[v]/\(A.lit .i64 n).rel ν' v/\Cell v:=fun {n vs} ⟨v,a,b,c⟩=>⟨v,a,by simpa only [A.rel] using b,c⟩
       obtain ⟨u5,w5,e5,q5,e6⟩:=r4;exact ⟨u1,w1,e1,key q1,u2,w2,e2,key q2,u3,w3,e3,key q3,_,w4,e4,⟨x4,rfl,sP_rel hk h e q4,c4⟩,u5,w5,e5,key q5,e6⟩
   · cases h
 · cases h
def doS (s:VF) (rest:List V):Option (A×V×VF):=match insnX rest with
 | some x=>some (.b (isSlot x&&okDo s (slotN x)),askZ,stoVR s (slotN x) (s.regs.at 9))
 | none=>none
theorem do40_ok:AnyOK Tryz.prog 40 (turnV doS):=turnV_ok (enters_of entK 40 _ Tryz.func40 (by simp [Tryz.f40])) fun s rest ok v s' h hok=>by
 unfold doS at h;split at h
 · rename_i x hx;cases h;have hok:(isSlot x&&okDo s (slotN x))=true:=hok;rw [bA] at hok;obtain ⟨k,hk,e,e2⟩:=isSlot_some hok.1;rw [e2] at hok ⊢;exact says_ev (ok :=.b (okDo s k)) (XD ΓR_ok) rfl rfl (by rw [do40_ev s k hk];rfl) hok.2 (.inl rfl) rfl rfl rfl (fun _ _ h=>h) fun ν us hus r=>insnX_rel hx hk e hus _
 · cases h
def sto8:List V->Option (U×VW)
 | [.t (.a au),.t (.a (.lit .i64 m)),.t vt]=>match u64Of au,decide (m=8),vwOfT vt with
   | some x,true,some v=>some (x,v)
   | _,_,_=>none
 | _=>none
theorem uP_val:∀k:Fin 16,K (uP k.val)=K (sP k.val)/\vof .u64 (K (sP k.val))=uP k.val/\IntKind.u64.wrap (uP k.val)=uP k.val:=by decide +kernel
theorem sto8_rel {rest:List V} {x:U} {v:VW} (h:sto8 rest=some (x,v)) {k:Nat} (hk:k<16) (e:x=K (sP k)) {ν:Nu} {us:List Value} (hr:relV ν rest us) (ν':Nu):relV ν' [one (.lit .u64 (uP k)),one (.lit .i64 8),.t v.t] us:=by
 unfold sto8 at h;split at h
 · rename_i au m vt;split at h
   · rename_i h1 h2 h3;cases h;have h2:=of_decide_eq_true h2;subst h2
     match us,hr with
     | [u1,u2,u3],⟨r1,r2,r3,_⟩=>
       refine ⟨?_,lt8_rel (ν:=ν) (ν':=ν') r2,vwOfT_rel h3 r3,trivial⟩;have r1:au.rel ν u1:=r1;have:=u64Of_rel h1 r1;show (A.lit .u64 (uP k)).rel ν' u1;simp only [A.rel];obtain ⟨_,q2,q3⟩:=uP_val ⟨k,hk⟩;rw [this,e,q2];exact ⟨rfl,q3⟩
   · cases h
 · cases h
def stoQS (s:QF) (rest:List V):Option (A×V×QF):=match sto8 rest with
 | some (x,v)=>some (.b (isSlot x&&okDQ v (slotN x)),one (.lit .i64 0),stoQR s (slotN x) v)
 | none=>none
theorem sto161_ok:AnyOK Tryz.prog 161 (turnQ stoQS):=turnQ_ok (enters_of entK 161 _ Tryz.func161 (by simp [Tryz.f161])) fun s rest ok v s' h hok=>by
 unfold stoQS at h;split at h
 · rename_i x vv hx;cases h;have hok:(isSlot x&&okDQ vv (slotN x))=true:=hok;rw [bA] at hok;obtain ⟨k,hk,e,e2⟩:=isSlot_some hok.1;rw [e2] at hok ⊢;exact says_ev (ok :=.b (okDQ vv k)) (XD ΓQ_ok) rfl rfl (by rw [st161_ev s vv k hk];rfl) hok.2 (.inl rfl) rfl rfl rfl (fun _ _ h=>h) fun ν us hus r=>sto8_rel hx hk e hus _
 · cases h
def ΓD:Gam:=anyΓ 161 (turnQ stoQS) ΓQ
theorem ΓD_ok:ΓOK Tryz.prog ΓD:=anyΓ_ok sto161_ok ΓQ_ok
def insnY (x:U):V :=.t (.st [.a (.lit .i64 123),.a (.lit .i64 10),.a (.lit .i64 9),.a (.i .i64 x),.a (.lit .i64 0)])
def doQ (s:QF) (x:U):QF:=QF.bif (s.regs.k 10==K 0) s (QF.bif (s.regs.k 9==K 0) s (QF.bif (s.regs.k 10==K 1) s (QF.bif (s.regs.k 10==K 3) (stoQR s (slotN (s.regs.n 10+x)) (s.regs.at 9)) s)))
def okQ (s:QF) (x:U):Bool:=cond (s.regs.k 10==K 0) true (cond (s.regs.k 9==K 0) true (cond (s.regs.k 10==K 1) true (cond (s.regs.k 10==K 3) (isSlot (s.regs.n 10+x)&&okDQ (s.regs.at 9) (slotN (s.regs.n 10+x))) true)))
def RT.sum (r:RT):Option (A×Bool×List Nat×Option Blk):=r.pick.map fun p=>(p.1,p.2.1.free,p.2.2.1,p.2.2.2.1)
theorem do43_ev (s:QF) (x:U):(evalF cxD ΓD 400 20 43 [pt 0,insnY x] (hM [(0,⟨true,s.t⟩)] 1)).rt.sum=some (.b (okQ s x),true,[0],some ⟨true,(doQ s x).t⟩):=by kernel_rfl
theorem says_sum {cx:Cx} {Γ:Gam} (X:CxOK cx Γ) (hP:cx.P=Tryz.prog) {fuel n f:Nat} {t t':T} {rest rest':List V} {ok:A} {wr:List Nat} (hΓ:Γ f (pt 0::rest') (hM [(0,⟨true,t⟩)] 1)=none)
 (he:(evalF cx Γ fuel (n+1) f (pt 0::rest') (hM [(0,⟨true,t⟩)] 1)).rt.sum=some (ok,true,wr,some ⟨true,t'⟩)) (hok:okB ok=true) (hw:wr=[0]\/wr=[]) (hn:notMp t'=true) (hfr:t'.free=true)
 (hr:∀ν us,relV ν rest us->∀r,relV (nuOne r) rest' us):SaysT f t rest (one .poison) t':=by
 unfold RT.sum at he;cases hp:(evalF cx Γ fuel (n+1) f (pt 0::rest') (hM [(0,⟨true,t⟩)] 1)).rt.pick with
 | none=>rw [hp] at he;cases he
 | some p=>
   obtain ⟨ok0,v0,wr0,b0,b⟩:=p;rw [hp] at he;simp only [Option.map_some,oI,pI] at he;obtain ⟨rfl,hv,rfl,rfl⟩:=he;exact says_ev X hP hΓ hp hok hw hn hfr hv (fun ν u _=>by show A.poison.rel ν u;simp only [A.rel]) hr
theorem insnX_relY {rest:List V} {x:U} (h:insnX rest=some x) {ν:Nu} {us:List Value} (hr:relV ν rest us) (ν':Nu):relV ν' [insnY x] us:=by
 unfold insnX at h;split at h
 · split at h
   · rename_i hc;simp only [bA,decide_eq_true_eq] at hc;obtain ⟨rfl,rfl,rfl,rfl⟩:=hc
     match us,hr with
     | [u],⟨r1,_⟩=>
       refine ⟨?_,trivial⟩;obtain ⟨vs,rfl,hr⟩:=r1;refine ⟨vs,rfl,?_⟩;simp only [T.rel,relTs] at hr ⊢;obtain ⟨u1,w1,e1,q1,u2,w2,e2,q2,u3,w3,e3,q3,u4,w4,e4,⟨x4,rfl,q4,c4⟩,r4⟩:=hr;have key:∀{n:Int} {vs:List Value},(∃v,vs=[v]/\(A.lit .i64 n).rel ν v/\Cell v)->∃v,vs=[v]/\(A.lit .i64 n).rel ν' v/\Cell v:=fun {n vs} ⟨v,a,b,c⟩=>⟨v,a,by simpa only [A.rel] using b,c⟩
       obtain ⟨u5,w5,e5,q5,e6⟩:=r4;exact ⟨u1,w1,e1,key q1,u2,w2,e2,key q2,u3,w3,e3,key q3,_,w4,e4,⟨x4,rfl,by
        simp only [A.rel];exact i64Of_rel h q4,c4⟩,u5,w5,e5,key q5,e6⟩
   · cases h
 · cases h
def doSQ (s:QF) (rest:List V):Option (A×V×QF):=match insnX rest with
 | some x=>some (.b (okQ s x),one .poison,doQ s x)
 | none=>none
theorem do43_ok:AnyOK Tryz.prog 43 (turnQ doSQ):=turnQ_ok (enters_of entK 43 _ Tryz.func43 (by simp [Tryz.f43])) fun s rest ok v s' h hok=>by
 unfold doSQ at h;split at h
 · rename_i x hx;cases h;exact says_sum (ok :=.b (okQ s x)) (XD ΓD_ok) rfl rfl (do43_ev s x) hok (.inl rfl) rfl rfl fun ν us hus r=>insnX_relY hx hus _
 · cases h
theorem p8_at {k:Nat} {v:U} {f:Nat->U} {j:Nat}:p8 k v f j=if j / 8=k then v else f j:=by
 unfold p8;simp only [putN_at];by_cases h:j / 8=k
 · rw [if_pos h];have:j=8*k\/j=8*k+1\/j=8*k+2\/j=8*k+3\/j=8*k+4\/j=8*k+5\/j=8*k+6\/j=8*k+7:=by omega
   rcases this with rfl|rfl|rfl|rfl|rfl|rfl|rfl|rfl<;>simp
 · rw [if_neg h,if_neg (by omega),if_neg (by omega),if_neg (by omega),if_neg (by omega),if_neg (by omega),if_neg (by omega),if_neg (by omega),if_neg (by omega)]
theorem isPt_eq (v:VW):isPt v=(v.k != K 1):=by
 unfold isPt;cases v.k != K 1<;>rfl
theorem layQN_congr {s:QF} {b:Nat} {c c':Nat->U}:∀n,(∀j,j<n->c j=c' j)->layQN s b c n=layQN s b c' n
 | 0,_=>rfl
 | n+1,h=>by show layQE _ _ _=layQE _ _ _;rw [layQN_congr n (fun j hj=>h j (by omega)),h n (by omega)]
theorem b8_put (x:U):∀j,j<8->putF z8L 0 x j=b8 x j:=fun j hj=>by
 have:j=0\/j=1\/j=2\/j=3\/j=4\/j=5\/j=6\/j=7:=by omega
 rcases this with rfl|rfl|rfl|rfl|rfl|rfl|rfl|rfl<;>rfl
theorem set_k (f:VV) (j:Nat) (v:VW) (i:Nat):(f.set j v).at i=if i=j then v else f.at i:=by
 show VW.mk _ _ _ _=_;simp only [VV.set,putN_at];by_cases h:i=j
 · simp only [if_pos h]
 · simp only [if_neg h];rfl
theorem rel_stP {s:VF} {q:QF} (h:Rel23 s q) (k:Nat) {v:VW} (hv:v.k≠K 0):Rel23 (stP s k v) (stPQ q k v):=by
 have hk:∀i,(s.ptr.set k v).k i=if i=k then v.k else s.ptr.k i:=fun i=>by
  have:=congrArg VW.k (set_k s.ptr k v i);by_cases e:i=k
  · rw [if_pos e] at this ⊢;exact this
  · rw [if_neg e] at this ⊢;exact this
 refine ⟨h.regs,fun j => ?_,fun j => ?_,fun i hi => ?_,fun i j hi => ?_⟩
 · show p8 k (K 2) q.how j=if (s.ptr.set k v).k (j / 8)≠K 0 then K 2 else if (bif Nat.beq (j / 8) k then false else s.ld (j / 8) (j % 8))=true then K 1 else K 0
   rw [p8_at,hk];by_cases e:j / 8=k
   · simp only [if_pos e];rw [if_pos hv]
   · simp only [if_neg e];have:Nat.beq (j / 8) k=false:=by
      rw [beq_eq_decide,decide_eq_false e]
     rw [this];exact h.how j
 · show p8 k (K 0) q.b j=bif Nat.beq (j / 8) k then K 0 else s.by_ (j / 8) (j % 8);rw [p8_at,beq_eq_decide];by_cases e:j / 8=k
   · rw [if_pos e,decide_eq_true e];rfl
   · rw [if_neg e,decide_eq_false e];exact h.b j
 · have hi:(s.ptr.set k v).k i≠K 0:=hi;show (q.ptr.set k v).at i=(s.ptr.set k v).at i;rw [set_k,set_k];by_cases e:i=k
   · rw [if_pos e,if_pos e]
   · rw [if_neg e,if_neg e];rw [hk,if_neg e] at hi;exact h.ptr i hi
 · have hi:(s.ptr.set k v).k i≠K 0:=hi;show (bif Nat.beq i k then K 0 else s.by_ i j)=K 0/\(bif Nat.beq i k then false else s.ld i j)=false;by_cases e:i=k
   · rw [beq_eq_decide,decide_eq_true e];exact ⟨rfl,rfl⟩
   · rw [beq_eq_decide,decide_eq_false e];rw [hk,if_neg e] at hi;exact h.nul i j hi
theorem rel_sto {s:VF} {q:QF} (h:Rel23 s q) {k:Nat} (hk:k<16) {v:VW} (hv:v.k≠K 0):Rel23 (stoVR s k v) (stoQR q k v):=by
 unfold stoVR stoQR;rw [isPt_eq];cases v.k != K 1
 · show Rel23 (layVN s (8*k) (b8 v.n) 8) (layQN q (8*k) (putF z8L 0 v.n) 8);rw [layQN_congr 8 (b8_put v.n)];exact rel_layN h _ 8 (by omega)
 · exact rel_stP h k hv
theorem rel_regs {s:VF} {q:QF} (h:Rel23 s q) (R:VV):Rel23 { s with regs:=R } { q with regs:=R }:=⟨rfl,h.how,h.b,h.ptr,h.nul⟩
end Go.WE
end
