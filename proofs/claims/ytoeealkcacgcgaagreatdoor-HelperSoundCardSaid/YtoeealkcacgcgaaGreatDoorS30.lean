/- A part of a proof of the helpers' law; no condition of its own. -/
import Derived.Test.YtoeealkcacgcgaaGreatDoorS24
import Derived.Test.YtoeealkcacgcgaaGreatDoorS25
import Derived.Test.YtoeealkcacgcgaaGreatDoorS26
import Derived.Test.YtoeealkcacgcgaaGreatDoorS27
import Derived.Test.YtoeealkcacgcgaaGreatDoorS28
import Derived.Test.YtoeealkcacgcgaaGreatDoorS29
set_option linter.unusedVariables false
set_option maxRecDepth 100000
noncomputable section
namespace Go.WE
open Go Go.Proofs Go.RowKit
theorem dvn_1 {S:Sel}:∀{j w op:Nat} {L:List Nat},argsOf 1 j=some (op,L)->wOK j w=true->selV L S=true->∃T,DnV (nilA L) S.b T j w 1 (restDV S j w 1 L)
 | 0,w,op,L,h,_,_=>by cases h
 | 1,w,op,L,h,hw,hs=>by
   cases h;obtain rfl:=w_one hw;cases S with
    | all=>exact ⟨_,dv1_1_1_all⟩
    | e0=>exact ⟨_,dv1_1_1_e0⟩
    | e1=>cases hs
    | nr=>cases hs
 | 2,w,op,L,h,hw,hs=>by
   cases h;obtain rfl:=w_one hw;cases S with
    | all=>exact ⟨_,dv1_2_1_all⟩
    | e0=>exact ⟨_,dv1_2_1_e0⟩
    | e1=>cases hs
    | nr=>cases hs
 | 3,w,op,L,h,_,_=>by cases h
 | 4,w,op,L,h,hw,hs=>by
   cases h;obtain rfl:=w_one hw;cases S with
    | all=>exact ⟨_,dv1_4_1_all⟩
    | e0=>exact ⟨_,dv1_4_1_e0⟩
    | e1=>cases hs
    | nr=>cases hs
 | 5,w,op,L,h,hw,hs=>by
   cases h;obtain rfl:=w_one hw;cases S with
    | all=>exact ⟨_,dv1_5_1_all⟩
    | e0=>exact ⟨_,dv1_5_1_e0⟩
    | e1=>cases hs
    | nr=>cases hs
 | 6,w,op,L,h,_,_=>by cases h
 | 7,w,op,L,h,_,_=>by cases h
 | 8,w,op,L,h,_,_=>by cases h
 | 9,w,op,L,h,hw,hs=>by
   cases h;obtain rfl:=w_one hw;cases S with
    | all=>exact ⟨_,dv1_9_1_all⟩
    | e0=>exact ⟨_,dv1_9_1_e0⟩
    | e1=>cases hs
    | nr=>cases hs
 | 10,w,op,L,h,hw,hs=>by
   cases h;obtain rfl:=w_one hw;cases S with
    | all=>exact ⟨_,dv1_10_1_all⟩
    | e0=>exact ⟨_,dv1_10_1_e0⟩
    | e1=>cases hs
    | nr=>cases hs
 | j+11,w,op,L,h,_,_=>by cases h
theorem dvw_1 {S:Sel}:∀{j w op:Nat} {L:List Nat},argsOf 1 j=some (op,L)->wOK j w=true->selV L S=true->plc L≠none->∃T,DwV S.b T j w 1 (restDW S j w 1 L)
 | 0,w,op,L,h,_,_,_=>by cases h
 | 1,w,op,L,h,_,_,hp=>by cases h;exact absurd rfl hp
 | 2,w,op,L,h,_,_,hp=>by cases h;exact absurd rfl hp
 | 3,w,op,L,h,_,_,_=>by cases h
 | 4,w,op,L,h,_,_,hp=>by cases h;exact absurd rfl hp
 | 5,w,op,L,h,_,_,hp=>by cases h;exact absurd rfl hp
 | 6,w,op,L,h,_,_,_=>by cases h
 | 7,w,op,L,h,_,_,_=>by cases h
 | 8,w,op,L,h,_,_,_=>by cases h
 | 9,w,op,L,h,_,_,hp=>by cases h;exact absurd rfl hp
 | 10,w,op,L,h,_,_,hp=>by cases h;exact absurd rfl hp
 | j+11,w,op,L,h,_,_,_=>by cases h
theorem dvz_1:∀{j:Nat},1≤j->j≤10->argsOf 1 j=none->DnV .poison true 1000 j 1 1 (noneDV j)
 | 0,h,_,_=>absurd h (by decide)
 | 1,_,_,h=>by cases h
 | 2,_,_,h=>by cases h
 | 3,_,_,h=>dv1_3_n
 | 4,_,_,h=>by cases h
 | 5,_,_,h=>by cases h
 | 6,_,_,h=>dv1_6_n
 | 7,_,_,h=>dv1_7_n
 | 8,_,_,h=>dv1_8_n
 | 9,_,_,h=>by cases h
 | 10,_,_,h=>by cases h
 | j+11,_,h,_=>absurd h (by omega)
theorem dvn_2 {S:Sel}:∀{j w op:Nat} {L:List Nat},argsOf 2 j=some (op,L)->wOK j w=true->selV L S=true->∃T,DnV (nilA L) S.b T j w 2 (restDV S j w 2 L)
 | 0,w,op,L,h,_,_=>by cases h
 | 1,w,op,L,h,hw,hs=>by
   cases h;obtain rfl:=w_one hw;cases S with
    | all=>exact ⟨_,dv2_1_1_all⟩
    | e0=>exact ⟨_,dv2_1_1_e0⟩
    | e1=>exact ⟨_,dv2_1_1_e1⟩
    | nr=>cases hs
 | 2,w,op,L,h,hw,hs=>by
   cases h;obtain rfl:=w_one hw;cases S with
    | all=>exact ⟨_,dv2_2_1_all⟩
    | e0=>exact ⟨_,dv2_2_1_e0⟩
    | e1=>exact ⟨_,dv2_2_1_e1⟩
    | nr=>cases hs
 | 3,w,op,L,h,hw,hs=>by
   cases h;rcases w_four hw with rfl|rfl|rfl|rfl
   · cases S with
      | all=>exact ⟨_,dv2_3_1_all⟩
      | e0=>exact ⟨_,dv2_3_1_e0⟩
      | e1=>exact ⟨_,dv2_3_1_e1⟩
      | nr=>cases hs
   · cases S with
      | all=>exact ⟨_,dv2_3_2_all⟩
      | e0=>exact ⟨_,dv2_3_2_e0⟩
      | e1=>exact ⟨_,dv2_3_2_e1⟩
      | nr=>cases hs
   · cases S with
      | all=>exact ⟨_,dv2_3_3_all⟩
      | e0=>exact ⟨_,dv2_3_3_e0⟩
      | e1=>exact ⟨_,dv2_3_3_e1⟩
      | nr=>cases hs
   · cases S with
      | all=>exact ⟨_,dv2_3_4_all⟩
      | e0=>exact ⟨_,dv2_3_4_e0⟩
      | e1=>exact ⟨_,dv2_3_4_e1⟩
      | nr=>cases hs
 | 4,w,op,L,h,hw,hs=>by
   cases h;obtain rfl:=w_one hw;cases S with
    | all=>exact ⟨_,dv2_4_1_all⟩
    | e0=>exact ⟨_,dv2_4_1_e0⟩
    | e1=>exact ⟨_,dv2_4_1_e1⟩
    | nr=>cases hs
 | 5,w,op,L,h,hw,hs=>by
   cases h;obtain rfl:=w_one hw;cases S with
    | all=>exact ⟨_,dv2_5_1_all⟩
    | e0=>exact ⟨_,dv2_5_1_e0⟩
    | e1=>exact ⟨_,dv2_5_1_e1⟩
    | nr=>cases hs
 | 6,w,op,L,h,_,_=>by cases h
 | 7,w,op,L,h,_,_=>by cases h
 | 8,w,op,L,h,_,_=>by cases h
 | 9,w,op,L,h,_,_=>by cases h
 | 10,w,op,L,h,_,_=>by cases h
 | j+11,w,op,L,h,_,_=>by cases h
theorem dvw_2 {S:Sel}:∀{j w op:Nat} {L:List Nat},argsOf 2 j=some (op,L)->wOK j w=true->selV L S=true->plc L≠none->∃T,DwV S.b T j w 2 (restDW S j w 2 L)
 | 0,w,op,L,h,_,_,_=>by cases h
 | 1,w,op,L,h,_,_,hp=>by cases h;exact absurd rfl hp
 | 2,w,op,L,h,_,_,hp=>by cases h;exact absurd rfl hp
 | 3,w,op,L,h,_,_,hp=>by cases h;exact absurd rfl hp
 | 4,w,op,L,h,_,_,hp=>by cases h;exact absurd rfl hp
 | 5,w,op,L,h,_,_,hp=>by cases h;exact absurd rfl hp
 | 6,w,op,L,h,_,_,_=>by cases h
 | 7,w,op,L,h,_,_,_=>by cases h
 | 8,w,op,L,h,_,_,_=>by cases h
 | 9,w,op,L,h,_,_,_=>by cases h
 | 10,w,op,L,h,_,_,_=>by cases h
 | j+11,w,op,L,h,_,_,_=>by cases h
theorem dvz_2:∀{j:Nat},1≤j->j≤10->argsOf 2 j=none->DnV .poison true 1000 j 1 2 (noneDV j)
 | 0,h,_,_=>absurd h (by decide)
 | 1,_,_,h=>by cases h
 | 2,_,_,h=>by cases h
 | 3,_,_,h=>by cases h
 | 4,_,_,h=>by cases h
 | 5,_,_,h=>by cases h
 | 6,_,_,h=>dv2_6_n
 | 7,_,_,h=>dv2_7_n
 | 8,_,_,h=>dv2_8_n
 | 9,_,_,h=>dv2_9_n
 | 10,_,_,h=>dv2_10_n
 | j+11,_,h,_=>absurd h (by omega)
theorem dvn_3 {S:Sel}:∀{j w op:Nat} {L:List Nat},argsOf 3 j=some (op,L)->wOK j w=true->selV L S=true->∃T,DnV (nilA L) S.b T j w 3 (restDV S j w 3 L)
 | 0,w,op,L,h,_,_=>by cases h
 | 1,w,op,L,h,_,_=>by cases h
 | 2,w,op,L,h,_,_=>by cases h
 | 3,w,op,L,h,_,_=>by cases h
 | 4,w,op,L,h,hw,hs=>by
   cases h;obtain rfl:=w_one hw;cases S with
    | all=>exact ⟨_,dv3_4_1_all⟩
    | e0=>exact ⟨_,dv3_4_1_e0⟩
    | e1=>cases hs
    | nr=>cases hs
 | 5,w,op,L,h,hw,hs=>by
   cases h;obtain rfl:=w_one hw;cases S with
    | all=>exact ⟨_,dv3_5_1_all⟩
    | e0=>exact ⟨_,dv3_5_1_e0⟩
    | e1=>cases hs
    | nr=>cases hs
 | 6,w,op,L,h,_,_=>by cases h
 | 7,w,op,L,h,_,_=>by cases h
 | 8,w,op,L,h,_,_=>by cases h
 | 9,w,op,L,h,_,_=>by cases h
 | 10,w,op,L,h,_,_=>by cases h
 | j+11,w,op,L,h,_,_=>by cases h
theorem dvw_3 {S:Sel}:∀{j w op:Nat} {L:List Nat},argsOf 3 j=some (op,L)->wOK j w=true->selV L S=true->plc L≠none->∃T,DwV S.b T j w 3 (restDW S j w 3 L)
 | 0,w,op,L,h,_,_,_=>by cases h
 | 1,w,op,L,h,_,_,_=>by cases h
 | 2,w,op,L,h,_,_,_=>by cases h
 | 3,w,op,L,h,_,_,_=>by cases h
 | 4,w,op,L,h,_,_,hp=>by cases h;exact absurd rfl hp
 | 5,w,op,L,h,_,_,hp=>by cases h;exact absurd rfl hp
 | 6,w,op,L,h,_,_,_=>by cases h
 | 7,w,op,L,h,_,_,_=>by cases h
 | 8,w,op,L,h,_,_,_=>by cases h
 | 9,w,op,L,h,_,_,_=>by cases h
 | 10,w,op,L,h,_,_,_=>by cases h
 | j+11,w,op,L,h,_,_,_=>by cases h
theorem dvz_3:∀{j:Nat},1≤j->j≤10->argsOf 3 j=none->DnV .poison true 1000 j 1 3 (noneDV j)
 | 0,h,_,_=>absurd h (by decide)
 | 1,_,_,h=>dv3_1_n
 | 2,_,_,h=>dv3_2_n
 | 3,_,_,h=>dv3_3_n
 | 4,_,_,h=>by cases h
 | 5,_,_,h=>by cases h
 | 6,_,_,h=>dv3_6_n
 | 7,_,_,h=>dv3_7_n
 | 8,_,_,h=>dv3_8_n
 | 9,_,_,h=>dv3_9_n
 | 10,_,_,h=>dv3_10_n
 | j+11,_,h,_=>absurd h (by omega)
theorem dvn_4 {S:Sel}:∀{j w op:Nat} {L:List Nat},argsOf 4 j=some (op,L)->wOK j w=true->selV L S=true->∃T,DnV (nilA L) S.b T j w 4 (restDV S j w 4 L)
 | 0,w,op,L,h,_,_=>by cases h
 | 1,w,op,L,h,_,_=>by cases h
 | 2,w,op,L,h,_,_=>by cases h
 | 3,w,op,L,h,_,_=>by cases h
 | 4,w,op,L,h,_,_=>by cases h
 | 5,w,op,L,h,_,_=>by cases h
 | 6,w,op,L,h,hw,hs=>by
   cases h;rcases w_four hw with rfl|rfl|rfl|rfl
   · cases S with
      | all=>exact ⟨_,dv4_6_1_all⟩
      | e0=>exact ⟨_,dv4_6_1_e0⟩
      | e1=>cases hs
      | nr=>cases hs
   · cases S with
      | all=>exact ⟨_,dv4_6_2_all⟩
      | e0=>exact ⟨_,dv4_6_2_e0⟩
      | e1=>cases hs
      | nr=>cases hs
   · cases S with
      | all=>exact ⟨_,dv4_6_3_all⟩
      | e0=>exact ⟨_,dv4_6_3_e0⟩
      | e1=>cases hs
      | nr=>cases hs
   · cases S with
      | all=>exact ⟨_,dv4_6_4_all⟩
      | e0=>exact ⟨_,dv4_6_4_e0⟩
      | e1=>cases hs
      | nr=>cases hs
 | 7,w,op,L,h,hw,hs=>by
   cases h;rcases w_four hw with rfl|rfl|rfl|rfl
   · cases S with
      | all=>exact ⟨_,dv4_7_1_all⟩
      | e0=>exact ⟨_,dv4_7_1_e0⟩
      | e1=>cases hs
      | nr=>cases hs
   · cases S with
      | all=>exact ⟨_,dv4_7_2_all⟩
      | e0=>exact ⟨_,dv4_7_2_e0⟩
      | e1=>cases hs
      | nr=>cases hs
   · cases S with
      | all=>exact ⟨_,dv4_7_3_all⟩
      | e0=>exact ⟨_,dv4_7_3_e0⟩
      | e1=>cases hs
      | nr=>cases hs
   · cases S with
      | all=>exact ⟨_,dv4_7_4_all⟩
      | e0=>exact ⟨_,dv4_7_4_e0⟩
      | e1=>cases hs
      | nr=>cases hs
 | 8,w,op,L,h,hw,hs=>by
   cases h;obtain rfl:=w_one hw;cases S with
    | all=>exact ⟨_,dv4_8_1_all⟩
    | e0=>exact ⟨_,dv4_8_1_e0⟩
    | e1=>cases hs
    | nr=>cases hs
 | 9,w,op,L,h,_,_=>by cases h
 | 10,w,op,L,h,_,_=>by cases h
 | j+11,w,op,L,h,_,_=>by cases h
theorem dvw_4 {S:Sel}:∀{j w op:Nat} {L:List Nat},argsOf 4 j=some (op,L)->wOK j w=true->selV L S=true->plc L≠none->∃T,DwV S.b T j w 4 (restDW S j w 4 L)
 | 0,w,op,L,h,_,_,_=>by cases h
 | 1,w,op,L,h,_,_,_=>by cases h
 | 2,w,op,L,h,_,_,_=>by cases h
 | 3,w,op,L,h,_,_,_=>by cases h
 | 4,w,op,L,h,_,_,_=>by cases h
 | 5,w,op,L,h,_,_,_=>by cases h
 | 6,w,op,L,h,_,_,hp=>by cases h;exact absurd rfl hp
 | 7,w,op,L,h,_,_,hp=>by cases h;exact absurd rfl hp
 | 8,w,op,L,h,_,_,hp=>by cases h;exact absurd rfl hp
 | 9,w,op,L,h,_,_,_=>by cases h
 | 10,w,op,L,h,_,_,_=>by cases h
 | j+11,w,op,L,h,_,_,_=>by cases h
theorem dvz_4:∀{j:Nat},1≤j->j≤10->argsOf 4 j=none->DnV .poison true 1000 j 1 4 (noneDV j)
 | 0,h,_,_=>absurd h (by decide)
 | 1,_,_,h=>dv4_1_n
 | 2,_,_,h=>dv4_2_n
 | 3,_,_,h=>dv4_3_n
 | 4,_,_,h=>dv4_4_n
 | 5,_,_,h=>dv4_5_n
 | 6,_,_,h=>by cases h
 | 7,_,_,h=>by cases h
 | 8,_,_,h=>by cases h
 | 9,_,_,h=>dv4_9_n
 | 10,_,_,h=>dv4_10_n
 | j+11,_,h,_=>absurd h (by omega)
theorem dvn_5 {S:Sel}:∀{j w op:Nat} {L:List Nat},argsOf 5 j=some (op,L)->wOK j w=true->selV L S=true->∃T,DnV (nilA L) S.b T j w 5 (restDV S j w 5 L)
 | 0,w,op,L,h,_,_=>by cases h
 | 1,w,op,L,h,_,_=>by cases h
 | 2,w,op,L,h,_,_=>by cases h
 | 3,w,op,L,h,_,_=>by cases h
 | 4,w,op,L,h,_,_=>by cases h
 | 5,w,op,L,h,_,_=>by cases h
 | 6,w,op,L,h,hw,hs=>by
   cases h;rcases w_four hw with rfl|rfl|rfl|rfl
   · cases S with
      | all=>exact ⟨_,dv5_6_1_all⟩
      | e0=>cases hs
      | e1=>cases hs
      | nr=>exact ⟨_,dv5_6_1_nr⟩
   · cases S with
      | all=>exact ⟨_,dv5_6_2_all⟩
      | e0=>cases hs
      | e1=>cases hs
      | nr=>exact ⟨_,dv5_6_2_nr⟩
   · cases S with
      | all=>exact ⟨_,dv5_6_3_all⟩
      | e0=>cases hs
      | e1=>cases hs
      | nr=>exact ⟨_,dv5_6_3_nr⟩
   · cases S with
      | all=>exact ⟨_,dv5_6_4_all⟩
      | e0=>cases hs
      | e1=>cases hs
      | nr=>exact ⟨_,dv5_6_4_nr⟩
 | 7,w,op,L,h,hw,hs=>by
   cases h;rcases w_four hw with rfl|rfl|rfl|rfl
   · cases S with
      | all=>exact ⟨_,dv5_7_1_all⟩
      | e0=>cases hs
      | e1=>cases hs
      | nr=>exact ⟨_,dv5_7_1_nr⟩
   · cases S with
      | all=>exact ⟨_,dv5_7_2_all⟩
      | e0=>cases hs
      | e1=>cases hs
      | nr=>exact ⟨_,dv5_7_2_nr⟩
   · cases S with
      | all=>exact ⟨_,dv5_7_3_all⟩
      | e0=>cases hs
      | e1=>cases hs
      | nr=>exact ⟨_,dv5_7_3_nr⟩
   · cases S with
      | all=>exact ⟨_,dv5_7_4_all⟩
      | e0=>cases hs
      | e1=>cases hs
      | nr=>exact ⟨_,dv5_7_4_nr⟩
 | 8,w,op,L,h,_,_=>by cases h
 | 9,w,op,L,h,_,_=>by cases h
 | 10,w,op,L,h,_,_=>by cases h
 | j+11,w,op,L,h,_,_=>by cases h
theorem dvw_5 {S:Sel}:∀{j w op:Nat} {L:List Nat},argsOf 5 j=some (op,L)->wOK j w=true->selV L S=true->plc L≠none->∃T,DwV S.b T j w 5 (restDW S j w 5 L)
 | 0,w,op,L,h,_,_,_=>by cases h
 | 1,w,op,L,h,_,_,_=>by cases h
 | 2,w,op,L,h,_,_,_=>by cases h
 | 3,w,op,L,h,_,_,_=>by cases h
 | 4,w,op,L,h,_,_,_=>by cases h
 | 5,w,op,L,h,_,_,_=>by cases h
 | 6,w,op,L,h,hw,hs,_=>by
   cases h;rcases w_four hw with rfl|rfl|rfl|rfl
   · cases S with
      | all=>exact ⟨_,dv5_6_1_all_w⟩
      | e0=>cases hs
      | e1=>cases hs
      | nr=>exact ⟨_,dv5_6_1_nr_w⟩
   · cases S with
      | all=>exact ⟨_,dv5_6_2_all_w⟩
      | e0=>cases hs
      | e1=>cases hs
      | nr=>exact ⟨_,dv5_6_2_nr_w⟩
   · cases S with
      | all=>exact ⟨_,dv5_6_3_all_w⟩
      | e0=>cases hs
      | e1=>cases hs
      | nr=>exact ⟨_,dv5_6_3_nr_w⟩
   · cases S with
      | all=>exact ⟨_,dv5_6_4_all_w⟩
      | e0=>cases hs
      | e1=>cases hs
      | nr=>exact ⟨_,dv5_6_4_nr_w⟩
 | 7,w,op,L,h,hw,hs,_=>by
   cases h;rcases w_four hw with rfl|rfl|rfl|rfl
   · cases S with
      | all=>exact ⟨_,dv5_7_1_all_w⟩
      | e0=>cases hs
      | e1=>cases hs
      | nr=>exact ⟨_,dv5_7_1_nr_w⟩
   · cases S with
      | all=>exact ⟨_,dv5_7_2_all_w⟩
      | e0=>cases hs
      | e1=>cases hs
      | nr=>exact ⟨_,dv5_7_2_nr_w⟩
   · cases S with
      | all=>exact ⟨_,dv5_7_3_all_w⟩
      | e0=>cases hs
      | e1=>cases hs
      | nr=>exact ⟨_,dv5_7_3_nr_w⟩
   · cases S with
      | all=>exact ⟨_,dv5_7_4_all_w⟩
      | e0=>cases hs
      | e1=>cases hs
      | nr=>exact ⟨_,dv5_7_4_nr_w⟩
 | 8,w,op,L,h,_,_,_=>by cases h
 | 9,w,op,L,h,_,_,_=>by cases h
 | 10,w,op,L,h,_,_,_=>by cases h
 | j+11,w,op,L,h,_,_,_=>by cases h
theorem dvz_5:∀{j:Nat},1≤j->j≤10->argsOf 5 j=none->DnV .poison true 1000 j 1 5 (noneDV j)
 | 0,h,_,_=>absurd h (by decide)
 | 1,_,_,h=>dv5_1_n
 | 2,_,_,h=>dv5_2_n
 | 3,_,_,h=>dv5_3_n
 | 4,_,_,h=>dv5_4_n
 | 5,_,_,h=>dv5_5_n
 | 6,_,_,h=>by cases h
 | 7,_,_,h=>by cases h
 | 8,_,_,h=>dv5_8_n
 | 9,_,_,h=>dv5_9_n
 | 10,_,_,h=>dv5_10_n
 | j+11,_,h,_=>absurd h (by omega)
theorem dvn_6 {S:Sel}:∀{j w op:Nat} {L:List Nat},argsOf 6 j=some (op,L)->wOK j w=true->selV L S=true->∃T,DnV (nilA L) S.b T j w 6 (restDV S j w 6 L)
 | 0,w,op,L,h,_,_=>by cases h
 | 1,w,op,L,h,_,_=>by cases h
 | 2,w,op,L,h,_,_=>by cases h
 | 3,w,op,L,h,_,_=>by cases h
 | 4,w,op,L,h,_,_=>by cases h
 | 5,w,op,L,h,_,_=>by cases h
 | 6,w,op,L,h,hw,hs=>by
   cases h;rcases w_four hw with rfl|rfl|rfl|rfl
   · cases S with
      | all=>exact ⟨_,dv6_6_1_all⟩
      | e0=>cases hs
      | e1=>cases hs
      | nr=>exact ⟨_,dv6_6_1_nr⟩
   · cases S with
      | all=>exact ⟨_,dv6_6_2_all⟩
      | e0=>cases hs
      | e1=>cases hs
      | nr=>exact ⟨_,dv6_6_2_nr⟩
   · cases S with
      | all=>exact ⟨_,dv6_6_3_all⟩
      | e0=>cases hs
      | e1=>cases hs
      | nr=>exact ⟨_,dv6_6_3_nr⟩
   · cases S with
      | all=>exact ⟨_,dv6_6_4_all⟩
      | e0=>cases hs
      | e1=>cases hs
      | nr=>exact ⟨_,dv6_6_4_nr⟩
 | 7,w,op,L,h,hw,hs=>by
   cases h;rcases w_four hw with rfl|rfl|rfl|rfl
   · cases S with
      | all=>exact ⟨_,dv6_7_1_all⟩
      | e0=>cases hs
      | e1=>cases hs
      | nr=>exact ⟨_,dv6_7_1_nr⟩
   · cases S with
      | all=>exact ⟨_,dv6_7_2_all⟩
      | e0=>cases hs
      | e1=>cases hs
      | nr=>exact ⟨_,dv6_7_2_nr⟩
   · cases S with
      | all=>exact ⟨_,dv6_7_3_all⟩
      | e0=>cases hs
      | e1=>cases hs
      | nr=>exact ⟨_,dv6_7_3_nr⟩
   · cases S with
      | all=>exact ⟨_,dv6_7_4_all⟩
      | e0=>cases hs
      | e1=>cases hs
      | nr=>exact ⟨_,dv6_7_4_nr⟩
 | 8,w,op,L,h,hw,hs=>by
   cases h;obtain rfl:=w_one hw;cases S with
    | all=>exact ⟨_,dv6_8_1_all⟩
    | e0=>exact ⟨_,dv6_8_1_e0⟩
    | e1=>cases hs
    | nr=>cases hs
 | 9,w,op,L,h,_,_=>by cases h
 | 10,w,op,L,h,_,_=>by cases h
 | j+11,w,op,L,h,_,_=>by cases h
theorem dvw_6 {S:Sel}:∀{j w op:Nat} {L:List Nat},argsOf 6 j=some (op,L)->wOK j w=true->selV L S=true->plc L≠none->∃T,DwV S.b T j w 6 (restDW S j w 6 L)
 | 0,w,op,L,h,_,_,_=>by cases h
 | 1,w,op,L,h,_,_,_=>by cases h
 | 2,w,op,L,h,_,_,_=>by cases h
 | 3,w,op,L,h,_,_,_=>by cases h
 | 4,w,op,L,h,_,_,_=>by cases h
 | 5,w,op,L,h,_,_,_=>by cases h
 | 6,w,op,L,h,hw,hs,_=>by
   cases h;rcases w_four hw with rfl|rfl|rfl|rfl
   · cases S with
      | all=>exact ⟨_,dv6_6_1_all_w⟩
      | e0=>cases hs
      | e1=>cases hs
      | nr=>exact ⟨_,dv6_6_1_nr_w⟩
   · cases S with
      | all=>exact ⟨_,dv6_6_2_all_w⟩
      | e0=>cases hs
      | e1=>cases hs
      | nr=>exact ⟨_,dv6_6_2_nr_w⟩
   · cases S with
      | all=>exact ⟨_,dv6_6_3_all_w⟩
      | e0=>cases hs
      | e1=>cases hs
      | nr=>exact ⟨_,dv6_6_3_nr_w⟩
   · cases S with
      | all=>exact ⟨_,dv6_6_4_all_w⟩
      | e0=>cases hs
      | e1=>cases hs
      | nr=>exact ⟨_,dv6_6_4_nr_w⟩
 | 7,w,op,L,h,hw,hs,_=>by
   cases h;rcases w_four hw with rfl|rfl|rfl|rfl
   · cases S with
      | all=>exact ⟨_,dv6_7_1_all_w⟩
      | e0=>cases hs
      | e1=>cases hs
      | nr=>exact ⟨_,dv6_7_1_nr_w⟩
   · cases S with
      | all=>exact ⟨_,dv6_7_2_all_w⟩
      | e0=>cases hs
      | e1=>cases hs
      | nr=>exact ⟨_,dv6_7_2_nr_w⟩
   · cases S with
      | all=>exact ⟨_,dv6_7_3_all_w⟩
      | e0=>cases hs
      | e1=>cases hs
      | nr=>exact ⟨_,dv6_7_3_nr_w⟩
   · cases S with
      | all=>exact ⟨_,dv6_7_4_all_w⟩
      | e0=>cases hs
      | e1=>cases hs
      | nr=>exact ⟨_,dv6_7_4_nr_w⟩
 | 8,w,op,L,h,_,_,hp=>by cases h;exact absurd rfl hp
 | 9,w,op,L,h,_,_,_=>by cases h
 | 10,w,op,L,h,_,_,_=>by cases h
 | j+11,w,op,L,h,_,_,_=>by cases h
theorem dvz_6:∀{j:Nat},1≤j->j≤10->argsOf 6 j=none->DnV .poison true 1000 j 1 6 (noneDV j)
 | 0,h,_,_=>absurd h (by decide)
 | 1,_,_,h=>dv6_1_n
 | 2,_,_,h=>dv6_2_n
 | 3,_,_,h=>dv6_3_n
 | 4,_,_,h=>dv6_4_n
 | 5,_,_,h=>dv6_5_n
 | 6,_,_,h=>by cases h
 | 7,_,_,h=>by cases h
 | 8,_,_,h=>by cases h
 | 9,_,_,h=>dv6_9_n
 | 10,_,_,h=>dv6_10_n
 | j+11,_,h,_=>absurd h (by omega)
theorem dvn_8 {S:Sel}:∀{j w op:Nat} {L:List Nat},argsOf 8 j=some (op,L)->wOK j w=true->selV L S=true->∃T,DnV (nilA L) S.b T j w 8 (restDV S j w 8 L)
 | 0,w,op,L,h,_,_=>by cases h
 | 1,w,op,L,h,_,_=>by cases h
 | 2,w,op,L,h,_,_=>by cases h
 | 3,w,op,L,h,hw,hs=>by
   cases h;rcases w_four hw with rfl|rfl|rfl|rfl
   · cases S with
      | all=>exact ⟨_,dv8_3_1_all⟩
      | e0=>exact ⟨_,dv8_3_1_e0⟩
      | e1=>cases hs
      | nr=>exact ⟨_,dv8_3_1_nr⟩
   · cases S with
      | all=>exact ⟨_,dv8_3_2_all⟩
      | e0=>exact ⟨_,dv8_3_2_e0⟩
      | e1=>cases hs
      | nr=>exact ⟨_,dv8_3_2_nr⟩
   · cases S with
      | all=>exact ⟨_,dv8_3_3_all⟩
      | e0=>exact ⟨_,dv8_3_3_e0⟩
      | e1=>cases hs
      | nr=>exact ⟨_,dv8_3_3_nr⟩
   · cases S with
      | all=>exact ⟨_,dv8_3_4_all⟩
      | e0=>exact ⟨_,dv8_3_4_e0⟩
      | e1=>cases hs
      | nr=>exact ⟨_,dv8_3_4_nr⟩
 | 4,w,op,L,h,_,_=>by cases h
 | 5,w,op,L,h,_,_=>by cases h
 | 6,w,op,L,h,_,_=>by cases h
 | 7,w,op,L,h,_,_=>by cases h
 | 8,w,op,L,h,_,_=>by cases h
 | 9,w,op,L,h,_,_=>by cases h
 | 10,w,op,L,h,_,_=>by cases h
 | j+11,w,op,L,h,_,_=>by cases h
theorem dvw_8 {S:Sel}:∀{j w op:Nat} {L:List Nat},argsOf 8 j=some (op,L)->wOK j w=true->selV L S=true->plc L≠none->∃T,DwV S.b T j w 8 (restDW S j w 8 L)
 | 0,w,op,L,h,_,_,_=>by cases h
 | 1,w,op,L,h,_,_,_=>by cases h
 | 2,w,op,L,h,_,_,_=>by cases h
 | 3,w,op,L,h,hw,hs,_=>by
   cases h;rcases w_four hw with rfl|rfl|rfl|rfl
   · cases S with
      | all=>exact ⟨_,dv8_3_1_all_w⟩
      | e0=>exact ⟨_,dv8_3_1_e0_w⟩
      | e1=>cases hs
      | nr=>exact ⟨_,dv8_3_1_nr_w⟩
   · cases S with
      | all=>exact ⟨_,dv8_3_2_all_w⟩
      | e0=>exact ⟨_,dv8_3_2_e0_w⟩
      | e1=>cases hs
      | nr=>exact ⟨_,dv8_3_2_nr_w⟩
   · cases S with
      | all=>exact ⟨_,dv8_3_3_all_w⟩
      | e0=>exact ⟨_,dv8_3_3_e0_w⟩
      | e1=>cases hs
      | nr=>exact ⟨_,dv8_3_3_nr_w⟩
   · cases S with
      | all=>exact ⟨_,dv8_3_4_all_w⟩
      | e0=>exact ⟨_,dv8_3_4_e0_w⟩
      | e1=>cases hs
      | nr=>exact ⟨_,dv8_3_4_nr_w⟩
 | 4,w,op,L,h,_,_,_=>by cases h
 | 5,w,op,L,h,_,_,_=>by cases h
 | 6,w,op,L,h,_,_,_=>by cases h
 | 7,w,op,L,h,_,_,_=>by cases h
 | 8,w,op,L,h,_,_,_=>by cases h
 | 9,w,op,L,h,_,_,_=>by cases h
 | 10,w,op,L,h,_,_,_=>by cases h
 | j+11,w,op,L,h,_,_,_=>by cases h
theorem dvz_8:∀{j:Nat},1≤j->j≤10->argsOf 8 j=none->DnV .poison true 1000 j 1 8 (noneDV j)
 | 0,h,_,_=>absurd h (by decide)
 | 1,_,_,h=>dv8_1_n
 | 2,_,_,h=>dv8_2_n
 | 3,_,_,h=>by cases h
 | 4,_,_,h=>dv8_4_n
 | 5,_,_,h=>dv8_5_n
 | 6,_,_,h=>dv8_6_n
 | 7,_,_,h=>dv8_7_n
 | 8,_,_,h=>dv8_8_n
 | 9,_,_,h=>dv8_9_n
 | 10,_,_,h=>dv8_10_n
 | j+11,_,h,_=>absurd h (by omega)
def PkD (q:PQ) (code:U) (t:T):Prop:=∃ok wr c,q.pick=some (ok,wr,([c],some (0,t)))/\okB ok=true/\i64Of c=some code/\(wr=[0]\/wr=[])
theorem pkd_err {t:T} {ok c:A} {x:U} (ho:okB ok=true) (h:i64Of c=some x):PkD (errD t ok c) x t:=⟨ok,[],c,rfl,ho,h,.inr rfl⟩
theorem pkd_t {c:Bool} {a b:PQ} {x:U} {t:T} (hc:c=true) (h:PkD a x t):PkD (.node c a b) x t:=by subst hc;exact h
theorem pkd_f {c:Bool} {a b:PQ} {x:U} {t:T} (hc:c=false) (h:PkD b x t):PkD (.node c a b) x t:=by subst hc;exact h
theorem pkd_fin {o:Bool} {t:T} (h:o=true):PkD (finD o t) (K 0) t:=⟨.b o,[0],z64,rfl,h,rfl,.inl rfl⟩
def PO.pickT (po:PO) (t t':T):T:=match po with
 | .err _=>t
 | .ok .. => t'
section
variable {regs:VV} {how flat:Nat->U} {w op:Nat} {m cpu:U} {t t':T} {fin:Bool->PQ}
theorem argsG_pick {b:Bool} (hfin:∀o,o=true->PkD (fin o) (K 0) t'):∀(L:List Nat) (r B:Nat) (o:Bool) (kU fU:U) (v:Option (Nat×(Nat->U))),o=true->OKB regs how w L r B->OKb regs w b L r B ->
 PkD (argsG (errD t) fin b regs how w L r B o) (argsF regs how flat w m (K op) cpu L r kU fU v).code ((argsF regs how flat w m (K op) cpu L r kU fU v).pickT t t')
 | [],r,B,o,kU,fU,v,ho,_,_=>hfin o ho
 | 0::L,r,B,o,kU,fU,v,ho,hB,hb=>by
   unfold argsG argsF;cases h0:regs.k r==K 0
   · refine pkd_f (by rw [bne,h0];rfl) ?_
     simp only [h0,cond_false];cases B with
     | zero=>
       have hE:bytesE how (regs.at r) 8≠K 0:=hB;have e1:(bytesE how (regs.at r) 8==K 0)=false:=by simpa using hE
       have e2:(bytesE how (regs.at r) 8 != K 0)=true:=bne_iff_ne.2 hE;simp only [e2,cond_true];refine pkd_t (by rw [e1];rfl) (pkd_err ?_ rfl)
       subst ho;rfl
     | succ B=>
       obtain ⟨hE,hB⟩:=hB;have e1:(bytesE how (regs.at r) 8==K 0)=true:=by rw [hE];decide
       have e2:(bytesE how (regs.at r) 8 != K 0)=false:=by rw [bne,e1];rfl
       simp only [e2,cond_false];exact argsG_pick hfin L (r+1) B _ _ _ _ (by rw [e1,ho];rfl) hB hb
   · refine pkd_t (by rw [bne,h0];rfl) ?_
     simp only [h0,cond_true];exact pkd_err ho rfl
 | 1::L,r,B,o,kU,fU,v,ho,hB,hb=>by
   unfold argsG argsF;cases h0:regs.k r==K 0
   · refine pkd_f (by rw [bne,h0];rfl) ?_
     simp only [h0,cond_false];cases B with
     | zero=>
       have hE:bytesE how (regs.at r) (8*w)≠K 0:=hB;have e1:(bytesE how (regs.at r) (8*w)==K 0)=false:=by simpa using hE
       have e2:(bytesE how (regs.at r) (8*w) != K 0)=true:=bne_iff_ne.2 hE;simp only [e2,cond_true];refine pkd_t (by rw [e1];rfl) (pkd_err ?_ rfl)
       subst ho;rfl
     | succ B=>
       obtain ⟨hE,hB⟩:=hB;have e1:(bytesE how (regs.at r) (8*w)==K 0)=true:=by rw [hE];decide
       have e2:(bytesE how (regs.at r) (8*w) != K 0)=false:=by rw [bne,e1];rfl
       simp only [e2,cond_false];exact argsG_pick hfin L (r+1) B _ _ _ _ (by rw [e1,ho];rfl) hB hb
   · refine pkd_t (by rw [bne,h0];rfl) ?_
     simp only [h0,cond_true];exact pkd_err ho rfl
 | 2::L,r,B,o,kU,fU,v,ho,hB,hb=>by
   unfold argsG argsF;cases h0:regs.k r==K 0
   · refine pkd_f (by rw [bne,h0];rfl) ?_
     simp only [h0,cond_false];cases h1:regs.k r==K 1
     · refine pkd_t rfl ?_;have:(regs.k r != K 1)=true:=by rw [bne,h1];rfl
       simp only [this,cond_true];exact pkd_err ho rfl
     · refine pkd_f rfl ?_;have:(regs.k r != K 1)=false:=by rw [bne,h1];rfl
       simp only [this,cond_false];exact argsG_pick hfin L (r+1) B _ _ _ _ ho hB hb
   · refine pkd_t (by rw [bne,h0];rfl) ?_
     simp only [h0,cond_true];exact pkd_err ho rfl
 | (n+3)::L,r,B,o,kU,fU,v,ho,hB,hb=>by
   unfold argsG argsF;cases h0:regs.k r==K 0
   · refine pkd_f (by rw [bne,h0];rfl) ?_
     simp only [h0,cond_false];cases h1:regs.k r==K 3
     · refine pkd_t rfl ?_;have:(regs.k r != K 3)=true:=by rw [bne,h1];rfl
       simp only [this,cond_true];exact pkd_err ho rfl
     · refine pkd_f rfl ?_;have:(regs.k r != K 3)=false:=by rw [bne,h1];rfl
       simp only [this,cond_false];obtain ⟨hr,hb⟩:roomB (regs.n r) (8*w)=b/\OKb regs w b L (r+1) B:=hb;cases b
       · simp only [hr,Bool.not_false,cond_true];refine pkd_err ?_ rfl;subst ho;rfl
       · simp only [hr,Bool.not_true,cond_false];exact argsG_pick hfin L (r+1) B _ _ _ _ (by rw [ho];rfl) hB hb
   · refine pkd_t (by rw [bne,h0];rfl) ?_
     simp only [h0,cond_true];exact pkd_err ho rfl
theorem headG_pick {n:Nat} (hn:n≤10) {rest:PQ} {po:PO} (h:regs.k 1=K 4->inM n (regs.i 1)=true->PkD rest po.code (po.pickT t t')):PkD (headG (errD t) regs n rest) (headF n regs po).code ((headF n regs po).pickT t t'):=by
 have h63:okB (.b (n63 n))=true:=nB (by omega)
 unfold headG headF;cases h0:regs.k 1==K 0
 · refine pkd_f (by rw [bne,h0];rfl) ?_
   simp only [cond_false];cases h1:regs.k 1==K 4
   · have:(regs.k 1 != K 4)=true:=by rw [bne,h1];rfl
     simp only [this,cond_true];exact pkd_t rfl (pkd_err rfl rfl)
   · have:(regs.k 1 != K 4)=false:=by rw [bne,h1];rfl
     simp only [this,cond_false];refine pkd_f rfl ?_;unfold inM;cases h2:BitVec.sle (K 1) (regs.i 1)
     · simp only [cond_false,Bool.not_false,cond_true];exact pkd_f rfl (pkd_err rfl rfl)
     · refine pkd_t rfl ?_;cases h3:BitVec.sle (regs.i 1) (kk n)
       · simp only [cond_true,Bool.not_false];exact pkd_t rfl (pkd_err h63 rfl)
       · simp only [cond_true,Bool.not_true,cond_false];refine pkd_f rfl (h (eq_of_beq h1) ?_);unfold inM;rw [h2,h3];rfl
 · simp only [cond_true];exact pkd_t (by rw [bne,h0];rfl) (pkd_err rfl rfl)
end
def outW (a j:Nat) (m no elem:U):VW:=match a with
 | 1=>bif no != K 0 then numW (K 0) else (match j with|9=>mapW elem|10=>mapW elem|_=>cellW m elem)
 | _=>numW (negU no)
theorem doneV_pick {a j:Nat} {s:VF} {no elem:U} {o:Bool} (h:o=true):PkD (doneV a j s no elem o) (K 0) (outV6 s (outW a j (s.regs.i 1) no elem)).t:=by
 unfold doneV outW;split
 · cases hn:no != K 0
   · exact pkd_f rfl (pkd_fin h)
   · exact pkd_t rfl (pkd_fin h)
 · rename_i h1;split
   · exact absurd rfl (h1)
   · exact pkd_fin h
theorem dq_pick:∀{r:R} {ok:A} {wr:List Nat} {o:Ob},r.dq.pick=some (ok,wr,o)->∃v h',r.pick=some (ok,v,h')/\h'.wr=wr/\obsD v h'=some o
 | .fail,_,_,_,h=>by cases h
 | .pan _ _ _,_,_,_,h=>by cases h
 | .leaf ok v h,ok',wr,o,e=>by
   simp only [R.dq] at e;cases ho:obsD v h with
   | none=>rw [ho] at e;cases e
   | some o'=>
     rw [ho] at e;simp only [PQ.pick,oI,pI] at e;obtain ⟨rfl,rfl,rfl⟩:=e;exact ⟨v,h,rfl,rfl,ho⟩
 | .node c a b,ok,wr,o,e=>by
   simp only [R.dq,PQ.pick] at e;cases c
   · simpa [R.pick] using dq_pick (r:=b) e
   · simpa [R.pick] using dq_pick (r:=a) e
def DoneP (w:World) (r:Nat) (code:U) (t':T) (e:Ending) (w':World):Prop:=e = .returned (.int .i64 (vof .i64 code))/\But r w.heap.size w w'/\Holds w' r t'
theorem done_of {P:Program} {f:Nat} {args:List V} {ms:List (Nat×Blk)} {N:Nat} {R0:R} {code:U} {t':T} (hpk:PkD R0.dq code t') (hfn:∀ok v h',R0.pick=some (ok,v,h')->okB ok=true->FnOK P f args (hM ms N) v h') (hmp:notMp t'=true) (hf:t'.free=true)
 {w:World} {r:Nat} {ν:Nu} (hm:Mem (fun _=>True) ν w (hM ms N)) (h0:ν 0=some (r,0)) {us:List Value} (ha:relV ν args us):Calls P f us.toArray w (DoneP w r code t'):=by
 obtain ⟨ok,wr,c,hp,hok,hc,hwr⟩:=hpk;obtain ⟨v,h',hp,hw,ho⟩:=dq_pick hp;refine (hfn ok v h' hp hok (fun _=>True) ν w us (fun _ _=>trivial) (fun _ _=>trivial) hm ha).mono ?_;rintro e w' ⟨u,ν',rfl,hu,g⟩;unfold obsD at ho;split at ho
 · rename_i c0;split at ho
   · rename_i t0 hg;simp only [oI,pI,List.cons.injEq,and_true,true_and] at ho;obtain ⟨rfl,rfl⟩:=ho;refine ⟨by rw [i64Of_rel hc hu],⟨g.frm.os,g.frm.tape,g.frm.output,g.frm.size,fun r' hr' hne=>g.frm.block r' hr' fun id base hid=>⟨?_,fun hin => ?_⟩⟩,seen_holds (g.mem.seen 0 _ hg (.inl trivial)) hmp hf (g.le _ _ h0)⟩
     · rw [g.ext.lo];show id<N;refine Classical.byContradiction fun hge => ?_;rw [hm.nums.fresh id (show N≤id by omega)] at hid
       cases hid
     · rw [hw] at hin;rcases hwr with e|e
       · rw [e] at hin;simp only [List.mem_singleton] at hin;subst hin;rw [h0] at hid;cases hid;exact hne rfl
       · rw [e] at hin;cases hin
   · cases ho
 · cases ho
def resC (w:Nat):Option (Nat×(Nat->U))->Nat->U
 | none=>bytZ w
 | some (_,g)=>bytD g w
def behV (D:DF) (s:VF) (no cpu rno elem:U) (val:Option (Nat×(Nat->U))):VF:=bif no==K 7 then outV6 s (numW cpu) else
 match argsOf no.toNat (D.k (ixU s.regs)).toNat with
 | some (_,L)=>outV6 (laidV L (D.w (ixU s.regs)).toNat (resC (D.w (ixU s.regs)).toNat val) s) (outW no.toNat (D.k (ixU s.regs)).toNat (s.regs.i 1) rno elem)
 | none=>s
def doneVF (n:Nat) (D:DF) (s:VF) (no cpu rno elem:U) (val:Option (Nat×(Nat->U))):VF:=match planF n D s.regs s.how s.flat no cpu with
 | .err _=>s
 | .ok .. => behV D s no cpu rno elem val
theorem laidV_regs (L:List Nat) (w:Nat) (c:Nat->U) (s:VF):(laidV L w c s).regs=s.regs:=by
 unfold laidV;split
 · exact layVR_regs _ _ _ _
 · rfl
structure AllDV (a:Nat):Prop where
 n:∀{S:Sel} {j w op:Nat} {L:List Nat},argsOf a j=some (op,L)->wOK j w=true->selV L S=true->∃T,DnV (nilA L) S.b T j w a (restDV S j w a L)
 w:∀{S:Sel} {j w op:Nat} {L:List Nat},argsOf a j=some (op,L)->wOK j w=true->selV L S=true->plc L≠none->∃T,DwV S.b T j w a (restDW S j w a L)
 z:∀{j:Nat},1≤j->j≤10->argsOf a j=none->DnV .poison true 1000 j 1 a (noneDV j)
theorem allDV {a:Nat} (h:a=1\/a=2\/a=3\/a=4\/a=5\/a=6\/a=8):AllDV a:=by
 rcases h with rfl|rfl|rfl|rfl|rfl|rfl|rfl
 · exact ⟨dvn_1,dvw_1,dvz_1⟩
 · exact ⟨dvn_2,dvw_2,dvz_2⟩
 · exact ⟨dvn_3,dvw_3,dvz_3⟩
 · exact ⟨dvn_4,dvw_4,dvz_4⟩
 · exact ⟨dvn_5,dvw_5,dvz_5⟩
 · exact ⟨dvn_6,dvw_6,dvz_6⟩
 · exact ⟨dvn_8,dvw_8,dvz_8⟩
theorem plc_one {a op:Nat} {L:List Nat} (h:argsOf a 1=some (op,L)):plc L=none:=by
 unfold argsOf at h;split at h<;>first|(cases h;rfl)|cases h|(split at h<;>first|(cases h;rfl)|cases h|omega)
theorem doneVF_eq {n:Nat} {D:DF} {s:VF} {no cpu rno elem:U} {val:Option (Nat×(Nat->U))}:(doneVF n D s no cpu rno elem val).t=(planF n D s.regs s.how s.flat no cpu).pickT s.t (behV D s no cpu rno elem val).t:=by
 unfold doneVF PO.pickT;cases planF n D s.regs s.how s.flat no cpu<;>rfl
theorem exDw {n:Nat} (hn:n≤10) {D:DF} (hD:OKD n D) {a:Nat} (hA:AllDV a) {no:U} (hno:no.toNat=a) (h7:(no==K 7)=false) (s:VF) (cpu elem:U) (g:Nat->U) (hM:inM n (s.regs.i 1)=true) {op:Nat} {L:List Nat} (hargs:argsOf a (D.k (ixU s.regs)).toNat=some (op,L)) (hpl:plc L≠none):∃(b:Bool) (T:Nat),
 PkD (ev14w b T (D.k (ixU s.regs)).toNat (D.w (ixU s.regs)).toNat a s n D cpu elem g).dq (headF n s.regs (planL s.regs s.how s.flat cpu (D.k (ixU s.regs)).toNat (D.w (ixU s.regs)).toNat (some (op,L)))).code
  ((headF n s.regs (planL s.regs s.how s.flat cpu (D.k (ixU s.regs)).toNat (D.w (ixU s.regs)).toNat (some (op,L)))).pickT s.t (behV D s no cpu (K 0) elem (some ((D.w (ixU s.regs)).toNat,g))).t):=by
 obtain ⟨m1,m2,_,m4⟩:=inM_nat hn hM;have hix:ixU s.regs<n:=by unfold ixU;rw [m4];omega
 obtain ⟨d1,d2,d3⟩:=hD _ hix;obtain ⟨o1,o2⟩:=okI_true hn (D:=D) hM;obtain ⟨S,s1,s2,s3⟩:=sel_v (regs:=s.regs) (how:=s.how) (w:=(D.w (ixU s.regs)).toNat) (argsOf_L hargs);obtain ⟨T,E⟩:=hA.w hargs d3 s1 hpl;obtain ⟨ok,wr,c,h1,h2⟩:=headG_pick (regs:=s.regs) (t:=s.t) (t':=(behV D s no cpu (K 0) elem (some ((D.w (ixU s.regs)).toNat,g))).t) hn (rest:=restDW S (D.k (ixU s.regs)).toNat (D.w (ixU s.regs)).toNat a L s n D elem g) (po:=planL s.regs s.how s.flat cpu (D.k (ixU s.regs)).toNat (D.w (ixU s.regs)).toNat (some (op,L))) fun _ _=>
  argsG_pick (fun o ho=>by
   have e:behV D s no cpu (K 0) elem (some ((D.w (ixU s.regs)).toNat,g))=outV6 (laidV L (D.w (ixU s.regs)).toNat (bytD g (D.w (ixU s.regs)).toNat) s) (outW a (D.k (ixU s.regs)).toNat ((laidV L (D.w (ixU s.regs)).toNat (bytD g (D.w (ixU s.regs)).toNat) s).regs.i 1) (K 0) elem):=by unfold behV;rw [h7,hno,hargs,laidV_regs];rfl
   rw [e];exact doneV_pick ho) L 2 S.B _ _ _ _ o2 s2 s3
 exact ⟨_,T,ok,wr,c,E.pick s n D cpu elem g _ h1,h2⟩
theorem exDn {n:Nat} (hn:n≤10) {D:DF} (hD:OKD n D) {a:Nat} (hA:AllDV a) {no:U} (hno:no.toNat=a) (h7:(no==K 7)=false) (s:VF) (cpu rno elem:U) (val:Option (Nat×(Nat->U)))
 (hval:∀op L,inM n (s.regs.i 1)=true->argsOf a (D.k (ixU s.regs)).toNat=some (op,L)->plc L≠none->val=none):∃(b:Bool) (T j w:Nat) (v:A),(v = .poison\/(v = .nils/\∃op L,inM n (s.regs.i 1)=true/\argsOf a (D.k (ixU s.regs)).toNat=some (op,L)/\plc L≠none)) /\
 PkD (ev14 b T j w a s n D cpu rno elem v).dq (headF n s.regs (planL s.regs s.how s.flat cpu (D.k (ixU s.regs)).toNat (D.w (ixU s.regs)).toNat (argsOf a (D.k (ixU s.regs)).toNat))).code
  ((headF n s.regs (planL s.regs s.how s.flat cpu (D.k (ixU s.regs)).toNat (D.w (ixU s.regs)).toNat (argsOf a (D.k (ixU s.regs)).toNat))).pickT s.t (behV D s no cpu rno elem val).t):=by
 by_cases hM:inM n (s.regs.i 1)=true
 · obtain ⟨m1,m2,_,m4⟩:=inM_nat hn hM;have hix:ixU s.regs<n:=by unfold ixU;rw [m4];omega
   obtain ⟨d1,d2,d3⟩:=hD _ hix;obtain ⟨o1,o2⟩:=okI_true hn (D:=D) hM;cases hargs:argsOf a (D.k (ixU s.regs)).toNat with
   | none=>
     have E:=hA.z d1 d2 hargs;obtain ⟨ok,wr,c,h1,h2⟩:=headG_pick (regs:=s.regs) (t:=s.t) (t':=(behV D s no cpu rno elem val).t) hn (rest:=noneDV (D.k (ixU s.regs)).toNat s n D rno elem) (po :=.err (K 18)) fun _ _=>pkd_err o1 rfl;exact ⟨_,_,_,_,_,.inl rfl,ok,wr,c,E.pick s n D cpu rno elem _ h1,h2⟩
   | some p=>
     obtain ⟨op,L⟩:=p;obtain ⟨S,s1,s2,s3⟩:=sel_v (regs:=s.regs) (how:=s.how) (w:=(D.w (ixU s.regs)).toNat) (argsOf_L hargs);obtain ⟨T,E⟩:=hA.n hargs d3 s1;obtain ⟨ok,wr,c,h1,h2⟩:=headG_pick (regs:=s.regs) (t:=s.t) (t':=(behV D s no cpu rno elem val).t) hn (rest:=restDV S (D.k (ixU s.regs)).toNat (D.w (ixU s.regs)).toNat a L s n D rno elem) (po:=planL s.regs s.how s.flat cpu (D.k (ixU s.regs)).toNat (D.w (ixU s.regs)).toNat (some (op,L))) fun _ _=>
      argsG_pick (fun o ho=>by
       have e:behV D s no cpu rno elem val=outV6 (laidV L (D.w (ixU s.regs)).toNat (bytZ (D.w (ixU s.regs)).toNat) s) (outW a (D.k (ixU s.regs)).toNat ((laidV L (D.w (ixU s.regs)).toNat (bytZ (D.w (ixU s.regs)).toNat) s).regs.i 1) rno elem):=by
        unfold behV;rw [h7,hno,hargs,laidV_regs];simp only [cond_false];cases hp:plc L with
        | none=>
          have q1:∀c,laidV L (D.w (ixU s.regs)).toNat c s=s:=fun c=>by unfold laidV;rw [hp]
          rw [q1,q1]
        | some r=>
          rw [hval op L hM hargs (by rw [hp];intro h;cases h)]
          rfl
       rw [e];exact doneV_pick ho) L 2 S.B _ _ _ _ o2 s2 s3
     refine ⟨_,T,_,_,nilA L,?_,ok,wr,c,E.pick s n D cpu rno elem _ h1,h2⟩;unfold nilA;cases hp:plc L with
     | none=>exact .inl rfl
     | some r=>exact .inr ⟨rfl,op,L,hM,rfl,by rw [hp];intro h;cases h⟩
 · cases hargs:argsOf a 1 with
   | none=>
     have E:=hA.z (j:=1) (by decide) (by decide) hargs
     obtain ⟨ok,wr,c,h1,h2⟩:=headG_pick (regs:=s.regs) (t:=s.t) (t':=(behV D s no cpu rno elem val).t) hn (rest:=noneDV 1 s n D rno elem) fun _ h=>absurd h hM;exact ⟨_,_,_,_,_,.inl rfl,ok,wr,c,E.pick s n D cpu rno elem _ h1,h2⟩
   | some p=>
     obtain ⟨op,L⟩:=p;obtain ⟨T,E⟩:=hA.n (S :=.all) (w:=1) hargs rfl (by unfold selV;rfl)
     obtain ⟨ok,wr,c,h1,h2⟩:=headG_pick (regs:=s.regs) (t:=s.t) (t':=(behV D s no cpu rno elem val).t) hn (rest:=restDV .all 1 1 a L s n D rno elem) fun _ h=>absurd h hM;refine ⟨_,T,_,_,nilA L,?_,ok,wr,c,E.pick s n D cpu rno elem _ h1,h2⟩;unfold nilA;rw [plc_one hargs];exact .inl rfl
def planEr {σ:Type} (c:Nat) (of:H->Nat->Option σ) (regs:σ->VV) (how flat:σ->Nat->U):List V->H->Option R
 | [.t (.a la),.t (.a (.ptr id [])),.t (.a an),.t (.a ac)],h=>match dfOf h la,of h id,i64Of an,i64Of ac with
   | some (idl,n,D,o),some s,some no,some cpu=>match Nat.beq id idl with
     | false=>some (.leaf (.b (okPl n D o&&dec (planF n D (regs s) (how s) (flat s) no cpu = .err (K c)))) (tupZ (l64 c)) (h.sees [id,idl]))
     | true=>none
   | _,_,_,_=>none
 | _,_=>none
def Γ15e (c:Nat):Gam:=anyΓ 10 (planEr c qfOf QF.regs QF.how QF.b) noΓ
def ev15e (c:Nat) (s:QF) (n:Nat) (D:DF) (no cpu rno elem:U):R:=evalF (cxP 1 1) (Γ15e c) 400 20 15 [slDP n,pt 0,i64 no,i64 cpu,resT (.i .i64 rno) .poison (.i .i64 elem)] (hM (mP s.t n D) 3)
def okEr (c:Nat) (s:QF) (n:Nat) (D:DF) (no cpu:U):Bool:=okPl n D (Nat.beq n n)&&dec (planF n D s.regs s.how s.b no cpu = .err (K c))
theorem e14 (s:QF) (n:Nat) (D:DF) (no cpu rno elem:U):(ev15e 14 s n D no cpu rno elem).dq=errD s.t (.b (okEr 14 s n D no cpu)) (l64 14):=by kernel_rfl
theorem e15 (s:QF) (n:Nat) (D:DF) (no cpu rno elem:U):(ev15e 15 s n D no cpu rno elem).dq=errD s.t (.b (okEr 15 s n D no cpu)) (l64 15):=by kernel_rfl
def ev14n (s:VF) (n:Nat) (D:DF) (no cpu rno elem:U):R:=evalF (cxP 1 1) (specG 62 helpS (Γ14 true 1000)) 400 20 14 [slDP n,pt 0,i64 no,i64 cpu,resT (.i .i64 rno) .poison (.i .i64 elem)] (hM (mP s.t n D) 3)
theorem d_no (s:VF) (n:Nat) (D:DF) (no cpu rno elem:U):(ev14n s n D no cpu rno elem).dq=errD s.t (.b (!(inH no))) (l64 18):=by kernel_rfl
theorem d_7 (s:VF) (n:Nat) (D:DF) (cpu rno elem:U):(ev14 true 1000 1 1 7 s n D cpu rno elem .poison).dq = .leaf .tt [0] (some ([z64],some (0,(outV6 s (numW cpu)).t))):=by kernel_rfl
def nu4 (r b off b3 o3:Nat):Nu:=fun i=>if i=3 then some (b3,o3) else nu3 r b off i
theorem nu4_some {r b off b3 o3 i B o:Nat} (h:nu4 r b off b3 o3 i=some (B,o)):(i=0/\B=r/\o=0)\/((i=1\/i=2)/\B=b/\o=off)\/(i=3/\B=b3/\o=o3):=by
 unfold nu4 at h;split at h
 · simp at h;exact .inr (.inr ⟨by assumption,h.1.symm,h.2.symm⟩)
 · rcases nu3_some h with h|h
   · exact .inl h
   · exact .inr (.inl h)
theorem get_mR {t:T} {n:Nat} {D:DF} {k:Nat} {g:Nat->U} {i:Nat} {x:Blk} (e:(hM (mR t n D k g) 4).m.get i=some x):(i=0/\x=⟨true,t⟩)\/(i=1/\x=⟨false,D.arr n⟩)\/(i=2/\x=⟨false,.lst 7777 []⟩)\/(i=3/\x=⟨false,.arr 1 (.lit k) (.int .u64 g)⟩):=by
 have:=get_memT _ i x e;unfold mR mP at this;simp only [List.mem_append,List.mem_cons,List.not_mem_nil,or_false,pI] at this;rcases this with (h|h|h)|h
 · exact .inl h
 · exact .inr (.inl h)
 · exact .inr (.inr (.inl h))
 · exact .inr (.inr (.inr h))
theorem mem_r4 {w:World} {r b off b3 o3 n k:Nat} {t:T} {D:DF} {g:Nat->U} (hne:r≠b) (hne3:r≠b3) (h0:Holds w r t) (h1:HoldsAt w b off (D.arr n)) (h3:HoldsAt w b3 o3 (.arr 1 (.lit k) (.int .u64 g))):Mem (fun _=>True) (nu4 r b off b3 o3) w (hM (mR t n D k g) 4):=by
 have m:=mem_p3 hne h0 h1;have hmono:Nu.le (nu3 r b off) (nu4 r b off b3 o3):=fun i p hp=>by unfold nu4;rw [if_neg,hp];rintro rfl;unfold nu3 at hp;simp at hp
 refine ⟨⟨fun i r' b' e => ?_,fun i x e hrw i' r' b1 b2 e1 e2 => ?_,fun i hi => ?_,fun i x e => ?_,Nat.le_refl _,fun g hg=>(by cases hg)⟩,fun i x e _ => ?_⟩
 · rcases nu4_some e with ⟨_,rfl,_⟩|⟨_,rfl,_⟩|⟨_,rfl,_⟩
   · exact h0.lt
   · exact h1.lt
   · exact h3.lt
 · rcases get_mR e with ⟨rfl,rfl⟩|⟨_,rfl⟩|⟨_,rfl⟩|⟨_,rfl⟩
   · rcases nu4_some e1 with ⟨_,rfl,_⟩|⟨h,_⟩|⟨h,_⟩
     · rcases nu4_some e2 with ⟨h,_⟩|⟨_,h,_⟩|⟨_,h,_⟩
       · exact h
       · exact absurd h hne
       · exact absurd h hne3
     · omega
     · omega
   · cases hrw
   · cases hrw
   · cases hrw
 · have hi:4≤i:=hi;unfold nu4 nu3;rw [if_neg (by omega),if_neg (by omega),if_neg (by omega)]
 · rcases get_mR e with ⟨rfl,_⟩|⟨rfl,_⟩|⟨rfl,_⟩|⟨rfl,_⟩<;>(show _<4;decide)
 · rcases get_mR e with ⟨rfl,rfl⟩|⟨rfl,rfl⟩|⟨rfl,rfl⟩|⟨rfl,rfl⟩
   · exact (m.seen 0 _ rfl (.inl trivial)).mono hmono fun _ _ _=>rfl
   · exact (m.seen 1 _ rfl (.inl trivial)).mono hmono fun _ _ _=>rfl
   · exact (m.seen 2 _ rfl (.inl trivial)).mono hmono fun _ _ _=>rfl
   · obtain ⟨cs,ty,fr,pre,vs,post,q1,q2,q3,q4⟩:=h3;exact .inl ⟨b3,o3,cs,ty,fr,pre,vs,post,by simp [nu4],q1,q2,q3,T.rel_mono (fun i p e=>by cases e) q4,fun h=>by cases h⟩
def resVal (rno elem:U) (vv vk:Value):Value :=.agg #[.int .i64 (vof .i64 rno),vv,vk,.int .i64 (vof .i64 elem)]
theorem resT_rel {ν:Nu} {no elem val:A} {rno el:U} {vv vk:Value} (h1:no.rel ν (.int .i64 (vof .i64 rno))) (h2:val.rel ν vv) (h3:elem.rel ν (.int .i64 (vof .i64 el))) (c2:Cell vv) (c3:Cell vk):(resT no val elem).rel ν (resVal rno el vv vk):=by
 refine ⟨_,rfl,?_⟩;simp only [T.rel,relTs];exact ⟨_,_,rfl,⟨_,rfl,h1,trivial⟩,_,_,rfl,⟨_,rfl,h2,c2⟩,_,_,rfl,⟨_,rfl,by simp only [A.rel],c3⟩,_,_,rfl,⟨_,rfl,h3,trivial⟩,rfl⟩
theorem relV_snoc {ν:Nu}:∀{xs:List V} {us:List Value} {x:V} {u:Value},relV ν xs us->x.rel ν u->relV ν (xs++[x]) (us++[u])
 | [],[],_,_,_,h=>⟨h,trivial⟩
 | _::_,_::_,_,_,⟨a,b⟩,h=>⟨a,relV_snoc b h⟩
theorem relArgs4 {r b off b3 o3 n c:Nat} {no cpu:U} (hc:n≤c) {x:A} (hx:x.rel (nu4 r b off b3 o3) (.int .i64 (vof .i64 no))):relV (nu4 r b off b3 o3) [slDP n,pt 0,one x,i64 cpu] [.slice (some ⟨b,off,none⟩) n c,.pointer (some ⟨r,0,none⟩),.int .i64 (vof .i64 no),.int .i64 (vof .i64 cpu)]:=by
 refine ⟨?_,?_,hx,?_,trivial⟩
 · show (A.sl 1 [] 5 (.lit 0) (.sym n) none).rel _ _;simp only [A.rel];exact ⟨b,off,off,c,by simp [nu4,nu3],rfl,fun _=>by simp [pathOff,Ix.val],hc,fun _ e=>by cases e⟩
 · show (A.ptr 0 []).rel _ _;simp only [A.rel];exact ⟨r,0,rfl,rfl⟩
 · show (A.i .i64 cpu).rel (nu4 r b off b3 o3) (.int .i64 (vof .i64 cpu));simp only [A.rel]
def ResOK (w:World) (r:Nat) (val:Option (Nat×(Nat->U))) (vv:Value):Prop:=match val with
 | none=>vv = .slice none 0 0
 | some (k,g)=>∃b3 o3 c3,r≠b3/\k≤c3/\vv = .slice (some ⟨b3,o3,none⟩) k c3/\HoldsAt w b3 o3 (.arr 1 (.lit k) (.int .u64 g))
theorem ResOK.cell {w:World} {r:Nat} {val:Option (Nat×(Nat->U))} {vv:Value} (h:ResOK w r val vv):Cell vv:=by
 unfold ResOK at h;split at h
 · subst h;trivial
 · obtain ⟨_,_,_,_,_,rfl,_⟩:=h;trivial
section
variable {w:World} {r b off n c:Nat} {D:DF} {no cpu rno elem:U} {val:Option (Nat×(Nat->U))} {vv vk:Value}
def FitOK (n:Nat) (D:DF) (regs:VV) (no rno:U) (val:Option (Nat×(Nat->U))):Prop:=match val with
 | none=>True
 | some (k,_)=>rno=K 0/\inM n (regs.i 1)=true/\k=(D.w (ixU regs)).toNat
theorem done14 {s:VF} (hn:n≤10) (hD:OKD n D) (hc:n≤c) (hne:r≠b) (h0:Holds w r s.t) (h1:HoldsAt w b off (D.arr n)) (hv:ResOK w r val vv) (hf:FitOK n D s.regs no rno val) (hk:Cell vk) :
 Calls Tryz.prog 14 #[.slice (some ⟨b,off,none⟩) n c,.pointer (some ⟨r,0,none⟩),.int .i64 (vof .i64 no),.int .i64 (vof .i64 cpu),resVal rno elem vv vk] w (DoneP w r (planF n D s.regs s.how s.flat no cpu).code (doneVF n D s no cpu rno elem val).t):=by
 have pois:∀{x:A} {no':U},x.rel (nu3 r b off) (.int .i64 (vof .i64 no'))->relV (nu3 r b off) ([slDP n,pt 0,one x,i64 cpu]++[resT (.i .i64 rno) .poison (.i .i64 elem)]) ([.slice (some ⟨b,off,none⟩) n c,.pointer (some ⟨r,0,none⟩),.int .i64 (vof .i64 no'),.int .i64 (vof .i64 cpu)]++[resVal rno elem vv vk]):=fun hx=>
  relV_snoc (relArgs hc hx) (resT_rel (by simp only [A.rel]) (by simp only [A.rel]) (by simp only [A.rel]) hv.cell hk)
 cases hin:inH no
 · have e:=planF_no (n:=n) (D:=D) (regs:=s.regs) (how:=s.how) (flat:=s.flat) (cpu:=cpu) hin;have e2:doneVF n D s no cpu rno elem val=s:=by unfold doneVF;rw [e]
   rw [e,e2];refine done_of (R0:=ev14n s n D no cpu rno elem) (by rw [d_no];exact pkd_err (by show (!(inH no))=true;rw [hin];rfl) rfl) (fun ok v h' hp hok=>(evalF_fn (XP 1 1 (help_ok (Γ14_ok true 1000))) rfl hp hok).2) rfl rfl (mem_p3 hne h0 h1) rfl (us:=[_,_,_,_,_]) (pois (by simp only [A.rel]))
 · cases h7:no==K 7
   · obtain ⟨a,ha,hK,hcs⟩:=in_cases hin h7;have e:=planF_in (n:=n) (D:=D) (regs:=s.regs) (how:=s.how) (flat:=s.flat) (cpu:=cpu) hin h7;rw [doneVF_eq,e,ha];have small:∀(hval:∀op L,inM n (s.regs.i 1)=true->argsOf a (D.k (ixU s.regs)).toNat=some (op,L)->plc L≠none->val=none),Calls Tryz.prog 14 #[.slice (some ⟨b,off,none⟩) n c,.pointer (some ⟨r,0,none⟩),.int .i64 (vof .i64 no),.int .i64 (vof .i64 cpu),resVal rno elem vv vk] w (DoneP w r (headF n s.regs (planL s.regs s.how s.flat cpu (D.k (ixU s.regs)).toNat (D.w (ixU s.regs)).toNat (argsOf a (D.k (ixU s.regs)).toNat))).code ((headF n s.regs (planL s.regs s.how s.flat cpu (D.k (ixU s.regs)).toNat (D.w (ixU s.regs)).toNat (argsOf a (D.k (ixU s.regs)).toNat))).pickT s.t (behV D s no cpu rno elem val).t)):=fun hval=>by
      obtain ⟨bb,T,j,w',v,hvv,hpk⟩:=exDn hn hD (allDV hcs) ha h7 s cpu rno elem val hval;refine done_of hpk (fun ok v h' hp hok=>(evalF_fn (XP j w' (Γ14_ok bb T)) rfl hp hok).2) ?_ ?_ (mem_p3 hne h0 h1) rfl (us:=[_,_,_,_,_]) ?_
      · unfold PO.pickT;split<;>rfl
      · unfold PO.pickT;split<;>rfl
      · rcases hvv with rfl|⟨rfl,op,L,hM,hargs,hpl⟩
        · exact pois (lit_no hK (by omega))
        · have hvn:=hval op L hM hargs hpl;subst hvn;have hvv:vv = .slice none 0 0:=hv;subst hvv;exact relV_snoc (relArgs hc (lit_no hK (by omega))) (resT_rel (by simp only [A.rel]) (by simp only [A.rel]) (by simp only [A.rel]) trivial hk)
     cases hvs:val with
     | none=>
       rw [hvs] at small;exact small fun _ _ _ _ _=>rfl
     | some p=>
       obtain ⟨k,g⟩:=p;by_cases hw:∃op L,inM n (s.regs.i 1)=true/\argsOf a (D.k (ixU s.regs)).toNat=some (op,L)/\plc L≠none
       · obtain ⟨op,L,hM,hargs,hpl⟩:=hw;rw [hvs] at hf hv;obtain ⟨f1,f2,f3⟩:=hf;subst f1;subst f3;obtain ⟨b3,o3,c3,hne3,hc3,rfl,h3⟩:=hv;obtain ⟨bb,T,hpk⟩:=exDw hn hD (allDV hcs) ha h7 s cpu elem g hM hargs hpl;rw [hargs];refine done_of hpk (fun ok v h' hp hok=>(evalF_fn (XP _ _ (Γ14_ok bb T)) rfl hp hok).2) ?_ ?_ (mem_r4 hne hne3 h0 h1 h3) rfl (us:=[_,_,_,_,_]) ?_
         · unfold PO.pickT;split<;>rfl
         · unfold PO.pickT;split<;>rfl
         · refine relV_snoc (relArgs4 hc (lit_no hK (by omega))) (resT_rel ?_ ?_ (by simp only [A.rel]) trivial hk)
           · unfold z64;simp only [A.rel];exact ⟨rfl,rfl⟩
           · simp only [A.rel];exact ⟨b3,o3,o3,c3,by simp [nu4],rfl,fun _=>by simp [pathOff,Ix.val],hc3,fun _ e=>by cases e⟩
       · rw [hvs] at small;exact small fun op L hM hargs hpl=>absurd ⟨op,L,hM,hargs,hpl⟩ hw
   · have h7:=eq_of_beq h7;subst h7;have e2:doneVF n D s (K 7) cpu rno elem val=outV6 s (numW cpu):=rfl;rw [e2];refine done_of (R0:=ev14 true 1000 1 1 7 s n D cpu rno elem .poison) (code:=K 0) (by rw [d_7];exact ⟨.tt,[0],z64,rfl,rfl,rfl,.inl rfl⟩) (fun ok v h' hp hok=>(evalF_fn (XP 1 1 (Γ14_ok true 1000)) rfl hp hok).2) rfl rfl (mem_p3 hne h0 h1) rfl (us:=[_,_,_,_,_]) (pois (lit_no (a:=7) rfl (by decide)))
theorem okPl_true (h1:1≤n) (hn:n≤10) (hD:OKD n D):okPl n D (Nat.beq n n)=true:=by
 unfold okPl;have a1:Nat.ble 1 n=true:=nB h1;have a2:Nat.ble n 10=true:=nB hn;have a3:Nat.beq n n=true:=Nat.beq_refl n;rw [a1,a2,a3,dec_true hD];rfl
end
theorem argsF_ok {regs:VV} {how flat:Nat->U} {w:Nat} {m op cpu m' o' k' f' c':U} {v':Option (Nat×(Nat->U))}:∀(L:List Nat) (r:Nat) (key flag:U) (v:Option (Nat×(Nat->U))),argsF regs how flat w m op cpu L r key flag v = .ok m' o' k' f' c' v'->m'=m/\v'.isSome=(v.isSome||L.any fun x=>Nat.beq x 1)
 | [],r,key,flag,v,h=>by cases h;exact ⟨rfl,by simp⟩
 | 0::L,r,key,flag,v,h=>by
   unfold argsF at h;cases h0:regs.k r==K 0<;>simp only [h0,cond_true,cond_false] at h
   · cases h1:bytesE how (regs.at r) 8 != K 0<;>simp only [h1,cond_true,cond_false] at h
     · obtain ⟨a,b⟩:=argsF_ok L _ _ _ _ h;exact ⟨a,b.trans (by rw [List.any_cons];rfl)⟩
     · cases h
   · cases h
 | 1::L,r,key,flag,v,h=>by
   unfold argsF at h;cases h0:regs.k r==K 0<;>simp only [h0,cond_true,cond_false] at h
   · cases h1:bytesE how (regs.at r) (8*w) != K 0<;>simp only [h1,cond_true,cond_false] at h
     · obtain ⟨a,b⟩:=argsF_ok L _ _ _ _ h;exact ⟨a,b.trans (by rw [List.any_cons];cases v.isSome<;>cases (L.any fun x=>Nat.beq x 1)<;>rfl)⟩
     · cases h
   · cases h
 | 2::L,r,key,flag,v,h=>by
   unfold argsF at h;cases h0:regs.k r==K 0<;>simp only [h0,cond_true,cond_false] at h
   · cases h1:regs.k r != K 1<;>simp only [h1,cond_true,cond_false] at h
     · obtain ⟨a,b⟩:=argsF_ok L _ _ _ _ h;exact ⟨a,b.trans (by rw [List.any_cons];rfl)⟩
     · cases h
   · cases h
 | (n+3)::L,r,key,flag,v,h=>by
   unfold argsF at h;cases h0:regs.k r==K 0<;>simp only [h0,cond_true,cond_false] at h
   · cases h1:regs.k r != K 3<;>simp only [h1,cond_true,cond_false] at h
     · cases h2:roomB (regs.n r) (8*w)<;>simp only [h2,Bool.not_true,Bool.not_false,cond_true,cond_false] at h
       · cases h
       · obtain ⟨a,b⟩:=argsF_ok L _ _ _ _ h;exact ⟨a,b.trans (by rw [List.any_cons];rfl)⟩
     · cases h
   · cases h
theorem hasV_any {L:List Nat} (hL:L=[0]\/L=[0,1,2]\/L=[1,2]\/L=[3]\/L=[1]\/L=[0,3]):hasV L=L.any fun x=>Nat.beq x 1:=by
 rcases hL with rfl|rfl|rfl|rfl|rfl|rfl<;>rfl
theorem plan_facts {n:Nat} {D:DF} {regs:VV} {how flat:Nat->U} {no cpu m' o' k' f' c':U} {v':Option (Nat×(Nat->U))} (h:planF n D regs how flat no cpu = .ok m' o' k' f' c' v') (h7:(no==K 7)=false):inH no=true/\inM n (regs.i 1)=true/\m'=regs.i 1/\∃op L,argsOf no.toNat (D.k (ixU regs)).toNat=some (op,L)/\v'.isSome=hasV L:=by
 unfold planF at h;cases h0:cond (BitVec.sle (K 1) no) (BitVec.sle no (K 8)) false<;>simp only [h0,Bool.not_true,Bool.not_false,cond_true,cond_false] at h
 · cases h
 · simp only [h7,cond_false] at h;cases h2:regs.k 1==K 0<;>simp only [h2,cond_true,cond_false] at h
   · cases h3:regs.k 1 != K 4<;>simp only [h3,cond_true,cond_false] at h
     · cases h4:inM n (regs.i 1)<;>simp only [h4,Bool.not_true,Bool.not_false,cond_true,cond_false] at h
       · cases h
       · unfold planL at h;split at h
         · cases h
         · rename_i op L hargs;obtain ⟨e1,e2⟩:=argsF_ok L _ _ _ _ h;exact ⟨h0,rfl,e1,op,L,hargs,by rw [e2,hasV_any (argsOf_L hargs)];rfl⟩
     · cases h
   · cases h
theorem fn_turnG {P:Program} {f:FuncId} {args:List V} {v:V} {h:H} {id:Nat} {t t':T} (hget:h.m.get id=some ⟨true,t⟩) (ids:List Nat)
 (HH:∀S ν w us,Mem S ν w h->(∀i,i∈ids->S i\/h.lo≤i)->relV ν args us->∃r,ν id=some (r,0)/\Calls P f us.toArray w fun e w'=>∃u,e = .returned u/\v.rel ν u/\But r w.heap.size w w'/\Holds w' r t') :
 FnOK P f args h v ((h.sees ids).put id ⟨true,t'⟩):=by
 intro S ν w us hrd _ hm hv;have hrd':∀i,i∈(h.sees ids).rd->S i:=hrd;obtain ⟨r,e1,hc⟩:=HH S ν w us hm (sees_seen hrd') hv;refine hc.mono ?_;rintro e w' ⟨u,rfl,hu,hbut,hh'⟩;have g1:=hm.sees ids;exact ⟨u,ν,rfl,hu,g1.trans (goes_turned (h:=h.sees ids) g1.mem (by rw [sees_m];exact hget) rfl e1 hbut hh')⟩
def wordsOf (h:H):A->Option (List Nat×Option (Nat×(Nat->U))×Bool)
 | .nils=>some ([],none,true)
 | .sl id [] 1 (.lit 0) (.sym k) _=>match h.m.get id with
   | some ⟨_,.arr 1 (.sym m) (.int .u64 g)⟩=>some ([id],some (k,g),Nat.beq m k)
   | _=>none
 | _=>none
theorem words_here {S:Nat->Prop} {ν:Nu} {w:World} {h:H} {x:A} {l:List Nat} {val:Option (Nat×(Nat->U))} {o:Bool} (e:wordsOf h x=some (l,val,o)) (ho:o=true) {id:Nat} {t:T} {r:Nat} (hget:h.m.get id=some ⟨true,t⟩) (hr:ν id=some (r,0)) (hne:∀i,i∈l->id≠i) (hS:∀i,i∈l->S i\/h.lo≤i) (hm:Mem S ν w h) (h0:∀k g,val=some (k,g)->0<k) {u:Value} (hu:x.rel ν u):ResOK w r val u:=by
 unfold wordsOf at e;split at e
 · cases e;simp only [A.rel] at hu;exact hu
 · rename_i id3 k c;split at e
   · rename_i rw m g hg;cases e;have hmk:=Nat.eq_of_beq_eq_true ho;subst hmk;obtain ⟨B,off,cc,hid,hH,rfl,hc⟩:=sl_here hm hg (hS id3 (.head _)) rfl rfl (len :=.sym m) (h0 m g rfl) hu;refine ⟨B,off,cc,?_,hc,rfl,?_⟩
     · rintro rfl;exact hne id3 (.head _) (hm.nums.inj id _ hget rfl id3 r 0 off hr hid).symm
     · refine hH.less fun vs hv => ?_;simp only [T.rel] at hv ⊢;exact hv
   · cases e
 · cases e
theorem st4_rel {ν:Nu} {a b c d:A} {u:Value} (h:(V.t (.st [.a a,.a b,.a c,.a d])).rel ν u):∃x1 x2 x3 x4,u = .agg #[x1,x2,x3,x4]/\a.rel ν x1/\b.rel ν x2/\Cell x3/\d.rel ν x4:=by
 obtain ⟨vs,rfl,hr⟩:=h;simp only [T.rel,relTs] at hr;obtain ⟨u1,w1,e1,⟨x1,f1,r1,c1⟩,u2,w2,e2,⟨x2,f2,r2,c2⟩,u3,w3,e3,⟨x3,f3,r3,c3⟩,u4,w4,e4,⟨x4,f4,r4,c4⟩,e5⟩:=hr;subst f1 f2 f3 f4 e5 e4 e3 e2;refine ⟨x1,x2,x3,x4,?_,r1,r2,c3,r4⟩
 match vs,e1 with
 | ⟨_⟩,rfl=>rfl
def doneSp {σ:Type} (of:H->Nat->Option σ) (t:σ->T) (regs:σ->VV) (how flat:σ->Nat->U) (done:Nat->DF->σ->U->U->U->U->Option (Nat×(Nat->U))->σ):List V->H->Option R
 | [.t (.a la),.t (.a (.ptr id [])),.t (.a an),.t (.a ac),.t (.st [.a ano,.a av,.a ak,.a ae])],h=>match dfOf h la,of h id,i64Of an,i64Of ac,i64Of ano,wordsOf h av,i64Of ae with
   | some (idl,n,D,o),some s,some no,some cpu,some rno,some (l3,val,o3),some elem=>match (id::idl::l3).tail.any (Nat.beq id) with
     | false=>some (.leaf (.b (okPl n D o&&(o3&&dec (FitOK n D (regs s) no rno val)))) (.t (.a (.i .i64 (planF n D (regs s) (how s) (flat s) no cpu).code))) ((h.sees (id::idl::l3)).put id ⟨true,t (done n D s no cpu rno elem val)⟩))
     | true=>none
   | _,_,_,_,_,_,_=>none
 | _,_=>none
theorem doneSp_inv {σ:Type} {of:H->Nat->Option σ} {t:σ->T} {regs:σ->VV} {how flat:σ->Nat->U} {done:Nat->DF->σ->U->U->U->U->Option (Nat×(Nat->U))->σ} {args:List V} {h:H} {r:R} (e:doneSp of t regs how flat done args h=some r) :
 ∃la id an ac ano av ak ae idl n D o s no cpu rno l3 val o3 elem,args=[.t (.a la),.t (.a (.ptr id [])),.t (.a an),.t (.a ac),.t (.st [.a ano,.a av,.a ak,.a ae])]/\dfOf h la=some (idl,n,D,o)/\of h id=some s/\i64Of an=some no/\i64Of ac=some cpu/\i64Of ano=some rno/\wordsOf h av=some (l3,val,o3)/\i64Of ae=some elem/\(∀i,i∈idl::l3->id≠i) /\
  r = .leaf (.b (okPl n D o&&(o3&&dec (FitOK n D (regs s) no rno val)))) (.t (.a (.i .i64 (planF n D (regs s) (how s) (flat s) no cpu).code))) ((h.sees (id::idl::l3)).put id ⟨true,t (done n D s no cpu rno elem val)⟩):=by
 unfold doneSp at e;split at e
 · split at e
   · rename_i h1 h2 h3 h4 h5 h6 h7;split at e
     · rename_i hb;cases e;refine ⟨_,_,_,_,_,_,_,_,_,_,_,_,_,_,_,_,_,_,_,_,rfl,h1,h2,h3,h4,h5,h6,h7,fun i hi e => ?_,rfl⟩;subst e;have hb:=List.any_eq_false.1 hb _ hi;exact hb (Nat.beq_refl _)
     · cases e
   · cases e
 · cases e
theorem FitOK.pos {n:Nat} {D:DF} {regs:VV} {no rno:U} {val:Option (Nat×(Nat->U))} (h:FitOK n D regs no rno val) (hn:n≤10) (hD:OKD n D):∀k g,val=some (k,g)->0<k:=by
 rintro k g rfl;obtain ⟨_,hM,rfl⟩:=h;obtain ⟨m1,m2,_,m4⟩:=inM_nat hn hM;obtain ⟨_,_,d3⟩:=hD (ixU regs) (by unfold ixU;rw [m4];omega)
 unfold wOK at d3;refine Nat.pos_of_ne_zero fun h => ?_;rw [h] at d3;split at d3<;>revert d3<;>decide
theorem done_fn {σ:Type} {of:H->Nat->Option σ} {t:σ->T} {regs:σ->VV} {how flat:σ->Nat->U} {done:Nat->DF->σ->U->U->U->U->Option (Nat×(Nat->U))->σ} {f:Nat} (hof:∀{h id s},of h id=some s->h.m.get id=some ⟨true,t s⟩) (hn:∀s,notMp (t s)=true) (hf:∀s,(t s).free=true) (hent:Enters Tryz.prog f)
 (hc:∀{w:World} {r b off n c:Nat} {D:DF} {no cpu rno elem:U} {val:Option (Nat×(Nat->U))} {vv vk:Value} {s:σ},1≤n->n≤10->OKD n D->n≤c->r≠b->Holds w r (t s)->HoldsAt w b off (D.arr n)->ResOK w r val vv->FitOK n D (regs s) no rno val->Cell vk ->
   Calls Tryz.prog f #[.slice (some ⟨b,off,none⟩) n c,.pointer (some ⟨r,0,none⟩),.int .i64 (vof .i64 no),.int .i64 (vof .i64 cpu),resVal rno elem vv vk] w (DoneP w r (planF n D (regs s) (how s) (flat s) no cpu).code (t (done n D s no cpu rno elem val)))):AnyOK Tryz.prog f (doneSp of t regs how flat done) where
 ent:=hent
 ok:=by
  intro args h r ok v h' he hp hok;obtain ⟨la,id,an,ac,ano,av,ak,ae,idl,n,D,o,s,no,cpu,rno,l3,val,o3,elem,rfl,hd,hs,hno,hcpu,hrno,hval,helem,hne,rfl⟩:=doneSp_inv he;simp only [R.pick,oI,pI] at hp;obtain ⟨rfl,rfl,rfl⟩:=hp;have hok:(okPl n D o&&(o3&&dec (FitOK n D (regs s) no rno val)))=true:=hok;simp only [bA] at hok;obtain ⟨ho,ho3,hF⟩:=hok;have hF:=of_dec hF;unfold okPl at ho;simp only [bA] at ho;obtain ⟨⟨p1,p2⟩,p3,p4⟩:=ho;have p1:=nL p1;have p2:=nL p2;have p4:=of_dec p4;refine fn_turnG (hof hs) (id::idl::l3) fun S ν w us hm hS hus => ?_
  match us,hus with
  | [u0,u1,u2,u3,u4],⟨r0,r1,r2,r3,r4,_⟩=>
    obtain ⟨B,off,c,hH,rfl,hcc,hνl⟩:=df_here hm hd p3 (hS idl (.tail _ (.head _))) (by omega) r0
    obtain ⟨rr,e1,hh,rfl⟩:=ptr_here hm (hof hs) (hS id (.head _)) (hn s) (hf s) r1;obtain rfl:=i64Of_rel hno r2;obtain rfl:=i64Of_rel hcpu r3;obtain ⟨x1,x2,x3,x4,rfl,q1,q2,q3,q4⟩:=st4_rel r4;obtain rfl:=i64Of_rel hrno q1;obtain rfl:=i64Of_rel helem q4;have hrB:rr≠B:=by rintro rfl;exact hne idl (.head _) (hm.nums.inj id _ (hof hs) rfl idl rr 0 off e1 hνl).symm
    have hres:=words_here hval ho3 (hof hs) e1 (fun i hi=>hne i (.tail _ hi)) (fun i hi=>hS i (.tail _ (.tail _ hi))) hm (hF.pos p2 p4) q2;refine ⟨rr,e1,(hc p1 p2 p4 hcc hrB hh hH hres hF q3).mono ?_⟩;rintro e w' ⟨rfl,hb,hh'⟩;refine ⟨_,rfl,?_,hb,hh'⟩;show (A.i .i64 _).rel ν _;simp only [A.rel]
 pan:=by intro args h r ok v h' he hp hok;obtain ⟨la,id,an,ac,ano,av,ak,ae,idl,n,D,o,s,no,cpu,rno,l3,val,o3,elem,rfl,hd,hs,hno,hcpu,hrno,hval,helem,hne,rfl⟩:=doneSp_inv he;simp [R.pickP] at hp
 ext:=by intro args h r he hlo;obtain ⟨la,id,an,ac,ano,av,ak,ae,idl,n,D,o,s,no,cpu,rno,l3,val,o3,elem,rfl,hd,hs,hno,hcpu,hrno,hval,helem,hne,rfl⟩:=doneSp_inv he;exact (sees_ext _ h).trans (put_ext (h:=h.sees _) (by rw [sees_m];exact hof hs) rfl rfl)
def done14Sp:List V->H->Option R:=doneSp vfOf VF.t VF.regs VF.how VF.flat doneVF
theorem done14_ok:AnyOK Tryz.prog 14 done14Sp:=done_fn (t:=VF.t) vfOf_some (fun _=>rfl) (fun _=>rfl) (enters_of entK 14 _ Tryz.func14 (by simp [Tryz.f14])) fun _ h2 h3 h4 h5 h6 h7 h8 h9 h10=>done14 h2 h3 h4 h5 h6 h7 h8 h9 h10
theorem wOK_le {j w:Nat} (h:wOK j w=true):w=1\/w=2\/w=3\/w=4:=by
 unfold wOK at h;split at h
 all_goals first
  | (simp only [bA] at h
     have h1:=nL h.1;have h2:=nL h.2;omega)
  | exact .inl (w_one h)
theorem blk1 {P:Program} {x:Code} {id:Nat} {R:Act->World->Prop} {a:Act} {w:World} (h:x.wp P (fun e a' w'=>(e = .exit id\/e = .normal)/\R a' w') a w):(Code.block id x).wp P (fun e a' w'=>e = .normal/\R a' w') a w:=by
 refine wp_block (wp_mono h ?_);rintro e a' w' ⟨rfl|rfl,h⟩
 · show if id=id then _ else _
   rw [if_pos rfl];exact ⟨rfl,h⟩
 · exact ⟨rfl,h⟩
section
variable {kn:TW->Nat->RW} {n:Nat} {D:DF} {nt:Nat} {F:TF} {s:VF} {q:QF} {f:FSt} {W:World} {a:Act} {w:World}
theorem round7 (hK:AnyOK Tryz.prog 30 (knoSp kn)) (hk:∀t n,(kn t n).k=kdU t.k) (h1:1≤n) (h2:n≤10) {m:Nat} (hm:m<nt) (hnt:nt≤60) (hS:StI s q f) (hI:OwnL fp7 6 (mS n D nt F s q f f) W (vI n nt (.i .i64 (kk m))) a w) :
 (Code.block 1 yB).wp Tryz.prog (fun e a' w'=>e = .normal/\OwnL fp7 6 (mS n D nt F (stepV n (F.at m) s) (stepQ n (F.at m) q) (stepF kn n (F.at m) f) (stepF kn n (F.at m) f)) W (vI n nt (.i .i64 (kk m))) a' w') a w:=by
 have X:=XK (ΓS0_ok hK (j:=0) (by decide))
 have em:(kk m).toNat=m:=kk_nat (by omega)
 refine blk1 ?_;rw [yB_eq];have ok8:(vB (kk m) nt&&Nat.blt (0+(kk m).toNat) nt)=true:=by
  unfold vB;rw [em,Nat.zero_add,msb_kk (by omega)]
  have:Nat.blt m nt=true:=nB hm;rw [this];rfl
 refine wp_two (OwnL.go X rfl (y8_ev kn n D nt F s q f f (kk m)) ok8 rfl rfl (by kernel_rfl) (LessA.refl _) (LessM.refl _) hI) fun a w1 hI => ?_
 rw [em,Nat.zero_add] at hI;generalize F.at m=t at hI ⊢;have okt:=okT_true t h1 h2;refine wp_two (OwnL.go X rfl (y9_ev kn n D nt F s q f f (kk m) t) okt rfl rfl (by kernel_rfl) (LessA.refl _) (LessM.refl _) hI) fun a w1 hI => ?_
 refine wp_two (OwnL.go X rfl (y10_ev kn n D nt F s q f f (kk m) t (valW t n)) okt rfl rfl (by kernel_rfl) (LessA.refl _) (LessM.refl _) hI) fun a w1 hI => ?_
 unfold stepV stepQ stepF;cases hw:BitVec.slt t.w (K 10)
 · refine wp_two (OwnL.goB X rfl ((y11_c kn n D nt F s q f f (kk m) t _ _).trans (by rw [hw])) (y11_f kn n D nt F s q f f (kk m) t _ _) rfl rfl rfl (by kernel_rfl) (LessA.refl _) (LessM.refl _) hI) fun a w1 hI => ?_
   have hj:(pickU t.b (K 9)).toNat<9:=pick_lt 9 (by omega) (by omega) _
   have ej:(pickU t.b (K 9)==kk (pickU t.b (K 9)).toNat)=true:=by rw [kk_back];exact beq_self_eq_true _
   cases e:(pickU t.b (K 9)).toNat with
   | zero=>
     rw [e] at ej;refine wp_two (OwnL.go X rfl (y16_ev kn n D nt F s q f f (kk m) t _ _ 0) ej rfl rfl (by kernel_rfl) (LessA.refl _) (LessM.refl _) hI) fun a w1 hI => ?_
     refine wp_two (OwnL.go X rfl (y17_0 kn n D nt F s q f f (kk m) t _ _) rfl rfl rfl (by kernel_rfl) (LessA.refl _) (LessM.refl _) hI) fun a w1 hI => ?_
     cases hv:(valW t n).k==K 0
     · refine wp_two (OwnL.goB X rfl ((y28_c kn n D nt F s q f f (kk m) t _ _).trans (by rw [hv])) (y28_f kn n D nt F s q f f (kk m) t _ _) rfl rfl rfl (by kernel_rfl) (LessA.refl _) (LessM.refl _) hI) fun a w1 hI => ?_
       have hv':(valW t n).k≠K 0:=by simpa using hv
       have hq10:r10B (q.regs.at 10)=true:=by rw [hS.rel.regs];exact hS.r10
       have ok29:((((isSlot (placeU t.w)&&okDo (dvA s t.w (valW t n)) (slotN (placeU t.w)))&&okQ (dqA q t.w (valW t n)) (placeU t.w))&&isSlot (placeU t.w))&&isSlot (placeU t.w))=true:=by rw [place_ok,okB_do hS.r10 hv',okB_dq hq10 hv'];rfl
       refine wp_mono (OwnL.go X rfl (y29_ev kn n D nt F s q f f (kk m) t _ _) ok29 rfl rfl (by kernel_rfl) (LessA.refl _) (LessM.refl _) hI) ?_
       rintro x a' w' ⟨rfl,h⟩;exact ⟨.inr rfl,h⟩
     · refine wp_seq (wp_mono (OwnL.outB X rfl ((y28_c kn n D nt F s q f f (kk m) t _ _).trans (by rw [hv])) (y28_t kn n D nt F s q f f (kk m) t _ _) rfl rfl rfl (by kernel_rfl) (LessA.refl _) (LessM.refl _) hI) ?_)
       rintro x a' w' ⟨rfl,h⟩;exact ⟨.inl rfl,h⟩
   | succ j=>
     rw [e] at hj ej;have Xj:=XK (ΓS0_ok hK hj);refine wp_two (OwnL.go Xj rfl (y16_ev kn n D nt F s q f f (kk m) t _ _ (j+1)) ej rfl rfl (by kernel_rfl) (LessA.refl _) (LessM.refl _) hI) fun a w1 hI => ?_
     have y17:=y17_j kn n D nt F s q f f (kk m) t (valW t n) (kn t n) (j+1) (Nat.succ_pos _) hj;rw [lay22R_eq hS.inv] at y17;refine wp_seq (wp_mono (OwnL.out Xj rfl y17 rfl rfl rfl (by kernel_rfl) (LessA.refl _) (LessM.refl _) hI) ?_)
     rintro x a' w' ⟨rfl,h⟩;exact ⟨.inl rfl,h⟩
 · refine wp_seq (wp_mono (OwnL.outB X rfl ((y11_c kn n D nt F s q f f (kk m) t _ _).trans (by rw [hw])) (y11_t kn n D nt F s q f f (kk m) t _ _) rfl rfl rfl (by kernel_rfl) (LessA.refl _) (LessM.refl _) hI) ?_)
   rintro x a' w' ⟨rfl,h⟩;exact ⟨.inl rfl,h⟩
end
end Go.WE
end
