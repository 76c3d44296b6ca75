/- A part of a proof of the helpers' law; no condition of its own. -/
import Derived.Test.YtoeealkcacgcgaaGreatDoorK25
import Derived.Test.YtoeealkcacgcgaaGreatDoorK26
import Derived.Test.YtoeealkcacgcgaaGreatDoorK27
import Derived.Test.YtoeealkcacgcgaaGreatDoorK28
import Derived.Test.YtoeealkcacgcgaaGreatDoorK29
import Derived.Test.YtoeealkcacgcgaaGreatDoorK30
set_option linter.unusedVariables false
set_option maxRecDepth 100000
noncomputable section
namespace Go.WE
open Go Go.Proofs Go.RowKit
theorem dvn_1 {S:Sel}:∀{j w op:Nat} {L:List Nat},argsOf 1 j=some (op,L)->wOK j w=true->selV L S=true->∃T,DnV (nilA L) S.b T j w 1 (restDV S j w 1 L)
 | 0,w,op,L,h,_,_=>by cases h
 | 1,w,op,L,h,hw,hs=>by
   cases h;obtain rfl:=w_one hw;cases S with
    | all=>exact ⟨_,dv1_1_1_all⟩
    | e0=>exact ⟨_,dv1_1_1_e0⟩
    | e1=>cases hs
    | nr=>cases hs
 | 2,w,op,L,h,hw,hs=>by
   cases h;obtain rfl:=w_one hw;cases S with
    | all=>exact ⟨_,dv1_2_1_all⟩
    | e0=>exact ⟨_,dv1_2_1_e0⟩
    | e1=>cases hs
    | nr=>cases hs
 | 3,w,op,L,h,_,_=>by cases h
 | 4,w,op,L,h,hw,hs=>by
   cases h;obtain rfl:=w_one hw;cases S with
    | all=>exact ⟨_,dv1_4_1_all⟩
    | e0=>exact ⟨_,dv1_4_1_e0⟩
    | e1=>cases hs
    | nr=>cases hs
 | 5,w,op,L,h,hw,hs=>by
   cases h;obtain rfl:=w_one hw;cases S with
    | all=>exact ⟨_,dv1_5_1_all⟩
    | e0=>exact ⟨_,dv1_5_1_e0⟩
    | e1=>cases hs
    | nr=>cases hs
 | 6,w,op,L,h,_,_=>by cases h
 | 7,w,op,L,h,_,_=>by cases h
 | 8,w,op,L,h,_,_=>by cases h
 | 9,w,op,L,h,hw,hs=>by
   cases h;obtain rfl:=w_one hw;cases S with
    | all=>exact ⟨_,dv1_9_1_all⟩
    | e0=>exact ⟨_,dv1_9_1_e0⟩
    | e1=>cases hs
    | nr=>cases hs
 | 10,w,op,L,h,hw,hs=>by
   cases h;obtain rfl:=w_one hw;cases S with
    | all=>exact ⟨_,dv1_10_1_all⟩
    | e0=>exact ⟨_,dv1_10_1_e0⟩
    | e1=>cases hs
    | nr=>cases hs
 | j+11,w,op,L,h,_,_=>by cases h
theorem dvw_1 {S:Sel}:∀{j w op:Nat} {L:List Nat},argsOf 1 j=some (op,L)->wOK j w=true->selV L S=true->plc L≠none->∃T,DwV S.b T j w 1 (restDW S j w 1 L)
 | 0,w,op,L,h,_,_,_=>by cases h
 | 1,w,op,L,h,_,_,hp=>by cases h;exact absurd rfl hp
 | 2,w,op,L,h,_,_,hp=>by cases h;exact absurd rfl hp
 | 3,w,op,L,h,_,_,_=>by cases h
 | 4,w,op,L,h,_,_,hp=>by cases h;exact absurd rfl hp
 | 5,w,op,L,h,_,_,hp=>by cases h;exact absurd rfl hp
 | 6,w,op,L,h,_,_,_=>by cases h
 | 7,w,op,L,h,_,_,_=>by cases h
 | 8,w,op,L,h,_,_,_=>by cases h
 | 9,w,op,L,h,_,_,hp=>by cases h;exact absurd rfl hp
 | 10,w,op,L,h,_,_,hp=>by cases h;exact absurd rfl hp
 | j+11,w,op,L,h,_,_,_=>by cases h
theorem dvz_1:∀{j:Nat},1≤j->j≤10->argsOf 1 j=none->DnV .poison true 1000 j 1 1 (noneDV j)
 | 0,h,_,_=>absurd h (by decide)
 | 1,_,_,h=>by cases h
 | 2,_,_,h=>by cases h
 | 3,_,_,h=>dv1_3_n
 | 4,_,_,h=>by cases h
 | 5,_,_,h=>by cases h
 | 6,_,_,h=>dv1_6_n
 | 7,_,_,h=>dv1_7_n
 | 8,_,_,h=>dv1_8_n
 | 9,_,_,h=>by cases h
 | 10,_,_,h=>by cases h
 | j+11,_,h,_=>absurd h (by omega)
theorem dvn_2 {S:Sel}:∀{j w op:Nat} {L:List Nat},argsOf 2 j=some (op,L)->wOK j w=true->selV L S=true->∃T,DnV (nilA L) S.b T j w 2 (restDV S j w 2 L)
 | 0,w,op,L,h,_,_=>by cases h
 | 1,w,op,L,h,hw,hs=>by
   cases h;obtain rfl:=w_one hw;cases S with
    | all=>exact ⟨_,dv2_1_1_all⟩
    | e0=>exact ⟨_,dv2_1_1_e0⟩
    | e1=>exact ⟨_,dv2_1_1_e1⟩
    | nr=>cases hs
 | 2,w,op,L,h,hw,hs=>by
   cases h;obtain rfl:=w_one hw;cases S with
    | all=>exact ⟨_,dv2_2_1_all⟩
    | e0=>exact ⟨_,dv2_2_1_e0⟩
    | e1=>exact ⟨_,dv2_2_1_e1⟩
    | nr=>cases hs
 | 3,w,op,L,h,hw,hs=>by
   cases h;rcases w_four hw with rfl|rfl|rfl|rfl
   · cases S with
      | all=>exact ⟨_,dv2_3_1_all⟩
      | e0=>exact ⟨_,dv2_3_1_e0⟩
      | e1=>exact ⟨_,dv2_3_1_e1⟩
      | nr=>cases hs
   · cases S with
      | all=>exact ⟨_,dv2_3_2_all⟩
      | e0=>exact ⟨_,dv2_3_2_e0⟩
      | e1=>exact ⟨_,dv2_3_2_e1⟩
      | nr=>cases hs
   · cases S with
      | all=>exact ⟨_,dv2_3_3_all⟩
      | e0=>exact ⟨_,dv2_3_3_e0⟩
      | e1=>exact ⟨_,dv2_3_3_e1⟩
      | nr=>cases hs
   · cases S with
      | all=>exact ⟨_,dv2_3_4_all⟩
      | e0=>exact ⟨_,dv2_3_4_e0⟩
      | e1=>exact ⟨_,dv2_3_4_e1⟩
      | nr=>cases hs
 | 4,w,op,L,h,hw,hs=>by
   cases h;obtain rfl:=w_one hw;cases S with
    | all=>exact ⟨_,dv2_4_1_all⟩
    | e0=>exact ⟨_,dv2_4_1_e0⟩
    | e1=>exact ⟨_,dv2_4_1_e1⟩
    | nr=>cases hs
 | 5,w,op,L,h,hw,hs=>by
   cases h;obtain rfl:=w_one hw;cases S with
    | all=>exact ⟨_,dv2_5_1_all⟩
    | e0=>exact ⟨_,dv2_5_1_e0⟩
    | e1=>exact ⟨_,dv2_5_1_e1⟩
    | nr=>cases hs
 | 6,w,op,L,h,_,_=>by cases h
 | 7,w,op,L,h,_,_=>by cases h
 | 8,w,op,L,h,_,_=>by cases h
 | 9,w,op,L,h,_,_=>by cases h
 | 10,w,op,L,h,_,_=>by cases h
 | j+11,w,op,L,h,_,_=>by cases h
theorem dvw_2 {S:Sel}:∀{j w op:Nat} {L:List Nat},argsOf 2 j=some (op,L)->wOK j w=true->selV L S=true->plc L≠none->∃T,DwV S.b T j w 2 (restDW S j w 2 L)
 | 0,w,op,L,h,_,_,_=>by cases h
 | 1,w,op,L,h,_,_,hp=>by cases h;exact absurd rfl hp
 | 2,w,op,L,h,_,_,hp=>by cases h;exact absurd rfl hp
 | 3,w,op,L,h,_,_,hp=>by cases h;exact absurd rfl hp
 | 4,w,op,L,h,_,_,hp=>by cases h;exact absurd rfl hp
 | 5,w,op,L,h,_,_,hp=>by cases h;exact absurd rfl hp
 | 6,w,op,L,h,_,_,_=>by cases h
 | 7,w,op,L,h,_,_,_=>by cases h
 | 8,w,op,L,h,_,_,_=>by cases h
 | 9,w,op,L,h,_,_,_=>by cases h
 | 10,w,op,L,h,_,_,_=>by cases h
 | j+11,w,op,L,h,_,_,_=>by cases h
theorem dvz_2:∀{j:Nat},1≤j->j≤10->argsOf 2 j=none->DnV .poison true 1000 j 1 2 (noneDV j)
 | 0,h,_,_=>absurd h (by decide)
 | 1,_,_,h=>by cases h
 | 2,_,_,h=>by cases h
 | 3,_,_,h=>by cases h
 | 4,_,_,h=>by cases h
 | 5,_,_,h=>by cases h
 | 6,_,_,h=>dv2_6_n
 | 7,_,_,h=>dv2_7_n
 | 8,_,_,h=>dv2_8_n
 | 9,_,_,h=>dv2_9_n
 | 10,_,_,h=>dv2_10_n
 | j+11,_,h,_=>absurd h (by omega)
theorem dvn_3 {S:Sel}:∀{j w op:Nat} {L:List Nat},argsOf 3 j=some (op,L)->wOK j w=true->selV L S=true->∃T,DnV (nilA L) S.b T j w 3 (restDV S j w 3 L)
 | 0,w,op,L,h,_,_=>by cases h
 | 1,w,op,L,h,_,_=>by cases h
 | 2,w,op,L,h,_,_=>by cases h
 | 3,w,op,L,h,_,_=>by cases h
 | 4,w,op,L,h,hw,hs=>by
   cases h;obtain rfl:=w_one hw;cases S with
    | all=>exact ⟨_,dv3_4_1_all⟩
    | e0=>exact ⟨_,dv3_4_1_e0⟩
    | e1=>cases hs
    | nr=>cases hs
 | 5,w,op,L,h,hw,hs=>by
   cases h;obtain rfl:=w_one hw;cases S with
    | all=>exact ⟨_,dv3_5_1_all⟩
    | e0=>exact ⟨_,dv3_5_1_e0⟩
    | e1=>cases hs
    | nr=>cases hs
 | 6,w,op,L,h,_,_=>by cases h
 | 7,w,op,L,h,_,_=>by cases h
 | 8,w,op,L,h,_,_=>by cases h
 | 9,w,op,L,h,_,_=>by cases h
 | 10,w,op,L,h,_,_=>by cases h
 | j+11,w,op,L,h,_,_=>by cases h
theorem dvw_3 {S:Sel}:∀{j w op:Nat} {L:List Nat},argsOf 3 j=some (op,L)->wOK j w=true->selV L S=true->plc L≠none->∃T,DwV S.b T j w 3 (restDW S j w 3 L)
 | 0,w,op,L,h,_,_,_=>by cases h
 | 1,w,op,L,h,_,_,_=>by cases h
 | 2,w,op,L,h,_,_,_=>by cases h
 | 3,w,op,L,h,_,_,_=>by cases h
 | 4,w,op,L,h,_,_,hp=>by cases h;exact absurd rfl hp
 | 5,w,op,L,h,_,_,hp=>by cases h;exact absurd rfl hp
 | 6,w,op,L,h,_,_,_=>by cases h
 | 7,w,op,L,h,_,_,_=>by cases h
 | 8,w,op,L,h,_,_,_=>by cases h
 | 9,w,op,L,h,_,_,_=>by cases h
 | 10,w,op,L,h,_,_,_=>by cases h
 | j+11,w,op,L,h,_,_,_=>by cases h
theorem dvz_3:∀{j:Nat},1≤j->j≤10->argsOf 3 j=none->DnV .poison true 1000 j 1 3 (noneDV j)
 | 0,h,_,_=>absurd h (by decide)
 | 1,_,_,h=>dv3_1_n
 | 2,_,_,h=>dv3_2_n
 | 3,_,_,h=>dv3_3_n
 | 4,_,_,h=>by cases h
 | 5,_,_,h=>by cases h
 | 6,_,_,h=>dv3_6_n
 | 7,_,_,h=>dv3_7_n
 | 8,_,_,h=>dv3_8_n
 | 9,_,_,h=>dv3_9_n
 | 10,_,_,h=>dv3_10_n
 | j+11,_,h,_=>absurd h (by omega)
theorem dvn_4 {S:Sel}:∀{j w op:Nat} {L:List Nat},argsOf 4 j=some (op,L)->wOK j w=true->selV L S=true->∃T,DnV (nilA L) S.b T j w 4 (restDV S j w 4 L)
 | 0,w,op,L,h,_,_=>by cases h
 | 1,w,op,L,h,_,_=>by cases h
 | 2,w,op,L,h,_,_=>by cases h
 | 3,w,op,L,h,_,_=>by cases h
 | 4,w,op,L,h,_,_=>by cases h
 | 5,w,op,L,h,_,_=>by cases h
 | 6,w,op,L,h,hw,hs=>by
   cases h;rcases w_four hw with rfl|rfl|rfl|rfl
   · cases S with
      | all=>exact ⟨_,dv4_6_1_all⟩
      | e0=>exact ⟨_,dv4_6_1_e0⟩
      | e1=>cases hs
      | nr=>cases hs
   · cases S with
      | all=>exact ⟨_,dv4_6_2_all⟩
      | e0=>exact ⟨_,dv4_6_2_e0⟩
      | e1=>cases hs
      | nr=>cases hs
   · cases S with
      | all=>exact ⟨_,dv4_6_3_all⟩
      | e0=>exact ⟨_,dv4_6_3_e0⟩
      | e1=>cases hs
      | nr=>cases hs
   · cases S with
      | all=>exact ⟨_,dv4_6_4_all⟩
      | e0=>exact ⟨_,dv4_6_4_e0⟩
      | e1=>cases hs
      | nr=>cases hs
 | 7,w,op,L,h,hw,hs=>by
   cases h;rcases w_four hw with rfl|rfl|rfl|rfl
   · cases S with
      | all=>exact ⟨_,dv4_7_1_all⟩
      | e0=>exact ⟨_,dv4_7_1_e0⟩
      | e1=>cases hs
      | nr=>cases hs
   · cases S with
      | all=>exact ⟨_,dv4_7_2_all⟩
      | e0=>exact ⟨_,dv4_7_2_e0⟩
      | e1=>cases hs
      | nr=>cases hs
   · cases S with
      | all=>exact ⟨_,dv4_7_3_all⟩
      | e0=>exact ⟨_,dv4_7_3_e0⟩
      | e1=>cases hs
      | nr=>cases hs
   · cases S with
      | all=>exact ⟨_,dv4_7_4_all⟩
      | e0=>exact ⟨_,dv4_7_4_e0⟩
      | e1=>cases hs
      | nr=>cases hs
 | 8,w,op,L,h,hw,hs=>by
   cases h;obtain rfl:=w_one hw;cases S with
    | all=>exact ⟨_,dv4_8_1_all⟩
    | e0=>exact ⟨_,dv4_8_1_e0⟩
    | e1=>cases hs
    | nr=>cases hs
 | 9,w,op,L,h,_,_=>by cases h
 | 10,w,op,L,h,_,_=>by cases h
 | j+11,w,op,L,h,_,_=>by cases h
theorem dvw_4 {S:Sel}:∀{j w op:Nat} {L:List Nat},argsOf 4 j=some (op,L)->wOK j w=true->selV L S=true->plc L≠none->∃T,DwV S.b T j w 4 (restDW S j w 4 L)
 | 0,w,op,L,h,_,_,_=>by cases h
 | 1,w,op,L,h,_,_,_=>by cases h
 | 2,w,op,L,h,_,_,_=>by cases h
 | 3,w,op,L,h,_,_,_=>by cases h
 | 4,w,op,L,h,_,_,_=>by cases h
 | 5,w,op,L,h,_,_,_=>by cases h
 | 6,w,op,L,h,_,_,hp=>by cases h;exact absurd rfl hp
 | 7,w,op,L,h,_,_,hp=>by cases h;exact absurd rfl hp
 | 8,w,op,L,h,_,_,hp=>by cases h;exact absurd rfl hp
 | 9,w,op,L,h,_,_,_=>by cases h
 | 10,w,op,L,h,_,_,_=>by cases h
 | j+11,w,op,L,h,_,_,_=>by cases h
theorem dvz_4:∀{j:Nat},1≤j->j≤10->argsOf 4 j=none->DnV .poison true 1000 j 1 4 (noneDV j)
 | 0,h,_,_=>absurd h (by decide)
 | 1,_,_,h=>dv4_1_n
 | 2,_,_,h=>dv4_2_n
 | 3,_,_,h=>dv4_3_n
 | 4,_,_,h=>dv4_4_n
 | 5,_,_,h=>dv4_5_n
 | 6,_,_,h=>by cases h
 | 7,_,_,h=>by cases h
 | 8,_,_,h=>by cases h
 | 9,_,_,h=>dv4_9_n
 | 10,_,_,h=>dv4_10_n
 | j+11,_,h,_=>absurd h (by omega)
theorem dvn_5 {S:Sel}:∀{j w op:Nat} {L:List Nat},argsOf 5 j=some (op,L)->wOK j w=true->selV L S=true->∃T,DnV (nilA L) S.b T j w 5 (restDV S j w 5 L)
 | 0,w,op,L,h,_,_=>by cases h
 | 1,w,op,L,h,_,_=>by cases h
 | 2,w,op,L,h,_,_=>by cases h
 | 3,w,op,L,h,_,_=>by cases h
 | 4,w,op,L,h,_,_=>by cases h
 | 5,w,op,L,h,_,_=>by cases h
 | 6,w,op,L,h,hw,hs=>by
   cases h;rcases w_four hw with rfl|rfl|rfl|rfl
   · cases S with
      | all=>exact ⟨_,dv5_6_1_all⟩
      | e0=>cases hs
      | e1=>cases hs
      | nr=>exact ⟨_,dv5_6_1_nr⟩
   · cases S with
      | all=>exact ⟨_,dv5_6_2_all⟩
      | e0=>cases hs
      | e1=>cases hs
      | nr=>exact ⟨_,dv5_6_2_nr⟩
   · cases S with
      | all=>exact ⟨_,dv5_6_3_all⟩
      | e0=>cases hs
      | e1=>cases hs
      | nr=>exact ⟨_,dv5_6_3_nr⟩
   · cases S with
      | all=>exact ⟨_,dv5_6_4_all⟩
      | e0=>cases hs
      | e1=>cases hs
      | nr=>exact ⟨_,dv5_6_4_nr⟩
 | 7,w,op,L,h,hw,hs=>by
   cases h;rcases w_four hw with rfl|rfl|rfl|rfl
   · cases S with
      | all=>exact ⟨_,dv5_7_1_all⟩
      | e0=>cases hs
      | e1=>cases hs
      | nr=>exact ⟨_,dv5_7_1_nr⟩
   · cases S with
      | all=>exact ⟨_,dv5_7_2_all⟩
      | e0=>cases hs
      | e1=>cases hs
      | nr=>exact ⟨_,dv5_7_2_nr⟩
   · cases S with
      | all=>exact ⟨_,dv5_7_3_all⟩
      | e0=>cases hs
      | e1=>cases hs
      | nr=>exact ⟨_,dv5_7_3_nr⟩
   · cases S with
      | all=>exact ⟨_,dv5_7_4_all⟩
      | e0=>cases hs
      | e1=>cases hs
      | nr=>exact ⟨_,dv5_7_4_nr⟩
 | 8,w,op,L,h,_,_=>by cases h
 | 9,w,op,L,h,_,_=>by cases h
 | 10,w,op,L,h,_,_=>by cases h
 | j+11,w,op,L,h,_,_=>by cases h
theorem dvw_5 {S:Sel}:∀{j w op:Nat} {L:List Nat},argsOf 5 j=some (op,L)->wOK j w=true->selV L S=true->plc L≠none->∃T,DwV S.b T j w 5 (restDW S j w 5 L)
 | 0,w,op,L,h,_,_,_=>by cases h
 | 1,w,op,L,h,_,_,_=>by cases h
 | 2,w,op,L,h,_,_,_=>by cases h
 | 3,w,op,L,h,_,_,_=>by cases h
 | 4,w,op,L,h,_,_,_=>by cases h
 | 5,w,op,L,h,_,_,_=>by cases h
 | 6,w,op,L,h,hw,hs,_=>by
   cases h;rcases w_four hw with rfl|rfl|rfl|rfl
   · cases S with
      | all=>exact ⟨_,dv5_6_1_all_w⟩
      | e0=>cases hs
      | e1=>cases hs
      | nr=>exact ⟨_,dv5_6_1_nr_w⟩
   · cases S with
      | all=>exact ⟨_,dv5_6_2_all_w⟩
      | e0=>cases hs
      | e1=>cases hs
      | nr=>exact ⟨_,dv5_6_2_nr_w⟩
   · cases S with
      | all=>exact ⟨_,dv5_6_3_all_w⟩
      | e0=>cases hs
      | e1=>cases hs
      | nr=>exact ⟨_,dv5_6_3_nr_w⟩
   · cases S with
      | all=>exact ⟨_,dv5_6_4_all_w⟩
      | e0=>cases hs
      | e1=>cases hs
      | nr=>exact ⟨_,dv5_6_4_nr_w⟩
 | 7,w,op,L,h,hw,hs,_=>by
   cases h;rcases w_four hw with rfl|rfl|rfl|rfl
   · cases S with
      | all=>exact ⟨_,dv5_7_1_all_w⟩
      | e0=>cases hs
      | e1=>cases hs
      | nr=>exact ⟨_,dv5_7_1_nr_w⟩
   · cases S with
      | all=>exact ⟨_,dv5_7_2_all_w⟩
      | e0=>cases hs
      | e1=>cases hs
      | nr=>exact ⟨_,dv5_7_2_nr_w⟩
   · cases S with
      | all=>exact ⟨_,dv5_7_3_all_w⟩
      | e0=>cases hs
      | e1=>cases hs
      | nr=>exact ⟨_,dv5_7_3_nr_w⟩
   · cases S with
      | all=>exact ⟨_,dv5_7_4_all_w⟩
      | e0=>cases hs
      | e1=>cases hs
      | nr=>exact ⟨_,dv5_7_4_nr_w⟩
 | 8,w,op,L,h,_,_,_=>by cases h
 | 9,w,op,L,h,_,_,_=>by cases h
 | 10,w,op,L,h,_,_,_=>by cases h
 | j+11,w,op,L,h,_,_,_=>by cases h
theorem dvz_5:∀{j:Nat},1≤j->j≤10->argsOf 5 j=none->DnV .poison true 1000 j 1 5 (noneDV j)
 | 0,h,_,_=>absurd h (by decide)
 | 1,_,_,h=>dv5_1_n
 | 2,_,_,h=>dv5_2_n
 | 3,_,_,h=>dv5_3_n
 | 4,_,_,h=>dv5_4_n
 | 5,_,_,h=>dv5_5_n
 | 6,_,_,h=>by cases h
 | 7,_,_,h=>by cases h
 | 8,_,_,h=>dv5_8_n
 | 9,_,_,h=>dv5_9_n
 | 10,_,_,h=>dv5_10_n
 | j+11,_,h,_=>absurd h (by omega)
theorem dvn_6 {S:Sel}:∀{j w op:Nat} {L:List Nat},argsOf 6 j=some (op,L)->wOK j w=true->selV L S=true->∃T,DnV (nilA L) S.b T j w 6 (restDV S j w 6 L)
 | 0,w,op,L,h,_,_=>by cases h
 | 1,w,op,L,h,_,_=>by cases h
 | 2,w,op,L,h,_,_=>by cases h
 | 3,w,op,L,h,_,_=>by cases h
 | 4,w,op,L,h,_,_=>by cases h
 | 5,w,op,L,h,_,_=>by cases h
 | 6,w,op,L,h,hw,hs=>by
   cases h;rcases w_four hw with rfl|rfl|rfl|rfl
   · cases S with
      | all=>exact ⟨_,dv6_6_1_all⟩
      | e0=>cases hs
      | e1=>cases hs
      | nr=>exact ⟨_,dv6_6_1_nr⟩
   · cases S with
      | all=>exact ⟨_,dv6_6_2_all⟩
      | e0=>cases hs
      | e1=>cases hs
      | nr=>exact ⟨_,dv6_6_2_nr⟩
   · cases S with
      | all=>exact ⟨_,dv6_6_3_all⟩
      | e0=>cases hs
      | e1=>cases hs
      | nr=>exact ⟨_,dv6_6_3_nr⟩
   · cases S with
      | all=>exact ⟨_,dv6_6_4_all⟩
      | e0=>cases hs
      | e1=>cases hs
      | nr=>exact ⟨_,dv6_6_4_nr⟩
 | 7,w,op,L,h,hw,hs=>by
   cases h;rcases w_four hw with rfl|rfl|rfl|rfl
   · cases S with
      | all=>exact ⟨_,dv6_7_1_all⟩
      | e0=>cases hs
      | e1=>cases hs
      | nr=>exact ⟨_,dv6_7_1_nr⟩
   · cases S with
      | all=>exact ⟨_,dv6_7_2_all⟩
      | e0=>cases hs
      | e1=>cases hs
      | nr=>exact ⟨_,dv6_7_2_nr⟩
   · cases S with
      | all=>exact ⟨_,dv6_7_3_all⟩
      | e0=>cases hs
      | e1=>cases hs
      | nr=>exact ⟨_,dv6_7_3_nr⟩
   · cases S with
      | all=>exact ⟨_,dv6_7_4_all⟩
      | e0=>cases hs
      | e1=>cases hs
      | nr=>exact ⟨_,dv6_7_4_nr⟩
 | 8,w,op,L,h,hw,hs=>by
   cases h;obtain rfl:=w_one hw;cases S with
    | all=>exact ⟨_,dv6_8_1_all⟩
    | e0=>exact ⟨_,dv6_8_1_e0⟩
    | e1=>cases hs
    | nr=>cases hs
 | 9,w,op,L,h,_,_=>by cases h
 | 10,w,op,L,h,_,_=>by cases h
 | j+11,w,op,L,h,_,_=>by cases h
theorem dvw_6 {S:Sel}:∀{j w op:Nat} {L:List Nat},argsOf 6 j=some (op,L)->wOK j w=true->selV L S=true->plc L≠none->∃T,DwV S.b T j w 6 (restDW S j w 6 L)
 | 0,w,op,L,h,_,_,_=>by cases h
 | 1,w,op,L,h,_,_,_=>by cases h
 | 2,w,op,L,h,_,_,_=>by cases h
 | 3,w,op,L,h,_,_,_=>by cases h
 | 4,w,op,L,h,_,_,_=>by cases h
 | 5,w,op,L,h,_,_,_=>by cases h
 | 6,w,op,L,h,hw,hs,_=>by
   cases h;rcases w_four hw with rfl|rfl|rfl|rfl
   · cases S with
      | all=>exact ⟨_,dv6_6_1_all_w⟩
      | e0=>cases hs
      | e1=>cases hs
      | nr=>exact ⟨_,dv6_6_1_nr_w⟩
   · cases S with
      | all=>exact ⟨_,dv6_6_2_all_w⟩
      | e0=>cases hs
      | e1=>cases hs
      | nr=>exact ⟨_,dv6_6_2_nr_w⟩
   · cases S with
      | all=>exact ⟨_,dv6_6_3_all_w⟩
      | e0=>cases hs
      | e1=>cases hs
      | nr=>exact ⟨_,dv6_6_3_nr_w⟩
   · cases S with
      | all=>exact ⟨_,dv6_6_4_all_w⟩
      | e0=>cases hs
      | e1=>cases hs
      | nr=>exact ⟨_,dv6_6_4_nr_w⟩
 | 7,w,op,L,h,hw,hs,_=>by
   cases h;rcases w_four hw with rfl|rfl|rfl|rfl
   · cases S with
      | all=>exact ⟨_,dv6_7_1_all_w⟩
      | e0=>cases hs
      | e1=>cases hs
      | nr=>exact ⟨_,dv6_7_1_nr_w⟩
   · cases S with
      | all=>exact ⟨_,dv6_7_2_all_w⟩
      | e0=>cases hs
      | e1=>cases hs
      | nr=>exact ⟨_,dv6_7_2_nr_w⟩
   · cases S with
      | all=>exact ⟨_,dv6_7_3_all_w⟩
      | e0=>cases hs
      | e1=>cases hs
      | nr=>exact ⟨_,dv6_7_3_nr_w⟩
   · cases S with
      | all=>exact ⟨_,dv6_7_4_all_w⟩
      | e0=>cases hs
      | e1=>cases hs
      | nr=>exact ⟨_,dv6_7_4_nr_w⟩
 | 8,w,op,L,h,_,_,hp=>by cases h;exact absurd rfl hp
 | 9,w,op,L,h,_,_,_=>by cases h
 | 10,w,op,L,h,_,_,_=>by cases h
 | j+11,w,op,L,h,_,_,_=>by cases h
theorem dvz_6:∀{j:Nat},1≤j->j≤10->argsOf 6 j=none->DnV .poison true 1000 j 1 6 (noneDV j)
 | 0,h,_,_=>absurd h (by decide)
 | 1,_,_,h=>dv6_1_n
 | 2,_,_,h=>dv6_2_n
 | 3,_,_,h=>dv6_3_n
 | 4,_,_,h=>dv6_4_n
 | 5,_,_,h=>dv6_5_n
 | 6,_,_,h=>by cases h
 | 7,_,_,h=>by cases h
 | 8,_,_,h=>by cases h
 | 9,_,_,h=>dv6_9_n
 | 10,_,_,h=>dv6_10_n
 | j+11,_,h,_=>absurd h (by omega)
theorem dvn_8 {S:Sel}:∀{j w op:Nat} {L:List Nat},argsOf 8 j=some (op,L)->wOK j w=true->selV L S=true->∃T,DnV (nilA L) S.b T j w 8 (restDV S j w 8 L)
 | 0,w,op,L,h,_,_=>by cases h
 | 1,w,op,L,h,_,_=>by cases h
 | 2,w,op,L,h,_,_=>by cases h
 | 3,w,op,L,h,hw,hs=>by
   cases h;rcases w_four hw with rfl|rfl|rfl|rfl
   · cases S with
      | all=>exact ⟨_,dv8_3_1_all⟩
      | e0=>exact ⟨_,dv8_3_1_e0⟩
      | e1=>cases hs
      | nr=>exact ⟨_,dv8_3_1_nr⟩
   · cases S with
      | all=>exact ⟨_,dv8_3_2_all⟩
      | e0=>exact ⟨_,dv8_3_2_e0⟩
      | e1=>cases hs
      | nr=>exact ⟨_,dv8_3_2_nr⟩
   · cases S with
      | all=>exact ⟨_,dv8_3_3_all⟩
      | e0=>exact ⟨_,dv8_3_3_e0⟩
      | e1=>cases hs
      | nr=>exact ⟨_,dv8_3_3_nr⟩
   · cases S with
      | all=>exact ⟨_,dv8_3_4_all⟩
      | e0=>exact ⟨_,dv8_3_4_e0⟩
      | e1=>cases hs
      | nr=>exact ⟨_,dv8_3_4_nr⟩
 | 4,w,op,L,h,_,_=>by cases h
 | 5,w,op,L,h,_,_=>by cases h
 | 6,w,op,L,h,_,_=>by cases h
 | 7,w,op,L,h,_,_=>by cases h
 | 8,w,op,L,h,_,_=>by cases h
 | 9,w,op,L,h,_,_=>by cases h
 | 10,w,op,L,h,_,_=>by cases h
 | j+11,w,op,L,h,_,_=>by cases h
theorem dvw_8 {S:Sel}:∀{j w op:Nat} {L:List Nat},argsOf 8 j=some (op,L)->wOK j w=true->selV L S=true->plc L≠none->∃T,DwV S.b T j w 8 (restDW S j w 8 L)
 | 0,w,op,L,h,_,_,_=>by cases h
 | 1,w,op,L,h,_,_,_=>by cases h
 | 2,w,op,L,h,_,_,_=>by cases h
 | 3,w,op,L,h,hw,hs,_=>by
   cases h;rcases w_four hw with rfl|rfl|rfl|rfl
   · cases S with
      | all=>exact ⟨_,dv8_3_1_all_w⟩
      | e0=>exact ⟨_,dv8_3_1_e0_w⟩
      | e1=>cases hs
      | nr=>exact ⟨_,dv8_3_1_nr_w⟩
   · cases S with
      | all=>exact ⟨_,dv8_3_2_all_w⟩
      | e0=>exact ⟨_,dv8_3_2_e0_w⟩
      | e1=>cases hs
      | nr=>exact ⟨_,dv8_3_2_nr_w⟩
   · cases S with
      | all=>exact ⟨_,dv8_3_3_all_w⟩
      | e0=>exact ⟨_,dv8_3_3_e0_w⟩
      | e1=>cases hs
      | nr=>exact ⟨_,dv8_3_3_nr_w⟩
   · cases S with
      | all=>exact ⟨_,dv8_3_4_all_w⟩
      | e0=>exact ⟨_,dv8_3_4_e0_w⟩
      | e1=>cases hs
      | nr=>exact ⟨_,dv8_3_4_nr_w⟩
 | 4,w,op,L,h,_,_,_=>by cases h
 | 5,w,op,L,h,_,_,_=>by cases h
 | 6,w,op,L,h,_,_,_=>by cases h
 | 7,w,op,L,h,_,_,_=>by cases h
 | 8,w,op,L,h,_,_,_=>by cases h
 | 9,w,op,L,h,_,_,_=>by cases h
 | 10,w,op,L,h,_,_,_=>by cases h
 | j+11,w,op,L,h,_,_,_=>by cases h
theorem dvz_8:∀{j:Nat},1≤j->j≤10->argsOf 8 j=none->DnV .poison true 1000 j 1 8 (noneDV j)
 | 0,h,_,_=>absurd h (by decide)
 | 1,_,_,h=>dv8_1_n
 | 2,_,_,h=>dv8_2_n
 | 3,_,_,h=>by cases h
 | 4,_,_,h=>dv8_4_n
 | 5,_,_,h=>dv8_5_n
 | 6,_,_,h=>dv8_6_n
 | 7,_,_,h=>dv8_7_n
 | 8,_,_,h=>dv8_8_n
 | 9,_,_,h=>dv8_9_n
 | 10,_,_,h=>dv8_10_n
 | j+11,_,h,_=>absurd h (by omega)
theorem dq1_1_1:DnQ .poison false 1 1 1 (restDQ false 1 1 1 [0]):=dnQ_of fun _ _ _ _ _ _=>by kernel_rfl
theorem dq1_4_1:DnQ .poison false 4 1 1 (restDQ false 4 1 1 [0]):=dnQ_of fun _ _ _ _ _ _=>by kernel_rfl
theorem dq1_9_1:DnQ .poison false 9 1 1 (restDQ false 9 1 1 [0]):=dnQ_of fun _ _ _ _ _ _=>by kernel_rfl
theorem dq2_1_1:DnQ .poison true 1 1 2 (restDQ true 1 1 2 [0,1,2]):=dnQ_of fun _ _ _ _ _ _=>by kernel_rfl
theorem dq2_3_1:DnQ .poison true 3 1 2 (restDQ true 3 1 2 [0,1,2]):=dnQ_of fun _ _ _ _ _ _=>by kernel_rfl
theorem dq2_3_3:DnQ .poison true 3 3 2 (restDQ true 3 3 2 [0,1,2]):=dnQ_of fun _ _ _ _ _ _=>by kernel_rfl
theorem dq2_4_1:DnQ .poison true 4 1 2 (restDQ true 4 1 2 [0,1,2]):=dnQ_of fun _ _ _ _ _ _=>by kernel_rfl
theorem dq3_4_1:DnQ .poison false 4 1 3 (restDQ false 4 1 3 [0]):=dnQ_of fun _ _ _ _ _ _=>by kernel_rfl
theorem dq4_6_1:DnQ .poison true 6 1 4 (restDQ true 6 1 4 [1,2]):=dnQ_of fun _ _ _ _ _ _=>by kernel_rfl
theorem dq4_6_3:DnQ .poison true 6 3 4 (restDQ true 6 3 4 [1,2]):=dnQ_of fun _ _ _ _ _ _=>by kernel_rfl
theorem dq4_7_1:DnQ .poison true 7 1 4 (restDQ true 7 1 4 [1,2]):=dnQ_of fun _ _ _ _ _ _=>by kernel_rfl
theorem dq4_7_3:DnQ .poison true 7 3 4 (restDQ true 7 3 4 [1,2]):=dnQ_of fun _ _ _ _ _ _=>by kernel_rfl
theorem dq4_8_1:DnQ .poison true 8 1 4 (restDQ true 8 1 4 [1,2]):=dnQ_of fun _ _ _ _ _ _=>by kernel_rfl
theorem dq5_6_1_w:DwQ false 6 1 5 (restDX false 6 1 5 [3]):=dwQ_of fun _ _ _ _ _ _=>by kernel_rfl
theorem dq5_6_2_w:DwQ false 6 2 5 (restDX false 6 2 5 [3]):=dwQ_of fun _ _ _ _ _ _=>by kernel_rfl
theorem dq5_6_3_w:DwQ false 6 3 5 (restDX false 6 3 5 [3]):=dwQ_of fun _ _ _ _ _ _=>by kernel_rfl
theorem dq5_6_4_w:DwQ false 6 4 5 (restDX false 6 4 5 [3]):=dwQ_of fun _ _ _ _ _ _=>by kernel_rfl
theorem dq5_7_1_w:DwQ false 7 1 5 (restDX false 7 1 5 [3]):=dwQ_of fun _ _ _ _ _ _=>by kernel_rfl
theorem dq5_7_2_w:DwQ false 7 2 5 (restDX false 7 2 5 [3]):=dwQ_of fun _ _ _ _ _ _=>by kernel_rfl
theorem dq5_7_3_w:DwQ false 7 3 5 (restDX false 7 3 5 [3]):=dwQ_of fun _ _ _ _ _ _=>by kernel_rfl
theorem dq5_7_4_w:DwQ false 7 4 5 (restDX false 7 4 5 [3]):=dwQ_of fun _ _ _ _ _ _=>by kernel_rfl
theorem dq6_6_1_w:DwQ false 6 1 6 (restDX false 6 1 6 [3]):=dwQ_of fun _ _ _ _ _ _=>by kernel_rfl
theorem dq6_6_2_w:DwQ false 6 2 6 (restDX false 6 2 6 [3]):=dwQ_of fun _ _ _ _ _ _=>by kernel_rfl
theorem dq6_6_3_w:DwQ false 6 3 6 (restDX false 6 3 6 [3]):=dwQ_of fun _ _ _ _ _ _=>by kernel_rfl
theorem dq6_6_4_w:DwQ false 6 4 6 (restDX false 6 4 6 [3]):=dwQ_of fun _ _ _ _ _ _=>by kernel_rfl
theorem dq6_7_1_w:DwQ false 7 1 6 (restDX false 7 1 6 [3]):=dwQ_of fun _ _ _ _ _ _=>by kernel_rfl
theorem dq6_7_2_w:DwQ false 7 2 6 (restDX false 7 2 6 [3]):=dwQ_of fun _ _ _ _ _ _=>by kernel_rfl
theorem dq6_7_3_w:DwQ false 7 3 6 (restDX false 7 3 6 [3]):=dwQ_of fun _ _ _ _ _ _=>by kernel_rfl
theorem dq6_7_4_w:DwQ false 7 4 6 (restDX false 7 4 6 [3]):=dwQ_of fun _ _ _ _ _ _=>by kernel_rfl
theorem dq8_3_1:DnQ .nils false 3 1 8 (restDQ false 3 1 8 [0,3]):=dnQ_of fun _ _ _ _ _ _=>by kernel_rfl
theorem dq8_3_2:DnQ .nils false 3 2 8 (restDQ false 3 2 8 [0,3]):=dnQ_of fun _ _ _ _ _ _=>by kernel_rfl
theorem dq8_3_3:DnQ .nils false 3 3 8 (restDQ false 3 3 8 [0,3]):=dnQ_of fun _ _ _ _ _ _=>by kernel_rfl
theorem dq8_3_4:DnQ .nils false 3 4 8 (restDQ false 3 4 8 [0,3]):=dnQ_of fun _ _ _ _ _ _=>by kernel_rfl
theorem dq1_2_1:DnQ .poison false 2 1 1 (restDQ false 2 1 1 [0]):=dnQ_of fun _ _ _ _ _ _=>by kernel_rfl
theorem dq1_5_1:DnQ .poison false 5 1 1 (restDQ false 5 1 1 [0]):=dnQ_of fun _ _ _ _ _ _=>by kernel_rfl
theorem dq1_10_1:DnQ .poison false 10 1 1 (restDQ false 10 1 1 [0]):=dnQ_of fun _ _ _ _ _ _=>by kernel_rfl
theorem dq2_2_1:DnQ .poison true 2 1 2 (restDQ true 2 1 2 [0,1,2]):=dnQ_of fun _ _ _ _ _ _=>by kernel_rfl
theorem dq2_3_2:DnQ .poison true 3 2 2 (restDQ true 3 2 2 [0,1,2]):=dnQ_of fun _ _ _ _ _ _=>by kernel_rfl
theorem dq2_3_4:DnQ .poison true 3 4 2 (restDQ true 3 4 2 [0,1,2]):=dnQ_of fun _ _ _ _ _ _=>by kernel_rfl
theorem dq2_5_1:DnQ .poison true 5 1 2 (restDQ true 5 1 2 [0,1,2]):=dnQ_of fun _ _ _ _ _ _=>by kernel_rfl
theorem dq3_5_1:DnQ .poison false 5 1 3 (restDQ false 5 1 3 [0]):=dnQ_of fun _ _ _ _ _ _=>by kernel_rfl
theorem dq4_6_2:DnQ .poison true 6 2 4 (restDQ true 6 2 4 [1,2]):=dnQ_of fun _ _ _ _ _ _=>by kernel_rfl
theorem dq4_6_4:DnQ .poison true 6 4 4 (restDQ true 6 4 4 [1,2]):=dnQ_of fun _ _ _ _ _ _=>by kernel_rfl
theorem dq4_7_2:DnQ .poison true 7 2 4 (restDQ true 7 2 4 [1,2]):=dnQ_of fun _ _ _ _ _ _=>by kernel_rfl
theorem dq4_7_4:DnQ .poison true 7 4 4 (restDQ true 7 4 4 [1,2]):=dnQ_of fun _ _ _ _ _ _=>by kernel_rfl
theorem dq5_6_1:DnQ .nils false 6 1 5 (restDQ false 6 1 5 [3]):=dnQ_of fun _ _ _ _ _ _=>by kernel_rfl
theorem dq5_6_2:DnQ .nils false 6 2 5 (restDQ false 6 2 5 [3]):=dnQ_of fun _ _ _ _ _ _=>by kernel_rfl
theorem dq5_6_3:DnQ .nils false 6 3 5 (restDQ false 6 3 5 [3]):=dnQ_of fun _ _ _ _ _ _=>by kernel_rfl
theorem dq5_6_4:DnQ .nils false 6 4 5 (restDQ false 6 4 5 [3]):=dnQ_of fun _ _ _ _ _ _=>by kernel_rfl
theorem dq5_7_1:DnQ .nils false 7 1 5 (restDQ false 7 1 5 [3]):=dnQ_of fun _ _ _ _ _ _=>by kernel_rfl
theorem dq5_7_2:DnQ .nils false 7 2 5 (restDQ false 7 2 5 [3]):=dnQ_of fun _ _ _ _ _ _=>by kernel_rfl
theorem dq5_7_3:DnQ .nils false 7 3 5 (restDQ false 7 3 5 [3]):=dnQ_of fun _ _ _ _ _ _=>by kernel_rfl
theorem dq5_7_4:DnQ .nils false 7 4 5 (restDQ false 7 4 5 [3]):=dnQ_of fun _ _ _ _ _ _=>by kernel_rfl
theorem dq6_6_1:DnQ .nils false 6 1 6 (restDQ false 6 1 6 [3]):=dnQ_of fun _ _ _ _ _ _=>by kernel_rfl
theorem dq6_6_2:DnQ .nils false 6 2 6 (restDQ false 6 2 6 [3]):=dnQ_of fun _ _ _ _ _ _=>by kernel_rfl
theorem dq6_6_3:DnQ .nils false 6 3 6 (restDQ false 6 3 6 [3]):=dnQ_of fun _ _ _ _ _ _=>by kernel_rfl
theorem dq6_6_4:DnQ .nils false 6 4 6 (restDQ false 6 4 6 [3]):=dnQ_of fun _ _ _ _ _ _=>by kernel_rfl
theorem dq6_7_1:DnQ .nils false 7 1 6 (restDQ false 7 1 6 [3]):=dnQ_of fun _ _ _ _ _ _=>by kernel_rfl
theorem dq6_7_2:DnQ .nils false 7 2 6 (restDQ false 7 2 6 [3]):=dnQ_of fun _ _ _ _ _ _=>by kernel_rfl
theorem dq6_7_3:DnQ .nils false 7 3 6 (restDQ false 7 3 6 [3]):=dnQ_of fun _ _ _ _ _ _=>by kernel_rfl
theorem dq6_7_4:DnQ .nils false 7 4 6 (restDQ false 7 4 6 [3]):=dnQ_of fun _ _ _ _ _ _=>by kernel_rfl
theorem dq6_8_1:DnQ .poison true 8 1 6 (restDQ true 8 1 6 [1]):=dnQ_of fun _ _ _ _ _ _=>by kernel_rfl
theorem dq8_3_1_w:DwQ false 3 1 8 (restDX false 3 1 8 [0,3]):=dwQ_of fun _ _ _ _ _ _=>by kernel_rfl
theorem dq8_3_2_w:DwQ false 3 2 8 (restDX false 3 2 8 [0,3]):=dwQ_of fun _ _ _ _ _ _=>by kernel_rfl
theorem dq8_3_3_w:DwQ false 3 3 8 (restDX false 3 3 8 [0,3]):=dwQ_of fun _ _ _ _ _ _=>by kernel_rfl
theorem dq8_3_4_w:DwQ false 3 4 8 (restDX false 3 4 8 [0,3]):=dwQ_of fun _ _ _ _ _ _=>by kernel_rfl
theorem dqn_1:∀{j w op:Nat} {L:List Nat},argsOf 1 j=some (op,L)->wOK j w=true->DnQ (nilA L) (hasV L) j w 1 (restDQ (hasV L) j w 1 L)
 | 0,w,op,L,h,_=>by cases h
 | 1,w,op,L,h,hw=>by cases h;obtain rfl:=w_one hw;exact dq1_1_1
 | 2,w,op,L,h,hw=>by cases h;obtain rfl:=w_one hw;exact dq1_2_1
 | 3,w,op,L,h,_=>by cases h
 | 4,w,op,L,h,hw=>by cases h;obtain rfl:=w_one hw;exact dq1_4_1
 | 5,w,op,L,h,hw=>by cases h;obtain rfl:=w_one hw;exact dq1_5_1
 | 6,w,op,L,h,_=>by cases h
 | 7,w,op,L,h,_=>by cases h
 | 8,w,op,L,h,_=>by cases h
 | 9,w,op,L,h,hw=>by cases h;obtain rfl:=w_one hw;exact dq1_9_1
 | 10,w,op,L,h,hw=>by cases h;obtain rfl:=w_one hw;exact dq1_10_1
 | j+11,w,op,L,h,_=>by cases h
theorem dqw_1:∀{j w op:Nat} {L:List Nat},argsOf 1 j=some (op,L)->wOK j w=true->plc L≠none->DwQ (hasV L) j w 1 (restDX (hasV L) j w 1 L)
 | 0,w,op,L,h,_,_=>by cases h
 | 1,w,op,L,h,_,hp=>by cases h;exact absurd rfl hp
 | 2,w,op,L,h,_,hp=>by cases h;exact absurd rfl hp
 | 3,w,op,L,h,_,_=>by cases h
 | 4,w,op,L,h,_,hp=>by cases h;exact absurd rfl hp
 | 5,w,op,L,h,_,hp=>by cases h;exact absurd rfl hp
 | 6,w,op,L,h,_,_=>by cases h
 | 7,w,op,L,h,_,_=>by cases h
 | 8,w,op,L,h,_,_=>by cases h
 | 9,w,op,L,h,_,hp=>by cases h;exact absurd rfl hp
 | 10,w,op,L,h,_,hp=>by cases h;exact absurd rfl hp
 | j+11,w,op,L,h,_,_=>by cases h
theorem dqn_2:∀{j w op:Nat} {L:List Nat},argsOf 2 j=some (op,L)->wOK j w=true->DnQ (nilA L) (hasV L) j w 2 (restDQ (hasV L) j w 2 L)
 | 0,w,op,L,h,_=>by cases h
 | 1,w,op,L,h,hw=>by cases h;obtain rfl:=w_one hw;exact dq2_1_1
 | 2,w,op,L,h,hw=>by cases h;obtain rfl:=w_one hw;exact dq2_2_1
 | 3,w,op,L,h,hw=>by
   cases h;rcases w_four hw with rfl|rfl|rfl|rfl
   · exact dq2_3_1
   · exact dq2_3_2
   · exact dq2_3_3
   · exact dq2_3_4
 | 4,w,op,L,h,hw=>by cases h;obtain rfl:=w_one hw;exact dq2_4_1
 | 5,w,op,L,h,hw=>by cases h;obtain rfl:=w_one hw;exact dq2_5_1
 | 6,w,op,L,h,_=>by cases h
 | 7,w,op,L,h,_=>by cases h
 | 8,w,op,L,h,_=>by cases h
 | 9,w,op,L,h,_=>by cases h
 | 10,w,op,L,h,_=>by cases h
 | j+11,w,op,L,h,_=>by cases h
theorem dqw_2:∀{j w op:Nat} {L:List Nat},argsOf 2 j=some (op,L)->wOK j w=true->plc L≠none->DwQ (hasV L) j w 2 (restDX (hasV L) j w 2 L)
 | 0,w,op,L,h,_,_=>by cases h
 | 1,w,op,L,h,_,hp=>by cases h;exact absurd rfl hp
 | 2,w,op,L,h,_,hp=>by cases h;exact absurd rfl hp
 | 3,w,op,L,h,_,hp=>by cases h;exact absurd rfl hp
 | 4,w,op,L,h,_,hp=>by cases h;exact absurd rfl hp
 | 5,w,op,L,h,_,hp=>by cases h;exact absurd rfl hp
 | 6,w,op,L,h,_,_=>by cases h
 | 7,w,op,L,h,_,_=>by cases h
 | 8,w,op,L,h,_,_=>by cases h
 | 9,w,op,L,h,_,_=>by cases h
 | 10,w,op,L,h,_,_=>by cases h
 | j+11,w,op,L,h,_,_=>by cases h
theorem dqn_3:∀{j w op:Nat} {L:List Nat},argsOf 3 j=some (op,L)->wOK j w=true->DnQ (nilA L) (hasV L) j w 3 (restDQ (hasV L) j w 3 L)
 | 0,w,op,L,h,_=>by cases h
 | 1,w,op,L,h,_=>by cases h
 | 2,w,op,L,h,_=>by cases h
 | 3,w,op,L,h,_=>by cases h
 | 4,w,op,L,h,hw=>by cases h;obtain rfl:=w_one hw;exact dq3_4_1
 | 5,w,op,L,h,hw=>by cases h;obtain rfl:=w_one hw;exact dq3_5_1
 | 6,w,op,L,h,_=>by cases h
 | 7,w,op,L,h,_=>by cases h
 | 8,w,op,L,h,_=>by cases h
 | 9,w,op,L,h,_=>by cases h
 | 10,w,op,L,h,_=>by cases h
 | j+11,w,op,L,h,_=>by cases h
theorem dqw_3:∀{j w op:Nat} {L:List Nat},argsOf 3 j=some (op,L)->wOK j w=true->plc L≠none->DwQ (hasV L) j w 3 (restDX (hasV L) j w 3 L)
 | 0,w,op,L,h,_,_=>by cases h
 | 1,w,op,L,h,_,_=>by cases h
 | 2,w,op,L,h,_,_=>by cases h
 | 3,w,op,L,h,_,_=>by cases h
 | 4,w,op,L,h,_,hp=>by cases h;exact absurd rfl hp
 | 5,w,op,L,h,_,hp=>by cases h;exact absurd rfl hp
 | 6,w,op,L,h,_,_=>by cases h
 | 7,w,op,L,h,_,_=>by cases h
 | 8,w,op,L,h,_,_=>by cases h
 | 9,w,op,L,h,_,_=>by cases h
 | 10,w,op,L,h,_,_=>by cases h
 | j+11,w,op,L,h,_,_=>by cases h
theorem dqn_4:∀{j w op:Nat} {L:List Nat},argsOf 4 j=some (op,L)->wOK j w=true->DnQ (nilA L) (hasV L) j w 4 (restDQ (hasV L) j w 4 L)
 | 0,w,op,L,h,_=>by cases h
 | 1,w,op,L,h,_=>by cases h
 | 2,w,op,L,h,_=>by cases h
 | 3,w,op,L,h,_=>by cases h
 | 4,w,op,L,h,_=>by cases h
 | 5,w,op,L,h,_=>by cases h
 | 6,w,op,L,h,hw=>by
   cases h;rcases w_four hw with rfl|rfl|rfl|rfl
   · exact dq4_6_1
   · exact dq4_6_2
   · exact dq4_6_3
   · exact dq4_6_4
 | 7,w,op,L,h,hw=>by
   cases h;rcases w_four hw with rfl|rfl|rfl|rfl
   · exact dq4_7_1
   · exact dq4_7_2
   · exact dq4_7_3
   · exact dq4_7_4
 | 8,w,op,L,h,hw=>by cases h;obtain rfl:=w_one hw;exact dq4_8_1
 | 9,w,op,L,h,_=>by cases h
 | 10,w,op,L,h,_=>by cases h
 | j+11,w,op,L,h,_=>by cases h
theorem dqw_4:∀{j w op:Nat} {L:List Nat},argsOf 4 j=some (op,L)->wOK j w=true->plc L≠none->DwQ (hasV L) j w 4 (restDX (hasV L) j w 4 L)
 | 0,w,op,L,h,_,_=>by cases h
 | 1,w,op,L,h,_,_=>by cases h
 | 2,w,op,L,h,_,_=>by cases h
 | 3,w,op,L,h,_,_=>by cases h
 | 4,w,op,L,h,_,_=>by cases h
 | 5,w,op,L,h,_,_=>by cases h
 | 6,w,op,L,h,_,hp=>by cases h;exact absurd rfl hp
 | 7,w,op,L,h,_,hp=>by cases h;exact absurd rfl hp
 | 8,w,op,L,h,_,hp=>by cases h;exact absurd rfl hp
 | 9,w,op,L,h,_,_=>by cases h
 | 10,w,op,L,h,_,_=>by cases h
 | j+11,w,op,L,h,_,_=>by cases h
theorem dqn_5:∀{j w op:Nat} {L:List Nat},argsOf 5 j=some (op,L)->wOK j w=true->DnQ (nilA L) (hasV L) j w 5 (restDQ (hasV L) j w 5 L)
 | 0,w,op,L,h,_=>by cases h
 | 1,w,op,L,h,_=>by cases h
 | 2,w,op,L,h,_=>by cases h
 | 3,w,op,L,h,_=>by cases h
 | 4,w,op,L,h,_=>by cases h
 | 5,w,op,L,h,_=>by cases h
 | 6,w,op,L,h,hw=>by
   cases h;rcases w_four hw with rfl|rfl|rfl|rfl
   · exact dq5_6_1
   · exact dq5_6_2
   · exact dq5_6_3
   · exact dq5_6_4
 | 7,w,op,L,h,hw=>by
   cases h;rcases w_four hw with rfl|rfl|rfl|rfl
   · exact dq5_7_1
   · exact dq5_7_2
   · exact dq5_7_3
   · exact dq5_7_4
 | 8,w,op,L,h,_=>by cases h
 | 9,w,op,L,h,_=>by cases h
 | 10,w,op,L,h,_=>by cases h
 | j+11,w,op,L,h,_=>by cases h
theorem dqw_5:∀{j w op:Nat} {L:List Nat},argsOf 5 j=some (op,L)->wOK j w=true->plc L≠none->DwQ (hasV L) j w 5 (restDX (hasV L) j w 5 L)
 | 0,w,op,L,h,_,_=>by cases h
 | 1,w,op,L,h,_,_=>by cases h
 | 2,w,op,L,h,_,_=>by cases h
 | 3,w,op,L,h,_,_=>by cases h
 | 4,w,op,L,h,_,_=>by cases h
 | 5,w,op,L,h,_,_=>by cases h
 | 6,w,op,L,h,hw,_=>by
   cases h;rcases w_four hw with rfl|rfl|rfl|rfl
   · exact dq5_6_1_w
   · exact dq5_6_2_w
   · exact dq5_6_3_w
   · exact dq5_6_4_w
 | 7,w,op,L,h,hw,_=>by
   cases h;rcases w_four hw with rfl|rfl|rfl|rfl
   · exact dq5_7_1_w
   · exact dq5_7_2_w
   · exact dq5_7_3_w
   · exact dq5_7_4_w
 | 8,w,op,L,h,_,_=>by cases h
 | 9,w,op,L,h,_,_=>by cases h
 | 10,w,op,L,h,_,_=>by cases h
 | j+11,w,op,L,h,_,_=>by cases h
theorem dqn_6:∀{j w op:Nat} {L:List Nat},argsOf 6 j=some (op,L)->wOK j w=true->DnQ (nilA L) (hasV L) j w 6 (restDQ (hasV L) j w 6 L)
 | 0,w,op,L,h,_=>by cases h
 | 1,w,op,L,h,_=>by cases h
 | 2,w,op,L,h,_=>by cases h
 | 3,w,op,L,h,_=>by cases h
 | 4,w,op,L,h,_=>by cases h
 | 5,w,op,L,h,_=>by cases h
 | 6,w,op,L,h,hw=>by
   cases h;rcases w_four hw with rfl|rfl|rfl|rfl
   · exact dq6_6_1
   · exact dq6_6_2
   · exact dq6_6_3
   · exact dq6_6_4
 | 7,w,op,L,h,hw=>by
   cases h;rcases w_four hw with rfl|rfl|rfl|rfl
   · exact dq6_7_1
   · exact dq6_7_2
   · exact dq6_7_3
   · exact dq6_7_4
 | 8,w,op,L,h,hw=>by cases h;obtain rfl:=w_one hw;exact dq6_8_1
 | 9,w,op,L,h,_=>by cases h
 | 10,w,op,L,h,_=>by cases h
 | j+11,w,op,L,h,_=>by cases h
theorem dqw_6:∀{j w op:Nat} {L:List Nat},argsOf 6 j=some (op,L)->wOK j w=true->plc L≠none->DwQ (hasV L) j w 6 (restDX (hasV L) j w 6 L)
 | 0,w,op,L,h,_,_=>by cases h
 | 1,w,op,L,h,_,_=>by cases h
 | 2,w,op,L,h,_,_=>by cases h
 | 3,w,op,L,h,_,_=>by cases h
 | 4,w,op,L,h,_,_=>by cases h
 | 5,w,op,L,h,_,_=>by cases h
 | 6,w,op,L,h,hw,_=>by
   cases h;rcases w_four hw with rfl|rfl|rfl|rfl
   · exact dq6_6_1_w
   · exact dq6_6_2_w
   · exact dq6_6_3_w
   · exact dq6_6_4_w
 | 7,w,op,L,h,hw,_=>by
   cases h;rcases w_four hw with rfl|rfl|rfl|rfl
   · exact dq6_7_1_w
   · exact dq6_7_2_w
   · exact dq6_7_3_w
   · exact dq6_7_4_w
 | 8,w,op,L,h,_,hp=>by cases h;exact absurd rfl hp
 | 9,w,op,L,h,_,_=>by cases h
 | 10,w,op,L,h,_,_=>by cases h
 | j+11,w,op,L,h,_,_=>by cases h
theorem dqn_8:∀{j w op:Nat} {L:List Nat},argsOf 8 j=some (op,L)->wOK j w=true->DnQ (nilA L) (hasV L) j w 8 (restDQ (hasV L) j w 8 L)
 | 0,w,op,L,h,_=>by cases h
 | 1,w,op,L,h,_=>by cases h
 | 2,w,op,L,h,_=>by cases h
 | 3,w,op,L,h,hw=>by
   cases h;rcases w_four hw with rfl|rfl|rfl|rfl
   · exact dq8_3_1
   · exact dq8_3_2
   · exact dq8_3_3
   · exact dq8_3_4
 | 4,w,op,L,h,_=>by cases h
 | 5,w,op,L,h,_=>by cases h
 | 6,w,op,L,h,_=>by cases h
 | 7,w,op,L,h,_=>by cases h
 | 8,w,op,L,h,_=>by cases h
 | 9,w,op,L,h,_=>by cases h
 | 10,w,op,L,h,_=>by cases h
 | j+11,w,op,L,h,_=>by cases h
theorem dqw_8:∀{j w op:Nat} {L:List Nat},argsOf 8 j=some (op,L)->wOK j w=true->plc L≠none->DwQ (hasV L) j w 8 (restDX (hasV L) j w 8 L)
 | 0,w,op,L,h,_,_=>by cases h
 | 1,w,op,L,h,_,_=>by cases h
 | 2,w,op,L,h,_,_=>by cases h
 | 3,w,op,L,h,hw,_=>by
   cases h;rcases w_four hw with rfl|rfl|rfl|rfl
   · exact dq8_3_1_w
   · exact dq8_3_2_w
   · exact dq8_3_3_w
   · exact dq8_3_4_w
 | 4,w,op,L,h,_,_=>by cases h
 | 5,w,op,L,h,_,_=>by cases h
 | 6,w,op,L,h,_,_=>by cases h
 | 7,w,op,L,h,_,_=>by cases h
 | 8,w,op,L,h,_,_=>by cases h
 | 9,w,op,L,h,_,_=>by cases h
 | 10,w,op,L,h,_,_=>by cases h
 | j+11,w,op,L,h,_,_=>by cases h
def PkD (q:PQ) (code:U) (t:T):Prop:=∃ok wr c,q.pick=some (ok,wr,([c],some (0,t)))/\okB ok=true/\i64Of c=some code/\(wr=[0]\/wr=[])
theorem pkd_err {t:T} {ok c:A} {x:U} (ho:okB ok=true) (h:i64Of c=some x):PkD (errD t ok c) x t:=⟨ok,[],c,rfl,ho,h,.inr rfl⟩
theorem pkd_t {c:Bool} {a b:PQ} {x:U} {t:T} (hc:c=true) (h:PkD a x t):PkD (.node c a b) x t:=by subst hc;exact h
theorem pkd_f {c:Bool} {a b:PQ} {x:U} {t:T} (hc:c=false) (h:PkD b x t):PkD (.node c a b) x t:=by subst hc;exact h
theorem pkd_fin {o:Bool} {t:T} (h:o=true):PkD (finD o t) (K 0) t:=⟨.b o,[0],z64,rfl,h,rfl,.inl rfl⟩
def PO.pickT (po:PO) (t t':T):T:=match po with
 | .err _=>t
 | .ok .. => t'
section
variable {regs:VV} {how flat:Nat->U} {w op:Nat} {m cpu:U} {t t':T} {fin:Bool->PQ}
theorem argsG_pick {b:Bool} (hfin:∀o,o=true->PkD (fin o) (K 0) t'):∀(L:List Nat) (r B:Nat) (o:Bool) (kU fU:U) (v:Option (Nat×(Nat->U))),o=true->OKB regs how w L r B->OKb regs w b L r B ->
 PkD (argsG (errD t) fin b regs how w L r B o) (argsF regs how flat w m (K op) cpu L r kU fU v).code ((argsF regs how flat w m (K op) cpu L r kU fU v).pickT t t')
 | [],r,B,o,kU,fU,v,ho,_,_=>hfin o ho
 | 0::L,r,B,o,kU,fU,v,ho,hB,hb=>by
   unfold argsG argsF;cases h0:regs.k r==K 0
   · refine pkd_f (by rw [bne,h0];rfl) ?_
     simp only [h0,cond_false];cases B with
     | zero=>
       have hE:bytesE how (regs.at r) 8≠K 0:=hB;have e1:(bytesE how (regs.at r) 8==K 0)=false:=by simpa using hE
       have e2:(bytesE how (regs.at r) 8 != K 0)=true:=bne_iff_ne.2 hE;simp only [e2,cond_true];refine pkd_t (by rw [e1];rfl) (pkd_err ?_ rfl)
       subst ho;rfl
     | succ B=>
       obtain ⟨hE,hB⟩:=hB;have e1:(bytesE how (regs.at r) 8==K 0)=true:=by rw [hE];decide
       have e2:(bytesE how (regs.at r) 8 != K 0)=false:=by rw [bne,e1];rfl
       simp only [e2,cond_false];exact argsG_pick hfin L (r+1) B _ _ _ _ (by rw [e1,ho];rfl) hB hb
   · refine pkd_t (by rw [bne,h0];rfl) ?_
     simp only [h0,cond_true];exact pkd_err ho rfl
 | 1::L,r,B,o,kU,fU,v,ho,hB,hb=>by
   unfold argsG argsF;cases h0:regs.k r==K 0
   · refine pkd_f (by rw [bne,h0];rfl) ?_
     simp only [h0,cond_false];cases B with
     | zero=>
       have hE:bytesE how (regs.at r) (8*w)≠K 0:=hB;have e1:(bytesE how (regs.at r) (8*w)==K 0)=false:=by simpa using hE
       have e2:(bytesE how (regs.at r) (8*w) != K 0)=true:=bne_iff_ne.2 hE;simp only [e2,cond_true];refine pkd_t (by rw [e1];rfl) (pkd_err ?_ rfl)
       subst ho;rfl
     | succ B=>
       obtain ⟨hE,hB⟩:=hB;have e1:(bytesE how (regs.at r) (8*w)==K 0)=true:=by rw [hE];decide
       have e2:(bytesE how (regs.at r) (8*w) != K 0)=false:=by rw [bne,e1];rfl
       simp only [e2,cond_false];exact argsG_pick hfin L (r+1) B _ _ _ _ (by rw [e1,ho];rfl) hB hb
   · refine pkd_t (by rw [bne,h0];rfl) ?_
     simp only [h0,cond_true];exact pkd_err ho rfl
 | 2::L,r,B,o,kU,fU,v,ho,hB,hb=>by
   unfold argsG argsF;cases h0:regs.k r==K 0
   · refine pkd_f (by rw [bne,h0];rfl) ?_
     simp only [h0,cond_false];cases h1:regs.k r==K 1
     · refine pkd_t rfl ?_;have:(regs.k r != K 1)=true:=by rw [bne,h1];rfl
       simp only [this,cond_true];exact pkd_err ho rfl
     · refine pkd_f rfl ?_;have:(regs.k r != K 1)=false:=by rw [bne,h1];rfl
       simp only [this,cond_false];exact argsG_pick hfin L (r+1) B _ _ _ _ ho hB hb
   · refine pkd_t (by rw [bne,h0];rfl) ?_
     simp only [h0,cond_true];exact pkd_err ho rfl
 | (n+3)::L,r,B,o,kU,fU,v,ho,hB,hb=>by
   unfold argsG argsF;cases h0:regs.k r==K 0
   · refine pkd_f (by rw [bne,h0];rfl) ?_
     simp only [h0,cond_false];cases h1:regs.k r==K 3
     · refine pkd_t rfl ?_;have:(regs.k r != K 3)=true:=by rw [bne,h1];rfl
       simp only [this,cond_true];exact pkd_err ho rfl
     · refine pkd_f rfl ?_;have:(regs.k r != K 3)=false:=by rw [bne,h1];rfl
       simp only [this,cond_false];obtain ⟨hr,hb⟩:roomB (regs.n r) (8*w)=b/\OKb regs w b L (r+1) B:=hb;cases b
       · simp only [hr,Bool.not_false,cond_true];refine pkd_err ?_ rfl;subst ho;rfl
       · simp only [hr,Bool.not_true,cond_false];exact argsG_pick hfin L (r+1) B _ _ _ _ (by rw [ho];rfl) hB hb
   · refine pkd_t (by rw [bne,h0];rfl) ?_
     simp only [h0,cond_true];exact pkd_err ho rfl
theorem headG_pick {n:Nat} (hn:n≤10) {rest:PQ} {po:PO} (h:regs.k 1=K 4->inM n (regs.i 1)=true->PkD rest po.code (po.pickT t t')):PkD (headG (errD t) regs n rest) (headF n regs po).code ((headF n regs po).pickT t t'):=by
 have h63:okB (.b (n63 n))=true:=nB (by omega)
 unfold headG headF;cases h0:regs.k 1==K 0
 · refine pkd_f (by rw [bne,h0];rfl) ?_
   simp only [cond_false];cases h1:regs.k 1==K 4
   · have:(regs.k 1 != K 4)=true:=by rw [bne,h1];rfl
     simp only [this,cond_true];exact pkd_t rfl (pkd_err rfl rfl)
   · have:(regs.k 1 != K 4)=false:=by rw [bne,h1];rfl
     simp only [this,cond_false];refine pkd_f rfl ?_;unfold inM;cases h2:BitVec.sle (K 1) (regs.i 1)
     · simp only [cond_false,Bool.not_false,cond_true];exact pkd_f rfl (pkd_err rfl rfl)
     · refine pkd_t rfl ?_;cases h3:BitVec.sle (regs.i 1) (kk n)
       · simp only [cond_true,Bool.not_false];exact pkd_t rfl (pkd_err h63 rfl)
       · simp only [cond_true,Bool.not_true,cond_false];refine pkd_f rfl (h (eq_of_beq h1) ?_);unfold inM;rw [h2,h3];rfl
 · simp only [cond_true];exact pkd_t (by rw [bne,h0];rfl) (pkd_err rfl rfl)
end
def outW (a j:Nat) (m no elem:U):VW:=match a with
 | 1=>bif no != K 0 then numW (K 0) else (match j with|9=>mapW elem|10=>mapW elem|_=>cellW m elem)
 | _=>numW (negU no)
theorem doneV_pick {a j:Nat} {s:VF} {no elem:U} {o:Bool} (h:o=true):PkD (doneV a j s no elem o) (K 0) (outV6 s (outW a j (s.regs.i 1) no elem)).t:=by
 unfold doneV outW;split
 · cases hn:no != K 0
   · exact pkd_f rfl (pkd_fin h)
   · exact pkd_t rfl (pkd_fin h)
 · rename_i h1;split
   · exact absurd rfl (h1)
   · exact pkd_fin h
theorem doneQ_pick {a j:Nat} {m:U} {s:QF} {no elem:U} {o:Bool} (h:o=true):PkD (doneQ a j m s no elem o) (K 0) (outQ6 s (outW a j m no elem)).t:=by
 unfold doneQ outW;split
 · cases hn:no != K 0
   · exact pkd_f rfl (pkd_fin h)
   · exact pkd_t rfl (pkd_fin h)
 · rename_i h1;split
   · exact absurd rfl (h1)
   · exact pkd_fin h
theorem dq_pick:∀{r:R} {ok:A} {wr:List Nat} {o:Ob},r.dq.pick=some (ok,wr,o)->∃v h',r.pick=some (ok,v,h')/\h'.wr=wr/\obsD v h'=some o
 | .fail,_,_,_,h=>by cases h
 | .pan _ _ _,_,_,_,h=>by cases h
 | .leaf ok v h,ok',wr,o,e=>by
   simp only [R.dq] at e;cases ho:obsD v h with
   | none=>rw [ho] at e;cases e
   | some o'=>
     rw [ho] at e;simp only [PQ.pick,oI,pI] at e;obtain ⟨rfl,rfl,rfl⟩:=e;exact ⟨v,h,rfl,rfl,ho⟩
 | .node c a b,ok,wr,o,e=>by
   simp only [R.dq,PQ.pick] at e;cases c
   · simpa [R.pick] using dq_pick (r:=b) e
   · simpa [R.pick] using dq_pick (r:=a) e
def DoneP (w:World) (r:Nat) (code:U) (t':T) (e:Ending) (w':World):Prop:=e = .returned (.int .i64 (vof .i64 code))/\But r w.heap.size w w'/\Holds w' r t'
theorem done_of {P:Program} {f:Nat} {args:List V} {ms:List (Nat×Blk)} {N:Nat} {R0:R} {code:U} {t':T} (hpk:PkD R0.dq code t') (hfn:∀ok v h',R0.pick=some (ok,v,h')->okB ok=true->FnOK P f args (hM ms N) v h') (hmp:notMp t'=true) (hf:t'.free=true)
 {w:World} {r:Nat} {ν:Nu} (hm:Mem (fun _=>True) ν w (hM ms N)) (h0:ν 0=some (r,0)) {us:List Value} (ha:relV ν args us):Calls P f us.toArray w (DoneP w r code t'):=by
 obtain ⟨ok,wr,c,hp,hok,hc,hwr⟩:=hpk;obtain ⟨v,h',hp,hw,ho⟩:=dq_pick hp;refine (hfn ok v h' hp hok (fun _=>True) ν w us (fun _ _=>trivial) (fun _ _=>trivial) hm ha).mono ?_;rintro e w' ⟨u,ν',rfl,hu,g⟩;unfold obsD at ho;split at ho
 · rename_i c0;split at ho
   · rename_i t0 hg;simp only [oI,pI,List.cons.injEq,and_true,true_and] at ho;obtain ⟨rfl,rfl⟩:=ho;refine ⟨by rw [i64Of_rel hc hu],⟨g.frm.os,g.frm.tape,g.frm.output,g.frm.size,fun r' hr' hne=>g.frm.block r' hr' fun id base hid=>⟨?_,fun hin => ?_⟩⟩,seen_holds (g.mem.seen 0 _ hg (.inl trivial)) hmp hf (g.le _ _ h0)⟩
     · rw [g.ext.lo];show id<N;refine Classical.byContradiction fun hge => ?_;rw [hm.nums.fresh id (show N≤id by omega)] at hid
       cases hid
     · rw [hw] at hin;rcases hwr with e|e
       · rw [e] at hin;simp only [List.mem_singleton] at hin;subst hin;rw [h0] at hid;cases hid;exact hne rfl
       · rw [e] at hin;cases hin
   · cases ho
 · cases ho
def resC (w:Nat):Option (Nat×(Nat->U))->Nat->U
 | none=>bytZ w
 | some (_,g)=>bytD g w
def resX (w:Nat):Option (Nat×(Nat->U))->Nat->U
 | none=>bytZ w
 | some (_,g)=>putN8 g w w
def behV (D:DF) (s:VF) (no cpu rno elem:U) (val:Option (Nat×(Nat->U))):VF:=bif no==K 7 then outV6 s (numW cpu) else
 match argsOf no.toNat (D.k (ixU s.regs)).toNat with
 | some (_,L)=>outV6 (laidV L (D.w (ixU s.regs)).toNat (resC (D.w (ixU s.regs)).toNat val) s) (outW no.toNat (D.k (ixU s.regs)).toNat (s.regs.i 1) rno elem)
 | none=>s
def behQ (D:DF) (s:QF) (no cpu rno elem:U) (val:Option (Nat×(Nat->U))):QF:=bif no==K 7 then outQ6 s (numW cpu) else
 match argsOf no.toNat (D.k (ixU s.regs)).toNat with
 | some (_,L)=>outQ6 (laidQ L (D.w (ixU s.regs)).toNat (resX (D.w (ixU s.regs)).toNat val) s) (outW no.toNat (D.k (ixU s.regs)).toNat (s.regs.i 1) rno elem)
 | none=>s
def doneVF (n:Nat) (D:DF) (s:VF) (no cpu rno elem:U) (val:Option (Nat×(Nat->U))):VF:=match planF n D s.regs s.how s.flat no cpu with
 | .err _=>s
 | .ok .. => behV D s no cpu rno elem val
def doneQF (n:Nat) (D:DF) (s:QF) (no cpu rno elem:U) (val:Option (Nat×(Nat->U))):QF:=match planF n D s.regs s.how s.b no cpu with
 | .err _=>s
 | .ok .. => behQ D s no cpu rno elem val
theorem laidV_regs (L:List Nat) (w:Nat) (c:Nat->U) (s:VF):(laidV L w c s).regs=s.regs:=by
 unfold laidV;split
 · exact layVR_regs _ _ _ _
 · rfl
structure AllDV (a:Nat):Prop where
 n:∀{S:Sel} {j w op:Nat} {L:List Nat},argsOf a j=some (op,L)->wOK j w=true->selV L S=true->∃T,DnV (nilA L) S.b T j w a (restDV S j w a L)
 w:∀{S:Sel} {j w op:Nat} {L:List Nat},argsOf a j=some (op,L)->wOK j w=true->selV L S=true->plc L≠none->∃T,DwV S.b T j w a (restDW S j w a L)
 z:∀{j:Nat},1≤j->j≤10->argsOf a j=none->DnV .poison true 1000 j 1 a (noneDV j)
structure AllDQ (a:Nat):Prop where
 n:∀{j w op:Nat} {L:List Nat},argsOf a j=some (op,L)->wOK j w=true->DnQ (nilA L) (hasV L) j w a (restDQ (hasV L) j w a L)
 w:∀{j w op:Nat} {L:List Nat},argsOf a j=some (op,L)->wOK j w=true->plc L≠none->DwQ (hasV L) j w a (restDX (hasV L) j w a L)
theorem allDV {a:Nat} (h:a=1\/a=2\/a=3\/a=4\/a=5\/a=6\/a=8):AllDV a:=by
 rcases h with rfl|rfl|rfl|rfl|rfl|rfl|rfl
 · exact ⟨dvn_1,dvw_1,dvz_1⟩
 · exact ⟨dvn_2,dvw_2,dvz_2⟩
 · exact ⟨dvn_3,dvw_3,dvz_3⟩
 · exact ⟨dvn_4,dvw_4,dvz_4⟩
 · exact ⟨dvn_5,dvw_5,dvz_5⟩
 · exact ⟨dvn_6,dvw_6,dvz_6⟩
 · exact ⟨dvn_8,dvw_8,dvz_8⟩
theorem allDQ {a:Nat} (h:a=1\/a=2\/a=3\/a=4\/a=5\/a=6\/a=8):AllDQ a:=by
 rcases h with rfl|rfl|rfl|rfl|rfl|rfl|rfl
 · exact ⟨dqn_1,dqw_1⟩
 · exact ⟨dqn_2,dqw_2⟩
 · exact ⟨dqn_3,dqw_3⟩
 · exact ⟨dqn_4,dqw_4⟩
 · exact ⟨dqn_5,dqw_5⟩
 · exact ⟨dqn_6,dqw_6⟩
 · exact ⟨dqn_8,dqw_8⟩
theorem plc_one {a op:Nat} {L:List Nat} (h:argsOf a 1=some (op,L)):plc L=none:=by
 unfold argsOf at h;split at h<;>first|(cases h;rfl)|cases h|(split at h<;>first|(cases h;rfl)|cases h|omega)
theorem doneVF_eq {n:Nat} {D:DF} {s:VF} {no cpu rno elem:U} {val:Option (Nat×(Nat->U))}:(doneVF n D s no cpu rno elem val).t=(planF n D s.regs s.how s.flat no cpu).pickT s.t (behV D s no cpu rno elem val).t:=by
 unfold doneVF PO.pickT;cases planF n D s.regs s.how s.flat no cpu<;>rfl
theorem exDw {n:Nat} (hn:n≤10) {D:DF} (hD:OKD n D) {a:Nat} (hA:AllDV a) {no:U} (hno:no.toNat=a) (h7:(no==K 7)=false) (s:VF) (cpu elem:U) (g:Nat->U) (hM:inM n (s.regs.i 1)=true) {op:Nat} {L:List Nat} (hargs:argsOf a (D.k (ixU s.regs)).toNat=some (op,L)) (hpl:plc L≠none):∃(b:Bool) (T:Nat),
 PkD (ev14w b T (D.k (ixU s.regs)).toNat (D.w (ixU s.regs)).toNat a s n D cpu elem g).dq (headF n s.regs (planL s.regs s.how s.flat cpu (D.k (ixU s.regs)).toNat (D.w (ixU s.regs)).toNat (some (op,L)))).code
  ((headF n s.regs (planL s.regs s.how s.flat cpu (D.k (ixU s.regs)).toNat (D.w (ixU s.regs)).toNat (some (op,L)))).pickT s.t (behV D s no cpu (K 0) elem (some ((D.w (ixU s.regs)).toNat,g))).t):=by
 obtain ⟨m1,m2,_,m4⟩:=inM_nat hn hM;have hix:ixU s.regs<n:=by unfold ixU;rw [m4];omega
 obtain ⟨d1,d2,d3⟩:=hD _ hix;obtain ⟨o1,o2⟩:=okI_true hn (D:=D) hM;obtain ⟨S,s1,s2,s3⟩:=sel_v (regs:=s.regs) (how:=s.how) (w:=(D.w (ixU s.regs)).toNat) (argsOf_L hargs);obtain ⟨T,E⟩:=hA.w hargs d3 s1 hpl;obtain ⟨ok,wr,c,h1,h2⟩:=headG_pick (regs:=s.regs) (t:=s.t) (t':=(behV D s no cpu (K 0) elem (some ((D.w (ixU s.regs)).toNat,g))).t) hn (rest:=restDW S (D.k (ixU s.regs)).toNat (D.w (ixU s.regs)).toNat a L s n D elem g) (po:=planL s.regs s.how s.flat cpu (D.k (ixU s.regs)).toNat (D.w (ixU s.regs)).toNat (some (op,L))) fun _ _=>
  argsG_pick (fun o ho=>by
   have e:behV D s no cpu (K 0) elem (some ((D.w (ixU s.regs)).toNat,g))=outV6 (laidV L (D.w (ixU s.regs)).toNat (bytD g (D.w (ixU s.regs)).toNat) s) (outW a (D.k (ixU s.regs)).toNat ((laidV L (D.w (ixU s.regs)).toNat (bytD g (D.w (ixU s.regs)).toNat) s).regs.i 1) (K 0) elem):=by unfold behV;rw [h7,hno,hargs,laidV_regs];rfl
   rw [e];exact doneV_pick ho) L 2 S.B _ _ _ _ o2 s2 s3
 exact ⟨_,T,ok,wr,c,E.pick s n D cpu elem g _ h1,h2⟩
theorem exDn {n:Nat} (hn:n≤10) {D:DF} (hD:OKD n D) {a:Nat} (hA:AllDV a) {no:U} (hno:no.toNat=a) (h7:(no==K 7)=false) (s:VF) (cpu rno elem:U) (val:Option (Nat×(Nat->U)))
 (hval:∀op L,inM n (s.regs.i 1)=true->argsOf a (D.k (ixU s.regs)).toNat=some (op,L)->plc L≠none->val=none):∃(b:Bool) (T j w:Nat) (v:A),(v = .poison\/(v = .nils/\∃op L,inM n (s.regs.i 1)=true/\argsOf a (D.k (ixU s.regs)).toNat=some (op,L)/\plc L≠none)) /\
 PkD (ev14 b T j w a s n D cpu rno elem v).dq (headF n s.regs (planL s.regs s.how s.flat cpu (D.k (ixU s.regs)).toNat (D.w (ixU s.regs)).toNat (argsOf a (D.k (ixU s.regs)).toNat))).code
  ((headF n s.regs (planL s.regs s.how s.flat cpu (D.k (ixU s.regs)).toNat (D.w (ixU s.regs)).toNat (argsOf a (D.k (ixU s.regs)).toNat))).pickT s.t (behV D s no cpu rno elem val).t):=by
 by_cases hM:inM n (s.regs.i 1)=true
 · obtain ⟨m1,m2,_,m4⟩:=inM_nat hn hM;have hix:ixU s.regs<n:=by unfold ixU;rw [m4];omega
   obtain ⟨d1,d2,d3⟩:=hD _ hix;obtain ⟨o1,o2⟩:=okI_true hn (D:=D) hM;cases hargs:argsOf a (D.k (ixU s.regs)).toNat with
   | none=>
     have E:=hA.z d1 d2 hargs;obtain ⟨ok,wr,c,h1,h2⟩:=headG_pick (regs:=s.regs) (t:=s.t) (t':=(behV D s no cpu rno elem val).t) hn (rest:=noneDV (D.k (ixU s.regs)).toNat s n D rno elem) (po :=.err (K 18)) fun _ _=>pkd_err o1 rfl;exact ⟨_,_,_,_,_,.inl rfl,ok,wr,c,E.pick s n D cpu rno elem _ h1,h2⟩
   | some p=>
     obtain ⟨op,L⟩:=p;obtain ⟨S,s1,s2,s3⟩:=sel_v (regs:=s.regs) (how:=s.how) (w:=(D.w (ixU s.regs)).toNat) (argsOf_L hargs);obtain ⟨T,E⟩:=hA.n hargs d3 s1;obtain ⟨ok,wr,c,h1,h2⟩:=headG_pick (regs:=s.regs) (t:=s.t) (t':=(behV D s no cpu rno elem val).t) hn (rest:=restDV S (D.k (ixU s.regs)).toNat (D.w (ixU s.regs)).toNat a L s n D rno elem) (po:=planL s.regs s.how s.flat cpu (D.k (ixU s.regs)).toNat (D.w (ixU s.regs)).toNat (some (op,L))) fun _ _=>
      argsG_pick (fun o ho=>by
       have e:behV D s no cpu rno elem val=outV6 (laidV L (D.w (ixU s.regs)).toNat (bytZ (D.w (ixU s.regs)).toNat) s) (outW a (D.k (ixU s.regs)).toNat ((laidV L (D.w (ixU s.regs)).toNat (bytZ (D.w (ixU s.regs)).toNat) s).regs.i 1) rno elem):=by
        unfold behV;rw [h7,hno,hargs,laidV_regs];simp only [cond_false];cases hp:plc L with
        | none=>
          have q1:∀c,laidV L (D.w (ixU s.regs)).toNat c s=s:=fun c=>by unfold laidV;rw [hp]
          rw [q1,q1]
        | some r=>
          rw [hval op L hM hargs (by rw [hp];intro h;cases h)]
          rfl
       rw [e];exact doneV_pick ho) L 2 S.B _ _ _ _ o2 s2 s3
     refine ⟨_,T,_,_,nilA L,?_,ok,wr,c,E.pick s n D cpu rno elem _ h1,h2⟩;unfold nilA;cases hp:plc L with
     | none=>exact .inl rfl
     | some r=>exact .inr ⟨rfl,op,L,hM,rfl,by rw [hp];intro h;cases h⟩
 · cases hargs:argsOf a 1 with
   | none=>
     have E:=hA.z (j:=1) (by decide) (by decide) hargs
     obtain ⟨ok,wr,c,h1,h2⟩:=headG_pick (regs:=s.regs) (t:=s.t) (t':=(behV D s no cpu rno elem val).t) hn (rest:=noneDV 1 s n D rno elem) fun _ h=>absurd h hM;exact ⟨_,_,_,_,_,.inl rfl,ok,wr,c,E.pick s n D cpu rno elem _ h1,h2⟩
   | some p=>
     obtain ⟨op,L⟩:=p;obtain ⟨T,E⟩:=hA.n (S :=.all) (w:=1) hargs rfl (by unfold selV;rfl)
     obtain ⟨ok,wr,c,h1,h2⟩:=headG_pick (regs:=s.regs) (t:=s.t) (t':=(behV D s no cpu rno elem val).t) hn (rest:=restDV .all 1 1 a L s n D rno elem) fun _ h=>absurd h hM;refine ⟨_,T,_,_,nilA L,?_,ok,wr,c,E.pick s n D cpu rno elem _ h1,h2⟩;unfold nilA;rw [plc_one hargs];exact .inl rfl
theorem argsF_err {regs:VV} {how flat:Nat->U} {w:Nat} {m op cpu x:U}:∀(L:List Nat) (r:Nat) (key flag:U) (v:Option (Nat×(Nat->U))),argsF regs how flat w m op cpu L r key flag v = .err x->x=K 14\/x=K 15\/x=K 17
 | [],r,key,flag,v,h=>by cases h
 | 0::L,r,key,flag,v,h=>by
   unfold argsF at h;cases h0:regs.k r==K 0<;>simp only [h0,cond_true,cond_false] at h
   · cases h1:bytesE how (regs.at r) 8 != K 0<;>simp only [h1,cond_true,cond_false] at h
     · exact argsF_err L _ _ _ _ h
     · cases h;rcases bytesE_vals how (regs.at r) 8 with e|e|e|e
       · rw [e] at h1;exact absurd h1 (by decide)
       · exact .inl e
       · exact .inr (.inl e)
       · exact .inr (.inr e)
   · cases h;exact .inr (.inl rfl)
 | 1::L,r,key,flag,v,h=>by
   unfold argsF at h;cases h0:regs.k r==K 0<;>simp only [h0,cond_true,cond_false] at h
   · cases h1:bytesE how (regs.at r) (8*w) != K 0<;>simp only [h1,cond_true,cond_false] at h
     · exact argsF_err L _ _ _ _ h
     · cases h;rcases bytesE_vals how (regs.at r) (8*w) with e|e|e|e
       · rw [e] at h1;exact absurd h1 (by decide)
       · exact .inl e
       · exact .inr (.inl e)
       · exact .inr (.inr e)
   · cases h;exact .inr (.inl rfl)
 | 2::L,r,key,flag,v,h=>by
   unfold argsF at h;cases h0:regs.k r==K 0<;>simp only [h0,cond_true,cond_false] at h
   · cases h1:regs.k r != K 1<;>simp only [h1,cond_true,cond_false] at h
     · exact argsF_err L _ _ _ _ h
     · cases h;exact .inl rfl
   · cases h;exact .inr (.inl rfl)
 | (n+3)::L,r,key,flag,v,h=>by
   unfold argsF at h;cases h0:regs.k r==K 0<;>simp only [h0,cond_true,cond_false] at h
   · cases h1:regs.k r != K 3<;>simp only [h1,cond_true,cond_false] at h
     · cases h2:roomB (regs.n r) (8*w)<;>simp only [h2,Bool.not_true,Bool.not_false,cond_true,cond_false] at h
       · cases h;exact .inr (.inr rfl)
       · exact argsF_err L _ _ _ _ h
     · cases h;exact .inl rfl
   · cases h;exact .inr (.inl rfl)
theorem planF_err {n:Nat} {D:DF} {regs:VV} {how flat:Nat->U} {no cpu x:U} (h:planF n D regs how flat no cpu = .err x):x=K 14\/x=K 15\/x=K 17\/x=K 18:=by
 unfold planF at h;cases h0:cond (BitVec.sle (K 1) no) (BitVec.sle no (K 8)) false<;>simp only [h0,Bool.not_true,Bool.not_false,cond_true,cond_false] at h
 · cases h;exact .inr (.inr (.inr rfl))
 · cases h1:no==K 7<;>simp only [h1,cond_true,cond_false] at h
   · cases h2:regs.k 1==K 0<;>simp only [h2,cond_true,cond_false] at h
     · cases h3:regs.k 1 != K 4<;>simp only [h3,cond_true,cond_false] at h
       · cases h4:inM n (regs.i 1)<;>simp only [h4,Bool.not_true,Bool.not_false,cond_true,cond_false] at h
         · cases h;exact .inr (.inr (.inr rfl))
         · unfold planL at h;split at h
           · cases h;exact .inr (.inr (.inr rfl))
           · rcases argsF_err _ _ _ _ _ h with e|e|e
             · exact .inl e
             · exact .inr (.inl e)
             · exact .inr (.inr (.inl e))
       · cases h;exact .inl rfl
     · cases h;exact .inr (.inl rfl)
   · cases h
def planEr {σ:Type} (c:Nat) (of:H->Nat->Option σ) (regs:σ->VV) (how flat:σ->Nat->U):List V->H->Option R
 | [.t (.a la),.t (.a (.ptr id [])),.t (.a an),.t (.a ac)],h=>match dfOf h la,of h id,i64Of an,i64Of ac with
   | some (idl,n,D,o),some s,some no,some cpu=>match Nat.beq id idl with
     | false=>some (.leaf (.b (okPl n D o&&dec (planF n D (regs s) (how s) (flat s) no cpu = .err (K c)))) (tupZ (l64 c)) (h.sees [id,idl]))
     | true=>none
   | _,_,_,_=>none
 | _,_=>none
theorem planEr_inv {σ:Type} {c:Nat} {of:H->Nat->Option σ} {regs:σ->VV} {how flat:σ->Nat->U} {args:List V} {h:H} {r:R} (e:planEr c of regs how flat args h=some r):∃la id an ac idl n D o s no cpu,args=[.t (.a la),.t (.a (.ptr id [])),.t (.a an),.t (.a ac)]/\dfOf h la=some (idl,n,D,o)/\of h id=some s/\i64Of an=some no/\i64Of ac=some cpu/\id≠idl/\r = .leaf (.b (okPl n D o&&dec (planF n D (regs s) (how s) (flat s) no cpu = .err (K c)))) (tupZ (l64 c)) (h.sees [id,idl]):=by
 unfold planEr at e;split at e
 · split at e
   · rename_i h1 h2 h3 h4;split at e
     · rename_i hb;cases e;exact ⟨_,_,_,_,_,_,_,_,_,_,_,rfl,h1,h2,h3,h4,(fun e=>by rw [e,Nat.beq_refl] at hb;cases hb),rfl⟩
     · cases e
   · cases e
 · cases e
theorem planEr_ok (c:Nat) (hc:c=14\/c=15\/c=17\/c=18):AnyOK Tryz.prog 10 (planEr c qfOf QF.regs QF.how QF.b) where
 ent:=enters_of entK 10 _ Tryz.func10 (by simp [Tryz.f10])
 ok:=by
  intro args h r ok v h' he hp hok;obtain ⟨la,id,an,ac,idl,n,D,o,s,no,cpu,rfl,hd,hs,hno,hcpu,hne,rfl⟩:=planEr_inv he;simp only [R.pick,oI,pI] at hp;obtain ⟨rfl,rfl,rfl⟩:=hp;have hok:(okPl n D o&&dec (planF n D s.regs s.how s.b no cpu = .err (K c)))=true:=hok;rw [bA] at hok;obtain ⟨ho,hE⟩:=hok;have hE:=of_dec hE;unfold okPl at ho;simp only [bA] at ho;obtain ⟨⟨o1,o2⟩,o3,o4⟩:=ho;have o1:=nL o1;have o2:=nL o2;refine fn_calm [id,idl] fun S ν w us hm hS hus => ?_
  match us,hus with
  | [u0,u1,u2,u3],⟨r0,r1,r2,r3,_⟩=>
    obtain ⟨B,off,cc,hH,rfl,hcc,hνl⟩:=df_here hm hd o3 (hS idl (.tail _ (.head _))) (by omega) r0
    obtain ⟨rr,e1,hh,rfl⟩:=ptr_here hm (qfOf_some hs) (hS id (.head _)) rfl rfl r1;obtain rfl:=i64Of_rel hno r2;obtain rfl:=i64Of_rel hcpu r3;have hrB:rr≠B:=by rintro rfl;exact hne (hm.nums.inj id _ (qfOf_some hs) rfl idl rr 0 off e1 hνl).symm
    refine (plan10 o2 (of_dec o4) hcc hrB hh hH).mono ?_;rintro e w' ⟨hb,hv⟩;rw [hE] at hv;refine ⟨_,hv,?_,hb⟩;refine ⟨_,rfl,?_,?_,?_,trivial⟩
    · show z64.rel ν _;unfold z64;simp only [A.rel];exact ⟨rfl,rfl⟩
    · refine ⟨_,rfl,?_⟩;unfold zOp z64;simp only [T.rel,relTs,A.rel];exact ⟨_,_,rfl,⟨_,rfl,⟨rfl,rfl⟩,trivial⟩,_,_,rfl,⟨_,rfl,⟨rfl,rfl⟩,trivial⟩,_,_,rfl,⟨_,rfl,rfl,trivial⟩,_,_,rfl,⟨_,rfl,⟨rfl,rfl⟩,trivial⟩,_,_,rfl,⟨_,rfl,⟨rfl,rfl⟩,trivial⟩,rfl⟩
    · show (l64 c).rel ν _;unfold l64;simp only [A.rel];rcases hc with rfl|rfl|rfl|rfl<;>exact ⟨rfl,rfl⟩
 pan:=by intro args h r ok v h' he hp hok;obtain ⟨la,id,an,ac,idl,n,D,o,s,no,cpu,rfl,hd,hs,hno,hcpu,hne,rfl⟩:=planEr_inv he;simp [R.pickP] at hp
 ext:=by intro args h r he hlo;obtain ⟨la,id,an,ac,idl,n,D,o,s,no,cpu,rfl,hd,hs,hno,hcpu,hne,rfl⟩:=planEr_inv he;exact sees_ext _ h
def Γ15e (c:Nat):Gam:=anyΓ 10 (planEr c qfOf QF.regs QF.how QF.b) noΓ
theorem Γ15e_ok {c:Nat} (hc:c=14\/c=15\/c=17\/c=18):ΓOK Tryz.prog (Γ15e c):=anyΓ_ok (planEr_ok c hc) noΓ_ok
def ev15e (c:Nat) (s:QF) (n:Nat) (D:DF) (no cpu rno elem:U):R:=evalF (cxP 1 1) (Γ15e c) 400 20 15 [slDP n,pt 0,i64 no,i64 cpu,resT (.i .i64 rno) .poison (.i .i64 elem)] (hM (mP s.t n D) 3)
def okEr (c:Nat) (s:QF) (n:Nat) (D:DF) (no cpu:U):Bool:=okPl n D (Nat.beq n n)&&dec (planF n D s.regs s.how s.b no cpu = .err (K c))
theorem e14 (s:QF) (n:Nat) (D:DF) (no cpu rno elem:U):(ev15e 14 s n D no cpu rno elem).dq=errD s.t (.b (okEr 14 s n D no cpu)) (l64 14):=by kernel_rfl
theorem e15 (s:QF) (n:Nat) (D:DF) (no cpu rno elem:U):(ev15e 15 s n D no cpu rno elem).dq=errD s.t (.b (okEr 15 s n D no cpu)) (l64 15):=by kernel_rfl
theorem e17 (s:QF) (n:Nat) (D:DF) (no cpu rno elem:U):(ev15e 17 s n D no cpu rno elem).dq=errD s.t (.b (okEr 17 s n D no cpu)) (l64 17):=by kernel_rfl
theorem e18 (s:QF) (n:Nat) (D:DF) (no cpu rno elem:U):(ev15e 18 s n D no cpu rno elem).dq=errD s.t (.b (okEr 18 s n D no cpu)) (l64 18):=by kernel_rfl
def ev14n (s:VF) (n:Nat) (D:DF) (no cpu rno elem:U):R:=evalF (cxP 1 1) (specG 62 helpS (Γ14 true 1000)) 400 20 14 [slDP n,pt 0,i64 no,i64 cpu,resT (.i .i64 rno) .poison (.i .i64 elem)] (hM (mP s.t n D) 3)
theorem d_no (s:VF) (n:Nat) (D:DF) (no cpu rno elem:U):(ev14n s n D no cpu rno elem).dq=errD s.t (.b (!(inH no))) (l64 18):=by kernel_rfl
theorem d_7 (s:VF) (n:Nat) (D:DF) (cpu rno elem:U):(ev14 true 1000 1 1 7 s n D cpu rno elem .poison).dq = .leaf .tt [0] (some ([z64],some (0,(outV6 s (numW cpu)).t))):=by kernel_rfl
theorem d_7q (q:QF) (n:Nat) (D:DF) (cpu rno elem:U):(ev15 false 1 1 7 q n D cpu rno elem .poison).dq=headD false n D q (K 7) cpu (finD (okPl n D (Nat.beq n n) && !(poQ n D q (K 7) cpu).has) (outQ6 q (numW cpu)).t):=by kernel_rfl
end Go.WE
end
