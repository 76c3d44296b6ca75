/- The helpers' seat: the program that is walked; recovered panics. -/
import Derived.Test.YtcbijmamfbfelaaRows
import Derived.Test.YtcbijmamfbfelaaWE34
import Derived.WalkKit
import Derived.Defers
import Derived.Recover
namespace Go.WE
set_option linter.unusedVariables false
open Go Go.Proofs
theorem entH : entersAll Try.prog = true := by kernel_rfl

theorem evalStore_ext {P : Program} {h : H} {t : TypeId} {x : A} {y : V} {r : OpR} (he : evalStore P h t x y = some r) : Ext h r.h := by
  unfold evalStore at he
  split at he
  · split at he
    · rename_i b v hb _
      split at he
      · rename_i hx
        simp only [Bool.and_eq_true] at hx
        split at he
        · cases he; exact (see_ext h _).trans (put_ext (by exact hb) hx.1 rfl)
        · cases he
      · cases he
    · cases he
  · cases he
theorem rel_two {ν : Nu} {x : A} {us : List Value} (h : relV ν [.t (.a x)] us) : ∃ vx, us = [vx] ∧ x.rel ν vx := by
  cases us with
  | nil => exact h.elim
  | cons v vs => cases vs with
    | nil => exact ⟨v, rfl, h.1⟩
    | cons _ _ => exact h.2.elim

/-- What a deferred call that catches has to do: idle in a frame that returns; in one that panics with an error, the error is laid. -/
structure Catches (f : FuncId) (ty st : TypeId) : Prop where
  idle : ∀ (p : Value) (w : World), CallsD Try.prog f #[p] .returning w fun e u' w' => e = .returned (.tuple #[]) ∧ u' = .returning ∧ w' = w
  pan : ∀ (a : Addr) (k : IntKind) (n : Int) (w w' : World), (Instr.storeAt st (.pointer (some a)) (.int k n)).run Try.prog w = .ok () w' →
    CallsD Try.prog f #[.pointer (some a)] (.panicking [{ v := .iface ty (.int k n), recovered := false }]) w fun e u' w1 =>
      e = .returned (.tuple #[]) ∧ u' = .panicking [{ v := .iface ty (.int k n), recovered := true }] ∧ w1 = w'
  ent : Enters Try.prog f

theorem ta_ok82 (x : Value) (w : World) : (Instr.typeAssert (.iface 82 x) 20 82 false).run Try.prog w = .ok x w := by
  simp [Instr.typeAssert]
theorem ta_ok33 (x : Value) (w : World) : (Instr.typeAssert (.iface 33 x) 20 33 false).run Try.prog w = .ok x w := by
  simp [Instr.typeAssert]

theorem catches20 : Catches 20 82 33 where
  idle := by
    intro p w
    refine callsD_of_wpS Try.func20 rfl fun c₀ cs hu => ?_
    apply wpS_seq
    apply wpS_region
    simp [wpOpsS, go_sem, recoverD, hu, Try.ntmps20, Exit.thenS]
    apply wpS_seq
    apply wpS_region
    simp [wpOpsS, go_sem, recoverD, hu, Exit.thenS]
    refine wpS_cond (t := false) (by simp [Act.eval, Array.replicate]) ?_
    simp only [Bool.false_eq_true, if_false]
    refine wpS_of_wp (wp_skip ?_)
    cases c₀
    simp_all [bodyPostS, results, Try.results20]
  pan := by
    intro a k n w w' hs
    refine callsD_of_wpS Try.func20 rfl fun c₀ cs hu => ?_
    apply wpS_seq
    apply wpS_region
    simp [wpOpsS, go_sem, recoverD, hu, Try.ntmps20, Exit.thenS]
    apply wpS_seq
    apply wpS_region
    simp [wpOpsS, go_sem, recoverD, Exit.thenS]
    refine wpS_cond (t := true) (by simp [Act.eval, Array.replicate]) ?_
    simp only [if_true]
    apply wpS_region
    simp [go_sem] at hs
    simp [wpOpsS, go_sem, hs, ta_ok82, bodyPostS, results, Try.results20]
  ent := enters_of entH 20 _ Try.func20 (by simp [Try.f20])
theorem catches15 : Catches 15 33 33 where
  idle := by
    intro p w
    refine callsD_of_wpS Try.func15 rfl fun c₀ cs hu => ?_
    apply wpS_seq
    apply wpS_region
    simp [wpOpsS, go_sem, recoverD, hu, Try.ntmps15, Exit.thenS]
    apply wpS_seq
    apply wpS_region
    simp [wpOpsS, go_sem, recoverD, hu, Exit.thenS]
    refine wpS_cond (t := false) (by simp [Act.eval, Array.replicate]) ?_
    simp only [Bool.false_eq_true, if_false]
    refine wpS_of_wp (wp_skip ?_)
    cases c₀
    simp_all [bodyPostS, results, Try.results15]
  pan := by
    intro a k n w w' hs
    refine callsD_of_wpS Try.func15 rfl fun c₀ cs hu => ?_
    apply wpS_seq
    apply wpS_region
    simp [wpOpsS, go_sem, recoverD, hu, Try.ntmps15, Exit.thenS]
    apply wpS_seq
    apply wpS_region
    simp [wpOpsS, go_sem, recoverD, Exit.thenS]
    refine wpS_cond (t := true) (by simp [Act.eval, Array.replicate]) ?_
    simp only [if_true]
    apply wpS_region
    simp [go_sem] at hs
    simp [wpOpsS, go_sem, hs, ta_ok33, bodyPostS, results, Try.results15]
  ent := enters_of entH 15 _ Try.func15 (by simp [Try.f15])

/-- One that catches, by the evaluator. -/
noncomputable def catchD (ty st : TypeId) : List V → Option A → H → Option (Option A × A × H)
  | vs, none, h => match vs with
    | [.t (.a _)] => some (none, .tt, h)
    | _ => none
  | vs, some (.iface t x), h => match Nat.beq t ty, vs with
    | true, [.t (.a (.ptr id p))] => match x with
      | .lit k n => match evalStore Try.prog h st (.ptr id p) (.t (.a (.lit k n))) with
        | some r => some (none, r.ok, r.h)
        | none => none
      | _ => none
    | _, _ => none
  | _, _, _ => none
noncomputable def dfrH : DfrE := fun f vs u h => match Nat.beq f 20 with
  | true => catchD 82 33 vs u h
  | false => match Nat.beq f 15 with
    | true => catchD 33 33 vs u h
    | false => none

theorem catchD_ext {ty st : TypeId} {vs : List V} {u : Option A} {h : H} {r : Option A × A × H} (he : catchD ty st vs u h = some r) : Ext h r.2.2 := by
  unfold catchD at he
  repeat' split at he
  all_goals first | (cases he; exact Ext.refl _) | (cases he; exact evalStore_ext (by assumption)) | cases he

theorem catchD_ok {f : FuncId} {ty st : TypeId} (C : Catches f ty st) {vs : List V} {u : Option A} {h : H} {u' : Option A} {ok : A} {h' : H} (he : catchD ty st vs u h = some (u', ok, h')) (hok : okB ok = true) : Enters Try.prog f ∧ ∀ (S : Nat → Prop) ν w us uv,
      (∀ i, i ∈ h'.rd → S i) → (∀ i, i ∈ h'.wr → S i) → Mem S ν w h → relV ν vs us → ModeRel ν u uv →
      CallsD Try.prog f us.toArray uv w (fun e um w' => (∃ v, e = .returned v) ∧ ∃ ν', ModeRel ν' u' (settle um) ∧ Goes S ν w h ν' w' h') := by
  unfold catchD at he
  split at he
  · split at he
    · rename_i x
      simp only [Option.some.injEq, Prod.mk.injEq] at he
      obtain ⟨rfl, rfl, rfl⟩ := he
      refine ⟨C.ent, fun S ν w us uv hrd hwr hm hvs hu => ?_⟩
      obtain ⟨p, rfl, _⟩ := rel_two hvs
      simp only [ModeRel] at hu
      subst hu
      refine (C.idle p w).mono ?_
      rintro e um w' ⟨rfl, rfl, rfl⟩
      exact ⟨⟨_, rfl⟩, ν, rfl, Goes.refl hm⟩
    · cases he
  · rename_i t x
    split at he
    · rename_i id p ht
      split at he
      · rename_i k n
        split at he
        · rename_i r hr
          simp only [Option.some.injEq, Prod.mk.injEq] at he
          obtain ⟨rfl, rfl, rfl⟩ := he
          have ht := Go.WE.beq_true ht
          subst ht
          refine ⟨C.ent, fun S ν w us uv hrd hwr hm hvs hu => ?_⟩
          obtain ⟨pv, rfl, hp⟩ := rel_two hvs
          simp only [ModeRel, A.rel] at hu
          obtain ⟨_, rfl, _, rfl, rfl, hn⟩ := hu
          have hp' := hp
          simp only [A.rel] at hp'
          obtain ⟨b, base, hb, rfl⟩ := hp'
          obtain ⟨w', h1, _, h3⟩ := evalStore_sound (P := Try.prog) (w := w) hr hok hm hrd hp (y := .t (.a (.lit k n))) (vy := .int k n) (by show (A.lit k n).rel ν _; simp only [A.rel]; exact ⟨trivial, hn⟩)
          refine (C.pan _ k n w w' h1).mono ?_
          rintro e um w1 ⟨rfl, rfl, rfl⟩
          exact ⟨⟨_, rfl⟩, ν, rfl, h3⟩
        · cases he
      · cases he
    · cases he
  · cases he

theorem dfrH_ok : DfrOK Try.prog dfrH := by
  refine ⟨fun f vs u h u' ok h' he _ => ?_, fun f vs u h u' ok h' he hok => ?_⟩
  · unfold dfrH at he
    split at he
    · exact catchD_ext he
    · split at he
      · exact catchD_ext he
      · cases he
  · unfold dfrH at he
    split at he
    · rename_i hf
      have hf := Go.WE.beq_true hf
      subst hf
      exact catchD_ok catches20 he hok
    · split at he
      · rename_i hf
        have hf := Go.WE.beq_true hf
        subst hf
        exact catchD_ok catches15 he hok
      · cases he

def eqsH : List (TypeId × List Bool) := [(38, [false, false, false, false])]
noncomputable abbrev cxH : Cx := { P := Try.prog, eqT := eqTab eqsH, dfr := dfrH }
theorem eqsHOk : eqTabOk Try.prog eqsH = true := by kernel_rfl
theorem XH {Γ : Gam} (h : ΓOK Try.prog Γ) : CxOK cxH Γ := ⟨eqOK_of eqsHOk rfl, h, dfrH_ok, noLam _ _ _ _, enters_of entH⟩
end Go.WE
