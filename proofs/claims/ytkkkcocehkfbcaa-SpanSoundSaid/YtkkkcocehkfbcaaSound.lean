/- crossbarlaw04.SpanSound returns true for any two spans and numbers, and its argument reads afterwards as before; no condition. -/
import Derived.Test.YtkkkcocehkfbcaaRows
import Derived.Test.YtkkkcocehkfbcaaC4
import Derived.Test.YtkkkcocehkfbcaaSoundLaw
import Derived.WalkKit
import Derived.ProofKit
import Derived.OpenShut
import Derived.ShutString
import Derived.ChangeOld
import Derived.Below
namespace Go.Proofs.Ytkkkcocehkfbcaa.spanSoundDone
open Go Go.VE Go.ChangeShapes Go.WideShapes Go.ChangeAt Go.RowKit
set_option linter.unusedVariables false
theorem own : ownKnob Try.prog.godebug = none := by kernel_rfl
theorem laidOut : laidOutB Try.prog = true := by kernel_rfl
open Con
set_option maxRecDepth 100000 in
theorem ev (a0_0 : BitVec 64) (a0_1 : BitVec 64) (a0_2 : BitVec 64) (a0_3 : BitVec 64) (a0_4 : BitVec 64) (a0_5 : BitVec 64) (a0_6 : BitVec 64) : evalF { P := Try.prog, eqT := eqTab eqs } Γ5 1000 10 10 [.g [.i .u64 a0_0, .i .u64 a0_1, .i .u64 a0_2, .i .u64 a0_3, .i .u64 a0_4, .i .u64 a0_5, .i .i64 a0_6]] [] = some (.b (spanSoundK a0_0 a0_1 a0_2 a0_3 a0_4 a0_5 a0_6), .a (.b (spanSound a0_0 a0_1 a0_2 a0_3 a0_4 a0_5 a0_6))) := by kernel_rfl

theorem walk (a0_0 : BitVec 64) (a0_1 : BitVec 64) (a0_2 : BitVec 64) (a0_3 : BitVec 64) (a0_4 : BitVec 64) (a0_5 : BitVec 64) (a0_6 : BitVec 64) (w : World) :
    Calls Try.prog 10 #[.agg #[.int .u64 (vof .u64 a0_0), .int .u64 (vof .u64 a0_1), .int .u64 (vof .u64 a0_2), .int .u64 (vof .u64 a0_3), .int .u64 (vof .u64 a0_4), .int .u64 (vof .u64 a0_5), .int .i64 (vof .i64 a0_6)]] w fun e w' => e = .returned (.bool true) ∧ Below w.heap.size w w' := by
  refine (evalF_calls (gw := gw0) (ok := .b (spanSoundK a0_0 a0_1 a0_2 a0_3 a0_4 a0_5 a0_6)) eqsOk Γ5ok ent rfl (ev a0_0 a0_1 a0_2 a0_3 a0_4 a0_5 a0_6) (spanSoundK_true _ _ _ _ _ _ _) trivial (vs := [.agg #[.int .u64 (vof .u64 a0_0), .int .u64 (vof .u64 a0_1), .int .u64 (vof .u64 a0_2), .int .u64 (vof .u64 a0_3), .int .u64 (vof .u64 a0_4), .int .u64 (vof .u64 a0_5), .int .i64 (vof .i64 a0_6)]]) ⟨⟨_, rfl, rfl, rfl, rfl, rfl, rfl, rfl, rfl, trivial⟩, trivial⟩).mono ?_
  rintro e w' ⟨v, rfl, hv, hb⟩
  have hv : v = .bool (spanSound a0_0 a0_1 a0_2 a0_3 a0_4 a0_5 a0_6) := hv
  rw [spanSound_true] at hv
  exact ⟨by rw [hv], hb⟩

theorem kinds26 : kindsOf Try.prog 10 26 = some [some .u64, some .u64, some .u64, some .u64, some .u64, some .u64, some .i64] := by kernel_rfl
theorem agg26 : isAggT Try.prog 26 = some true := by kernel_rfl

set_option maxRecDepth 100000 in
theorem lifted (os : Os) (started : os.Started) (H : Type) (enc : TypeId × Value → H) :
    ReturnsInHanded {} Try.checked os 10 .any (Rows.spanSoundSpec.pre6 enc Try.prog Try.f10 Rows.spanSoundRow.domain false) (Rows.spanSoundSpec.post enc Try.prog Try.f10 false true false false) := by
  refine returnsInHanded_of_change (C := Try.checked) own started (by kernel_rfl) Try.func10
    (ChangeSpec.witness6 (enc := enc) (C := Try.checked) false ⟨#[], #[.agg #[.int .u64 0, .int .u64 0, .int .u64 0, .int .u64 0, .int .u64 0, .int .u64 0, .int .i64 0]], []⟩ 8 (by kernel_rfl) (by kernel_rfl) (by kernel_rfl) (by kernel_rfl)) ?_
  intro W base args ds gs before hval0 hW hcnd _
  have hval : ∀ (j : Nat) t v, Try.f10.params[j]? = some t → args[j]? = some v → Value.okWide Try.prog W .any base t v := hval0
  have hW' := hW
  obtain ⟨p, q, hA0, hV, rfl, hfz, hnd⟩ := hW
  have hA : DataW.TrodAll enc Try.prog W 0 (fun _ => true) true Try.f10.params.toList args.toList ds p := hA0
  rw [Try.params10] at hA hval
  obtain ⟨v0, vs0, d0, ds0, p0, q0, hargs, rfl, rfl, h0, r0⟩ := trodAll_cons hA
  obtain ⟨rfl, rfl, rfl⟩ := trodAll_nil r0
  obtain rfl : args = #[v0] := by cases args; simp_all
  obtain ⟨rfl, rfl⟩ := trodVars_none hV
  have k0 := h0
  have lt0 : ∀ x ∈ p0, x.block < W.heap.size := by obtain ⟨m, hm⟩ := k0; exact DataW.trod_lt m _ _ _ hm
  obtain ⟨cs0, hc0, ha0⟩ := open_arg kinds26 (hval 0 26 v0 rfl rfl) h0
  obtain ⟨a0_0, _, rfl, a0_1, _, rfl, a0_2, _, rfl, a0_3, _, rfl, a0_4, _, rfl, a0_5, _, rfl, a0_6, _, rfl, rfl⟩ := ha0
  rw [valOf_agg agg26] at hc0
  subst hc0
  clear hA0 hval0
  refine (walk a0_0 a0_1 a0_2 a0_3 a0_4 a0_5 a0_6 W).mono fun e W' ⟨he, bel⟩ => ?_
  subst he
  exact ⟨_, rfl, _, _, _, [], _, [], hW', trodAll_mk1 (shut_bool Try.underlying4 _), (trodAll_cons_mk (Below.trod laidOut (by kernel_rfl) (of_decide_eq_true (by kernel_rfl)) k0 bel lt0) trodAll_mk0), rfl, bel.frame _, fun h => by cases h⟩

/-- The statement. -/
theorem proved : Rows.SpanSoundSaid :=
  OpenClaim.holds_of_wide 10 Try.f10 rfl rfl rfl rfl rfl rfl rfl ⟨rfl, rfl, rfl, rfl, rfl⟩ rfl rfl rfl rfl rfl (by kernel_rfl) Try.func10 (by kernel_rfl)
    (of_decide_eq_true (by kernel_rfl)) (by unfold Func.isWrapper; first | (rw [if_pos (by decide +kernel)]; kernel_rfl) | (rw [if_neg (by decide +kernel)]; exact ⟨rfl, rfl⟩))
    (fun os started H enc _ => lifted os started H enc)
#print axioms proved
end Go.Proofs.Ytkkkcocehkfbcaa.spanSoundDone
