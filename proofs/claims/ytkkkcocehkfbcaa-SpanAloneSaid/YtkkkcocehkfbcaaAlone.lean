/- crossbarlaw04.SpanAlone returns true for any three numbers, and its arguments read afterwards as before; no condition. -/
import Derived.Test.YtkkkcocehkfbcaaRows
import Derived.Test.YtkkkcocehkfbcaaC4
import Derived.Test.YtkkkcocehkfbcaaAloneLaw
import Derived.WalkKit
import Derived.ProofKit
import Derived.OpenShut
import Derived.ShutString
import Derived.ChangeOld
import Derived.Below
namespace Go.Proofs.Ytkkkcocehkfbcaa.spanAloneDone
open Go Go.VE Go.ChangeShapes Go.WideShapes Go.ChangeAt Go.RowKit
set_option linter.unusedVariables false
theorem own : ownKnob Try.prog.godebug = none := by kernel_rfl
theorem laidOut : laidOutB Try.prog = true := by kernel_rfl
open Con
set_option maxRecDepth 100000 in
theorem ev (a0_0 : BitVec 64) (a1_0 : BitVec 64) (a2_0 : BitVec 64) : evalF { P := Try.prog, eqT := eqTab eqs } Γ5 1000 10 9 [.a (.i .u64 a0_0), .a (.i .u64 a1_0), .a (.i .i64 a2_0)] [] = some (.b (spanAloneK a0_0 a1_0 a2_0), .a (.b (spanAlone a0_0 a1_0 a2_0))) := by kernel_rfl

theorem walk (a0_0 : BitVec 64) (a1_0 : BitVec 64) (a2_0 : BitVec 64) (w : World) :
    Calls Try.prog 9 #[.int .u64 (vof .u64 a0_0), .int .u64 (vof .u64 a1_0), .int .i64 (vof .i64 a2_0)] w fun e w' => e = .returned (.bool true) ∧ Below w.heap.size w w' := by
  refine (evalF_calls (gw := gw0) (ok := .b (spanAloneK a0_0 a1_0 a2_0)) eqsOk Γ5ok ent rfl (ev a0_0 a1_0 a2_0) (spanAloneK_true _ _ _) trivial (vs := [.int .u64 (vof .u64 a0_0), .int .u64 (vof .u64 a1_0), .int .i64 (vof .i64 a2_0)]) ⟨rfl, rfl, rfl, trivial⟩).mono ?_
  rintro e w' ⟨v, rfl, hv, hb⟩
  have hv : v = .bool (spanAlone a0_0 a1_0 a2_0) := hv
  rw [spanAlone_true] at hv
  exact ⟨by rw [hv], hb⟩

theorem kinds3 : kindsOf Try.prog 10 3 = some [some .i64] := by kernel_rfl
theorem agg3 : isAggT Try.prog 3 = some false := by kernel_rfl
theorem kinds22 : kindsOf Try.prog 10 22 = some [some .u64] := by kernel_rfl
theorem agg22 : isAggT Try.prog 22 = some false := by kernel_rfl

set_option maxRecDepth 100000 in
theorem lifted (os : Os) (started : os.Started) (H : Type) (enc : TypeId × Value → H) :
    ReturnsInHanded {} Try.checked os 9 .any (Rows.spanAloneSpec.pre6 enc Try.prog Try.f9 Rows.spanAloneRow.domain false) (Rows.spanAloneSpec.post enc Try.prog Try.f9 false true false false) := by
  refine returnsInHanded_of_change (C := Try.checked) own started (by kernel_rfl) Try.func9
    (ChangeSpec.witness6 (enc := enc) (C := Try.checked) false ⟨#[], #[.int .u64 0, .int .u64 0, .int .i64 0], []⟩ 8 (by kernel_rfl) (by kernel_rfl) (by kernel_rfl) (by kernel_rfl)) ?_
  intro W base args ds gs before hval0 hW hcnd _
  have hval : ∀ (j : Nat) t v, Try.f9.params[j]? = some t → args[j]? = some v → Value.okWide Try.prog W .any base t v := hval0
  have hW' := hW
  obtain ⟨p, q, hA0, hV, rfl, hfz, hnd⟩ := hW
  have hA : DataW.TrodAll enc Try.prog W 0 (fun _ => true) true Try.f9.params.toList args.toList ds p := hA0
  rw [Try.params9] at hA hval
  obtain ⟨v0, vs0, d0, ds0, p0, q0, hargs, rfl, rfl, h0, r0⟩ := trodAll_cons hA
  obtain ⟨v1, vs1, d1, ds1, p1, q1, rfl, rfl, rfl, h1, r1⟩ := trodAll_cons r0
  obtain ⟨v2, vs2, d2, ds2, p2, q2, rfl, rfl, rfl, h2, r2⟩ := trodAll_cons r1
  obtain ⟨rfl, rfl, rfl⟩ := trodAll_nil r2
  obtain rfl : args = #[v0, v1, v2] := by cases args; simp_all
  obtain ⟨rfl, rfl⟩ := trodVars_none hV
  have k0 := h0
  have lt0 : ∀ x ∈ p0, x.block < W.heap.size := by obtain ⟨m, hm⟩ := k0; exact DataW.trod_lt m _ _ _ hm
  obtain ⟨cs0, hc0, ha0⟩ := open_arg kinds22 (hval 0 22 v0 rfl rfl) h0
  obtain ⟨a0_0, _, rfl, rfl⟩ := ha0
  rw [valOf_one agg22] at hc0
  subst hc0
  have k1 := h1
  have lt1 : ∀ x ∈ p1, x.block < W.heap.size := by obtain ⟨m, hm⟩ := k1; exact DataW.trod_lt m _ _ _ hm
  obtain ⟨cs1, hc1, ha1⟩ := open_arg kinds22 (hval 1 22 v1 rfl rfl) h1
  obtain ⟨a1_0, _, rfl, rfl⟩ := ha1
  rw [valOf_one agg22] at hc1
  subst hc1
  have k2 := h2
  have lt2 : ∀ x ∈ p2, x.block < W.heap.size := by obtain ⟨m, hm⟩ := k2; exact DataW.trod_lt m _ _ _ hm
  obtain ⟨cs2, hc2, ha2⟩ := open_arg kinds3 (hval 2 3 v2 rfl rfl) h2
  obtain ⟨a2_0, _, rfl, rfl⟩ := ha2
  rw [valOf_one agg3] at hc2
  subst hc2
  clear hA0 hval0
  refine (walk a0_0 a1_0 a2_0 W).mono fun e W' ⟨he, bel⟩ => ?_
  subst he
  exact ⟨_, rfl, _, _, _, [], _, [], hW', trodAll_mk1 (shut_bool Try.underlying4 _), (trodAll_cons_mk (Below.trod laidOut (by kernel_rfl) (of_decide_eq_true (by kernel_rfl)) k0 bel lt0) (trodAll_cons_mk (Below.trod laidOut (by kernel_rfl) (of_decide_eq_true (by kernel_rfl)) k1 bel lt1) (trodAll_cons_mk (Below.trod laidOut (by kernel_rfl) (of_decide_eq_true (by kernel_rfl)) k2 bel lt2) trodAll_mk0))), rfl, bel.frame _, fun h => by cases h⟩

/-- The statement. -/
theorem proved : Rows.SpanAloneSaid :=
  OpenClaim.holds_of_wide 9 Try.f9 rfl rfl rfl rfl rfl rfl rfl ⟨rfl, rfl, rfl, rfl, rfl⟩ rfl rfl rfl rfl rfl (by kernel_rfl) Try.func9 (by kernel_rfl)
    (of_decide_eq_true (by kernel_rfl)) (by unfold Func.isWrapper; first | (rw [if_pos (by decide +kernel)]; kernel_rfl) | (rw [if_neg (by decide +kernel)]; exact ⟨rfl, rfl⟩))
    (fun os started H enc _ => lifted os started H enc)
#print axioms proved
end Go.Proofs.Ytkkkcocehkfbcaa.spanAloneDone
