/- crossbarlaw01.WordRing returns true for any width and three numbers, and its arguments read afterwards as before; no condition. -/
import Derived.Test.YtnjjcklhpgfnjaaRows
import Derived.Test.YtnjjcklhpgfnjaaRingLaw
import Derived.WalkKit
import Derived.ProofKit
import Derived.OpenShut
import Derived.ShutString
import Derived.ChangeOld
import Derived.Below
namespace Go.Proofs.Ytnjjcklhpgfnjaa.wordRingDone
open Go Go.VE Go.ChangeShapes Go.WideShapes Go.ChangeAt Go.RowKit
set_option linter.unusedVariables false
theorem own : ownKnob Try.prog.godebug = none := by kernel_rfl
theorem laidOut : laidOutB Try.prog = true := by kernel_rfl
open Con
set_option maxRecDepth 100000 in
theorem ev (a0_0 : Bool) (a1_0 : BitVec 64) (a2_0 : BitVec 64) (a3_0 : BitVec 64) : evalF { P := Try.prog, eqT := eqTab eqs } Γ2 600 8 5 [.a (.b a0_0), .a (.i .u64 a1_0), .a (.i .u64 a2_0), .a (.i .u64 a3_0)] [] = ring5 a0_0 a1_0 a2_0 a3_0 := by kernel_rfl

theorem walk (a0_0 : Bool) (a1_0 : BitVec 64) (a2_0 : BitVec 64) (a3_0 : BitVec 64) (w : World) :
    Calls Try.prog 5 #[.bool a0_0, .int .u64 (vof .u64 a1_0), .int .u64 (vof .u64 a2_0), .int .u64 (vof .u64 a3_0)] w fun e w' => e = .returned (.bool true) ∧ Below w.heap.size w w' := by
  obtain ⟨o, he, hok⟩ := ring5_true a0_0 a1_0 a2_0 a3_0
  refine (evalF_calls (gw := gw0) eqsOk Γ2ok ent rfl ((ev a0_0 a1_0 a2_0 a3_0).trans he) hok trivial (vs := [.bool a0_0, .int .u64 (vof .u64 a1_0), .int .u64 (vof .u64 a2_0), .int .u64 (vof .u64 a3_0)]) ⟨rfl, rfl, rfl, rfl, trivial⟩).mono ?_
  rintro e w' ⟨v, rfl, hv, hb⟩
  exact ⟨by rw [show v = .bool true from hv], hb⟩

theorem kinds4 : kindsOf Try.prog 10 4 = some [none] := by kernel_rfl
theorem agg4 : isAggT Try.prog 4 = some false := by kernel_rfl
theorem kinds22 : kindsOf Try.prog 10 22 = some [some .u64] := by kernel_rfl
theorem agg22 : isAggT Try.prog 22 = some false := by kernel_rfl

set_option maxRecDepth 100000 in
theorem lifted (os : Os) (started : os.Started) (H : Type) (enc : TypeId × Value → H) :
    ReturnsInHanded {} Try.checked os 5 .any (Rows.wordRingSpec.pre6 enc Try.prog Try.f5 Rows.wordRingRow.domain false) (Rows.wordRingSpec.post enc Try.prog Try.f5 false true false false) := by
  refine returnsInHanded_of_change (C := Try.checked) own started (by kernel_rfl) Try.func5
    (ChangeSpec.witness6 (enc := enc) (C := Try.checked) false ⟨#[], #[.bool false, .int .u64 0, .int .u64 0, .int .u64 0], []⟩ 8 (by kernel_rfl) (by kernel_rfl) (by kernel_rfl) (by kernel_rfl)) ?_
  intro W base args ds gs before hval0 hW hcnd _
  have hval : ∀ (j : Nat) t v, Try.f5.params[j]? = some t → args[j]? = some v → Value.okWide Try.prog W .any base t v := hval0
  have hW' := hW
  obtain ⟨p, q, hA0, hV, rfl, hfz, hnd⟩ := hW
  have hA : DataW.TrodAll enc Try.prog W 0 (fun _ => true) true Try.f5.params.toList args.toList ds p := hA0
  rw [Try.params5] at hA hval
  obtain ⟨v0, vs0, d0, ds0, p0, q0, hargs, rfl, rfl, h0, r0⟩ := trodAll_cons hA
  obtain ⟨v1, vs1, d1, ds1, p1, q1, rfl, rfl, rfl, h1, r1⟩ := trodAll_cons r0
  obtain ⟨v2, vs2, d2, ds2, p2, q2, rfl, rfl, rfl, h2, r2⟩ := trodAll_cons r1
  obtain ⟨v3, vs3, d3, ds3, p3, q3, rfl, rfl, rfl, h3, r3⟩ := trodAll_cons r2
  obtain ⟨rfl, rfl, rfl⟩ := trodAll_nil r3
  obtain rfl : args = #[v0, v1, v2, v3] := by cases args; simp_all
  obtain ⟨rfl, rfl⟩ := trodVars_none hV
  have k0 := h0
  have lt0 : ∀ x ∈ p0, x.block < W.heap.size := by obtain ⟨m, hm⟩ := k0; exact DataW.trod_lt m _ _ _ hm
  obtain ⟨cs0, hc0, ha0⟩ := open_arg kinds4 (hval 0 4 v0 rfl rfl) h0
  obtain ⟨a0_0, _, rfl, rfl⟩ := ha0
  rw [valOf_one agg4] at hc0
  subst hc0
  have k1 := h1
  have lt1 : ∀ x ∈ p1, x.block < W.heap.size := by obtain ⟨m, hm⟩ := k1; exact DataW.trod_lt m _ _ _ hm
  obtain ⟨cs1, hc1, ha1⟩ := open_arg kinds22 (hval 1 22 v1 rfl rfl) h1
  obtain ⟨a1_0, _, rfl, rfl⟩ := ha1
  rw [valOf_one agg22] at hc1
  subst hc1
  have k2 := h2
  have lt2 : ∀ x ∈ p2, x.block < W.heap.size := by obtain ⟨m, hm⟩ := k2; exact DataW.trod_lt m _ _ _ hm
  obtain ⟨cs2, hc2, ha2⟩ := open_arg kinds22 (hval 2 22 v2 rfl rfl) h2
  obtain ⟨a2_0, _, rfl, rfl⟩ := ha2
  rw [valOf_one agg22] at hc2
  subst hc2
  have k3 := h3
  have lt3 : ∀ x ∈ p3, x.block < W.heap.size := by obtain ⟨m, hm⟩ := k3; exact DataW.trod_lt m _ _ _ hm
  obtain ⟨cs3, hc3, ha3⟩ := open_arg kinds22 (hval 3 22 v3 rfl rfl) h3
  obtain ⟨a3_0, _, rfl, rfl⟩ := ha3
  rw [valOf_one agg22] at hc3
  subst hc3
  clear hA0 hval0
  refine (walk a0_0 a1_0 a2_0 a3_0 W).mono fun e W' ⟨he, bel⟩ => ?_
  subst he
  exact ⟨_, rfl, _, _, _, [], _, [], hW', trodAll_mk1 (shut_bool Try.underlying4 _), (trodAll_cons_mk (Below.trod laidOut (by kernel_rfl) (of_decide_eq_true (by kernel_rfl)) k0 bel lt0) (trodAll_cons_mk (Below.trod laidOut (by kernel_rfl) (of_decide_eq_true (by kernel_rfl)) k1 bel lt1) (trodAll_cons_mk (Below.trod laidOut (by kernel_rfl) (of_decide_eq_true (by kernel_rfl)) k2 bel lt2) (trodAll_cons_mk (Below.trod laidOut (by kernel_rfl) (of_decide_eq_true (by kernel_rfl)) k3 bel lt3) trodAll_mk0)))), rfl, bel.frame _, fun h => by cases h⟩

/-- The statement. -/
theorem proved : Rows.WordRingSaid :=
  OpenClaim.holds_of_wide 5 Try.f5 rfl rfl rfl rfl rfl rfl rfl ⟨rfl, rfl, rfl, rfl, rfl⟩ rfl rfl rfl rfl rfl (by kernel_rfl) Try.func5 (by kernel_rfl)
    (of_decide_eq_true (by kernel_rfl)) (by unfold Func.isWrapper; first | (rw [if_pos (by decide +kernel)]; kernel_rfl) | (rw [if_neg (by decide +kernel)]; exact ⟨rfl, rfl⟩))
    (fun os started H enc _ => lifted os started H enc)
#print axioms proved
end Go.Proofs.Ytnjjcklhpgfnjaa.wordRingDone
