/- crossbarlaw23.ValueBack returns true for any which, at, v, and its arguments read afterwards as before; condition: the table crossbar/insn.atomics holds at the call what the program's text lays (the card ties it). -/
import Derived.Test.YtokinbmadcaheaaDoorRows
import Derived.Test.YtokinbmadcaheaaDoorTie
import Derived.Test.YtokinbmadcaheaaDoorCards
import Derived.Test.YtokinbmadcaheaaDoorBackLaw
import Derived.WalkKit
import Derived.ProofKit
import Derived.OpenShut
import Derived.ShutString
import Derived.ChangeOld
import Derived.Below
import Derived.LaidMore
import Derived.Stop.Joined
import Derived.SevenTiedAt
namespace Go.Proofs.YtokinbmadcaheaaDoor.valueBackDone
open Go Go.WE Go.ChangeShapes Go.WideShapes Go.ChangeAt Go.RowKit
set_option linter.unusedVariables false
theorem own : ownKnob Tryd.prog.godebug = none := by kernel_rfl
theorem laidOut : laidOutB Tryd.prog = true := by kernel_rfl
def laid : List (String × DataW Unit) := [("crossbar/insn.atomics", Rows.laid_crossbar_insn_atomics)]
theorem door_met (os : Os) (args : Array Value) : laidMetH Tryd.prog laid ((World.doorLaid Tryd.prog 4000 os).forCall (fun _ _ => 0) ⟨#[], args, []⟩).memory :=
  laidMetH_of_parts3 (fuel := 8) (laidMet_of_run' 8 (by kernel_rfl) (by kernel_rfl)) (by kernel_rfl) (by kernel_rfl)

theorem walk (a0_0 : BitVec 64) (a1_0 : BitVec 64) (a2_0 : BitVec 64) {W : World} :
    Calls Tryd.prog 4 #[.int .i64 (vof .i64 a0_0), .int .i64 (vof .i64 a1_0), .int .u64 (vof .u64 a2_0)] W fun e w' => e = .returned (.bool true) ∧ Below W.heap.size W w' := by
  have way : ∀ {Γ : Gam} {p : Bool × Bool}, ΓOK Tryd.prog Γ → Γ 4 (backArgs a0_0 a1_0 a2_0) H.none = none → (evalF cxB Γ 400 20 4 (backArgs a0_0 a1_0 a2_0) H.none).res = some (.b p.1, .t (.a (.b p.2))) → p = (true, true) →
      Calls Tryd.prog 4 #[.int .i64 (vof .i64 a0_0), .int .i64 (vof .i64 a1_0), .int .u64 (vof .u64 a2_0)] W fun e w' => e = .returned (.bool true) ∧ Below W.heap.size W w' := by
    intro Γ p hΓ hn he hp
    refine (top_calls (XB hΓ) hn he (show p.1 = true by rw [hp]) (vs := [.int .i64 (vof .i64 a0_0), .int .i64 (vof .i64 a1_0), .int .u64 (vof .u64 a2_0)]) (relV_cons vrel_i (relV_cons vrel_i (relV_cons vrel_i relV_nil))) W).mono ?_
    rintro e w' ⟨u, ν', rfl, hu, hb⟩
    have hu : u = .bool p.2 := hu
    rw [hp] at hu
    exact ⟨by rw [hu], hb⟩
  obtain ⟨q, hq, eq⟩ := pick_cases 300 (by omega) (by omega) a1_0
  have eq : pickT 300 a1_0 = K (Int.ofNat q) := eq
  rcases pick4_cases a0_0 with hp | hp | hp | hp
  · exact way (works_ok (new_ok (pin_ok (by decide) (by decide) pick4_ev noΓ_ok))) rfl (vb0_ev a0_0 a1_0 a2_0) (by rw [hp, eq, beq_self_eq_true]; exact vb0_ok hq _)
  · exact way (works_ok (new_ok (pin_ok (by decide) (by decide) pick4_ev noΓ_ok))) rfl (vb1_ev a0_0 a1_0 a2_0) (by rw [hp, eq, beq_self_eq_true]; exact vb1_ok hq _)
  · exact way (works_ok (new_ok (pin_ok (by decide) (by decide) pick4_ev noΓ_ok))) rfl (vb2_ev a0_0 a1_0 a2_0) (by rw [hp, eq, beq_self_eq_true]; exact vb2_ok hq _)
  · exact way (works_ok (new_ok (pin_ok (by decide) (by decide) pick4_ev noΓ_ok))) rfl (vb3_ev a0_0 a1_0 a2_0) (by rw [hp, eq, beq_self_eq_true]; exact vb3_ok hq _)

theorem kinds3 : kindsOf Tryd.prog 10 3 = some [some .i64] := by kernel_rfl
theorem agg3 : isAggT Tryd.prog 3 = some false := by kernel_rfl
theorem kinds22 : kindsOf Tryd.prog 10 22 = some [some .u64] := by kernel_rfl
theorem agg22 : isAggT Tryd.prog 22 = some false := by kernel_rfl

set_option maxRecDepth 100000 in
theorem lifted (os : Os) (started : os.Started) (H : Type) (enc : TypeId × Value → H) :
    ReturnsInHanded {} Tryd.checked os 4 .any (fun w args => (Rows.valueBackSpec.pre enc Tryd.prog Tryd.f4 [] false w args ∧ laidMetH Tryd.prog laid w) ∧ sizedMet enc Tryd.prog Tryd.f4 (OpenSpec.ofChange Rows.valueBackSpec) false w args)
      (Rows.valueBackSpec.post enc Tryd.prog Tryd.f4 false true false false) := by
  refine returnsInHanded_of_change_and (C := Tryd.checked) (X := fun w _ => laidMetH Tryd.prog laid w) (fun _ _ _ hh h => h.of_heap hh) own started (by kernel_rfl) Tryd.func4
    (ChangeSpec.witness_shaped (enc := enc) (C := Tryd.checked) (os := os) (X := fun w _ => laidMetH Tryd.prog laid w) false (World.doorLaid Tryd.prog 4000 os) #[.int .i64 0, .int .i64 0, .int .u64 0] 8 rfl (World.shaped_of_RefB (by kernel_rfl) (by kernel_rfl)) (by kernel_rfl) (by kernel_rfl) (by kernel_rfl) (door_met os _)) ?_
  intro W base args ds gs before hval0 hW _ _ hL _
  have hval : ∀ (j : Nat) t v, Tryd.f4.params[j]? = some t → args[j]? = some v → Value.okWide Tryd.prog W .any base t v := hval0
  have hW' := hW
  obtain ⟨p, q, hA0, hV, rfl, hfz, hnd⟩ := hW
  have hA : DataW.TrodAll enc Tryd.prog W 0 (fun _ => true) true Tryd.f4.params.toList args.toList ds p := hA0
  rw [Tryd.params4] at hA hval
  obtain ⟨v0, vs0, d0, ds0, p0, q0, hargs, rfl, rfl, h0, r0⟩ := trodAll_cons hA
  obtain ⟨v1, vs1, d1, ds1, p1, q1, rfl, rfl, rfl, h1, r1⟩ := trodAll_cons r0
  obtain ⟨v2, vs2, d2, ds2, p2, q2, rfl, rfl, rfl, h2, r2⟩ := trodAll_cons r1
  obtain ⟨rfl, rfl, rfl⟩ := trodAll_nil r2
  obtain rfl : args = #[v0, v1, v2] := by cases args; simp_all
  obtain ⟨rfl, rfl⟩ := trodVars_none hV
  have k0 := h0
  have lt0 : ∀ x ∈ p0, x.block < W.heap.size := by obtain ⟨m, hm⟩ := k0; exact DataW.trod_lt m _ _ _ hm
  obtain ⟨cs0, hc0, ha0⟩ := open_arg kinds3 (hval 0 3 v0 rfl rfl) h0
  obtain ⟨a0_0, _, rfl, rfl⟩ := ha0
  rw [valOf_one agg3] at hc0
  subst hc0
  have k1 := h1
  have lt1 : ∀ x ∈ p1, x.block < W.heap.size := by obtain ⟨m, hm⟩ := k1; exact DataW.trod_lt m _ _ _ hm
  obtain ⟨cs1, hc1, ha1⟩ := open_arg kinds3 (hval 1 3 v1 rfl rfl) h1
  obtain ⟨a1_0, _, rfl, rfl⟩ := ha1
  rw [valOf_one agg3] at hc1
  subst hc1
  have k2 := h2
  have lt2 : ∀ x ∈ p2, x.block < W.heap.size := by obtain ⟨m, hm⟩ := k2; exact DataW.trod_lt m _ _ _ hm
  obtain ⟨cs2, hc2, ha2⟩ := open_arg kinds22 (hval 2 22 v2 rfl rfl) h2
  obtain ⟨a2_0, _, rfl, rfl⟩ := ha2
  rw [valOf_one agg22] at hc2
  subst hc2
  clear hA0 hval0
  refine (walk a0_0 a1_0 a2_0).mono fun e W' ⟨he, bel⟩ => ?_
  subst he
  exact ⟨_, rfl, _, _, _, [], _, [], hW', trodAll_mk1 (shut_bool Tryd.underlying4 _), (trodAll_cons_mk (Below.trod laidOut (by kernel_rfl) (of_decide_eq_true (by kernel_rfl)) k0 bel lt0) (trodAll_cons_mk (Below.trod laidOut (by kernel_rfl) (of_decide_eq_true (by kernel_rfl)) k1 bel lt1) (trodAll_cons_mk (Below.trod laidOut (by kernel_rfl) (of_decide_eq_true (by kernel_rfl)) k2 bel lt2) trodAll_mk0))), rfl, bel.frame _, fun h => by cases h⟩

theorem row : Rows.ValueBackSaid :=
  OpenClaim.holds_of_wide 4 Tryd.f4 rfl rfl rfl rfl rfl rfl rfl ⟨rfl, rfl, rfl, rfl, rfl⟩ rfl rfl rfl rfl rfl (by kernel_rfl) Tryd.func4 (by kernel_rfl)
    (of_decide_eq_true (by kernel_rfl)) (by unfold Func.isWrapper; first | (rw [if_pos (by decide +kernel)]; kernel_rfl) | (rw [if_neg (by decide +kernel)]; exact ⟨rfl, rfl⟩))
    (fun os started H enc _ => lifted os started H enc)

/-- The statement. -/
theorem proved : Rows.ValueBackCardSaid :=
  Claim7.holds_tied_plain_at .later [] [.widerDeep] true (true, "c17c37c4a8a40e033a8ec30f0d20fb8d7a08c20ca55353b90ecc120908b06b24") true
    row (fun _ h => by cases h) (by kernel_rfl) (fun _ h => by cases h) valueBack_row_tie rfl ⟨rfl, rfl⟩ (by kernel_rfl) rfl
    (fun f fn hf hfn => by
      obtain rfl : f = 4 := Option.some.inj ((show Tryd.prog.funcNamed "crossbar/crossbarlaw23.ValueBack" = some 4 by kernel_rfl).symm.trans hf) |>.symm
      obtain rfl : fn = Tryd.f4 := (Option.some.inj (Tryd.func4.symm.trans hfn)).symm
      exact ⟨by kernel_rfl, fun j t ht => by
        rw [Tryd.params4] at ht
        have hm : t ∈ [3, 3, 22] := by simpa using Array.mem_of_getElem? ht
        have hall : ([3, 3, 22].all fun u => !Tryd.prog.wantsStandIn u) = true := by kernel_rfl
        exact (show Tryd.prog.wantsStandIn t = false by simpa using List.all_eq_true.1 hall t hm)⟩)
    (by kernel_rfl)
#print axioms proved
end Go.Proofs.YtokinbmadcaheaaDoor.valueBackDone
