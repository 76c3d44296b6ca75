/- crossbarlaw23.ValueSpills returns true for any p, slot, at, b, and its arguments read afterwards as before; condition: the table crossbar/insn.atomics holds at the call what the program's text lays (the card ties it). -/
import Derived.Test.YtokinbmadcaheaaDoorRows
import Derived.Test.YtokinbmadcaheaaDoorTie
import Derived.Test.YtokinbmadcaheaaDoorCards
import Derived.Test.YtokinbmadcaheaaDoorSpillLaw
import Derived.WalkKit
import Derived.ProofKit
import Derived.OpenShut
import Derived.ShutString
import Derived.ChangeOld
import Derived.Below
import Derived.LaidMore
import Derived.Stop.Joined
import Derived.SevenTiedAt
namespace Go.Proofs.YtokinbmadcaheaaDoor.valueSpillsDone
open Go Go.WE Go.ChangeShapes Go.WideShapes Go.ChangeAt Go.RowKit
set_option linter.unusedVariables false
theorem own : ownKnob Tryd.prog.godebug = none := by kernel_rfl
theorem laidOut : laidOutB Tryd.prog = true := by kernel_rfl
def laid : List (String × DataW Unit) := [("crossbar/insn.atomics", Rows.laid_crossbar_insn_atomics)]
theorem door_met (os : Os) (args : Array Value) : laidMetH Tryd.prog laid ((World.doorLaid Tryd.prog 4000 os).forCall (fun _ _ => 0) ⟨#[], args, []⟩).memory :=
  laidMetH_of_parts3 (fuel := 8) (laidMet_of_run' 8 (by kernel_rfl) (by kernel_rfl)) (by kernel_rfl) (by kernel_rfl)

theorem walk (a0_0 : BitVec 64) (a0_1 : BitVec 64) (a0_2 : BitVec 64) (a0_3 : BitVec 64) (a1_0 : BitVec 64) (a2_0 : BitVec 64) (a3_0 : BitVec 64) {W : World} :
    Calls Tryd.prog 5 #[.agg #[.int .i64 (vof .i64 a0_0), .int .u64 (vof .u64 a0_1), .int .i64 (vof .i64 a0_2), .int .i64 (vof .i64 a0_3)], .int .i64 (vof .i64 a1_0), .int .i64 (vof .i64 a2_0), .int .u8 (vof .u8 a3_0)] W fun e w' => e = .returned (.bool true) ∧ Below W.heap.size W w' := by
  have way : ∀ {Γ : Gam} {p : Bool × Bool}, ΓOK Tryd.prog Γ → Γ 5 (spillArgs a0_0 a0_1 a0_2 a0_3 a1_0 a2_0 a3_0) H.none = none → (evalF cxB Γ 400 20 5 (spillArgs a0_0 a0_1 a0_2 a0_3 a1_0 a2_0 a3_0) H.none).res = some (.b p.1, .t (.a (.b p.2))) → p = (true, true) →
      Calls Tryd.prog 5 #[.agg #[.int .i64 (vof .i64 a0_0), .int .u64 (vof .u64 a0_1), .int .i64 (vof .i64 a0_2), .int .i64 (vof .i64 a0_3)], .int .i64 (vof .i64 a1_0), .int .i64 (vof .i64 a2_0), .int .u8 (vof .u8 a3_0)] W fun e w' => e = .returned (.bool true) ∧ Below W.heap.size W w' := by
    intro Γ p hΓ hn he hp
    refine (top_calls (XB hΓ) hn he (show p.1 = true by rw [hp]) (vs := [.agg #[.int .i64 (vof .i64 a0_0), .int .u64 (vof .u64 a0_1), .int .i64 (vof .i64 a0_2), .int .i64 (vof .i64 a0_3)], .int .i64 (vof .i64 a1_0), .int .i64 (vof .i64 a2_0), .int .u8 (vof .u8 a3_0)]) (relV_cons (vrel_st (relTs_one rel_i trivial (relTs_one rel_i trivial (relTs_one rel_i trivial (relTs_one rel_i trivial relTs_nil))))) (relV_cons vrel_i (relV_cons vrel_i (relV_cons vrel_i relV_nil)))) W).mono ?_
    rintro e w' ⟨u, ν', rfl, hu, hb⟩
    have hu : u = .bool p.2 := hu
    rw [hp] at hu
    exact ⟨by rw [hu], hb⟩
  obtain ⟨q, hq, eq⟩ := pick_cases 16 (by omega) (by omega) a1_0
  have eq : pickT 16 a1_0 = K (Int.ofNat q) := eq
  obtain ⟨r, hr, er⟩ := pick_cases 8 (by omega) (by omega) a2_0
  have er : pickT 8 a2_0 = K (Int.ofNat r) := er
  rcases kind_cases a0_0 with hp | hp | hp | hp
  · exact way (works_ok (new_ok (hold_ok (kin_ok (by omega) noΓ_ok)))) rfl (vs2_ev a0_0 a0_1 a0_2 a0_3 a1_0 a2_0 a3_0) (by rw [hp, eq, er, show (K (Int.ofNat 2) == K 2) = true from rfl]; exact vs2_ok hq hr _ _ _ _)
  · exact way (works_ok (new_ok (hold_ok (kin_ok (by omega) noΓ_ok)))) rfl (vs3_ev a0_0 a0_1 a0_2 a0_3 a1_0 a2_0 a3_0) (by rw [hp, eq, er, show (K (Int.ofNat 3) == K 3) = true from rfl]; exact vs3_ok hq hr _ _ _ _)
  · exact way (works_ok (new_ok (hold_ok (kin_ok (by omega) noΓ_ok)))) rfl (vs4_ev a0_0 a0_1 a0_2 a0_3 a1_0 a2_0 a3_0) (by rw [hp, eq, er, show (K (Int.ofNat 4) == K 4) = true from rfl]; exact vs4_ok hq hr _ _ _ _)
  · exact way (works_ok (new_ok (hold_ok (kin_ok (by omega) noΓ_ok)))) rfl (vs5_ev a0_0 a0_1 a0_2 a0_3 a1_0 a2_0 a3_0) (by rw [hp, eq, er, show (K (Int.ofNat 5) == K 5) = true from rfl]; exact vs5_ok hq hr _ _ _ _)

theorem kinds3 : kindsOf Tryd.prog 10 3 = some [some .i64] := by kernel_rfl
theorem agg3 : isAggT Tryd.prog 3 = some false := by kernel_rfl
theorem kinds5 : kindsOf Tryd.prog 10 5 = some [some .u8] := by kernel_rfl
theorem agg5 : isAggT Tryd.prog 5 = some false := by kernel_rfl
theorem kinds28 : kindsOf Tryd.prog 10 28 = some [some .i64, some .u64, some .i64, some .i64] := by kernel_rfl
theorem agg28 : isAggT Tryd.prog 28 = some true := by kernel_rfl

set_option maxRecDepth 100000 in
theorem lifted (os : Os) (started : os.Started) (H : Type) (enc : TypeId × Value → H) :
    ReturnsInHanded {} Tryd.checked os 5 .any (fun w args => (Rows.valueSpillsSpec.pre enc Tryd.prog Tryd.f5 [] false w args ∧ laidMetH Tryd.prog laid w) ∧ sizedMet enc Tryd.prog Tryd.f5 (OpenSpec.ofChange Rows.valueSpillsSpec) false w args)
      (Rows.valueSpillsSpec.post enc Tryd.prog Tryd.f5 false true false false) := by
  refine returnsInHanded_of_change_and (C := Tryd.checked) (X := fun w _ => laidMetH Tryd.prog laid w) (fun _ _ _ hh h => h.of_heap hh) own started (by kernel_rfl) Tryd.func5
    (ChangeSpec.witness_shaped (enc := enc) (C := Tryd.checked) (os := os) (X := fun w _ => laidMetH Tryd.prog laid w) false (World.doorLaid Tryd.prog 4000 os) #[.agg #[.int .i64 0, .int .u64 0, .int .i64 0, .int .i64 0], .int .i64 0, .int .i64 0, .int .u8 0] 8 rfl (World.shaped_of_RefB (by kernel_rfl) (by kernel_rfl)) (by kernel_rfl) (by kernel_rfl) (by kernel_rfl) (door_met os _)) ?_
  intro W base args ds gs before hval0 hW _ _ hL _
  have hval : ∀ (j : Nat) t v, Tryd.f5.params[j]? = some t → args[j]? = some v → Value.okWide Tryd.prog W .any base t v := hval0
  have hW' := hW
  obtain ⟨p, q, hA0, hV, rfl, hfz, hnd⟩ := hW
  have hA : DataW.TrodAll enc Tryd.prog W 0 (fun _ => true) true Tryd.f5.params.toList args.toList ds p := hA0
  rw [Tryd.params5] at hA hval
  obtain ⟨v0, vs0, d0, ds0, p0, q0, hargs, rfl, rfl, h0, r0⟩ := trodAll_cons hA
  obtain ⟨v1, vs1, d1, ds1, p1, q1, rfl, rfl, rfl, h1, r1⟩ := trodAll_cons r0
  obtain ⟨v2, vs2, d2, ds2, p2, q2, rfl, rfl, rfl, h2, r2⟩ := trodAll_cons r1
  obtain ⟨v3, vs3, d3, ds3, p3, q3, rfl, rfl, rfl, h3, r3⟩ := trodAll_cons r2
  obtain ⟨rfl, rfl, rfl⟩ := trodAll_nil r3
  obtain rfl : args = #[v0, v1, v2, v3] := by cases args; simp_all
  obtain ⟨rfl, rfl⟩ := trodVars_none hV
  have k0 := h0
  have lt0 : ∀ x ∈ p0, x.block < W.heap.size := by obtain ⟨m, hm⟩ := k0; exact DataW.trod_lt m _ _ _ hm
  obtain ⟨cs0, hc0, ha0⟩ := open_arg kinds28 (hval 0 28 v0 rfl rfl) h0
  obtain ⟨a0_0, _, rfl, a0_1, _, rfl, a0_2, _, rfl, a0_3, _, rfl, rfl⟩ := ha0
  rw [valOf_agg agg28] at hc0
  subst hc0
  have k1 := h1
  have lt1 : ∀ x ∈ p1, x.block < W.heap.size := by obtain ⟨m, hm⟩ := k1; exact DataW.trod_lt m _ _ _ hm
  obtain ⟨cs1, hc1, ha1⟩ := open_arg kinds3 (hval 1 3 v1 rfl rfl) h1
  obtain ⟨a1_0, _, rfl, rfl⟩ := ha1
  rw [valOf_one agg3] at hc1
  subst hc1
  have k2 := h2
  have lt2 : ∀ x ∈ p2, x.block < W.heap.size := by obtain ⟨m, hm⟩ := k2; exact DataW.trod_lt m _ _ _ hm
  obtain ⟨cs2, hc2, ha2⟩ := open_arg kinds3 (hval 2 3 v2 rfl rfl) h2
  obtain ⟨a2_0, _, rfl, rfl⟩ := ha2
  rw [valOf_one agg3] at hc2
  subst hc2
  have k3 := h3
  have lt3 : ∀ x ∈ p3, x.block < W.heap.size := by obtain ⟨m, hm⟩ := k3; exact DataW.trod_lt m _ _ _ hm
  obtain ⟨cs3, hc3, ha3⟩ := open_arg kinds5 (hval 3 5 v3 rfl rfl) h3
  obtain ⟨a3_0, _, rfl, rfl⟩ := ha3
  rw [valOf_one agg5] at hc3
  subst hc3
  clear hA0 hval0
  refine (walk a0_0 a0_1 a0_2 a0_3 a1_0 a2_0 a3_0).mono fun e W' ⟨he, bel⟩ => ?_
  subst he
  exact ⟨_, rfl, _, _, _, [], _, [], hW', trodAll_mk1 (shut_bool Tryd.underlying4 _), (trodAll_cons_mk (Below.trod laidOut (by kernel_rfl) (of_decide_eq_true (by kernel_rfl)) k0 bel lt0) (trodAll_cons_mk (Below.trod laidOut (by kernel_rfl) (of_decide_eq_true (by kernel_rfl)) k1 bel lt1) (trodAll_cons_mk (Below.trod laidOut (by kernel_rfl) (of_decide_eq_true (by kernel_rfl)) k2 bel lt2) (trodAll_cons_mk (Below.trod laidOut (by kernel_rfl) (of_decide_eq_true (by kernel_rfl)) k3 bel lt3) trodAll_mk0)))), rfl, bel.frame _, fun h => by cases h⟩

theorem row : Rows.ValueSpillsSaid :=
  OpenClaim.holds_of_wide 5 Tryd.f5 rfl rfl rfl rfl rfl rfl rfl ⟨rfl, rfl, rfl, rfl, rfl⟩ rfl rfl rfl rfl rfl (by kernel_rfl) Tryd.func5 (by kernel_rfl)
    (of_decide_eq_true (by kernel_rfl)) (by unfold Func.isWrapper; first | (rw [if_pos (by decide +kernel)]; kernel_rfl) | (rw [if_neg (by decide +kernel)]; exact ⟨rfl, rfl⟩))
    (fun os started H enc _ => lifted os started H enc)

/-- The statement. -/
theorem proved : Rows.ValueSpillsCardSaid :=
  Claim7.holds_tied_plain_at .later [] [.widerDeep] true (true, "c17c37c4a8a40e033a8ec30f0d20fb8d7a08c20ca55353b90ecc120908b06b24") true
    row (fun _ h => by cases h) (by kernel_rfl) (fun _ h => by cases h) valueSpills_row_tie rfl ⟨rfl, rfl⟩ (by kernel_rfl) rfl
    (fun f fn hf hfn => by
      obtain rfl : f = 5 := Option.some.inj ((show Tryd.prog.funcNamed "crossbar/crossbarlaw23.ValueSpills" = some 5 by kernel_rfl).symm.trans hf) |>.symm
      obtain rfl : fn = Tryd.f5 := (Option.some.inj (Tryd.func5.symm.trans hfn)).symm
      exact ⟨by kernel_rfl, fun j t ht => by
        rw [Tryd.params5] at ht
        have hm : t ∈ [28, 3, 3, 5] := by simpa using Array.mem_of_getElem? ht
        have hall : ([28, 3, 3, 5].all fun u => !Tryd.prog.wantsStandIn u) = true := by kernel_rfl
        exact (show Tryd.prog.wantsStandIn t = false by simpa using List.all_eq_true.1 hall t hm)⟩)
    (by kernel_rfl)
#print axioms proved
end Go.Proofs.YtokinbmadcaheaaDoor.valueSpillsDone
