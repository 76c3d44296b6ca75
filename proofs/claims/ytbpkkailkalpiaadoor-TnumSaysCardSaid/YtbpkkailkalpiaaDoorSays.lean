/- crossbarlaw03.TnumSays returns true for all tnums a, b, any number v and any shift n, and its arguments read afterwards as before; condition: the table math/bits.deBruijn64tab holds at the call what the program's text lays (the card ties it). -/
import Derived.Test.YtbpkkailkalpiaaDoorRows
import Derived.Test.YtbpkkailkalpiaaDoorTie
import Derived.Test.YtbpkkailkalpiaaDoorCards
import Derived.Test.YtbpkkailkalpiaaDoorSaysLaw
import Derived.WalkKit
import Derived.ProofKit
import Derived.OpenShut
import Derived.ShutString
import Derived.ChangeOld
import Derived.Below
import Derived.LaidMore
import Derived.Stop.Joined
import Derived.SevenTiedAt
namespace Go.Proofs.YtbpkkailkalpiaaDoor.tnumSaysDone
open Go Go.WE Go.ChangeShapes Go.WideShapes Go.ChangeAt Go.RowKit
set_option linter.unusedVariables false
theorem own : ownKnob Tryd.prog.godebug = none := by kernel_rfl
theorem laidOut : laidOutB Tryd.prog = true := by kernel_rfl
def laid : List (String × DataW Unit) := [("math/bits.deBruijn64tab", Rows.laid_math_bits_deBruijn64tab)]
theorem gTab : Tryd.prog.globalNamed "math/bits.deBruijn64tab" = some 0 := by kernel_rfl
theorem tTab : (Tryd.prog.globals[0]?).map (·.type) = some 61 := by kernel_rfl
theorem cE : Tryd.prog.cellsOf 5 = 1 := by kernel_rfl
theorem cT : Tryd.prog.cellsOf 61 = 64 := by kernel_rfl
theorem tab_in {W : World} (h : laidMetH Tryd.prog laid W) : TabIn W 0 .u8 dbt :=
  tab_of_laid gTab tTab Tryd.underlying61 Tryd.underlying5 cE cT (laid := laid) rfl (by kernel_rfl) h
theorem door_met (os : Os) (args : Array Value) : laidMetH Tryd.prog laid ((World.doorLaid Tryd.prog 4000 os).forCall (fun _ _ => 0) ⟨#[], args, []⟩).memory :=
  laidMetH_of_parts3 (fuel := 8) (laidMet_of_run' 8 (by kernel_rfl) (by kernel_rfl)) (by kernel_rfl) (by kernel_rfl)

theorem walk (a0_0 : BitVec 64) (a0_1 : BitVec 64) (a1_0 : BitVec 64) (a1_1 : BitVec 64) (a2_0 : BitVec 64) (a3_0 : BitVec 64) {W : World} (hT : TabIn W 0 .u8 dbt) :
    Calls Tryd.prog 3 #[.agg #[.int .u64 (vof .u64 a0_0), .int .u64 (vof .u64 a0_1)], .agg #[.int .u64 (vof .u64 a1_0), .int .u64 (vof .u64 a1_1)], .int .u64 (vof .u64 a2_0), .int .i64 (vof .i64 a3_0)] W fun e w' => e = .returned (.bool true) ∧ Below W.heap.size W w' := by
  refine (top_calls_tab (X0 ΓD_ok) rfl (says_ev a0_0 a0_1 a1_0 a1_1 a2_0 a3_0) (show (saysB a0_0 a0_1 a1_0 a1_1 a2_0 a3_0).1 = true by rw [saysB_true]) (vs := [.agg #[.int .u64 (vof .u64 a0_0), .int .u64 (vof .u64 a0_1)], .agg #[.int .u64 (vof .u64 a1_0), .int .u64 (vof .u64 a1_1)], .int .u64 (vof .u64 a2_0), .int .i64 (vof .i64 a3_0)]) (relV_cons (vrel_st (relTs_one rel_i trivial (relTs_one rel_i trivial relTs_nil))) (relV_cons (vrel_st (relTs_one rel_i trivial (relTs_one rel_i trivial relTs_nil))) (relV_cons vrel_i (relV_cons vrel_i relV_nil)))) dbt_wrap hT).mono ?_
  rintro e w' ⟨u, ν', rfl, hu, hb⟩
  have hu : u = .bool (saysB a0_0 a0_1 a1_0 a1_1 a2_0 a3_0).2 := hu
  rw [saysB_true] at hu
  exact ⟨by rw [hu], hb⟩

theorem kinds3 : kindsOf Tryd.prog 10 3 = some [some .i64] := by kernel_rfl
theorem agg3 : isAggT Tryd.prog 3 = some false := by kernel_rfl
theorem kinds22 : kindsOf Tryd.prog 10 22 = some [some .u64] := by kernel_rfl
theorem agg22 : isAggT Tryd.prog 22 = some false := by kernel_rfl
theorem kinds24 : kindsOf Tryd.prog 10 24 = some [some .u64, some .u64] := by kernel_rfl
theorem agg24 : isAggT Tryd.prog 24 = some true := by kernel_rfl

set_option maxRecDepth 100000 in
theorem lifted (os : Os) (started : os.Started) (H : Type) (enc : TypeId × Value → H) :
    ReturnsInHanded {} Tryd.checked os 3 .any (fun w args => (Rows.tnumSaysSpec.pre enc Tryd.prog Tryd.f3 [] false w args ∧ laidMetH Tryd.prog laid w) ∧ sizedMet enc Tryd.prog Tryd.f3 (OpenSpec.ofChange Rows.tnumSaysSpec) false w args)
      (Rows.tnumSaysSpec.post enc Tryd.prog Tryd.f3 false true false false) := by
  refine returnsInHanded_of_change_and (C := Tryd.checked) (X := fun w _ => laidMetH Tryd.prog laid w) (fun _ _ _ hh h => h.of_heap hh) own started (by kernel_rfl) Tryd.func3
    (ChangeSpec.witness_shaped (enc := enc) (C := Tryd.checked) (os := os) (X := fun w _ => laidMetH Tryd.prog laid w) false (World.doorLaid Tryd.prog 4000 os) #[.agg #[.int .u64 0, .int .u64 0], .agg #[.int .u64 0, .int .u64 0], .int .u64 0, .int .i64 0] 8 rfl (World.shaped_of_RefB (by kernel_rfl) (by kernel_rfl)) (by kernel_rfl) (by kernel_rfl) (by kernel_rfl) (door_met os _)) ?_
  intro W base args ds gs before hval0 hW _ _ hL _
  have hval : ∀ (j : Nat) t v, Tryd.f3.params[j]? = some t → args[j]? = some v → Value.okWide Tryd.prog W .any base t v := hval0
  have hW' := hW
  obtain ⟨p, q, hA0, hV, rfl, hfz, hnd⟩ := hW
  have hA : DataW.TrodAll enc Tryd.prog W 0 (fun _ => true) true Tryd.f3.params.toList args.toList ds p := hA0
  rw [Tryd.params3] at hA hval
  obtain ⟨v0, vs0, d0, ds0, p0, q0, hargs, rfl, rfl, h0, r0⟩ := trodAll_cons hA
  obtain ⟨v1, vs1, d1, ds1, p1, q1, rfl, rfl, rfl, h1, r1⟩ := trodAll_cons r0
  obtain ⟨v2, vs2, d2, ds2, p2, q2, rfl, rfl, rfl, h2, r2⟩ := trodAll_cons r1
  obtain ⟨v3, vs3, d3, ds3, p3, q3, rfl, rfl, rfl, h3, r3⟩ := trodAll_cons r2
  obtain ⟨rfl, rfl, rfl⟩ := trodAll_nil r3
  obtain rfl : args = #[v0, v1, v2, v3] := by cases args; simp_all
  obtain ⟨rfl, rfl⟩ := trodVars_none hV
  have k0 := h0
  have lt0 : ∀ x ∈ p0, x.block < W.heap.size := by obtain ⟨m, hm⟩ := k0; exact DataW.trod_lt m _ _ _ hm
  obtain ⟨cs0, hc0, ha0⟩ := open_arg kinds24 (hval 0 24 v0 rfl rfl) h0
  obtain ⟨a0_0, _, rfl, a0_1, _, rfl, rfl⟩ := ha0
  rw [valOf_agg agg24] at hc0
  subst hc0
  have k1 := h1
  have lt1 : ∀ x ∈ p1, x.block < W.heap.size := by obtain ⟨m, hm⟩ := k1; exact DataW.trod_lt m _ _ _ hm
  obtain ⟨cs1, hc1, ha1⟩ := open_arg kinds24 (hval 1 24 v1 rfl rfl) h1
  obtain ⟨a1_0, _, rfl, a1_1, _, rfl, rfl⟩ := ha1
  rw [valOf_agg agg24] at hc1
  subst hc1
  have k2 := h2
  have lt2 : ∀ x ∈ p2, x.block < W.heap.size := by obtain ⟨m, hm⟩ := k2; exact DataW.trod_lt m _ _ _ hm
  obtain ⟨cs2, hc2, ha2⟩ := open_arg kinds22 (hval 2 22 v2 rfl rfl) h2
  obtain ⟨a2_0, _, rfl, rfl⟩ := ha2
  rw [valOf_one agg22] at hc2
  subst hc2
  have k3 := h3
  have lt3 : ∀ x ∈ p3, x.block < W.heap.size := by obtain ⟨m, hm⟩ := k3; exact DataW.trod_lt m _ _ _ hm
  obtain ⟨cs3, hc3, ha3⟩ := open_arg kinds3 (hval 3 3 v3 rfl rfl) h3
  obtain ⟨a3_0, _, rfl, rfl⟩ := ha3
  rw [valOf_one agg3] at hc3
  subst hc3
  clear hA0 hval0
  refine (walk a0_0 a0_1 a1_0 a1_1 a2_0 a3_0 (tab_in hL)).mono fun e W' ⟨he, bel⟩ => ?_
  subst he
  exact ⟨_, rfl, _, _, _, [], _, [], hW', trodAll_mk1 (shut_bool Tryd.underlying4 _), (trodAll_cons_mk (Below.trod laidOut (by kernel_rfl) (of_decide_eq_true (by kernel_rfl)) k0 bel lt0) (trodAll_cons_mk (Below.trod laidOut (by kernel_rfl) (of_decide_eq_true (by kernel_rfl)) k1 bel lt1) (trodAll_cons_mk (Below.trod laidOut (by kernel_rfl) (of_decide_eq_true (by kernel_rfl)) k2 bel lt2) (trodAll_cons_mk (Below.trod laidOut (by kernel_rfl) (of_decide_eq_true (by kernel_rfl)) k3 bel lt3) trodAll_mk0)))), rfl, bel.frame _, fun h => by cases h⟩

theorem row : Rows.TnumSaysSaid :=
  OpenClaim.holds_of_wide 3 Tryd.f3 rfl rfl rfl rfl rfl rfl rfl ⟨rfl, rfl, rfl, rfl, rfl⟩ rfl rfl rfl rfl rfl (by kernel_rfl) Tryd.func3 (by kernel_rfl)
    (of_decide_eq_true (by kernel_rfl)) (by unfold Func.isWrapper; first | (rw [if_pos (by decide +kernel)]; kernel_rfl) | (rw [if_neg (by decide +kernel)]; exact ⟨rfl, rfl⟩))
    (fun os started H enc _ => lifted os started H enc)

/-- The statement. -/
theorem proved : Rows.TnumSaysCardSaid :=
  Claim7.holds_tied_plain_at .later [] [.data] true (true, "f905c2e4ba2efd97b3a09b931d0df213b44d61e1307b20d18b3a36c1a2ed7c47") false
    row (fun _ h => by cases h) (by kernel_rfl) (fun _ h => by cases h) tnumSays_row_tie rfl ⟨rfl, rfl⟩ (by kernel_rfl) rfl
    (fun f fn hf hfn => by
      obtain rfl : f = 3 := Option.some.inj ((show Tryd.prog.funcNamed "crossbar/crossbarlaw03.TnumSays" = some 3 by kernel_rfl).symm.trans hf) |>.symm
      obtain rfl : fn = Tryd.f3 := (Option.some.inj (Tryd.func3.symm.trans hfn)).symm
      exact ⟨by kernel_rfl, fun j t ht => by
        rw [Tryd.params3] at ht
        have hm : t ∈ [24, 24, 22, 3] := by simpa using Array.mem_of_getElem? ht
        have hall : ([24, 24, 22, 3].all fun u => !Tryd.prog.wantsStandIn u) = true := by kernel_rfl
        exact (show Tryd.prog.wantsStandIn t = false by simpa using List.all_eq_true.1 hall t hm)⟩)
    (by kernel_rfl)
#print axioms proved
end Go.Proofs.YtbpkkailkalpiaaDoor.tnumSaysDone
