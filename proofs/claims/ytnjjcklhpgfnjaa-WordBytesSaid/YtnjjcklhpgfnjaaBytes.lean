/- crossbarlaw01.WordBytes returns true for any bytes, any place, size and number, and its arguments read afterwards as before; no condition. -/
import Derived.Test.YtnjjcklhpgfnjaaRows
import Derived.Test.YtnjjcklhpgfnjaaBytTop
import Derived.WalkKit
import Derived.ProofKit
import Derived.OpenShut
import Derived.ShutString
import Derived.ChangeOld
import Derived.Below
import Derived.SizedLaws
namespace Go.Proofs.Ytnjjcklhpgfnjaa.wordBytesDone
open Go Go.WE Go.ChangeShapes Go.WideShapes Go.ChangeAt Go.RowKit
set_option linter.unusedVariables false
theorem own : ownKnob Try.prog.godebug = none := by kernel_rfl
theorem laidOut : laidOutB Try.prog = true := by kernel_rfl
theorem kinds3 : kindsOf Try.prog 10 3 = some [some .i64] := by kernel_rfl
theorem agg3 : isAggT Try.prog 3 = some false := by kernel_rfl
theorem kinds22 : kindsOf Try.prog 10 22 = some [some .u64] := by kernel_rfl
theorem agg22 : isAggT Try.prog 22 = some false := by kernel_rfl
theorem cells5 : Try.prog.cellsOf 5 = 1 := by kernel_rfl
theorem bytes5 : Try.prog.bytesOf 5 = 1 := by kernel_rfl
theorem wrap_wf {n : Int} (h : (Lit.int .u8 n).wf = true) : IntKind.u8.wrap n = n := by
  have h1 : IntKind.u8.min = 0 := rfl
  have h2 : IntKind.u8.max = 255 := rfl
  simp only [Lit.wf, Bool.and_eq_true, decide_eq_true_eq] at h
  rw [IntKind.wrap_u8]
  omega

set_option maxRecDepth 100000 in
theorem lifted (os : Os) (started : os.Started) (H : Type) (enc : TypeId × Value → H) :
    ReturnsInHanded {} Try.checked os 8 .any (Rows.wordBytesSpec.pre6 enc Try.prog Try.f8 Rows.wordBytesRow.domain false) (Rows.wordBytesSpec.post enc Try.prog Try.f8 false true false false) := by
  refine returnsInHanded_of_change_sized (C := Try.checked) own started (by kernel_rfl) Try.func8
    (ChangeSpec.witness6 (enc := enc) (C := Try.checked) false ⟨#[], #[.slice none 0 0, .int .i64 0, .int .i64 0, .int .u64 0], []⟩ 8 (by kernel_rfl) (by kernel_rfl) (by kernel_rfl) (by kernel_rfl)) ?_
  intro W base args ds gs before hval0 hW hcnd hsz0 _
  have hsz : (DataW.weightsEach Try.prog (Try.f8.params.toList ++ Rows.wordBytesSpec.plain.varTypes Try.prog) (ds ++ gs)).all (· ≤ reachBytes) = true := hsz0
  clear hsz0
  have hval : ∀ (j : Nat) t v, Try.f8.params[j]? = some t → args[j]? = some v → Value.okWide Try.prog W .any base t v := hval0
  have hW' := hW
  obtain ⟨p, q, hA0, hV, rfl, hfz, hnd⟩ := hW
  have hA : DataW.TrodAll enc Try.prog W 0 (fun _ => true) true Try.f8.params.toList args.toList ds p := hA0
  rw [Try.params8] at hA hval hsz
  obtain ⟨v0, vs0, d0, ds0, p0, q0, hargs, rfl, rfl, h0, r0⟩ := trodAll_cons hA
  obtain ⟨v1, vs1, d1, ds1, p1, q1, rfl, rfl, rfl, h1, r1⟩ := trodAll_cons r0
  obtain ⟨v2, vs2, d2, ds2, p2, q2, rfl, rfl, rfl, h2, r2⟩ := trodAll_cons r1
  obtain ⟨v3, vs3, d3, ds3, p3, q3, rfl, rfl, rfl, h3, r3⟩ := trodAll_cons r2
  obtain ⟨rfl, rfl, rfl⟩ := trodAll_nil r3
  obtain rfl : args = #[v0, v1, v2, v3] := by cases args; simp_all
  obtain ⟨rfl, rfl⟩ := trodVars_none hV
  have k0 := h0
  have lt0 : ∀ x ∈ p0, x.block < W.heap.size := by obtain ⟨m, hm⟩ := k0; exact DataW.trod_lt m _ _ _ hm
  have k1 := h1
  have lt1 : ∀ x ∈ p1, x.block < W.heap.size := by obtain ⟨m, hm⟩ := k1; exact DataW.trod_lt m _ _ _ hm
  obtain ⟨cs1, hc1, ha1⟩ := open_arg kinds3 (hval 1 3 v1 rfl rfl) h1
  obtain ⟨a1_0, _, rfl, rfl⟩ := ha1
  rw [valOf_one agg3] at hc1
  subst hc1
  have k2 := h2
  have lt2 : ∀ x ∈ p2, x.block < W.heap.size := by obtain ⟨m, hm⟩ := k2; exact DataW.trod_lt m _ _ _ hm
  obtain ⟨cs2, hc2, ha2⟩ := open_arg kinds3 (hval 2 3 v2 rfl rfl) h2
  obtain ⟨a2_0, _, rfl, rfl⟩ := ha2
  rw [valOf_one agg3] at hc2
  subst hc2
  have k3 := h3
  have lt3 : ∀ x ∈ p3, x.block < W.heap.size := by obtain ⟨m, hm⟩ := k3; exact DataW.trod_lt m _ _ _ hm
  obtain ⟨cs3, hc3, ha3⟩ := open_arg kinds22 (hval 3 22 v3 rfl rfl) h3
  obtain ⟨a3_0, _, rfl, rfl⟩ := ha3
  rw [valOf_one agg22] at hc3
  subst hc3
  have hok := hval 0 35 v0 rfl rfl
  obtain ⟨a0, len, cap, rfl⟩ := okWide_slice Try.underlying35 hok
  obtain ⟨fuel, hf⟩ := h0
  clear hA0 hval0
  have fin : Calls Try.prog 8 #[.slice a0 len cap, .int .i64 (vof .i64 a1_0), .int .i64 (vof .i64 a2_0), .int .u64 (vof .u64 a3_0)] W fun e w' => e = .returned (.bool true) ∧ Below W.heap.size W w' := by
    rcases open_ints Try.underlying35 Try.underlying5 cells5 hf with ⟨hcs, hx⟩ | ⟨a, len', cap', zs, hcs, _, hl, hm, hz, hx, hcell, hwz⟩
    · simp [Value.cells] at hcs
      obtain ⟨rfl, rfl, rfl⟩ := hcs
      exact byt_nil _ _ _
    · simp [Value.cells] at hcs
      obtain ⟨rfl, rfl, rfl⟩ := hcs
      simp only [Prod.mk.injEq] at hx
      obtain ⟨rfl, rfl⟩ := hx
      simp only [if_true] at hz
      have hreach : len ≤ CC := by
        have := sized_slice hsz (j := 0) (t := 35) (e := 5) rfl rfl Try.underlying35
        rw [bytes5] at this
        simp only [lits, List.length_map, List.length_take, List.length_drop, reachBytes] at this
        unfold CC
        omega
      simp only [Value.okWide, Try.underlying35, Cell.okWide, Cell.ok] at hok
      obtain ⟨_, _, _, hspot, row, cells, hshape, _⟩ := hok
      obtain ⟨b, off, spot⟩ := a
      have hspot : spot = none := hspot
      subst hspot
      have hbW : b < W.heap.size := by
        refine Classical.byContradiction fun hge => ?_
        have hnone : W.heap[b]? = none := Array.getElem?_eq_none (by omega)
        simp [World.shape?, hnone] at hshape
      exact byt_list (z := fun j => zs.getD j 0) (fun j hj => wrap_wf (hwz _ (by
        have hjz : j < zs.length := by omega
        rw [List.getD_eq_getElem?_getD, List.getElem?_eq_getElem hjz]
        exact List.getElem_mem hjz))) hreach hl hbW (fun j hj => by
          rw [← add_plain]
          exact hcell j (by omega)) _ _ _
  refine fin.mono fun e W' ⟨he, bel⟩ => ?_
  subst he
  exact ⟨_, rfl, _, _, _, [], _, [], hW', trodAll_mk1 (shut_bool Try.underlying4 _), (trodAll_cons_mk (Below.trod laidOut (by kernel_rfl) (of_decide_eq_true (by kernel_rfl)) k0 bel lt0) (trodAll_cons_mk (Below.trod laidOut (by kernel_rfl) (of_decide_eq_true (by kernel_rfl)) k1 bel lt1) (trodAll_cons_mk (Below.trod laidOut (by kernel_rfl) (of_decide_eq_true (by kernel_rfl)) k2 bel lt2) (trodAll_cons_mk (Below.trod laidOut (by kernel_rfl) (of_decide_eq_true (by kernel_rfl)) k3 bel lt3) trodAll_mk0)))), rfl, bel.frame _, fun h => by cases h⟩

/-- The statement. -/
theorem proved : Rows.WordBytesSaid :=
  OpenClaim.holds_of_wide 8 Try.f8 rfl rfl rfl rfl rfl rfl rfl ⟨rfl, rfl, rfl, rfl, rfl⟩ rfl rfl rfl rfl rfl (by kernel_rfl) Try.func8 (by kernel_rfl)
    (of_decide_eq_true (by kernel_rfl)) (by unfold Func.isWrapper; first | (rw [if_pos (by decide +kernel)]; kernel_rfl) | (rw [if_neg (by decide +kernel)]; exact ⟨rfl, rfl⟩))
    (fun os started H enc _ => lifted os started H enc)
#print axioms proved
end Go.Proofs.Ytnjjcklhpgfnjaa.wordBytesDone
