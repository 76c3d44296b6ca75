/- crossbarlaw22.FrameBack returns true for any calls ahead, any slot, any place and any register, and its arguments read afterwards as before; no condition. -/
import Derived.Test.YtljopbfbljkjoaaDoorRows
import Derived.Test.YtljopbfbljkjoaaDoorTop
import Derived.WalkKit
import Derived.ProofKit
import Derived.OpenShut
import Derived.ShutString
import Derived.ChangeOld
import Derived.Below
namespace Go.Proofs.YtljopbfbljkjoaaDoor.frameBackDone
open Go Go.WE Go.ChangeShapes Go.WideShapes Go.ChangeAt Go.RowKit
set_option linter.unusedVariables false
theorem own : ownKnob Tryd.prog.godebug = none := by kernel_rfl
theorem laidOut : laidOutB Tryd.prog = true := by kernel_rfl
theorem kinds3 : kindsOf Tryd.prog 10 3 = some [some .i64] := by kernel_rfl
theorem agg3 : isAggT Tryd.prog 3 = some false := by kernel_rfl
theorem kinds33 : kindsOf Tryd.prog 10 33 = some [some .i64, some .i64, some .i64, some .i64, some .u64, some .u64, some .u64, some .u64, some .i64, some .i64] := by kernel_rfl
theorem agg33 : isAggT Tryd.prog 33 = some true := by kernel_rfl
theorem kinds38 : kindsOf Tryd.prog 10 38 = some [some .i64, some .i64, some .i64, some .i64, some .i64, some .i64, some .i64, some .i64, some .u64, some .u64, some .u64, some .u64, some .i64, some .i64, none] := by kernel_rfl
theorem cells38 : Tryd.prog.cellsOf 38 = 15 := by kernel_rfl
def noAW : AW := ⟨0, 0, 0, 0, ⟨0, 0, 0, 0, 0, 0, 0, 0, 0, 0⟩, false⟩
theorem atoms38 {cs : List Value} (h : Atoms [some .i64, some .i64, some .i64, some .i64, some .i64, some .i64, some .i64, some .i64, some .u64, some .u64, some .u64, some .u64, some .i64, some .i64, none] cs) : ∃ x : AW, cs = x.vs := by
  obtain ⟨x0, _, rfl, x1, _, rfl, x2, _, rfl, x3, _, rfl, x4, _, rfl, x5, _, rfl, x6, _, rfl, x7, _, rfl, x8, _, rfl, x9, _, rfl, x10, _, rfl, x11, _, rfl, x12, _, rfl, x13, _, rfl, x14, _, rfl, rfl⟩ := h
  exact ⟨⟨x0, x1, x2, x3, ⟨x4, x5, x6, x7, x8, x9, x10, x11, x12, x13⟩, x14⟩, rfl⟩
theorem plain_add (b off i : Nat) : (⟨b, off, none⟩ : Addr).add i = ⟨b, off + i, none⟩ := add_plain b off i
theorem act_cells {H : Type} {enc : TypeId × Value → H} {W : World} {spare : Nat → Bool} {held : Bool} {b off i m : Nat} {y : DataW H × List MemPlace}
    (h : (W.cells? 0 ((⟨b, off, none⟩ : Addr).add (i * 15)) 15).bind (DataW.trod enc Tryd.prog W 0 spare held m 38) = some y) : ∃ x : AW, ∀ j, j < 15 → W.cell? ⟨b, off + 15 * i + j, none⟩ = x.vs[j]? := by
  rw [Option.bind_eq_some_iff] at h
  obtain ⟨cs, hcs, hy⟩ := h
  obtain ⟨x, rfl⟩ := atoms38 (open_kinds 10 kinds38 hy)
  refine ⟨x, fun j hj => ?_⟩
  obtain ⟨_, _, hc⟩ := World.cells?_some hcs
  rw [← hc j hj, plain_add, plain_add, Nat.mul_comm i 15]

set_option maxRecDepth 100000 in
theorem lifted (os : Os) (started : os.Started) (H : Type) (enc : TypeId × Value → H) :
    ReturnsInHanded {} Tryd.checked os 3 .any (Rows.frameBackSpec.pre6 enc Tryd.prog Tryd.f3 Rows.frameBackRow.domain false) (Rows.frameBackSpec.post enc Tryd.prog Tryd.f3 false true false false) := by
  refine returnsInHanded_of_change (C := Tryd.checked) own started (by kernel_rfl) Tryd.func3
    (ChangeSpec.witness6 (enc := enc) (C := Tryd.checked) false ⟨#[], #[.slice none 0 0, .int .i64 0, .int .i64 0, .agg #[.int .i64 0, .int .i64 0, .int .i64 0, .int .i64 0, .int .u64 0, .int .u64 0, .int .u64 0, .int .u64 0, .int .i64 0, .int .i64 0]], []⟩ 8 (by kernel_rfl) (by kernel_rfl) (by kernel_rfl) (by kernel_rfl)) ?_
  intro W base args ds gs before hval0 hW hcnd _
  have hval : ∀ (j : Nat) t v, Tryd.f3.params[j]? = some t → args[j]? = some v → Value.okWide Tryd.prog W .any base t v := hval0
  have hW' := hW
  obtain ⟨p, q, hA0, hV, rfl, hfz, hnd⟩ := hW
  have hA : DataW.TrodAll enc Tryd.prog W 0 (fun _ => true) true Tryd.f3.params.toList args.toList ds p := hA0
  rw [Tryd.params3] at hA hval
  obtain ⟨v0, vs0, d0, ds0, p0, q0, hargs, rfl, rfl, h0, r0⟩ := trodAll_cons hA
  obtain ⟨v1, vs1, d1, ds1, p1, q1, rfl, rfl, rfl, h1, r1⟩ := trodAll_cons r0
  obtain ⟨v2, vs2, d2, ds2, p2, q2, rfl, rfl, rfl, h2, r2⟩ := trodAll_cons r1
  obtain ⟨v3, vs3, d3, ds3, p3, q3, rfl, rfl, rfl, h3, r3⟩ := trodAll_cons r2
  obtain ⟨rfl, rfl, rfl⟩ := trodAll_nil r3
  obtain rfl : args = #[v0, v1, v2, v3] := by cases args; simp_all
  obtain ⟨rfl, rfl⟩ := trodVars_none hV
  have k0 := h0
  have lt0 : ∀ x ∈ p0, x.block < W.heap.size := by obtain ⟨m, hm⟩ := k0; exact DataW.trod_lt m _ _ _ hm
  have k1 := h1
  have lt1 : ∀ x ∈ p1, x.block < W.heap.size := by obtain ⟨m, hm⟩ := k1; exact DataW.trod_lt m _ _ _ hm
  obtain ⟨cs1, hc1, ha1⟩ := open_arg kinds3 (hval 1 3 v1 rfl rfl) h1
  obtain ⟨a1_0, _, rfl, rfl⟩ := ha1
  rw [valOf_one agg3] at hc1
  subst hc1
  have k2 := h2
  have lt2 : ∀ x ∈ p2, x.block < W.heap.size := by obtain ⟨m, hm⟩ := k2; exact DataW.trod_lt m _ _ _ hm
  obtain ⟨cs2, hc2, ha2⟩ := open_arg kinds3 (hval 2 3 v2 rfl rfl) h2
  obtain ⟨a2_0, _, rfl, rfl⟩ := ha2
  rw [valOf_one agg3] at hc2
  subst hc2
  have k3 := h3
  have lt3 : ∀ x ∈ p3, x.block < W.heap.size := by obtain ⟨m, hm⟩ := k3; exact DataW.trod_lt m _ _ _ hm
  obtain ⟨cs3, hc3, ha3⟩ := open_arg kinds33 (hval 3 33 v3 rfl rfl) h3
  obtain ⟨a3_0, _, rfl, a3_1, _, rfl, a3_2, _, rfl, a3_3, _, rfl, a3_4, _, rfl, a3_5, _, rfl, a3_6, _, rfl, a3_7, _, rfl, a3_8, _, rfl, a3_9, _, rfl, rfl⟩ := ha3
  rw [valOf_agg agg33] at hc3
  subst hc3
  have hok := hval 0 22 v0 rfl rfl
  obtain ⟨a0, len, cap, rfl⟩ := okWide_slice Tryd.underlying22 hok
  obtain ⟨fuel, hf⟩ := h0
  clear hA0 hval0
  let r : RW := ⟨a3_0, a3_1, a3_2, a3_3, a3_4, a3_5, a3_6, a3_7, a3_8, a3_9⟩
  have fin : Calls Tryd.prog 3 #[.slice a0 len cap, .int .i64 (vof .i64 a1_0), .int .i64 (vof .i64 a2_0), .agg r.vs.toArray] W fun e w' => e = .returned (.bool true) ∧ Below W.heap.size W w' := by
    rcases DataW.trod_slice Tryd.underlying22 hf with ⟨hcs, hx⟩ | ⟨a, len', cap', elems, rest, n, _, hcs, hx, hb, hl, hm, hlen, hel, _, _⟩
    · simp [Value.cells] at hcs
      obtain ⟨rfl, rfl, rfl⟩ := hcs
      exact fb_nil _ _ _
    · simp [Value.cells] at hcs
      obtain ⟨rfl, rfl, rfl⟩ := hcs
      rw [cells38] at hel
      simp only [Value.okWide, Tryd.underlying22, Cell.okWide, Cell.ok] at hok
      obtain ⟨_, _, _, hspot, row, cells, hshape, _⟩ := hok
      obtain ⟨b, off, spot⟩ := a
      have hspot : spot = none := hspot
      subst hspot
      have hbW : b < W.heap.size := by
        refine Classical.byContradiction fun hge => ?_
        have hnone : W.heap[b]? = none := Array.getElem?_eq_none (by omega)
        simp [World.shape?, hnone] at hshape
      rcases Nat.eq_zero_or_pos len with h0 | h0
      · subst h0
        exact fb_zero hbW _ _ _
      · have key : ∀ i, i < len → ∃ x : AW, ∀ j, j < 15 → W.cell? ⟨b, off + 15 * i + j, none⟩ = x.vs[j]? := fun i hi => by
          have hi' : i < elems.length := by omega
          exact act_cells ((hel i hi).trans (List.getElem?_eq_getElem hi'))
        let g : Nat → AW := fun i => if h : i < len then (key i h).choose else noAW
        have hg : ∀ i, i < len → ∀ j, j < 15 → W.cell? ⟨b, off + 15 * i + j, none⟩ = (g i).vs[j]? := fun i hi j hj => by
          have e : g i = (key i hi).choose := dif_pos hi
          rw [e]
          exact (key i hi).choose_spec j hj
        exact fb_list (g := g) h0 (Nat.lt_of_le_of_lt (Nat.le_trans hl hm) (by decide)) hl hg _ _ _
  refine fin.mono fun e W' ⟨he, bel⟩ => ?_
  subst he
  exact ⟨_, rfl, _, _, _, [], _, [], hW', trodAll_mk1 (shut_bool Tryd.underlying4 _), (trodAll_cons_mk (Below.trod laidOut (by kernel_rfl) (of_decide_eq_true (by kernel_rfl)) k0 bel lt0) (trodAll_cons_mk (Below.trod laidOut (by kernel_rfl) (of_decide_eq_true (by kernel_rfl)) k1 bel lt1) (trodAll_cons_mk (Below.trod laidOut (by kernel_rfl) (of_decide_eq_true (by kernel_rfl)) k2 bel lt2) (trodAll_cons_mk (Below.trod laidOut (by kernel_rfl) (of_decide_eq_true (by kernel_rfl)) k3 bel lt3) trodAll_mk0)))), rfl, bel.frame _, fun h => by cases h⟩

/-- The statement. -/
theorem proved : Rows.FrameBackSaid :=
  OpenClaim.holds_of_wide 3 Tryd.f3 rfl rfl rfl rfl rfl rfl rfl ⟨rfl, rfl, rfl, rfl, rfl⟩ rfl rfl rfl rfl rfl (by kernel_rfl) Tryd.func3 (by kernel_rfl)
    (of_decide_eq_true (by kernel_rfl)) (by unfold Func.isWrapper; first | (rw [if_pos (by decide +kernel)]; kernel_rfl) | (rw [if_neg (by decide +kernel)]; exact ⟨rfl, rfl⟩))
    (fun os started H enc _ => lifted os started H enc)
#print axioms proved
end Go.Proofs.YtljopbfbljkjoaaDoor.frameBackDone
