/- frame.Lay, walked: its rounds one behind the other. -/
import Derived.Test.YtljopbfbljkjoaaDoorLayE
import Derived.Test.YtljopbfbljkjoaaDoorEach
import Derived.Test.YtljopbfbljkjoaaDoorWE37
namespace Go.WE
set_option linter.unusedVariables false
set_option maxRecDepth 100000
open Go Go.Proofs Go.Proofs.YtljopbfbljkjoaaDoor.Eac
open Go.RowKit (Below)

def thereB (x y : U) : Bool := cond (cond (cond (BitVec.sle (K 0) y) (BitVec.sle (K (-128)) x) false) (BitVec.sle x (K 0)) false) (BitVec.sle y (0#64 - x)) false
abbrev i64 (x : U) : V := one (.i .i64 x)
def sl0 (x y : U) : List (Nat × V) := [(0, pt 0), (1, i64 x), (2, i64 y)]
def sl1 (x y : U) : List (Nat × V) := [(1, i64 x), (2, i64 y), (3, pt 1)]
def ms0 (s : FSt) : List (Nat × Blk) := [(0, ⟨true, s.t⟩)]
def memOf (p : Option (Ex × St)) : Option (Tr Blk × Nat × List Nat) := p.map fun p => (p.2.h.m, p.2.h.next, p.2.h.gl)
theorem l0_ev (s : FSt) (x y : U) : endOf fp8.km [1, 2, 3] (evL l0 (sl0 x y) (ms0 s) 1).pick = some ⟨.nrm, .tt, sl1 x y⟩ := by kernel_rfl
theorem l0_m (s : FSt) (x y : U) : memOf (evL l0 (sl0 x y) (ms0 s) 1).pick = some ((hM (msB s) 2).m, (hM (msB s) 2).next, (hM (msB s) 2).gl) := by kernel_rfl
theorem l1_c (s : FSt) (x y : U) : (evL l1 (sl1 x y) (msB s) 2).cnd = some (!thereB x y) := by kernel_rfl
theorem l1_f (s : FSt) (x y : U) : endOf fp8.km [1, 2, 3] ((evL l1 (sl1 x y) (msB s) 2).at false) = some ⟨.nrm, .tt, sl1 x y⟩ := by kernel_rfl
theorem l1_t (s : FSt) (x y : U) : endOf fp8.km [6] ((evL l1 (sl1 x y) (msB s) 2).at true) = some ⟨.ret, .tt, [(6, one (.lit .i64 17))]⟩ := by kernel_rfl
def sl3 : List (Nat × V) := [(3, pt 1), (15, one (.fn 61 [.ptr 3 [], .ptr 2 []]))]
theorem l3_ev (s : FSt) (x y : U) : endOf fp8.km [3, 15] (evL l3 (sl1 x y) (msB s) 2).pick = some ⟨.nrm, .tt, sl3⟩ := by kernel_rfl
theorem l3_m (s : FSt) (x y : U) : memOf (evL l3 (sl1 x y) (msB s) 2).pick = some ((hM (ms3 s x y) 4).m, (hM (ms3 s x y) 4).next, (hM (ms3 s x y) 4).gl) := by kernel_rfl

theorem vof_toInt (x : U) : vof .i64 x = x.toInt := by
  unfold vof
  rw [IntKind.wrap_i64, BitVec.toInt_eq_toNat_bmod]
  have h : (x.toNat : Int) < 18446744073709551616 := by have := x.isLt; omega
  simp only [Int.bmod_def]
  split <;> omega
theorem there_nat {x y : U} (h : thereB x y = true) : ∃ b n : Nat, b + n ≤ 128 ∧ vof .i64 x = (b : Int) - 128 ∧ vof .i64 y = (n : Int) := by
  unfold thereB at h
  have hc : ∀ {p q : Bool}, cond p q false = true → p = true ∧ q = true := by intro p q; cases p <;> simp
  obtain ⟨h, h4⟩ := hc h
  obtain ⟨h, h3⟩ := hc h
  obtain ⟨h1, h2⟩ := hc h
  rw [BitVec.sle, decide_eq_true_iff] at h1 h2 h3 h4
  have e0 : (K 0).toInt = 0 := rfl
  have e1 : (K (-128)).toInt = -128 := rfl
  rw [e0] at h1 h3
  rw [e1] at h2
  have e2 : (0#64 - x).toInt = - x.toInt := by
    rw [BitVec.toInt_sub]
    have : (0#64 : U).toInt = 0 := rfl
    rw [this]
    simp only [Int.bmod_def]
    split <;> omega
  rw [e2] at h4
  refine ⟨(x.toInt + 128).toNat, y.toInt.toNat, by omega, by rw [vof_toInt]; omega, by rw [vof_toInt]; omega⟩

theorem vof_bx : ∀ z : Fin 128, vof .i64 (BitVec.ofNat 64 z.val) = (z.val : Int) := by decide +kernel
def layL (s : FSt) (l : List Bx) : FSt := l.foldl (fun s x => layB s x.1) s
theorem layL_snoc (s : FSt) (l : List Bx) (x : Bx) : layL s (l ++ [x]) = layB (layL s l) x.1 := by simp [layL]
theorem layL_upto (s : FSt) (b : Nat) : ∀ n, b + n ≤ 128 → layL s (upto b n) = layN s b n
  | 0, _ => rfl
  | n + 1, h => by
    rw [upto_succ, layL_snoc, layL_upto s b n (by omega), bx_val (by omega)]
    rfl
theorem lA_eq : lA = .region 4 #[{ dst := some 7, op := .assign (.tmp 16), type := 3, pos := "frame.go:123", after := #[], guard := none }] false := by kernel_rfl
theorem body8 : Tryd.f8.body = some c8 := by kernel_rfl
theorem enters61 : Enters Tryd.prog 61 := enters_of entK 61 _ Tryd.func61 (by simp [Tryd.f61])

theorem assign_in {o : Oper} {t q : Nat} {id l m : Nat} {P : Program} {F : Act → World → Prop} {Q : Exit → Act → World → Prop} {a : Act} {W : World} (ho : o.op = .assign (.tmp q)) (hd : o.dst = some t) (hg : o.guard = none) (hF : F { a with tmps := a.tmps.setIfInBounds t (a.tmps.getD q undef) } W) :
    (Code.region id #[o] false).wpIn (Rnd l) m P (Exit.then F Q) a W := by
  refine wpIn_region_list ?_
  show wpListIn (Rnd l) m P #[o] (Exit.then F Q) [o] a W
  unfold wpListIn
  have hw : Region.wanted o (yielded #[o] a.tmps) = true := by simp [Region.wanted, hg]
  rw [if_pos hw]
  refine wpIn_of (next := fun a w => F a w) (by unfold plainO; rw [ho]) (fun a w h => h) ?_
  refine wp_of_value (v := a.tmps.getD q undef) (w' := W) (by unfold execOp; rw [ho]; rfl) ?_
  unfold Act.put
  rw [hd]
  exact hF

theorem args3 (r : Nat) (x y : U) : relV (nuOne r) [pt 0, i64 x, i64 y] [.pointer (some ⟨r, 0, none⟩), .int .i64 (vof .i64 x), .int .i64 (vof .i64 y)] := by
  refine ⟨?_, ?_, ?_, trivial⟩
  · show (A.ptr 0 []).rel (nuOne r) _
    simp only [A.rel]
    exact ⟨r, 0, rfl, rfl⟩
  · show (A.i .i64 x).rel (nuOne r) _
    simp only [A.rel]
  · show (A.i .i64 y).rel (nuOne r) _
    simp only [A.rel]
theorem l11_eq : l11 = .seq (.region 11 #[{ dst := some 6, op := .assign (.const (.int .i64 0)), type := 40, pos := "frame.go:132", after := #[], guard := none }] false) .ret := by kernel_rfl
theorem const_wp {o : Oper} {t : Nat} {v : Value} {id : Nat} {P : Program} {F : Act → World → Prop} {Q : Exit → Act → World → Prop} {a : Act} {W : World} (ho : o.op = .assign (.const v)) (hd : o.dst = some t) (hg : o.guard = none) (hF : F { a with tmps := a.tmps.setIfInBounds t v } W) :
    (Code.region id #[o] false).wp P (Exit.then F Q) a W := by
  refine wp_region_list ?_
  refine wpList_step' ?_
  have hw : Region.wanted o (yielded #[o] a.tmps) = true := by simp [Region.wanted, hg]
  rw [if_pos hw]
  refine wp_of_value (v := v) (w' := W) (by unfold execOp; rw [ho]; rfl) ?_
  unfold Act.put
  rw [hd]
  exact hF
set_option maxHeartbeats 1000000 in
theorem lay_there {r : Nat} {s : FSt} {x y : U} {b n : Nat} (hb : b + n ≤ 128) (hx : vof .i64 x = (b : Int) - 128) (hy : vof .i64 y = (n : Int)) (ht : thereB x y = true) (w : World) (hh : Holds w r s.t) :
    Calls Tryd.prog 8 #[.pointer (some ⟨r, 0, none⟩), .int .i64 (vof .i64 x), .int .i64 (vof .i64 y)] w fun e w' => e = .returned (.int .i64 0) ∧ Holds w' r (layN s b n).t ∧ But r w.heap.size w w' := by
  refine (callsIn_wide (n := 3)).1 (callsIn_of_wp_marks Tryd.func8 body8 trivial ?_)
  rw [c8_eq]
  have st : At fp8 (hM (ms0 s) 1) w (nuOne r) (sl0 x y) { tmps := #[.pointer (some ⟨r, 0, none⟩), .int .i64 (vof .i64 x), .int .i64 (vof .i64 y)] ++ Array.replicate (Tryd.f8.ntmps - 3) undef, defers := [] } w :=
    At.enterA (fp := fp8) (args := [pt 0, i64 x, i64 y]) (vs := [.pointer (some ⟨r, 0, none⟩), .int .i64 (vof .i64 x), .int .i64 (vof .i64 y)]) (mem_one hh) (args3 r x y) (show 3 ≤ 48 by decide)
  refine wpIn_seq (wpIn_wide.2 (wp_mono (At.growL (XK noΓ_ok) rfl (l0_ev s x y) (l0_m s x y) rfl rfl (by kernel_rfl) st) ?_))
  rintro e a1 w1 ⟨rfl, ν1, hle1, at1⟩
  refine wpIn_seq (wpIn_wide.2 (wp_mono (At.goB (XK noΓ_ok) rfl ((l1_c s x y).trans (by rw [ht]; rfl)) (l1_f s x y) rfl rfl (by kernel_rfl) (LessL.refl _) at1) ?_))
  rintro e a2 w2 ⟨rfl, at2⟩
  refine wpIn_seq (wpIn_seq (wpIn_wide.2 (wp_mono (At.growL (XK noΓ_ok) rfl (l3_ev s x y) (l3_m s x y) rfl rfl (by kernel_rfl) at2) ?_)))
  rintro e a3 w3 ⟨rfl, ν3, hle3, at3⟩
  refine wpIn_block ?_
  have h0 : ν3 0 = some (r, 0) := hle3 _ _ (hle1 _ _ rfl)
  have hm3 := at3.1.mem
  obtain ⟨Bs, vs1, n1, cS, rS⟩ := seen_cell1 (hm3.seen 1 ⟨true, .a (.ptr 0 [])⟩ rfl (.inl trivial))
  obtain ⟨Ba, va, n2, cA, rA'⟩ := seen_cell1 (hm3.seen 2 ⟨true, .a (.i .i64 x)⟩ rfl (.inl trivial))
  obtain ⟨Bn, vn, n3, cN, rN⟩ := seen_cell1 (hm3.seen 3 ⟨true, .a (.i .i64 y)⟩ rfl (.inl trivial))
  simp only [A.rel] at rA' rN
  subst rA' rN
  have t15 := at3.1.slots 15 _ (.tail _ (.head _))
  have t15 : (A.fn 61 [.ptr 3 [], .ptr 2 []]).rel ν3 _ := t15
  simp only [A.rel, relL] at t15
  obtain ⟨caps, e15, v3, us3, eu3, ⟨B3, base3, k3, rfl⟩, v2, us2, eu2, ⟨B2, base2, k2, rfl⟩, rfl⟩ := t15
  rw [n3] at k3
  cases k3
  rw [n2] at k2
  cases k2
  subst eu2
  have hcaps : caps = #[.pointer (some ⟨Bn, 0, none⟩), .pointer (some ⟨Ba, 0, none⟩)] := by
    apply Array.ext'
    rw [eu3]
    rfl
  subst hcaps
  have t3 := at3.1.slots 3 _ (.head _)
  have hBa : Ba ≠ r := fun e => by
    have := hm3.nums.inj 0 ⟨true, s.t⟩ rfl rfl 2 r 0 0 h0 (e ▸ n2)
    cases this
  have hBaL : Ba < w3.heap.size := hm3.nums.lt 2 Ba 0 n2
  have hH3 : Holds w3 r s.t := seen_holds (hm3.seen 0 ⟨true, s.t⟩ rfl (.inl trivial)) rfl rfl h0
  have hsz := at3.1.size
  refine wpIn_rangeFunc_ownF (F := Fence.wide) (n := 3) (α := Bx) rfl (by omega) (gf := 61) (lb := #[.pointer (some ⟨Bn, 0, none⟩), .pointer (some ⟨Ba, 0, none⟩)]) e15 trivial enters61
    (each_stops Fence.wide 2 trivial rfl (by omega) Bn Ba b n hb w3 (by rw [cN, hy]) (by rw [cA, hx])) (fun h k => kpA_t h k) (kpA_b hBaL) (Below.refl _ _) (fun _ => rfl)
    (fun pre W => Holds W r (layL s pre).t ∧ But r w3.heap.size w3 W) (fun _ _ _ => False)
    (fun _ _ _ _ hs hg hr => ⟨hs.1.grown hg (fun k e => (hr k e).2), hs.2.grown hg (Nat.le_refl _) (fun k e => (hr k e).1)⟩) (fun _ _ _ _ _ hs _ _ => hs.elim) ⟨hH3, But.refl _ _ _⟩
    (fun z => { tmps := (a3.tmps.setIfInBounds 16 (.int .i64 (z.1 : Int))).setIfInBounds 7 (.int .i64 (z.1 : Int)), defers := [] }) ?assign ?body ?done ?stop
  case assign =>
    intro l z W F hF
    rw [lA_eq]
    refine assign_in rfl rfl rfl ?_
    have ef : Array.foldl (fun t (x : Nat × Value) => match x with | (p, v) => t.setIfInBounds p v) a3.tmps (#[16].zip (encB z)) = a3.tmps.setIfInBounds 16 (.int .i64 (z.1 : Int)) := by
      simp [encB, Array.zip]
    have e16 : ((a3.tmps.setIfInBounds 16 (Value.int .i64 (z.1 : Int))).getD 16 undef) = .int .i64 (z.1 : Int) := by
      simp [Array.getD, hsz, fp8]
    simp only [ef, e16]
    exact hF
  case body =>
    rintro l pre z W ⟨hI1, hI2⟩ hlen
    obtain ⟨s', p1, p2, p3, p4, p5, p6, p7, p8⟩ := endM_some (lb_ev (layL s pre) (BitVec.ofNat 64 z.1) x y)
    have hwr : s'.h.wr = [0] := by
      have := lb_wr (layL s pre) (BitVec.ofNat 64 z.1) x y
      rw [show (evL lB (slL (BitVec.ofNat 64 z.1)) (ms3 (layL s pre) x y) 4).pick = _ from p1] at this
      simpa using this
    have m4 := mem_but hm3 h0 hI2 hI1
    have hz : vof .i64 (BitVec.ofNat 64 z.1) = (z.1 : Int) := vof_bx ⟨z.1, z.2⟩
    have st4 : Stand fp8 ν3 (hM (ms3 (layL s pre) x y) 4) (slL (BitVec.ofNat 64 z.1)) { tmps := (a3.tmps.setIfInBounds 16 (.int .i64 (z.1 : Int))).setIfInBounds 7 (.int .i64 (z.1 : Int)), defers := [] } W := by
      refine ⟨m4, fun t v htv => ?_, by simp [hsz], rfl⟩
      simp only [slL, List.mem_cons, Prod.mk.injEq, List.not_mem_nil, or_false] at htv
      rcases htv with ⟨rfl, rfl⟩ | ⟨rfl, rfl⟩
      · have e3 : (((a3.tmps.setIfInBounds 16 (Value.int .i64 (z.1 : Int))).setIfInBounds 7 (.int .i64 (z.1 : Int))).getD 3 undef) = a3.tmps.getD 3 undef := by
          simp [Array.getD_eq_getD_getElem?]
        show (pt 1).rel ν3 _
        rw [e3]
        exact t3
      · have e7 : (((a3.tmps.setIfInBounds 16 (Value.int .i64 (z.1 : Int))).setIfInBounds 7 (.int .i64 (z.1 : Int))).getD 7 undef) = .int .i64 (z.1 : Int) := by
          simp [Array.getD_eq_getD_getElem?, hsz, fp8]
        show (i64 (BitVec.ofNat 64 z.1)).rel ν3 _
        rw [e7]
        show (A.i .i64 (BitVec.ofNat 64 z.1)).rel ν3 _
        simp only [A.rel]
        rw [hz]
    refine phaseIn (XK noΓ_ok) rfl (by kernel_rfl) p1 (by rw [p2]; exact okE_true ⟨z.1, z.2⟩ _ _) (gl_none (by kernel_rfl)) (fun _ _ h => h) st4 ?_
    intro ν' a' W' e hc hg he
    have he : e = .normal := he
    subst he
    have hbut := goes_but (r := r) (m4.mark) h0 (.inl hwr) hg
    have hH' : Holds W' r (layL s (pre ++ [z])).t := by
      have h1 := hvals_mem p4 0 _ (.head _)
      have := seen_holds (hg.mem.seen 0 _ h1 (.inl (.inl trivial))) rfl rfl (hg.le _ _ h0)
      rw [layE_layB _ z.2, ← layL_snoc] at this
      exact this
    refine ⟨hbut.others hI1.cells, ?_, hH', hI2.trans (hbut.le hI2.size)⟩
    exact hbut.cell (Nat.lt_of_lt_of_le hBaL hI2.size) hBa
  case done =>
    rintro D xs W hD rfl ⟨hI1, hI2⟩ hK
    show l11.wpIn Fence.wide 3 Tryd.prog _ _ W
    rw [l11_eq]
    refine wpIn_seq (wpIn_wide.2 (const_wp rfl rfl rfl ?_))
    refine wpIn_ret ?_
    refine ⟨by simp, .inl ⟨_, _, rfl, run_takeDeferred hK, ?_⟩⟩
    rw [show a3.defers = [] from at3.1.defers]
    refine ⟨_, results_tmp rfl _ _ _, ?_, ?_, ?_⟩
    · simp [Array.getD_eq_getD_getElem?, hsz, fp8]
    · have := hI1.grown (grownBy_putObj' W D (.deferred none)) (fun k e => by cases e; exact ⟨_, hK, rfl⟩)
      rw [layL_upto s b n hb] at this
      exact this
    · exact (But.of_below at3.2).trans ((hI2.grown (grownBy_putObj' W D (.deferred none)) (Nat.le_refl _) (fun k e => by cases e; exact hD)).le at3.2.size)
  case stop =>
    rintro D c pre W _ _ h _
    exact h.elim

theorem lay_not {r : Nat} {s : FSt} {x y : U} (ht : thereB x y = false) (w : World) (hh : Holds w r s.t) :
    Calls Tryd.prog 8 #[.pointer (some ⟨r, 0, none⟩), .int .i64 (vof .i64 x), .int .i64 (vof .i64 y)] w fun e w' => e = .returned (.int .i64 17) ∧ Below w.heap.size w w' := by
  refine calls_phases Tryd.func8 body8 ?_
  rw [c8_eq]
  have st : At fp8 (hM (ms0 s) 1) w (nuOne r) (sl0 x y) { tmps := #[.pointer (some ⟨r, 0, none⟩), .int .i64 (vof .i64 x), .int .i64 (vof .i64 y)] ++ Array.replicate (Tryd.f8.ntmps - 3) undef, defers := [] } w :=
    At.enterA (fp := fp8) (args := [pt 0, i64 x, i64 y]) (vs := [.pointer (some ⟨r, 0, none⟩), .int .i64 (vof .i64 x), .int .i64 (vof .i64 y)]) (mem_one hh) (args3 r x y) (show 3 ≤ 48 by decide)
  refine wp_seq (wp_mono (At.growL (XK noΓ_ok) rfl (l0_ev s x y) (l0_m s x y) rfl rfl (by kernel_rfl) st) ?_)
  rintro e a1 w1 ⟨rfl, ν1, hle1, at1⟩
  refine wp_seq (phase_way (b := true) (XK noΓ_ok) rfl ((l1_c s x y).trans (by rw [ht]; rfl)) (l1_t s x y) rfl rfl (gl_none (by kernel_rfl)) at1.1 ?_)
  rintro ν' a' w' e hs hb he
  have he : e = .ret := he
  subst he
  refine end_ret rfl (.inr rfl) hs.defers (u := .int .i64 17) ?_ ⟨rfl, Below.base at1.2 hb⟩
  have := hs.slots 6 _ (.head _)
  have this : (A.lit .i64 17).rel ν' _ := this
  simp only [A.rel] at this
  exact this.1
end Go.WE
