/- FrameBack returns true: its phases, one behind the other. -/
import Derived.Test.YtljopbfbljkjoaaDoorFacts
namespace Go.WE
set_option linter.unusedVariables false
set_option maxRecDepth 100000
open Go Go.Proofs
open Go.RowKit (Below)

theorem conv0 {v v' : V} {l : List (Nat × V)} (t : Nat) (h : ∀ ν u, v.rel ν u → v'.rel ν u) : LessA (l ++ [(t, v)]) (l ++ [(t, v')]) := by
  intro ν
  induction l with
  | nil => exact ⟨rfl, h ν, trivial⟩
  | cons p r ih => exact ⟨rfl, same_rel, ih⟩
theorem lessY (v : V) (sl at_ : U) : LessA (sY v sl at_ (.lit .i64 0)) (sY v sl at_ (.i .i64 (kk 0))) := fun ν => ⟨rfl, same_rel, rfl, same_rel, rfl, same_rel, rfl, same_rel, rfl, same_rel, rfl, lit_less rfl, trivial⟩
theorem lessJ (sl at_ : U) : LessA (sJ sl at_ (.lit .i64 0)) (sJ sl at_ (.i .i64 (kk 0))) := fun ν => ⟨rfl, same_rel, rfl, same_rel, rfl, same_rel, rfl, same_rel, rfl, same_rel, rfl, lit_less rfl, trivial⟩
theorem lessW (sl at_ : U) : LessA (sW sl at_ (.lit .i64 (-128))) (sW sl at_ (.i .i64 (K (sP 0)))) := fun ν => ⟨rfl, same_rel, rfl, same_rel, rfl, same_rel, rfl, same_rel, rfl, same_rel, rfl, lit_less rfl, trivial⟩

section
variable {o : Ops} {W : World} {a : Act} {w : World} {n : Nat} {f : LF} {sl at_ : U} {r : RW} {s s' : FSt}
abbrev InA (W : World) (n : Nat) (f : LF) (r : RW) (s : FSt) (l : List (Nat × V)) (a : Act) (w : World) : Prop := OwnL fp3 3 [bL n f, bR r, bS s] W l a w

theorem loopA (hO : OpsOK o) (hn : n ≤ 40) (h : InA W n f r s (sY (ahead n) sl at_ (.i .i64 (kk 0))) a w) :
    (Code.block 0 (.loop la)).wp Tryd.prog (fun x a' w' => x = .normal ∧ ∃ s', OwnL fp3 3 [bR r, bS s'] W (sT sl at_) a' w') a w := by
  refine for_loop (fun k a w => ∃ s', InA W n f r s' (sY (ahead n) sl at_ (.i .i64 (kk k))) a w) (fun a w => ∃ s', OwnL fp3 3 [bR r, bS s'] W (sT sl at_) a w) n ?_ ?_ ⟨s, h⟩ (fun a' w' h => ⟨rfl, h⟩)
  · rintro k hk a w ⟨s, hI⟩
    rw [la_eq, ← kk_one]
    refine wp_two (OwnL.goB (l'' := sY (ahead n) sl at_ (.i .i64 (kk k))) (ms'' := [bL n f, bR r, bS s]) (XK (ΓM_ok hO)) rfl ((e5c o n f sl at_ (kk k) r s).trans (by rw [slt_kk (by omega) (by omega), decide_eq_true hk])) (e5t o n f sl at_ (kk k) r s) (Nat.ble_eq_true_of_le (by omega)) rfl rfl (by kernel_rfl) (LessA.refl _) (LessM.refl _) hI) fun a w hI => ?_
    refine wp_two (OwnL.go (XK (ΓM_ok hO)) rfl (e7 o n f sl at_ (kk k) r s) (okAct_true hk (by omega)) rfl rfl (by kernel_rfl) (LessA.refl _) (LessM.refl _) hI) fun a w hI => ?_
    refine wp_mono (OwnL.go (XK (ΓM_ok hO)) rfl (e6 o n f sl at_ (kk k) r _) rfl rfl rfl (by kernel_rfl) (LessA.refl _) (LessM.refl _) hI) ?_
    rintro x a w ⟨rfl, hI⟩
    exact ⟨rfl, _, hI⟩
  · rintro a w ⟨s, hI⟩
    rw [la_eq]
    refine wp_out (wp_mono (OwnL.outB (XK (ΓM_ok hO)) rfl ((e5c o n f sl at_ (kk n) r s).trans (by rw [slt_kk (by omega) (by omega), decide_eq_false (by omega)])) (e5f o n f sl at_ (kk n) r s) (Nat.ble_eq_true_of_le (by omega)) rfl rfl (by kernel_rfl) (LessA.refl _) (LessM.refl _) hI) ?_)
    rintro x a w ⟨rfl, hI⟩
    exact ⟨rfl, _, hI⟩

abbrev InU (W : World) (r : RW) (s s' : FSt) (l : List (Nat × V)) (a : Act) (w : World) : Prop := OwnL fp3 4 [bR r, bS s, bC s'] W l a w
theorem loopB (hO : OpsOK o) {j : Nat} (h : InU W r (stoK s j r) s (sJ sl at_ (.i .i64 (kk 0))) a w) :
    (Code.block 2 (.loop lb)).wp Tryd.prog (fun x a' w' => x = .normal ∧ InU W r (stoK s j r) s (sU sl at_) a' w') a w := by
  refine for_loop (fun k => InU W r (stoK s j r) s (sJ sl at_ (.i .i64 (kk k)))) (InU W r (stoK s j r) s (sU sl at_)) 11 ?_ ?_ h (fun a' w' h => ⟨rfl, h⟩)
  · intro k hk a w hI
    obtain ⟨h1, h2⟩ := okReg_all ⟨k, hk⟩
    rw [lb_eq, ← kk_one]
    refine wp_two (OwnL.goB (XK (ΓM_ok hO)) rfl ((e27c o sl at_ (kk k) r _ s).trans (by rw [h2])) (e27t o sl at_ (kk k) r _ s) rfl rfl rfl (by kernel_rfl) (LessA.refl _) (LessM.refl _) hI) fun a w hI => ?_
    refine wp_two (OwnL.goB (XK (ΓM_ok hO)) rfl ((e29c o sl at_ (kk k) r _ s).trans (by rw [regs_no])) (e29 o sl at_ (kk k) r _ s) h1 rfl rfl (by kernel_rfl) (LessA.refl _) (LessM.refl _) hI) fun a w hI => ?_
    exact OwnL.go (XK (ΓM_ok hO)) rfl (e28 o sl at_ (kk k) r _ s) rfl rfl rfl (by kernel_rfl) (LessA.refl _) (LessM.refl _) hI
  · intro a w hI
    rw [lb_eq]
    exact wp_out (OwnL.outB (XK (ΓM_ok hO)) rfl ((e27c o sl at_ (kk 11) r _ s).trans (by rfl)) (e27f o sl at_ (kk 11) r _ s) rfl rfl rfl (by kernel_rfl) (LessA.refl _) (LessM.refl _) hI)
theorem loopC (hO : OpsOK o) {j : Nat} (h : InU W r (stoK s j r) s (sW (K (sP j)) at_ (.i .i64 (K (sP 0)))) a w) :
    (Code.block 4 (.loop lc)).wp Tryd.prog (fun x a' w' => x = .normal ∧ InU W r (stoK s j r) s (sU (K (sP j)) at_) a' w') a w := by
  refine for_loop (fun k => InU W r (stoK s j r) s (sW (K (sP j)) at_ (.i .i64 (K (sP k))))) (InU W r (stoK s j r) s (sU (K (sP j)) at_)) 16 ?_ ?_ h (fun a' w' h => ⟨rfl, h⟩)
  · intro k hk a w hI
    obtain ⟨h1, h2⟩ := sp_all ⟨k, hk⟩
    have h3 := (slot_all ⟨k, hk⟩).1
    simp only at h1 h2 h3
    rw [lc_eq, ← h2]
    refine wp_two (OwnL.goB (XK (ΓM_ok hO)) rfl ((e32c o _ at_ _ r _ s).trans (by rw [h1])) (e32t o _ at_ _ r _ s) rfl rfl rfl (by kernel_rfl) (LessA.refl _) (LessM.refl _) hI) fun a w hI => ?_
    refine wp_two (OwnL.goB (XK (ΓM_ok hO)) rfl ((e34c o _ at_ _ r _ s).trans (by rw [dif_no hk])) (e34 o _ at_ _ r _ s) (by rw [h3]; rfl) rfl rfl (by kernel_rfl) (LessA.refl _) (LessM.refl _) hI) fun a w hI => ?_
    exact OwnL.go (XK (ΓM_ok hO)) rfl (e33 o _ at_ _ r _ s) rfl rfl rfl (by kernel_rfl) (LessA.refl _) (LessM.refl _) hI
  · intro a w hI
    rw [lc_eq]
    exact wp_out (OwnL.outB (XK (ΓM_ok hO)) rfl ((e32c o _ at_ _ r _ s).trans (by rfl)) (e32f o _ at_ _ r _ s) rfl rfl rfl (by kernel_rfl) (LessA.refl _) (LessM.refl _) hI)
theorem loopD (hO : OpsOK o) {j i : Nat} (hr : r.k ≠ K 0) (hj : j < 16) (hi : i < 8) (h : OwnL fp3 3 [bR r, bS (layR (stoK s j r) (K (sP j) + K i) (K 1))] W (sQ (K (sP j)) (K (sP j) + K i) (K (sP j) + K (0 : Nat))) a w) :
    (Code.block 6 (.loop ld)).wp Tryd.prog (fun x a' w' => x = .normal ∧ OwnL fp3 3 [bR r, bS (layR (stoK s j r) (K (sP j) + K i) (K 1))] W (sO (K (sP j)) (K (sP j) + K i)) a' w') a w := by
  refine for_loop (fun k => OwnL fp3 3 [bR r, bS (layR (stoK s j r) (K (sP j) + K i) (K 1))] W (sQ (K (sP j)) (K (sP j) + K i) (K (sP j) + K (k : Nat)))) (OwnL fp3 3 [bR r, bS (layR (stoK s j r) (K (sP j) + K i) (K 1))] W (sO (K (sP j)) (K (sP j) + K i))) 8 ?_ ?_ h (fun a' w' h => ⟨rfl, h⟩)
  · intro k hk a w hI
    have h1 := slot8_all ⟨j, hj⟩ ⟨k, hk⟩
    have h2 := slot1_all ⟨j, hj⟩ ⟨k, hk⟩
    simp only at h1 h2
    rw [ld_eq, ← h2]
    refine wp_two (OwnL.goB (XK (ΓM_ok hO)) rfl ((e42c o _ _ _ r _).trans (by rw [h1])) (e42t o _ _ _ r _) rfl rfl rfl (by kernel_rfl) (LessA.refl _) (LessM.refl _) hI) fun a w hI => ?_
    refine wp_two (OwnL.goB (XK (ΓM_ok hO)) rfl ((e44c o _ _ _ r _).trans (by rw [lay_read hr hj hi hk])) (e44 o _ _ _ r _) rfl rfl rfl (by kernel_rfl) (LessA.refl _) (LessM.refl _) hI) fun a w hI => ?_
    exact OwnL.go (XK (ΓM_ok hO)) rfl (e43 o _ _ _ r _) rfl rfl rfl (by kernel_rfl) (LessA.refl _) (LessM.refl _) hI
  · intro a w hI
    rw [ld_eq]
    exact wp_out (OwnL.outB (XK (ΓM_ok hO)) rfl ((e42c o _ _ _ r _).trans (by rw [show K ((8 : Nat) : Int) = K 8 from rfl, slot9_all ⟨j, hj⟩])) (e42f o _ _ _ r _) rfl rfl rfl (by kernel_rfl) (LessA.refl _) (LessM.refl _) hI)

theorem body3 : Tryd.f3.body = some c3 := by kernel_rfl
noncomputable def cT : Code := d0.sB.sB
theorem cT_eq : cT = .seq m14 (.seq m15 (.seq m17 (.seq m18 (.seq m20 (.seq m21 (.seq m23 (.seq m24 (.seq (.seq m26 (.block 2 (.loop lb))) (.seq (.seq m31 (.block 4 (.loop lc))) (.seq m38 (.seq m39 (.seq (.seq m41 (.block 6 (.loop ld))) m49)))))))))))) := by kernel_rfl
theorem c3_eq' : c3 = .seq m0 (.seq m1 (.seq m2 (.seq (.seq m4 (.block 0 (.loop la))) cT))) := by kernel_rfl

abbrev RT (W : World) (e : Ending) (w' : World) : Prop := e = .returned (.bool true) ∧ Below W.heap.size W w'
theorem res_true {ν : Nu} {u : Value} {w' : World} (hu : (one (.b true)).rel ν u) (hb : Below W.heap.size W w') : RT W (.returned u) w' := by
  have hu : (A.b true).rel ν u := hu
  simp only [A.rel] at hu
  exact ⟨by rw [hu], hb⟩
theorem tail (hO : OpsOK o) (h : OwnL fp3 3 [bR r, bS s] W (sT sl at_) a w) : cT.wp Tryd.prog (bodyPostD Tryd.prog Tryd.f3 (RT W)) a w := by
  rw [cT_eq]
  have X := XK (ΓM_ok hO)
  refine wp_two (OwnL.go X rfl (e14 o sl at_ r s) rfl rfl rfl (by kernel_rfl) (LessA.refl _) (LessM.refl _) h) fun a w hI => ?_
  refine wp_two (OwnL.go X rfl (e15 o sl at_ (o.kn r) s) rfl rfl rfl (by kernel_rfl) (LessA.refl _) (LessM.refl _) hI) fun a w hI => ?_
  have hr := ctxE_some (o.kn r)
  revert hI hr
  generalize ctxE (o.kn r) = r
  intro hI hr
  refine wp_two (OwnL.go X rfl (e17 o sl at_ r s) rfl rfl rfl (by kernel_rfl) (LessA.refl _) (LessM.refl _) hI) fun a w hI => ?_
  refine wp_two (OwnL.go X rfl (e18 o sl at_ r s s) rfl rfl rfl (by kernel_rfl) (LessA.refl _) (LessM.refl _) hI) fun a w hI => ?_
  refine wp_two (OwnL.go X rfl (e20 o sl at_ r s s) rfl rfl rfl (by kernel_rfl) (LessA.refl _) (LessM.refl _) hI) fun a w hI => ?_
  obtain ⟨j, hj, ej⟩ := slotE_is sl
  rw [ej] at hI
  obtain ⟨q1, q2, q3⟩ := slot_all ⟨j, hj⟩
  simp only at q1 q2 q3
  refine wp_two (OwnL.go X rfl (e21 o _ at_ r s s) q1 rfl rfl (by kernel_rfl) (LessA.refl _) (LessM.refl _) hI) fun a w hI => ?_
  refine wp_two (OwnL.go X rfl (e23 o _ at_ r _ s) q1 rfl rfl (by kernel_rfl) (LessA.refl _) (LessM.refl _) hI) fun a w hI => ?_
  rw [q2] at hI
  refine wp_two (OwnL.goB X rfl ((e24c o _ at_ _ r _ _ s).trans (by rw [back_no hr])) (e24 o _ at_ _ r _ _ s) rfl rfl rfl (by kernel_rfl) (LessA.refl _) (LessM.refl _) hI) fun a w hI => ?_
  refine wp_two (wp_two (OwnL.go X rfl (e26 o _ at_ r _ s) rfl rfl rfl (by kernel_rfl) (lessJ _ _) (LessM.refl _) hI) fun a w hI => loopB hO hI) fun a w hI => ?_
  refine wp_two (wp_two (OwnL.go X rfl (e31 o _ at_ r _ s) rfl rfl rfl (by kernel_rfl) (lessW _ _) (LessM.refl _) hI) fun a w hI => loopC hO hI) fun a w hI => ?_
  refine wp_two (OwnL.go X rfl (e38 o _ at_ r _ s) rfl rfl rfl (by kernel_rfl) (LessA.refl _) (LessM.refl _) hI) fun a w hI => ?_
  obtain ⟨i, hi, ei⟩ := pick_cases 8 (by omega) (by omega) at_
  have ei : pickT 8 at_ = K i := ei
  rw [ei] at hI
  obtain ⟨p1, p2⟩ := one_all ⟨j, hj⟩ ⟨i, hi⟩
  simp only at p1 p2
  refine wp_two (OwnL.goB X rfl ((e39c o _ _ r _).trans (by rw [p1]; rfl)) (e39 o _ _ r _) rfl rfl rfl (by kernel_rfl) (LessA.refl _) (LessM.refl _) hI) fun a w hI => ?_
  refine wp_two (wp_two (OwnL.go X rfl (e41 o _ _ r _) rfl rfl rfl (by kernel_rfl) (LessA.refl _) (LessM.refl _) hI) fun a w hI => loopD hO hr hj hi (by
    have e : K (sP j) + K ((0 : Nat) : Int) = K (sP j) := BitVec.add_zero _
    rw [e]
    exact hI)) fun a w hI => ?_
  exact OwnL.retP X rfl rfl (e49 o _ _ r _) rfl rfl (by kernel_rfl) hI (fun ν u w' hu hb => res_true hu hb)

theorem head_list (hO : OpsOK o) (hn : n < 2 ^ 63) (h : OwnL fp3 1 [bL n f] W (sA (ahead n) sl at_ r) a w) : c3.wp Tryd.prog (bodyPostD Tryd.prog Tryd.f3 (RT W)) a w := by
  rw [c3_eq']
  have X := XK (ΓM_ok hO)
  have hb : Nat.blt n (2 ^ 63) = true := Nat.ble_eq_true_of_le hn
  refine wp_two (OwnL.go X rfl (e0 o n f sl at_ r) rfl rfl rfl (by kernel_rfl) (LessA.refl _) (LessM.refl _) h) fun a w hI => ?_
  refine wp_two (OwnL.go X rfl (e1 o n f sl at_ r) rfl rfl rfl (by kernel_rfl) (LessA.refl _) (LessM.refl _) hI) fun a w hI => ?_
  by_cases h40 : n ≤ 40
  · refine wp_two (OwnL.goB X rfl ((e2c o n f sl at_ r newFS).trans (by rw [show K 40 = kk 40 from rfl, slt_kk (by omega) hn, decide_eq_false (by omega)])) (e2f o n f sl at_ r newFS) hb rfl rfl (by kernel_rfl) (LessA.refl _) (LessM.refl _) hI) fun a w hI => ?_
    refine wp_two (wp_two (OwnL.go X rfl (e4 o n f sl at_ r newFS) rfl rfl rfl (by kernel_rfl) (lessY _ _ _) (LessM.refl _) hI) fun a w hI => loopA hO h40 hI) fun a w hI => ?_
    obtain ⟨s', hI⟩ := hI
    exact tail hO hI
  · refine wp_seq (OwnL.phase (r := ⟨.ret, .b (Nat.blt n (2 ^ 63)), [(8, one (.b true))], []⟩) X rfl ((congrArg (endM fp3.km [8] [] 3) (Out.at_pick ((e2c o n f sl at_ r newFS).trans (by rw [show K 40 = kk 40 from rfl, slt_kk (by omega) hn, decide_eq_true (by omega)])))).trans (e2t o n f sl at_ r newFS)) hb rfl rfl (by kernel_rfl) (LessA.refl _) (LessM.refl _) hI fun ν' a' w' x hx h => ?_)
    have hx : x = .ret := hx
    subst hx
    obtain ⟨ν, hs, hbel, _⟩ := h
    have hu : (A.b true).rel ν (a'.tmps.getD 8 undef) := hs.slots 8 _ (.head _)
    simp only [A.rel] at hu
    show bodyPostD Tryd.prog Tryd.f3 (RT W) .ret a' w'
    exact end_ret rfl (.inr rfl) hs.defers hu ⟨rfl, hbel⟩
theorem head_nil (hO : OpsOK o) (h : OwnL fp3 1 [] W (sA (one .nils) sl at_ r) a w) : c3.wp Tryd.prog (bodyPostD Tryd.prog Tryd.f3 (RT W)) a w := by
  rw [c3_eq']
  have X := XK (ΓM_ok hO)
  refine wp_two (OwnL.go X rfl (e0n o sl at_ r) rfl rfl rfl (by kernel_rfl) (LessA.refl _) (LessM.refl _) h) fun a w hI => ?_
  refine wp_two (OwnL.go X rfl (e1n o sl at_ r) rfl rfl rfl (by kernel_rfl) (LessA.refl _) (LessM.refl _) hI) fun a w hI => ?_
  refine wp_two (OwnL.go X rfl (e2n o sl at_ r newFS) rfl rfl rfl (by kernel_rfl) (LessA.refl _) (LessM.refl _) hI) fun a w hI => ?_
  refine wp_two (J := fun a w => OwnL fp3 3 [bR r, bS newFS] W (sT sl at_) a w) (wp_two (OwnL.go X rfl (e4n o sl at_ r newFS) rfl rfl rfl (by kernel_rfl) (LessA.refl _) (LessM.refl _) hI) fun a w hI => ?_) fun a w hI => tail hO hI
  refine for_loop (fun k a w => OwnL fp3 3 [bR r, bS newFS] W (sY (one .nils) sl at_ (.lit .i64 0)) a w) (fun a w => OwnL fp3 3 [bR r, bS newFS] W (sT sl at_) a w) 0 (fun k hk => absurd hk (Nat.not_lt_zero _)) ?_ hI (fun a' w' h => ⟨rfl, h⟩)
  intro a w hI
  rw [la_eq]
  exact wp_out (OwnL.out X rfl (e5n o sl at_ r newFS) rfl rfl rfl (by kernel_rfl) (LessA.refl _) (LessM.refl _) hI)
theorem head_zero (hO : OpsOK o) (h : OwnL fp3 1 [] W (sA ahead0 sl at_ r) a w) : c3.wp Tryd.prog (bodyPostD Tryd.prog Tryd.f3 (RT W)) a w := by
  rw [c3_eq']
  have X := XK (ΓM_ok hO)
  refine wp_two (OwnL.go X rfl (e0z o sl at_ r) rfl rfl rfl (by kernel_rfl) (LessA.refl _) (LessM.refl _) h) fun a w hI => ?_
  refine wp_two (OwnL.go X rfl (e1z o sl at_ r) rfl rfl rfl (by kernel_rfl) (LessA.refl _) (LessM.refl _) hI) fun a w hI => ?_
  refine wp_two (OwnL.go X rfl (e2z o sl at_ r newFS) rfl rfl rfl (by kernel_rfl) (LessA.refl _) (LessM.refl _) hI) fun a w hI => ?_
  refine wp_two (J := fun a w => OwnL fp3 3 [bR r, bS newFS] W (sT sl at_) a w) (wp_two (OwnL.go X rfl (e4z o sl at_ r newFS) rfl rfl rfl (by kernel_rfl) (LessA.refl _) (LessM.refl _) hI) fun a w hI => ?_) fun a w hI => tail hO hI
  refine for_loop (fun k a w => OwnL fp3 3 [bR r, bS newFS] W (sY ahead0 sl at_ (.lit .i64 0)) a w) (fun a w => OwnL fp3 3 [bR r, bS newFS] W (sT sl at_) a w) 0 (fun k hk => absurd hk (Nat.not_lt_zero _)) ?_ hI (fun a' w' h => ⟨rfl, h⟩)
  intro a w hI
  rw [la_eq]
  exact wp_out (OwnL.out X rfl (e5z o sl at_ r newFS) rfl rfl rfl (by kernel_rfl) (LessA.refl _) (LessM.refl _) hI)
end

/-! ### called -/

/-- A call ahead. -/
structure AW where
  kd : U
  i : U
  at_ : U
  sz : U
  r : RW
  nl : Bool
def RW.vs (r : RW) : List Value := [.int .i64 (vof .i64 r.k), .int .i64 (vof .i64 r.o), .int .i64 (vof .i64 r.m), .int .i64 (vof .i64 r.i), .int .u64 (vof .u64 r.tv), .int .u64 (vof .u64 r.tm), .int .u64 (vof .u64 r.ul), .int .u64 (vof .u64 r.uh), .int .i64 (vof .i64 r.sl), .int .i64 (vof .i64 r.sh)]
def AW.vs (x : AW) : List Value := [.int .i64 (vof .i64 x.kd), .int .i64 (vof .i64 x.i), .int .i64 (vof .i64 x.at_), .int .i64 (vof .i64 x.sz)] ++ x.r.vs ++ [.bool x.nl]
def LF.of (g : Nat → AW) : LF := ⟨fun i => (g i).kd, fun i => (g i).i, fun i => (g i).at_, fun i => (g i).sz, ⟨fun i => (g i).r.k, fun i => (g i).r.o, fun i => (g i).r.m, fun i => (g i).r.i, fun i => (g i).r.tv, fun i => (g i).r.tm, fun i => (g i).r.ul, fun i => (g i).r.uh, fun i => (g i).r.sl, fun i => (g i).r.sh⟩, fun i => (g i).nl⟩
theorem of_rel (g : Nat → AW) (i : Nat) : (LF.of g).s.rel i (g i).vs := by
  simp only [LF.s, LF.of, RF.s, Sh.rel, relShs]
  refine ⟨[_], _, rfl, rfl, [_], _, rfl, rfl, [_], _, rfl, rfl, [_], _, rfl, rfl, (g i).r.vs, [_], rfl, ?_, [_], [], rfl, rfl, rfl⟩
  exact ⟨[_], _, rfl, rfl, [_], _, rfl, rfl, [_], _, rfl, rfl, [_], _, rfl, rfl, [_, _, _, _, _, _], _, rfl, ⟨[_, _], _, rfl, ⟨[_], _, rfl, rfl, [_], _, rfl, rfl, rfl⟩, [_, _], _, rfl, ⟨[_], _, rfl, rfl, [_], _, rfl, rfl, rfl⟩, [_, _], _, rfl, ⟨[_], _, rfl, rfl, [_], _, rfl, rfl, rfl⟩, rfl⟩, rfl⟩
theorem one_i {ν : Nu} {k : IntKind} {x : U} : (T.a (.i k x)).rel ν [.int k (vof k x)] := by
  simp only [T.rel, A.rel]
  exact ⟨_, rfl, rfl, trivial⟩
theorem rw_rel (r : RW) {ν : Nu} : (V.t r.t).rel ν (.agg r.vs.toArray) := by
  refine ⟨r.vs.toArray, rfl, ?_⟩
  show r.t.rel ν r.vs
  unfold RW.t
  simp only [T.rel, relTs]
  exact ⟨[_], _, rfl, one_i, [_], _, rfl, one_i, [_], _, rfl, one_i, [_], _, rfl, one_i, [_, _, _, _, _, _], _, rfl, ⟨[_, _], _, rfl, ⟨[_], _, rfl, one_i, [_], _, rfl, one_i, rfl⟩, [_, _], _, rfl, ⟨[_], _, rfl, one_i, [_], _, rfl, one_i, rfl⟩, [_, _], _, rfl, ⟨[_], _, rfl, one_i, [_], _, rfl, one_i, rfl⟩, rfl⟩, rfl⟩

def nuL (b off : Nat) : Nu := fun i => if i = 0 then some (b, off) else none
theorem nuL_some {b off i r base : Nat} (h : nuL b off i = some (r, base)) : i = 0 ∧ r = b ∧ base = off := by
  unfold nuL at h
  split at h
  · cases h; exact ⟨by assumption, rfl, rfl⟩
  · cases h
theorem mem_nil {W : World} : Mem (fun _ => True) (fun _ => none) W (hM [] 1) := by
  have hget : ∀ i x, (hM [] 1).m.get i = some x → False := fun i x e => by
    have := get_memT [] i x e
    cases this
  exact ⟨⟨(fun i r b' e => by cases e), fun i x e => (hget i x e).elim, fun i hi => rfl, fun i x e => (hget i x e).elim, Nat.le_refl _, fun g hg => by cases hg⟩, fun i x e => (hget i x e).elim⟩
theorem mem_list {b off n : Nat} {W : World} {g : Nat → AW} (h0 : 0 < n) (hc : ∀ i, i < n → ∀ j, j < 15 → W.cell? ⟨b, off + 15 * i + j, none⟩ = (g i).vs[j]?) : Mem (fun _ => True) (nuL b off) W (hM [bL n (LF.of g)] 1) := by
  have hrow : ∃ cs ty fr, W.heap[b]? = some (.cells cs ty fr) ∧ ∀ i, i < n → ∀ j, j < 15 → cs[off + 15 * i + j]? = (g i).vs[j]? := by
    have h := hc 0 h0 0 (by omega)
    unfold World.cell? at h
    cases hh : W.heap[b]? with
    | none => simp [hh, AW.vs] at h
    | some o =>
      cases o with
      | cells cs ty fr =>
        refine ⟨cs, ty, fr, rfl, fun i hi j hj => ?_⟩
        have := hc i hi j hj
        simpa [World.cell?, hh] using this
      | _ => simp [hh, AW.vs] at h
  obtain ⟨cs, ty, fr, hh, hcs⟩ := hrow
  have hb : b < W.heap.size := (Array.getElem?_eq_some_iff.1 hh).1
  have hget : ∀ i x, (hM [bL n (LF.of g)] 1).m.get i = some x → i = 0 ∧ x = ⟨false, .arr 15 (.sym n) (LF.of g).s⟩ := fun i x e => by
    have := get_memT _ i x e
    simpa [bL] using this
  refine ⟨⟨(fun i r b' e => by obtain ⟨_, rfl, _⟩ := nuL_some e; exact hb), (fun i x e hrw => by obtain ⟨_, rfl⟩ := hget i x e; cases hrw), (fun i hi => by
    have hi : 1 ≤ i := hi
    unfold nuL
    rw [if_neg (by omega)]), (fun i x e => by obtain ⟨rfl, _⟩ := hget i x e; exact Nat.lt_succ_self _), Nat.le_refl _, fun g hg => by cases hg⟩, fun i x e _ => ?_⟩
  obtain ⟨rfl, rfl⟩ := hget i x e
  have hlt : off + 15 * (n - 1) + 14 < cs.size := by
    have := hcs (n - 1) (by omega) 14 (by omega)
    have h2 : cs[off + 15 * (n - 1) + 14]? = some (.bool (g (n - 1)).nl) := this
    exact (Array.getElem?_eq_some_iff.1 h2).1
  refine .inl ⟨b, off, cs, ty, fr, cs.toList.take off, (cs.toList.drop off).take (15 * n), (cs.toList.drop off).drop (15 * n), by simp [nuL], hh, ?_, by simp; omega, ?_, fun h => by cases h⟩
  · rw [List.append_assoc, List.take_append_drop, List.take_append_drop]
  · simp only [T.rel]
    refine ⟨by simp [Ix.val]; omega, fun i hi => ?_⟩
    have hi : i < n := hi
    have e : (((cs.toList.drop off).take (15 * n)).drop (15 * i)).take 15 = (g i).vs := by
      apply List.ext_getElem?
      intro j
      by_cases hj : j < 15
      · rw [List.getElem?_take_of_lt hj, List.getElem?_drop, List.getElem?_take_of_lt (by omega), List.getElem?_drop, Array.getElem?_toList, ← hcs i hi j hj]
        congr 1
        omega
      · rw [List.getElem?_eq_none (by simp; omega), List.getElem?_eq_none (by simp [AW.vs, RW.vs]; omega)]
    rw [e]
    exact of_rel g i

theorem OwnL.enterA {ν : Nu} {ms : List (Nat × Blk)} {m : Nat} {args : List V} {vs : List Value} {W : World} (hm : Mem (fun _ => True) ν W (hM ms m)) (hro : ∀ id r base, ν id = some (r, base) → ∀ b, (hM ms m).m.get id = some b → b.rw = false) (hv : relV ν args vs) (hsz : args.length ≤ fp3.nt) :
    OwnL fp3 m ms W (argsL 0 args) { tmps := vs.toArray ++ Array.replicate (fp3.nt - vs.toArray.size) undef, defers := [] } W := by
  have hlen := relV_length hv
  refine ⟨ν, ⟨hm, fun t v h => ?_, by simp; omega, rfl⟩, Below.refl _ _, fun id r base h => .inr (hro id r base h)⟩
  refine argsL_rel args vs 0 hv (fun j hj => ?_) t v h
  simp [Array.getD_eq_getD_getElem?, Array.getElem?_append, hj]
theorem i_rel {ν : Nu} {k : IntKind} {x : U} : (V.t (.a (.i k x))).rel ν (.int k (vof k x)) := by
  show (A.i k x).rel ν _
  simp only [A.rel]
theorem fb_list {b off n cap : Nat} {g : Nat → AW} {W : World} (h0 : 0 < n) (hn : n < 2 ^ 63) (hcap : n ≤ cap) (hc : ∀ i, i < n → ∀ j, j < 15 → W.cell? ⟨b, off + 15 * i + j, none⟩ = (g i).vs[j]?) (x y : U) (r : RW) :
    Calls Tryd.prog 3 #[.slice (some ⟨b, off, none⟩) n cap, .int .i64 (vof .i64 x), .int .i64 (vof .i64 y), .agg r.vs.toArray] W (RT W) := by
  obtain ⟨o, hO⟩ := ops_exist
  refine calls_phases Tryd.func3 body3 (head_list hO hn (f := LF.of g) (sl := x) (at_ := y) (r := r) ?_)
  refine OwnL.enterA (args := [ahead n, i64 x, i64 y, .t r.t]) (vs := [.slice (some ⟨b, off, none⟩) n cap, .int .i64 (vof .i64 x), .int .i64 (vof .i64 y), .agg r.vs.toArray]) (mem_list h0 hc) (fun id r' base h b' hb' => ?_) ⟨?_, i_rel, i_rel, rw_rel r, trivial⟩ (by show 4 ≤ 178; decide)
  · have := get_memT _ id b' hb'
    simp [bL] at this
    rw [this.2]
  · show (A.sl 0 [] 15 (.lit 0) (.sym n) none).rel _ _
    simp only [A.rel]
    exact ⟨b, off, off, cap, by simp [nuL], rfl, fun _ => by simp [pathOff, Ix.val], hcap, fun _ e => by cases e⟩
theorem mem_zero {b off : Nat} {W : World} (hb : b < W.heap.size) : Mem (fun _ => True) (nuL b off) W (hM [] 1) := by
  have hget : ∀ i x, (hM [] 1).m.get i = some x → False := fun i x e => by
    have := get_memT [] i x e
    cases this
  exact ⟨⟨fun i r b' e => by obtain ⟨_, rfl, _⟩ := nuL_some e; exact hb, fun i x e => (hget i x e).elim, fun i hi => by
    have hi : 1 ≤ i := hi
    unfold nuL
    rw [if_neg (by omega)], fun i x e => (hget i x e).elim, Nat.le_refl _, fun g hg => by cases hg⟩, fun i x e => (hget i x e).elim⟩
theorem fb_zero {b off cap : Nat} {W : World} (hb : b < W.heap.size) (x y : U) (r : RW) :
    Calls Tryd.prog 3 #[.slice (some ⟨b, off, none⟩) 0 cap, .int .i64 (vof .i64 x), .int .i64 (vof .i64 y), .agg r.vs.toArray] W (RT W) := by
  obtain ⟨o, hO⟩ := ops_exist
  refine calls_phases Tryd.func3 body3 (head_zero hO (sl := x) (at_ := y) (r := r) ?_)
  refine OwnL.enterA (args := [ahead0, i64 x, i64 y, .t r.t]) (vs := [.slice (some ⟨b, off, none⟩) 0 cap, .int .i64 (vof .i64 x), .int .i64 (vof .i64 y), .agg r.vs.toArray]) (mem_zero (b := b) (off := off) hb) (fun id r' base h b' hb' => ?_) ⟨?_, i_rel, i_rel, rw_rel r, trivial⟩ (by show 4 ≤ 178; decide)
  · have := get_memT [] id b' hb'
    cases this
  · show (A.sl 0 [] 15 (.lit 0) (.lit 0) none).rel (nuL b off) _
    simp only [A.rel]
    exact ⟨b, off, off, cap, by simp [nuL], rfl, fun _ => by simp [pathOff, Ix.val], Nat.zero_le _, fun _ e => by cases e⟩
theorem fb_nil {W : World} (x y : U) (r : RW) : Calls Tryd.prog 3 #[.slice none 0 0, .int .i64 (vof .i64 x), .int .i64 (vof .i64 y), .agg r.vs.toArray] W (RT W) := by
  obtain ⟨o, hO⟩ := ops_exist
  refine calls_phases Tryd.func3 body3 (head_nil hO (sl := x) (at_ := y) (r := r) ?_)
  refine OwnL.enterA (args := [one .nils, i64 x, i64 y, .t r.t]) (vs := [.slice none 0 0, .int .i64 (vof .i64 x), .int .i64 (vof .i64 y), .agg r.vs.toArray]) mem_nil (fun id r' base h => by cases h) ⟨?_, i_rel, i_rel, rw_rel r, trivial⟩ (by show 4 ≤ 178; decide)
  show A.nils.rel (fun _ => none) _
  simp only [A.rel]
end Go.WE
