/- Known, Set, Store: whatever they make; as contracts over functions that are not looked into. -/
import Derived.Test.YtljopbfbljkjoaaDoorSlot
namespace Go.WE
set_option linter.unusedVariables false
set_option maxRecDepth 100000
open Go Go.Proofs
open Go.RowKit (Below)

/-- What calls make, whatever that is. -/
structure Ops where
  kn : RW → RW
  set : FSt → U → RW → FSt
  setV : FSt → U → RW → Bool
  sto : FSt → U → U → RW → FSt
  stoV : FSt → U → U → RW → U

def knS (o : Ops) : List V → Option (A × V)
  | [.t t] => match rwOfT t with
    | some r => some (.tt, .t (o.kn r).t)
    | none => none
  | _ => none
def setS (o : Ops) (s : FSt) : List V → Option (A × V × FSt)
  | [.t (.a ax), .t t] => match i64Of ax, rwOfT t with
    | some x, some r => some (.tt, one (.b (o.setV s x r)), o.set s x r)
    | _, _ => none
  | _ => none
def sto2S (o : Ops) (s : FSt) : List V → Option (A × V × FSt)
  | [.t (.a ax), .t (.a (.i .i64 y)), .t t] => match i64Of ax, rwOfT t with
    | some x, some r => some (.tt, i64 (o.stoV s x y r), o.sto s x y r)
    | _, _ => none
  | _ => none
structure OpsOK (o : Ops) : Prop where
  kn : ∀ r, PureOK Tryd.prog 7 [.t r.t] (.t (o.kn r).t)
  set : ∀ s x r, SaysW 10 s [i64 x, .t r.t] (one (.b (o.setV s x r))) (o.set s x r)
  sto : ∀ s x y r, SaysW 11 s [i64 x, i64 y, .t r.t] (i64 (o.stoV s x y r)) (o.sto s x y r)

theorem SaysW.more {f : Nat} {s s' : FSt} {rest rest' : List V} {v : V} (h : SaysW f s rest' v s') (hr : ∀ ν us, relV ν rest us → relV ν rest' us) : SaysW f s rest v s' :=
  ⟨h.1, fun h' id hs S ν w vs hrd hwr hm ha => h.2 h' id hs S ν w vs hrd hwr hm (by
    match vs, ha with
    | v0 :: us, ⟨a, b⟩ => exact ⟨a, hr _ _ b⟩)⟩
theorem i64_rel {ν ν' : Nu} {ax : A} {x : U} {u : Value} (h : i64Of ax = some x) (hr : ax.rel ν u) : (V.t (.a (.i .i64 x))).rel ν' u := by
  show (A.i .i64 x).rel ν' u
  simp only [A.rel]
  exact i64Of_rel h hr
theorem kn_ok {o : Ops} (hO : OpsOK o) {Γ : Gam} (hΓ : ΓOK Tryd.prog Γ) : ΓOK Tryd.prog (specG 7 (knS o) Γ) := by
  refine specG_ok (fun args ok v hs hok => ?_) hΓ
  unfold knS at hs
  split at hs
  · split at hs
    · rename_i h1
      cases hs
      refine PureOK.more (hO.kn _) fun ν vs hv => ?_
      match vs, hv with
      | [u], ⟨r1, _⟩ => exact ⟨rwOfT_rel h1 r1, trivial⟩
    · cases hs
  · cases hs
theorem set_ok {o : Ops} (hO : OpsOK o) {Γ : Gam} (hΓ : ΓOK Tryd.prog Γ) : ΓOK Tryd.prog (stΓ 10 (setS o) Γ) := by
  refine stΓ_ok (fun s rest ok v s' hs hok => ?_) hΓ
  unfold setS at hs
  split at hs
  · split at hs
    · rename_i h1 h2
      cases hs
      refine (hO.set s _ _).more fun ν us hu => ?_
      match us, hu with
      | [u1, u2], ⟨r1, r2, _⟩ => exact ⟨i64_rel (ν := ν) (ν' := ν) h1 r1, rwOfT_rel h2 r2, trivial⟩
    · cases hs
  · cases hs
theorem sto2_ok {o : Ops} (hO : OpsOK o) {Γ : Gam} (hΓ : ΓOK Tryd.prog Γ) : ΓOK Tryd.prog (stΓ 11 (sto2S o) Γ) := by
  refine stΓ_ok (fun s rest ok v s' hs hok => ?_) hΓ
  unfold sto2S at hs
  split at hs
  · split at hs
    · rename_i h1 h2
      cases hs
      refine (hO.sto s _ _ _).more fun ν us hu => ?_
      match us, hu with
      | [u1, u2, u3], ⟨r1, r2, r3, _⟩ => exact ⟨i64_rel (ν := ν) (ν' := ν) h1 r1, r2, rwOfT_rel h2 r3, trivial⟩
    · cases hs
  · cases hs

/-! ### there are such functions -/

noncomputable def outFS (f : Nat) (s : FSt) (rest : List V) : FSt := match resM (evS f s rest) with
  | some (_, _, _, some ⟨_, t⟩) => match asFS t with
    | some s' => s'
    | none => s
  | _ => s
def setB (x : U) : Bool := cond (cond (cond (BitVec.slt x (K 0)) true (BitVec.sle (K 10) x)) false true) true false
def okSet (x : U) : Bool := cond (cond (BitVec.slt x (K 0)) true (BitVec.sle (K 10) x)) true (vB x 11 && wB x 11)
theorem set_ev (s : FSt) (x : U) (r : RW) : resM (evS 10 s [i64 x, .t r.t]) = some (.b (okSet x), one (.b (cond (cond (BitVec.slt x (K 0)) true (BitVec.sle (K 10) x)) false true)), [0], some ⟨true, (outFS 10 s [i64 x, .t r.t]).t⟩) := by kernel_rfl
def okFill (y : U) : Bool :=
  let z := fun i => y * K 8 + K i
  let t15 := vB (z 0) 128 && wB (z 0) 128
  let t19 := t15 && vB (z 1) 128
  let t24 := (t19 && wB (z 1) 128) && vB (z 2) 128
  let t29 := (t24 && wB (z 2) 128) && vB (z 3) 128
  let t34 := (t29 && wB (z 3) 128) && vB (z 4) 128
  let t39 := (t34 && wB (z 4) 128) && vB (z 5) 128
  let t44 := (t39 && wB (z 5) 128) && vB (z 6) 128
  let t49 := (t44 && wB (z 6) 128) && vB (z 7) 128
  ((t49 && wB (z 7) 128) && vB y 16) && wB y 16
def wholeB (x y : U) : Bool := cond (y == K 8) (BitVec.srem x (K 8) == K 0) false
def okSto (x y : U) : Bool := cond (!thereB x y) true (cond (wholeB x y) (okFill (BitVec.sdiv (K 128 + x) (K 8))) true)
def stoE (x y : U) (r : RW) : U := cond (!thereB x y) (K 17) (cond (wholeB x y) (K 0) (cond (r.k != K 1) (K 14) (cond (thereB x y) (K 0) (K 17))))
theorem sto_ev (s : FSt) (x y : U) (r : RW) : resM (evS 11 s [i64 x, i64 y, .t r.t]) = some (.b (okSto x y), i64 (stoE x y r), [0], some ⟨true, (outFS 11 s [i64 x, i64 y, .t r.t]).t⟩) := by kernel_rfl
theorem okSet_true (x : U) : okSet x = true := by
  unfold okSet
  cases h : cond (BitVec.slt x (K 0)) true (BitVec.sle (K 10) x)
  · simp only [cond_false]
    cases h1 : BitVec.slt x (K 0)
    · rw [h1, cond_false] at h
      rw [BitVec.slt, decide_eq_false_iff_not] at h1
      rw [BitVec.sle, decide_eq_false_iff_not] at h
      have e0 : (K 0).toInt = 0 := rfl
      have e1 : (K 10).toInt = 10 := rfl
      rw [e0] at h1
      rw [e1] at h
      have h2 := BitVec.toInt_eq_toNat_cond x
      have h3 := x.isLt
      have h4 : x.toNat < 10 := by split at h2 <;> omega
      have h5 : x.msb = false := by rw [BitVec.msb_eq_decide]; simp only [decide_eq_false_iff_not]; omega
      have h6 : Nat.blt x.toNat 11 = true := Nat.ble_eq_true_of_le (by omega)
      simp [vB, wB, h5, h6]
    · rw [h1, cond_true] at h; cases h
  · rfl
theorem okFill_slot : ∀ b : Fin 129, okFill (BitVec.sdiv (K 128 + K ((b.val : Int) - 128)) (K 8)) = true ∨ b.val > 120 := by decide +kernel
theorem okSto_true (x y : U) : okSto x y = true := by
  unfold okSto
  cases ht : thereB x y
  · rfl
  · cases hw : wholeB x y
    · rfl
    · simp only [Bool.not_true, cond_false, cond_true]
      obtain ⟨b, n, hb, hx, hy⟩ := there_nat ht
      unfold wholeB at hw
      have hy8 : y = K 8 := by
        cases h : y == K 8
        · rw [h] at hw; cases hw
        · exact eq_of_beq h
      subst hy8
      have h8 : n = 8 := by
        have : vof .i64 (K 8) = 8 := rfl
        omega
      subst h8
      have hxe : x = K ((b : Int) - 128) := by
        rw [vof_toInt] at hx
        apply BitVec.eq_of_toInt_eq
        rw [hx, BitVec.toInt_ofInt]
        simp only [Int.bmod_def]
        split <;> omega
      rw [hxe]
      rcases okFill_slot ⟨b, by omega⟩ with h | h
      · exact h
      · have h : b > 120 := h
        omega

noncomputable def knW (r : RW) : RW := match (evalF cxK ΓO 400 20 7 [.t r.t] H.none).res with
  | some (_, .t t) => match rwOfT t with
    | some r' => r'
    | none => r
  | _ => r
theorem kn_ev (r : RW) : (evalF cxK ΓO 400 20 7 [.t r.t] H.none).res = some (.tt, .t (knW r).t) := by kernel_rfl
noncomputable def opsX : Ops := ⟨knW, fun s x r => outFS 10 s [i64 x, .t r.t], fun s x r => cond (cond (BitVec.slt x (K 0)) true (BitVec.sle (K 10) x)) false true, fun s x y r => outFS 11 s [i64 x, i64 y, .t r.t], fun s x y r => stoE x y r⟩
theorem opsX_ok : OpsOK opsX where
  kn := fun r => pure_of_eval (XK ΓO_ok) rfl (kn_ev r) rfl rfl rfl
  set := fun s x r => saysW_ev rfl (set_ev s x r) (okSet_true x) (.inl rfl) rfl fun ν ν' us hu => relV_free rfl hu
  sto := fun s x y r => saysW_ev rfl (sto_ev s x y r) (okSto_true x y) (.inl rfl) rfl fun ν ν' us hu => relV_free rfl hu
theorem ops_exist : ∃ o : Ops, OpsOK o := ⟨opsX, opsX_ok⟩
end Go.WE
