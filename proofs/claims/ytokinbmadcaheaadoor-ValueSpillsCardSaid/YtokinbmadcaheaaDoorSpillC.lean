/- For ValueSpills: checks that hold, and a pointer's kind pinned, as contracts. -/
import Derived.Test.YtokinbmadcaheaaDoorBackA
namespace Go.WE
set_option linter.unusedVariables false
open Go Go.Proofs

theorem hold_ev (m : Nat) : (evalF cxV noΓ 400 20 29 [.t (.a (.b true)), .t (.a (.lit .i64 (.ofNat m)))] H.none).res = some (.tt, .tup []) := by kernel_rfl
def isHold : Nat → Bool
  | 14 => true
  | 17 => true
  | _ => false
def holdS : List V → Option (A × V)
  | [.t (.a (.b b)), .t (.a (.lit .i64 (.ofNat m)))] => match isHold m with
    | true => some (.b b, .tup [])
    | false => none
  | _ => none
theorem hold_ok {Γ : Gam} (hΓ : ΓOK Tryd.prog Γ) : ΓOK Tryd.prog (pinΓ 29 holdS Γ) := by
  refine pinΓ_ok (fun args ok v h hok => ?_) hΓ
  unfold holdS at h
  split at h
  · rename_i b m
    split at h
    · simp only [Option.some.injEq, Prod.mk.injEq] at h
      obtain ⟨rfl, rfl⟩ := h
      have hb : b = true := hok
      subst hb
      exact pure_of_eval (X0 noΓ_ok) rfl (hold_ev m) rfl rfl rfl
    · cases h
  · cases h

abbrev valT (k n m d : U) : T := .st [.a (.i .i64 k), .a (.i .u64 n), .a (.i .i64 m), .a (.i .i64 d)]
def kinT (j : Nat) (n m d : U) : T := match j with
  | 4 => .st [.a (.lit .i64 4), .a (.lit .u64 0), .a (.lit .i64 0), .a (.i .i64 d)]
  | 5 => .st [.a (.lit .i64 5), .a (.i .u64 n), .a (.i .i64 m), .a (.i .i64 d)]
  | 3 => .st [.a (.lit .i64 3), .a (.i .u64 n), .a (.lit .i64 0), .a (.lit .i64 0)]
  | _ => .st [.a (.lit .i64 2), .a (.i .u64 n), .a (.lit .i64 0), .a (.lit .i64 0)]
def kinS (j : Nat) : List V → Option (A × V)
  | [.t (.st [.a (.i .i64 k), .a (.i .u64 n), .a (.i .i64 m), .a (.i .i64 d)])] => some (.b (k == K (Int.ofNat j)), .t (kinT j n m d))
  | _ => none
theorem kin2_ev (n m d : U) : (evalF cxV noΓ 400 20 16 [.t (valT (K 2) n m d)] H.none).res = some (.tt, .t (valT (K 2) n (K 0) (K 0))) := by kernel_rfl
theorem kin3_ev (n m d : U) : (evalF cxV noΓ 400 20 16 [.t (valT (K 3) n m d)] H.none).res = some (.tt, .t (valT (K 3) n (K 0) (K 0))) := by kernel_rfl
theorem kin4_ev (n m d : U) : (evalF cxV noΓ 400 20 16 [.t (valT (K 4) n m d)] H.none).res = some (.tt, .t (valT (K 4) (K 0) (K 0) d)) := by kernel_rfl
theorem kin5_ev (n m d : U) : (evalF cxV noΓ 400 20 16 [.t (valT (K 5) n m d)] H.none).res = some (.tt, .t (valT (K 5) n m d)) := by kernel_rfl

theorem st4_rel {ν : Nu} {a1 a2 a3 a4 b1 b2 b3 b4 : A} (h1 : ∀ v, a1.rel ν v → b1.rel ν v) (h2 : ∀ v, a2.rel ν v → b2.rel ν v) (h3 : ∀ v, a3.rel ν v → b3.rel ν v) (h4 : ∀ v, a4.rel ν v → b4.rel ν v) {u : Value} (h : (V.t (.st [.a a1, .a a2, .a a3, .a a4])).rel ν u) : (V.t (.st [.a b1, .a b2, .a b3, .a b4])).rel ν u := by
  obtain ⟨vs, rfl, h⟩ := h
  refine ⟨vs, rfl, ?_⟩
  simp only [T.rel, relTs] at h ⊢
  obtain ⟨u1, w1, e1, ⟨x1, f1, r1, c1⟩, u2, w2, e2, ⟨x2, f2, r2, c2⟩, u3, w3, e3, ⟨x3, f3, r3, c3⟩, u4, w4, e4, ⟨x4, f4, r4, c4⟩, e5⟩ := h
  exact ⟨u1, w1, e1, ⟨x1, f1, h1 _ r1, c1⟩, u2, w2, e2, ⟨x2, f2, h2 _ r2, c2⟩, u3, w3, e3, ⟨x3, f3, h3 _ r3, c3⟩, u4, w4, e4, ⟨x4, f4, h4 _ r4, c4⟩, e5⟩
theorem lit_rel {ν : Nu} {k : IntKind} {n : Int} (hj : k.wrap n = n) (hv : vof k (K n) = n) (v : Value) (h : (A.i k (K n)).rel ν v) : (A.lit k n).rel ν v := by
  simp only [A.rel] at h ⊢
  exact ⟨by rw [h, hv], hj⟩
theorem kin_ok {j : Nat} {Γ : Gam} (hj : j = 2 ∨ j = 3 ∨ j = 4 ∨ j = 5) (hΓ : ΓOK Tryd.prog Γ) : ΓOK Tryd.prog (pinΓ 16 (kinS j) Γ) := by
  refine pinΓ_ok (fun args ok v h hok => ?_) hΓ
  unfold kinS at h
  split at h
  · rename_i k n m d
    simp only [Option.some.injEq, Prod.mk.injEq] at h
    obtain ⟨rfl, rfl⟩ := h
    have hk : k = K (Int.ofNat j) := by simpa [okB] using hok
    subst hk
    rcases hj with rfl | rfl | rfl | rfl
    · exact (pure_of_eval (X0 noΓ_ok) rfl (kin2_ev n m d) rfl rfl rfl).weaken fun ν u hu => st4_rel (lit_rel (by decide) (by decide)) (fun _ h => h) (lit_rel (by decide) (by decide)) (lit_rel (by decide) (by decide)) hu
    · exact (pure_of_eval (X0 noΓ_ok) rfl (kin3_ev n m d) rfl rfl rfl).weaken fun ν u hu => st4_rel (lit_rel (by decide) (by decide)) (fun _ h => h) (lit_rel (by decide) (by decide)) (lit_rel (by decide) (by decide)) hu
    · exact (pure_of_eval (X0 noΓ_ok) rfl (kin4_ev n m d) rfl rfl rfl).weaken fun ν u hu => st4_rel (lit_rel (by decide) (by decide)) (lit_rel (by decide) (by decide)) (lit_rel (by decide) (by decide)) (fun _ h => h) hu
    · exact (pure_of_eval (X0 noΓ_ok) rfl (kin5_ev n m d) rfl rfl rfl).weaken fun ν u hu => st4_rel (lit_rel (by decide) (by decide)) (fun _ h => h) (fun _ h => h) (fun _ h => h) hu
  · cases h
abbrev spillArgs (k n m d s a b : U) : List V := [.t (valT k n m d), .t (.a (.i .i64 s)), .t (.a (.i .i64 a)), .t (.a (.i .u8 b))]
end Go.WE
