/- Store, Load at a slot; Set and Store anywhere: evaluated, as contracts. -/
import Derived.Test.YtljopbfbljkjoaaDoorSt
namespace Go.WE
set_option linter.unusedVariables false
set_option maxRecDepth 100000
open Go Go.Proofs
open Go.RowKit (Below)

def RF.setR (f : RF) (n : Nat) (r : RW) : RF := ⟨putN n r.k f.k, putN n r.o f.o, putN n r.m f.m, putN n r.i f.i, putN n r.tv f.tv, putN n r.tm f.tm, putN n r.ul f.ul, putN n r.uh f.uh, putN n r.sl f.sl, putN n r.sh f.sh⟩
def whatR (r : RW) : U := cond (r.k == K 1) (K 1) (K 2)
def stoK (s : FSt) (k : Nat) (r : RW) : FSt :=
  ⟨s.regs, putN (8 * k + 7) (whatR r) (putN (8 * k + 6) (whatR r) (putN (8 * k + 5) (whatR r) (putN (8 * k + 4) (whatR r) (putN (8 * k + 3) (whatR r) (putN (8 * k + 2) (whatR r) (putN (8 * k + 1) (whatR r) (putN (8 * k) (whatR r) s.g))))))), s.kept.setR k r⟩
def sP (k : Nat) : Int := 8 * (k : Int) - 128
def ldC (s : FSt) (k : Nat) : Bool := s.kept.k k != K 0
def ldR (s : FSt) (k : Nat) : U := readR s.g (K (sP k)) (K 8)
def ldZ (s : FSt) (k : Nat) : Bool := ldR s k != K 0
def ldW (s : FSt) (k : Nat) : RW :=
  ⟨cond (ldC s k) (s.kept.k k) (cond (ldZ s k) (K 0) (K 1)), cond (ldC s k) (s.kept.o k) (K 0), cond (ldC s k) (s.kept.m k) (K 0), cond (ldC s k) (s.kept.i k) (K 0), cond (ldC s k) (s.kept.tv k) (K 0), cond (ldC s k) (s.kept.tm k) (cond (ldZ s k) (K 0) (K 18446744073709551615)),
   cond (ldC s k) (s.kept.ul k) (K 0), cond (ldC s k) (s.kept.uh k) (cond (ldZ s k) (K 0) (K 18446744073709551615)), cond (ldC s k) (s.kept.sl k) (cond (ldZ s k) (K 0) (K (-9223372036854775808))), cond (ldC s k) (s.kept.sh k) (cond (ldZ s k) (K 0) (K 9223372036854775807))⟩
def ldE (s : FSt) (k : Nat) : U := cond (ldC s k) (K 0) (cond (ldZ s k) (ldR s k) (K 0))
abbrev lt8 : V := one (.lit .i64 8)
theorem sto_lit (s : FSt) (r : RW) : ∀ k : Nat, k < 16 → resM (evS 11 s [one (.lit .i64 (sP k)), lt8, .t r.t]) = some (.tt, one (.lit .i64 0), [0], some ⟨true, (stoK s k r).t⟩)
  | 0, _ => by kernel_rfl | 1, _ => by kernel_rfl | 2, _ => by kernel_rfl | 3, _ => by kernel_rfl | 4, _ => by kernel_rfl | 5, _ => by kernel_rfl | 6, _ => by kernel_rfl | 7, _ => by kernel_rfl
  | 8, _ => by kernel_rfl | 9, _ => by kernel_rfl | 10, _ => by kernel_rfl | 11, _ => by kernel_rfl | 12, _ => by kernel_rfl | 13, _ => by kernel_rfl | 14, _ => by kernel_rfl | 15, _ => by kernel_rfl | n + 16, h => absurd h (by omega)
theorem ld_lit (s : FSt) : ∀ k : Nat, k < 16 → (resM (evS 15 s [one (.lit .i64 (sP k)), lt8])).map (fun p => (p.1, p.2.1, p.2.2.1)) = some (.tt, .tup [(ldW s k).t, .a (.i .i64 (ldE s k))], [])
  | 0, _ => by kernel_rfl | 1, _ => by kernel_rfl | 2, _ => by kernel_rfl | 3, _ => by kernel_rfl | 4, _ => by kernel_rfl | 5, _ => by kernel_rfl | 6, _ => by kernel_rfl | 7, _ => by kernel_rfl
  | 8, _ => by kernel_rfl | 9, _ => by kernel_rfl | 10, _ => by kernel_rfl | 11, _ => by kernel_rfl | 12, _ => by kernel_rfl | 13, _ => by kernel_rfl | 14, _ => by kernel_rfl | 15, _ => by kernel_rfl | n + 16, h => absurd h (by omega)

/-- Is it a slot's place? Which one? -/
def isSlot (x : U) : Bool := (List.range 16).any fun k => x == K (sP k)
def slotN (x : U) : Nat := posN x / 8
theorem isSlot_some {x : U} (h : isSlot x = true) : ∃ k, k < 16 ∧ x = K (sP k) ∧ slotN x = k := by
  unfold isSlot at h
  rw [List.any_eq_true] at h
  obtain ⟨k, hk, e⟩ := h
  have hk := List.mem_range.1 hk
  have e : x = K (sP k) := by simpa using e
  refine ⟨k, hk, e, ?_⟩
  rw [e]
  exact (show ∀ k : Fin 16, slotN (K (sP k.val)) = k.val by decide +kernel) ⟨k, hk⟩
theorem sP_val : ∀ k : Fin 16, vof .i64 (K (sP k.val)) = sP k.val ∧ IntKind.i64.wrap (sP k.val) = sP k.val := by decide +kernel
theorem sP_rel {ν ν' : Nu} {ax : A} {x : U} {k : Nat} (hk : k < 16) (hx : i64Of ax = some x) (e : x = K (sP k)) {u : Value} (h : ax.rel ν u) : (A.lit .i64 (sP k)).rel ν' u := by
  have := i64Of_rel hx h
  simp only [A.rel]
  obtain ⟨h1, h2⟩ := sP_val ⟨k, hk⟩
  rw [e, h1] at this
  exact ⟨this, h2⟩

def stoS (s : FSt) : List V → Option (A × V × FSt)
  | [.t (.a ax), .t (.a (.lit .i64 n)), .t t] => match i64Of ax, rwOfT t, decide (n = 8) with
    | some x, some r, true => some (.b (isSlot x), one (.lit .i64 0), stoK s (slotN x) r)
    | _, _, _ => none
  | _ => none
def ldS (s : FSt) : List V → Option (A × V)
  | [.t (.a ax), .t (.a (.lit .i64 n))] => match i64Of ax, decide (n = 8) with
    | some x, true => some (.b (isSlot x), .tup [(ldW s (slotN x)).t, .a (.i .i64 (ldE s (slotN x)))])
    | _, _ => none
  | _ => none
theorem lt8_rel {ν ν' : Nu} {u : Value} (h : (A.lit .i64 8).rel ν u) : (A.lit .i64 8).rel ν' u := by
  simpa only [A.rel] using h
theorem sto_ok {Γ : Gam} (hΓ : ΓOK Tryd.prog Γ) : ΓOK Tryd.prog (stΓ 11 stoS Γ) := by
  refine stΓ_ok (fun s rest ok v s' hs hok => ?_) hΓ
  unfold stoS at hs
  split at hs
  · split at hs
    · rename_i h1 h2 h3
      cases hs
      have hn := of_decide_eq_true h3
      subst hn
      obtain ⟨k, hk, e, e2⟩ := isSlot_some hok
      rw [e2]
      refine saysW_ev rfl (sto_lit s _ k hk) rfl (.inl rfl) rfl fun ν ν' us hu => ?_
      match us, hu with
      | [u1, u2, u3], ⟨r1, r2, r3, _⟩ => exact ⟨sP_rel (ν := ν) (ν' := ν') hk h1 e r1, lt8_rel (ν := ν) (ν' := ν') r2, rwOfT_rel h2 r3, trivial⟩
    · cases hs
  · cases hs
theorem ld_ok {Γ : Gam} (hΓ : ΓOK Tryd.prog Γ) : ΓOK Tryd.prog (rdΓ 15 ldS Γ) := by
  refine rdΓ_ok (fun s rest ok v hs hok => ?_) hΓ
  unfold ldS at hs
  split at hs
  · split at hs
    · rename_i h1 h3
      cases hs
      have hn := of_decide_eq_true h3
      subst hn
      obtain ⟨k, hk, e, e2⟩ := isSlot_some hok
      rw [e2]
      refine saysR_ev rfl (ld_lit s k hk) rfl rfl fun ν ν' us hu => ?_
      match us, hu with
      | [u1, u2], ⟨r1, r2, _⟩ => exact ⟨sP_rel (ν := ν) (ν' := ν') hk h1 e r1, lt8_rel (ν := ν) (ν' := ν') r2, trivial⟩
    · cases hs
  · cases hs
end Go.WE
