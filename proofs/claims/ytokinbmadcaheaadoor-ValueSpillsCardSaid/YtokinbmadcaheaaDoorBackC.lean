/- For ValueBack and ValueSpills: what New gives, and the chapter's example, as contracts. -/
import Derived.Test.YtokinbmadcaheaaDoorCaught
import Derived.Test.YtokinbmadcaheaaDoorNewBlk
namespace Go.WE
set_option linter.unusedVariables false
open Go Go.Proofs

/-- Elements that are alike, one by one. -/
theorem lst_rep {ν : Nu} {s : Nat} {t : T} : ∀ (n : Nat) (vs : List Value), relLst ν s (List.replicate n t) vs → vs.length = s * n ∧ ∀ i, i < n → t.rel ν ((vs.drop (s * i)).take s)
  | 0, vs, hv => by
    simp only [List.replicate, relLst] at hv
    subst hv
    exact ⟨rfl, fun i hi => absurd hi (Nat.not_lt_zero _)⟩
  | n + 1, vs, hv => by
    simp only [List.replicate, relLst] at hv
    obtain ⟨us, ws, rfl, rfl, ht, hw⟩ := hv
    obtain ⟨h1, h2⟩ := lst_rep n ws hw
    refine ⟨by simp [h1, Nat.mul_succ, Nat.add_comm], fun i hi => ?_⟩
    cases i with
    | zero => simpa using ht
    | succ i =>
      have e : us.length * (i + 1) = us.length + us.length * i := by rw [Nat.mul_succ, Nat.add_comm]
      rw [e, List.drop_append, List.drop_eq_nil_of_le (Nat.le_add_right us.length (us.length * i)), List.nil_append, Nat.add_sub_cancel_left]
      exact h2 i (by omega)

theorem lst_arr {ν : Nu} {s n : Nat} {t : T} {sh : Sh} (h : ∀ vs, t.rel ν vs → ∀ i, sh.rel i vs) {vs : List Value} (hv : relLst ν s (List.replicate n t) vs) : (T.arr s (.lit n) sh).rel ν vs := by
  obtain ⟨h1, h2⟩ := lst_rep n vs hv
  simp only [T.rel]
  exact ⟨h1, fun i hi => h _ (h2 i hi) i⟩

/-! ### the chapter's example -/

theorem works_ev : (evalF cxV noΓ 400 20 11 [] H.none).res = some (.tt, .t (.a .tt)) := by kernel_rfl
def worksS : List V → Option (A × V)
  | [] => some (.tt, .t (.a .tt))
  | _ => none
theorem works_ok {Γ : Gam} (hΓ : ΓOK Tryd.prog Γ) : ΓOK Tryd.prog (pinΓ 11 worksS Γ) := by
  refine pinΓ_ok (fun args ok v h hok => ?_) hΓ
  unfold worksS at h
  split at h
  · simp only [Option.some.injEq, Prod.mk.injEq] at h
    obtain ⟨rfl, rfl⟩ := h
    exact pure_of_eval (X0 noΓ_ok) rfl works_ev rfl rfl rfl
  · cases h

/-! ### a new state -/

def zT (k : Int) : T := .st [.a (.lit .i64 k), .a (.lit .u64 0), .a (.lit .i64 0), .a (.lit .i64 0)]
def regsT : T := .lst 4 [zT 0, zT 2, zT 0, zT 0, zT 0, zT 0, zT 0, zT 0, zT 0, zT 0, zT 3]
def slotT : T := .st [zT 0, .lst 1 (List.replicate 8 (.a (.lit .u8 0))), .lst 1 (List.replicate 8 (.a .ff))]
def stateT : T := .st [regsT, .lst 1 (List.replicate 32 (.a (.lit .u8 0))), .lst 20 (List.replicate 16 slotT)]
def slotSh : Sh := .st [.st [.lit .i64 0, .lit .u64 0, .lit .i64 0, .lit .i64 0], .ints 8 .u8 (fun _ _ => 0#64), .bools 8 (fun _ _ => false)]
def stateA : T := .st [regsT, .lst 1 (List.replicate 32 (.a (.lit .u8 0))), .arr 20 (.lit 16) slotSh]

def R.new1 (r : R) : Option (A × Nat × Blk) := match r.pick with
  | some (ok, .t (.a (.ptr id [])), h) => match h.m.get id with
    | some b => some (ok, id, b)
    | none => none
  | _ => none

theorem new_ev : (evalF cxV noΓ 400 20 7 [.t (.a .nils)] H.none).new1 = some (.tt, 0, ⟨true, stateT⟩) := by kernel_rfl

theorem slot_rel {ν : Nu} {vs : List Value} (h : slotT.rel ν vs) (i : Nat) : slotSh.rel i vs := by
  simp only [slotT, zT, T.rel, relTs, relLst, A.rel, List.replicate] at h
  simp only [slotSh, Sh.rel, relShs]
  obtain ⟨u, w, rfl, ⟨u1, w1, rfl, ⟨v1, rfl, ⟨rfl, z1⟩, _⟩, u2, w2, rfl, ⟨v2, rfl, ⟨rfl, z2⟩, _⟩, u3, w3, rfl, ⟨v3, rfl, ⟨rfl, z3⟩, _⟩, u4, w4, rfl, ⟨v4, rfl, ⟨rfl, z4⟩, _⟩, rfl⟩, u5, w5, rfl, h5, u6, w6, rfl, h6, rfl⟩ := h
  refine ⟨_, _, rfl, ⟨_, _, rfl, ⟨rfl, z1⟩, _, _, rfl, ⟨rfl, z2⟩, _, _, rfl, ⟨rfl, z3⟩, _, _, rfl, ⟨rfl, z4⟩, rfl⟩, _, _, rfl, ?_, _, _, rfl, ?_, rfl⟩
  · obtain ⟨u, w, rfl, _, ⟨v, rfl, ⟨rfl, _⟩, _⟩, u, w, rfl, _, ⟨v, rfl, ⟨rfl, _⟩, _⟩, u, w, rfl, _, ⟨v, rfl, ⟨rfl, _⟩, _⟩, u, w, rfl, _, ⟨v, rfl, ⟨rfl, _⟩, _⟩, u, w, rfl, _, ⟨v, rfl, ⟨rfl, _⟩, _⟩, u, w, rfl, _, ⟨v, rfl, ⟨rfl, _⟩, _⟩, u, w, rfl, _, ⟨v, rfl, ⟨rfl, _⟩, _⟩, u, w, rfl, _, ⟨v, rfl, ⟨rfl, _⟩, _⟩, rfl⟩ := h5
    rfl
  · obtain ⟨u, w, rfl, _, ⟨v, rfl, rfl, _⟩, u, w, rfl, _, ⟨v, rfl, rfl, _⟩, u, w, rfl, _, ⟨v, rfl, rfl, _⟩, u, w, rfl, _, ⟨v, rfl, rfl, _⟩, u, w, rfl, _, ⟨v, rfl, rfl, _⟩, u, w, rfl, _, ⟨v, rfl, rfl, _⟩, u, w, rfl, _, ⟨v, rfl, rfl, _⟩, u, w, rfl, _, ⟨v, rfl, rfl, _⟩, rfl⟩ := h6
    rfl

theorem state_rel {ν : Nu} {vs : List Value} (h : stateT.rel ν vs) : stateA.rel ν vs := by
  unfold stateT at h
  unfold stateA
  simp only [T.rel, relTs] at h ⊢
  obtain ⟨u, w, rfl, h1, u2, w2, rfl, h2, u3, w3, rfl, h3, rfl⟩ := h
  refine ⟨_, _, rfl, h1, _, _, rfl, h2, _, _, rfl, ?_, rfl⟩
  have := lst_arr (fun vs hv i => slot_rel hv i) h3
  simpa only [T.rel] using this

def newS : List V → Option T
  | [.t (.a .nils)] => some stateA
  | _ => none
theorem new_ok {Γ : Gam} (hΓ : ΓOK Tryd.prog Γ) : ΓOK Tryd.prog (newΓ 7 newS Γ) := by
  refine newΓ_ok (fun args t h => ?_) hΓ
  unfold newS at h
  split at h
  · cases h
    have he := new_ev
    unfold R.new1 at he
    split at he
    · rename_i ok id h hp
      split at he
      · rename_i b hb
        simp only [Option.some.injEq, Prod.mk.injEq] at he
        obtain ⟨rfl, rfl, rfl⟩ := he
        obtain ⟨h1, h2⟩ := evalF_fn (X0 noΓ_ok) rfl hp rfl
        exact ⟨h1, fnOK_new h2 hb rfl (fun ν vs hv => state_rel hv) rfl⟩
      · cases he
    · cases he
  · cases h
end Go.WE
