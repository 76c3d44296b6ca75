/- frame.New as a contract: a state told by functions. -/
import Derived.Test.YtljopbfbljkjoaaDoorNewBlk
namespace Go.WE
set_option linter.unusedVariables false
set_option maxRecDepth 100000
open Go Go.Proofs

/-- Elements one by one, as an array by its index. -/
theorem lst_each {ν : Nu} {s : Nat} : ∀ (ts : List T) (vs : List Value), relLst ν s ts vs → vs.length = s * ts.length ∧ ∀ i (hi : i < ts.length), (ts[i]).rel ν ((vs.drop (s * i)).take s)
  | [], vs, hv => by
    simp only [relLst] at hv
    subst hv
    exact ⟨rfl, fun i hi => absurd hi (Nat.not_lt_zero _)⟩
  | t :: ts, vs, hv => by
    simp only [relLst] at hv
    obtain ⟨us, ws, rfl, rfl, ht, hw⟩ := hv
    obtain ⟨h1, h2⟩ := lst_each ts ws hw
    refine ⟨by simp [h1, Nat.mul_succ, Nat.add_comm], fun i hi => ?_⟩
    cases i with
    | zero => simpa using ht
    | succ i =>
      have e : us.length * (i + 1) = us.length + us.length * i := by rw [Nat.mul_succ, Nat.add_comm]
      rw [e, List.drop_append, List.drop_eq_nil_of_le (Nat.le_add_right us.length (us.length * i)), List.nil_append, Nat.add_sub_cancel_left]
      simpa using h2 i (by simpa using hi)
theorem lst_fun {ν : Nu} {s : Nat} {ts : List T} {sh : Sh} (h : ∀ vs i (hi : i < ts.length), (ts[i]).rel ν vs → sh.rel i vs) {vs : List Value} (hv : relLst ν s ts vs) : (T.arr s (.lit ts.length) sh).rel ν vs := by
  obtain ⟨h1, h2⟩ := lst_each ts vs hv
  simp only [T.rel]
  exact ⟨h1, fun i hi => h _ i hi (h2 i hi)⟩

def zR (k : Int) : T := .st [.a (.lit .i64 k), .a (.lit .i64 0), .a (.lit .i64 0), .a (.lit .i64 0), .st [.st [.a (.lit .u64 0), .a (.lit .u64 0)], .st [.a (.lit .u64 0), .a (.lit .u64 0)], .st [.a (.lit .i64 0), .a (.lit .i64 0)]]]
def regsZ : List T := [zR 0, zR 2, zR 0, zR 0, zR 0, zR 0, zR 0, zR 0, zR 0, zR 0, zR 3]
def stateZ : T := .st [.lst 10 regsZ, .lst 1 (List.replicate 128 (.a (.lit .i64 0))), .lst 10 (List.replicate 16 (zR 0))]
def kindN (n : Nat) : Int := if n = 1 then 2 else if n = 10 then 3 else 0
def zRF : RF := ⟨fun n => K (kindN n), fun _ => K 0, fun _ => K 0, fun _ => K 0, fun _ => K 0, fun _ => K 0, fun _ => K 0, fun _ => K 0, fun _ => K 0, fun _ => K 0⟩
def z0F : RF := ⟨fun n => K 0, fun _ => K 0, fun _ => K 0, fun _ => K 0, fun _ => K 0, fun _ => K 0, fun _ => K 0, fun _ => K 0, fun _ => K 0, fun _ => K 0⟩
def newFS : FSt := ⟨zRF, fun _ => K 0, z0F⟩

theorem zR_rel {ν : Nu} {k : Int} {vs : List Value} {i : Nat} {f : RF} (hf : f.at i = ⟨K k, K 0, K 0, K 0, K 0, K 0, K 0, K 0, K 0, K 0⟩) (h : (zR k).rel ν vs) : f.s.rel i vs := by
  unfold RF.at at hf
  simp only [RW.mk.injEq] at hf
  obtain ⟨h1, h2, h3, h4, h5, h6, h7, h8, h9, h10⟩ := hf
  simp only [zR, T.rel, relTs, A.rel] at h
  simp only [RF.s, Sh.rel, relShs, h1, h2, h3, h4, h5, h6, h7, h8, h9, h10]
  obtain ⟨u1, w1, e1, ⟨x1, y1, ⟨z1, q1⟩, _⟩, u2, w2, e2, ⟨x2, y2, ⟨z2, q2⟩, _⟩, u3, w3, e3, ⟨x3, y3, ⟨z3, q3⟩, _⟩, u4, w4, e4, ⟨x4, y4, ⟨z4, q4⟩, _⟩, u5, w5, e5, ⟨u6, w6, e6, ⟨a1, b1, c1, ⟨d1, f1, ⟨g1, k1⟩, _⟩, a2, b2, c2, ⟨d2, f2, ⟨g2, k2⟩, _⟩, c3⟩, u7, w7, e7, ⟨a3, b3, c4, ⟨d3, f3, ⟨g3, k3⟩, _⟩, a4, b4, c5, ⟨d4, f4, ⟨g4, k4⟩, _⟩, c6⟩, u8, w8, e8, ⟨a5, b5, c7, ⟨d5, f5, ⟨g5, k5⟩, _⟩, a6, b6, c8, ⟨d6, f6, ⟨g6, k6⟩, _⟩, c9⟩, e9⟩, e10⟩ := h
  subst y1 z1 y2 z2 y3 z3 y4 z4 f1 g1 f2 g2 f3 g3 f4 g4 f5 g5 f6 g6
  have n0 : vof .i64 (K 0) = 0 := rfl
  have m0 : vof .u64 (K 0) = 0 := rfl
  have ek : vof .i64 (K k) = k := vof_ofInt q1
  refine ⟨_, w1, e1, ?_, _, w2, e2, ?_, _, w3, e3, ?_, _, w4, e4, ?_, u5, w5, e5, ⟨u6, w6, e6, ⟨_, b1, c1, ?_, _, b2, c2, ?_, c3⟩, u7, w7, e7, ⟨_, b3, c4, ?_, _, b4, c5, ?_, c6⟩, u8, w8, e8, ⟨_, b5, c7, ?_, _, b6, c8, ?_, c9⟩, e9⟩, e10⟩
  all_goals first | assumption | (rw [x1, ek]) | (rw [x2]; rfl) | (rw [x3]; rfl) | (rw [x4]; rfl) | (rw [d1]; rfl) | (rw [d2]; rfl) | (rw [d3]; rfl) | (rw [d4]; rfl) | (rw [d5]; rfl) | (rw [d6]; rfl) | rw [ek] | rfl
theorem regsZ_rel {ν : Nu} {vs : List Value} : ∀ i (hi : i < regsZ.length), (regsZ[i]).rel ν vs → zRF.s.rel i vs
  | 0, _, h => zR_rel rfl h | 1, _, h => zR_rel rfl h | 2, _, h => zR_rel rfl h | 3, _, h => zR_rel rfl h | 4, _, h => zR_rel rfl h | 5, _, h => zR_rel rfl h | 6, _, h => zR_rel rfl h | 7, _, h => zR_rel rfl h | 8, _, h => zR_rel rfl h | 9, _, h => zR_rel rfl h | 10, _, h => zR_rel rfl h
  | n + 11, hi, _ => absurd hi (by show ¬ (n + 11 < 11); omega)
theorem stateZ_rel {ν : Nu} {vs : List Value} (h : stateZ.rel ν vs) : newFS.t.rel ν vs := by
  unfold stateZ at h
  unfold FSt.t
  simp only [T.rel, relTs] at h ⊢
  obtain ⟨u, w, rfl, h1, u2, w2, rfl, h2, u3, w3, rfl, h3, rfl⟩ := h
  refine ⟨_, _, rfl, ?_, _, _, rfl, ?_, _, _, rfl, ?_, rfl⟩
  · have := lst_fun (sh := zRF.s) (fun vs i hi => regsZ_rel i hi) h1
    simp only [T.rel] at this; exact this
  · have := lst_fun (sh := .int .i64 fun _ => K 0) (fun vs i hi hr => ?_) h2
    · simp only [T.rel, List.length_replicate] at this; exact this
    · rw [List.getElem_replicate] at hr
      simp only [T.rel, A.rel] at hr
      obtain ⟨v, rfl, ⟨rfl, _⟩, _⟩ := hr
      rfl
  · have := lst_fun (sh := z0F.s) (fun vs i hi hr => ?_) h3
    · simp only [T.rel, List.length_replicate] at this; exact this
    · rw [List.getElem_replicate] at hr
      exact zR_rel rfl hr
def resN (r : R) : Option (A × Nat × Option Blk) := match r.pick with
  | some (ok, .t (.a (.ptr id [])), h) => some (ok, id, h.m.get id)
  | _ => none
theorem new_ev : resN (evalF cxK noΓ 400 20 5 [] H.none) = some (.tt, 0, some ⟨true, stateZ⟩) := by kernel_rfl
def newS : List V → Option T
  | [] => some newFS.t
  | _ => none
theorem new_ok {Γ : Gam} (hΓ : ΓOK Tryd.prog Γ) : ΓOK Tryd.prog (newΓ 5 newS Γ) := by
  refine newΓ_ok (fun args t h => ?_) hΓ
  unfold newS at h
  split at h
  · cases h
    have he := new_ev
    unfold resN at he
    split at he
    · rename_i ok id h hp
      simp only [Option.some.injEq, Prod.mk.injEq] at he
      obtain ⟨rfl, rfl, hb⟩ := he
      obtain ⟨h1, h2⟩ := evalF_fn (XK noΓ_ok) rfl hp rfl
      exact ⟨h1, fnOK_new h2 hb rfl rfl (fun ν vs hv => stateZ_rel hv) rfl⟩
    · cases he
  · cases h
end Go.WE
