/- FrameBack: all contracts; the chapter's example; its text's pieces. -/
import Derived.Test.YtljopbfbljkjoaaDoorNew
namespace Go.WE
set_option linter.unusedVariables false
set_option maxRecDepth 100000
open Go Go.Proofs

noncomputable def ΓB : Gam := stΓ 11 stoS (rdΓ 15 ldS (newΓ 5 newS ΓL))
theorem ΓB_ok : ΓOK Tryd.prog ΓB := sto_ok (ld_ok (new_ok ΓL_ok))
theorem known_ev : (evalF cxK ΓB 400 20 6 [] H.none).res = some (.b true, one (.b true)) := by kernel_rfl
def knownS : List V → Option (A × V)
  | [] => some (.tt, one (.b true))
  | _ => none
theorem known6_ok {Γ : Gam} (hΓ : ΓOK Tryd.prog Γ) : ΓOK Tryd.prog (specG 6 knownS Γ) := by
  refine specG_ok (fun args ok v h hok => ?_) hΓ
  unfold knownS at h
  split at h
  · simp only [Option.some.injEq, Prod.mk.injEq] at h
    obtain ⟨rfl, rfl⟩ := h
    exact pure_of_eval (XK ΓB_ok) rfl known_ev rfl rfl rfl
  · cases h
noncomputable def ΓM (o : Ops) : Gam := stΓ 11 stoS (stΓ 11 (sto2S o) (stΓ 10 (setS o) (rdΓ 15 ldS (specG 7 (knS o) (newΓ 5 newS (specG 6 knownS ΓL))))))
theorem ΓM_ok {o : Ops} (hO : OpsOK o) : ΓOK Tryd.prog (ΓM o) := sto_ok (sto2_ok hO (set_ok hO (ld_ok (kn_ok hO (new_ok (known6_ok ΓL_ok))))))

noncomputable def c3 : Code := bodyOf Tryd.prog 3
noncomputable def d0 : Code := c3.sB.sB
noncomputable def d1 : Code := d0.sB.sB.sB.sB
noncomputable def d2 : Code := d1.sB.sB.sB.sB
noncomputable def d3 : Code := d2.sB.sB.sB
noncomputable def m0 : Code := c3.sA
noncomputable def m1 : Code := c3.sB.sA
noncomputable def m2 : Code := d0.sA
noncomputable def m4 : Code := d0.sB.sA.sA
noncomputable def la : Code := d0.sB.sA.sB.inn.inn
noncomputable def m14 : Code := d0.sB.sB.sA
noncomputable def m15 : Code := d0.sB.sB.sB.sA
noncomputable def m17 : Code := d1.sA
noncomputable def m18 : Code := d1.sB.sA
noncomputable def m20 : Code := d1.sB.sB.sA
noncomputable def m21 : Code := d1.sB.sB.sB.sA
noncomputable def m23 : Code := d2.sA
noncomputable def m24 : Code := d2.sB.sA
noncomputable def m26 : Code := d2.sB.sB.sA.sA
noncomputable def lb : Code := d2.sB.sB.sA.sB.inn.inn
noncomputable def m31 : Code := d2.sB.sB.sB.sA.sA
noncomputable def lc : Code := d2.sB.sB.sB.sA.sB.inn.inn
noncomputable def m38 : Code := d2.sB.sB.sB.sB.sA
noncomputable def m39 : Code := d2.sB.sB.sB.sB.sB.sA
noncomputable def m41 : Code := d2.sB.sB.sB.sB.sB.sB.sA.sA
noncomputable def ld : Code := d2.sB.sB.sB.sB.sB.sB.sA.sB.inn.inn
noncomputable def m49 : Code := d2.sB.sB.sB.sB.sB.sB.sB
theorem c3_eq : c3 = .seq m0 (.seq m1 (.seq m2 (.seq (.seq m4 (.block 0 (.loop la))) (.seq m14 (.seq m15 (.seq m17 (.seq m18 (.seq m20 (.seq m21 (.seq m23 (.seq m24 (.seq (.seq m26 (.block 2 (.loop lb))) (.seq (.seq m31 (.block 4 (.loop lc))) (.seq m38 (.seq m39 (.seq (.seq m41 (.block 6 (.loop ld))) m49)))))))))))))))) := by kernel_rfl
noncomputable def la0 : Code := la.sA
noncomputable def la1 : Code := la.sB.sA
noncomputable def la2 : Code := la.sB.sB
theorem la_eq : la = .seq la0 (.seq la1 la2) := by kernel_rfl
noncomputable def lb0 : Code := lb.sA
noncomputable def lb1 : Code := lb.sB.sA
noncomputable def lb2 : Code := lb.sB.sB
theorem lb_eq : lb = .seq lb0 (.seq lb1 lb2) := by kernel_rfl
noncomputable def lc0 : Code := lc.sA
noncomputable def lc1 : Code := lc.sB.sA
noncomputable def lc2 : Code := lc.sB.sB
theorem lc_eq : lc = .seq lc0 (.seq lc1 lc2) := by kernel_rfl
noncomputable def ld0 : Code := ld.sA
noncomputable def ld1 : Code := ld.sB.sA
noncomputable def ld2 : Code := ld.sB.sB
theorem ld_eq : ld = .seq ld0 (.seq ld1 ld2) := by kernel_rfl

def fp3 : Fp := ⟨98777141361310664312329223023288427649077562008665999, 178, 66, fun _ _ => none⟩
noncomputable def evM (o : Ops) (c : Code) (l : List (Nat × V)) (ms : List (Nat × Blk)) (n : Nat) : Out := evalC cxK (evalF cxK (ΓM o) 400 20) fp3 400 c (stOf l (hM ms n))

/-! ### what is where -/

/-- The list of calls ahead, by index. -/
structure LF where
  kd : Nat → U
  i : Nat → U
  at_ : Nat → U
  sz : Nat → U
  r : RF
  nl : Nat → Bool
def LF.s (f : LF) : Sh := .st [.int .i64 f.kd, .int .i64 f.i, .int .i64 f.at_, .int .i64 f.sz, f.r.s, .bool f.nl]
def bL (n : Nat) (f : LF) : Nat × Blk := (0, ⟨false, .arr 15 (.sym n) f.s⟩)
abbrev ahead (n : Nat) : V := one (.sl 0 [] 15 (.lit 0) (.sym n) none)
def bR (r : RW) : Nat × Blk := (1, ⟨true, r.t⟩)
def bS (s : FSt) : Nat × Blk := (2, ⟨true, s.t⟩)
def bC (s : FSt) : Nat × Blk := (3, ⟨true, s.t⟩)
def sA (v : V) (sl at_ : U) (r : RW) : List (Nat × V) := [(0, v), (1, i64 sl), (2, i64 at_), (3, .t r.t)]
def sB (v : V) (sl at_ : U) : List (Nat × V) := [(0, v), (1, i64 sl), (2, i64 at_), (7, pt 1)]
def sC (v : V) (sl at_ : U) : List (Nat × V) := [(0, v), (1, i64 sl), (2, i64 at_), (7, pt 1), (9, pt 2)]
def sI (v : V) (sl at_ i : U) : List (Nat × V) := [(0, v), (1, i64 sl), (2, i64 at_), (7, pt 1), (9, pt 2), (10, i64 i)]
end Go.WE
