/- TnumKnown: exact, its text in phases. -/
import Derived.Test.YtbpkkailkalpiaaDoorSaysLaw
namespace Go.WE
set_option linter.unusedVariables false
set_option maxRecDepth 100000
open Go Go.TL Go.Proofs
open Go.RowKit (Below)

noncomputable def c33 : Code := bodyOf Tryd.prog 33
noncomputable def x0 : Code := c33.sA
noncomputable def x1 : Code := c33.sB.sA
noncomputable def x2 : Code := c33.sB.sB.sA
noncomputable def x3 : Code := c33.sB.sB.sB.sA
noncomputable def x4 : Code := c33.sB.sB.sB.sB.sA.sA
noncomputable def xl0 : Code := c33.sB.sB.sB.sB.sA.sB.inn.inn
noncomputable def xrest : Code := c33.sB.sB.sB.sB.sB
noncomputable def xh0 : Code := xl0.sA
noncomputable def x7 : Code := xl0.sB.sA.inn.sA
noncomputable def xl1 : Code := xl0.sB.sA.inn.sB.inn.inn
noncomputable def xi0 : Code := xl0.sB.sB
noncomputable def xh1 : Code := xl1.sA
noncomputable def xb : Code := xl1.sB.sA
noncomputable def xi1 : Code := xl1.sB.sB
theorem c33_eq : c33 = .seq x0 (.seq x1 (.seq x2 (.seq x3 (.seq (.seq x4 (.block 0 (.loop xl0))) xrest)))) := by kernel_rfl
theorem xl0_eq : xl0 = .seq xh0 (.seq (.block 1 (.seq x7 (.block 2 (.loop xl1)))) xi0) := by kernel_rfl
theorem xl1_eq : xl1 = .seq xh1 (.seq xb xi1) := by kernel_rfl

def fp33 : Fp := ⟨41538377344158699608574671788228607, 118, 66, fun _ _ => none⟩
noncomputable def evX (c : Code) (l : List (Nat × V)) (ms : List (Nat × Blk)) (n : Nat) : Out := evalC cxT (evalF cxT noΓ 400 20) fp33 400 c (stOf l (hM ms n))
structure W5 where
  a0 : U
  a1 : U
  a2 : U
  a3 : U
  a4 : U
def W5.t (w : W5) : T := .lst 1 [.a (.i .u64 w.a0), .a (.i .u64 w.a1), .a (.i .u64 w.a2), .a (.i .u64 w.a3), .a (.i .u64 w.a4)]
def zero5 : T := .lst 1 [.a (.lit .u64 0), .a (.lit .u64 0), .a (.lit .u64 0), .a (.lit .u64 0), .a (.lit .u64 0)]
def xm0 (av am bv bm : U) : List (Nat × Blk) := [(0, ⟨true, tnT av am⟩), (1, ⟨true, tnT bv bm⟩)]
def xm (av am bv bm : U) (f d : T) : List (Nat × Blk) := [(0, ⟨true, tnT av am⟩), (1, ⟨true, tnT bv bm⟩), (2, ⟨true, f⟩), (3, ⟨true, d⟩)]
def s0 (av am bv bm : U) : List (Nat × V) := [(0, .t (tnT av am)), (1, .t (tnT bv bm))]
def s1 : List (Nat × V) := [(2, pt 0), (3, pt 1), (4, one .ff)]
def s2 : List (Nat × V) := [(2, pt 0), (3, pt 1), (4, one .ff), (5, pt 2)]
def s3 : List (Nat × V) := [(2, pt 0), (3, pt 1), (4, one .ff), (5, pt 2), (6, pt 3)]
def s4 (n : A) : List (Nat × V) := [(2, pt 0), (3, pt 1), (4, one .ff), (5, pt 2), (6, pt 3), (7, one n)]
def s5 (n x : A) : List (Nat × V) := [(2, pt 0), (3, pt 1), (4, one .ff), (5, pt 2), (6, pt 3), (7, one n), (8, one x)]
def s6 (n x y : A) : List (Nat × V) := [(2, pt 0), (3, pt 1), (4, one .ff), (5, pt 2), (6, pt 3), (7, one n), (8, one x), (9, one y)]

theorem xe0 (av am bv bm : U) : endM fp33.km [2, 3, 4] [0, 1] 2 (evX x0 (s0 av am bv bm) [] 0).pick = some ⟨.nrm, .tt, s1, xm0 av am bv bm⟩ := by kernel_rfl
theorem xe1 (av am bv bm : U) : endM fp33.km [2, 3, 4, 5] [0, 1, 2] 3 (evX x1 s1 (xm0 av am bv bm) 2).pick = some ⟨.nrm, .tt, s2, xm0 av am bv bm ++ [(2, ⟨true, zero5⟩)]⟩ := by kernel_rfl
theorem xe2 (av am bv bm : U) : endM fp33.km [2, 3, 4, 5, 6] [0, 1, 2, 3] 4 (evX x2 s2 (xm0 av am bv bm ++ [(2, ⟨true, zero5⟩)]) 3).pick = some ⟨.nrm, .tt, s3, xm av am bv bm zero5 zero5⟩ := by kernel_rfl
section
variable (av am bv bm x y n : U) (f d : W5)
theorem xe3 : endM fp33.km [2, 3, 4, 5, 6, 7] [0, 1, 2, 3] 4 (evX x3 s3 (xm av am bv bm f.t d.t) 4).pick = some ⟨.nrm, .tt, s4 (.lit .i64 0), xm av am bv bm f.t d.t⟩ := by kernel_rfl
theorem xe4 : endM fp33.km [2, 3, 4, 5, 6, 7, 8] [0, 1, 2, 3] 4 (evX x4 (s4 (.i .i64 n)) (xm av am bv bm f.t d.t) 4).pick = some ⟨.nrm, .tt, s5 (.i .i64 n) (.lit .u64 0), xm av am bv bm f.t d.t⟩ := by kernel_rfl
theorem xh0c : (evX xh0 (s5 (.i .i64 n) (.i .u64 x)) (xm av am bv bm f.t d.t) 4).cnd = some (BitVec.ult x (K 8)) := by kernel_rfl
theorem xh0t : endM fp33.km [2, 3, 4, 5, 6, 7, 8] [0, 1, 2, 3] 4 ((evX xh0 (s5 (.i .i64 n) (.i .u64 x)) (xm av am bv bm f.t d.t) 4).at true) = some ⟨.nrm, .tt, s5 (.i .i64 n) (.i .u64 x), xm av am bv bm f.t d.t⟩ := by kernel_rfl
theorem xh0f : endM fp33.km [2, 3, 4, 5, 6, 7] [0, 1, 2, 3] 4 ((evX xh0 (s5 (.i .i64 n) (.i .u64 x)) (xm av am bv bm f.t d.t) 4).at false) = some ⟨.exit 0, .tt, s4 (.i .i64 n), xm av am bv bm f.t d.t⟩ := by kernel_rfl
theorem xe7 : endM fp33.km [2, 3, 4, 5, 6, 7, 8, 9] [0, 1, 2, 3] 4 (evX x7 (s5 (.i .i64 n) (.i .u64 x)) (xm av am bv bm f.t d.t) 4).pick = some ⟨.nrm, .tt, s6 (.i .i64 n) (.i .u64 x) (.lit .u64 0), xm av am bv bm f.t d.t⟩ := by kernel_rfl
theorem xh1c : (evX xh1 (s6 (.i .i64 n) (.i .u64 x) (.i .u64 y)) (xm av am bv bm f.t d.t) 4).cnd = some (BitVec.ult y (K 8)) := by kernel_rfl
theorem xh1t : endM fp33.km [2, 3, 4, 5, 6, 7, 8, 9] [0, 1, 2, 3] 4 ((evX xh1 (s6 (.i .i64 n) (.i .u64 x) (.i .u64 y)) (xm av am bv bm f.t d.t) 4).at true) = some ⟨.nrm, .tt, s6 (.i .i64 n) (.i .u64 x) (.i .u64 y), xm av am bv bm f.t d.t⟩ := by kernel_rfl
theorem xh1f : endM fp33.km [2, 3, 4, 5, 6, 7, 8] [0, 1, 2, 3] 4 ((evX xh1 (s6 (.i .i64 n) (.i .u64 x) (.i .u64 y)) (xm av am bv bm f.t d.t) 4).at false) = some ⟨.exit 2, .tt, s5 (.i .i64 n) (.i .u64 x), xm av am bv bm f.t d.t⟩ := by kernel_rfl
theorem xi1e : endM fp33.km [2, 3, 4, 5, 6, 7, 8, 9] [0, 1, 2, 3] 4 (evX xi1 (s6 (.i .i64 n) (.i .u64 x) (.i .u64 y)) (xm av am bv bm f.t d.t) 4).pick = some ⟨.nrm, .tt, s6 (.i .i64 n) (.i .u64 x) (.i .u64 (y + K 1)), xm av am bv bm f.t d.t⟩ := by kernel_rfl
theorem xi0e : endM fp33.km [2, 3, 4, 5, 6, 7, 8] [0, 1, 2, 3] 4 (evX xi0 (s5 (.i .i64 n) (.i .u64 x)) (xm av am bv bm f.t d.t) 4).pick = some ⟨.nrm, .tt, s5 (.i .i64 n) (.i .u64 (x + K 1)), xm av am bv bm f.t d.t⟩ := by kernel_rfl
end

/-! ### a round -/

def wrU (c : Bool) : Nat → U → U
  | 0, x => x
  | k + 1, x => cond c (wrU c k x) (wrU c k x)
theorem wrU_eq (c : Bool) (k : Nat) (x : U) : wrU c k x = x := by
  induction k with
  | zero => rfl
  | succ k ih => unfold wrU; rw [ih]; cases c <;> rfl
structure ES where
  f : W5
  d : W5
  n : U
def deadP (av am bv bm x y : U) : Bool := cond (!((av ^^^ x) &&& ~~~am == K 0)) true (!((bv ^^^ y) &&& ~~~bm == K 0))
def W5.op (x y : U) : W5 := ⟨x + y, x - y, x &&& y, x ||| y, x ^^^ y⟩
/-- The first one, on its way. -/
def midF (c : Bool) (l f : W5) : W5 := ⟨cond c l.a0 f.a0, cond c l.a1 (wrU c 1 f.a1), cond c l.a2 (wrU c 2 f.a2), cond c l.a3 (wrU c 3 f.a3), cond c l.a4 (wrU c 4 f.a4)⟩
def endF (c : Bool) (m : W5) : W5 := ⟨wrU c 4 m.a0, wrU c 3 m.a1, wrU c 2 m.a2, wrU c 1 m.a3, m.a4⟩
def orD (d l f : W5) : W5 := ⟨d.a0 ||| (l.a0 ^^^ f.a0), d.a1 ||| (l.a1 ^^^ f.a1), d.a2 ||| (l.a2 ^^^ f.a2), d.a3 ||| (l.a3 ^^^ f.a3), d.a4 ||| (l.a4 ^^^ f.a4)⟩
def muxW (b : Bool) (p q : W5) : W5 := ⟨cond b p.a0 q.a0, cond b p.a1 q.a1, cond b p.a2 q.a2, cond b p.a3 q.a3, cond b p.a4 q.a4⟩
def estep (av am bv bm x y : U) (s : ES) : ES :=
  ⟨muxW (deadP av am bv bm x y) s.f (endF (s.n == K 0) (midF (s.n == K 0) (W5.op x y) s.f)), muxW (deadP av am bv bm x y) s.d (orD s.d (W5.op x y) (midF (s.n == K 0) (W5.op x y) s.f)), cond (deadP av am bv bm x y) s.n (s.n + K 1)⟩
theorem xbe (av am bv bm x y : U) (s : ES) : endM fp33.km [2, 3, 4, 5, 6, 7, 8, 9] [0, 1, 2, 3] 4 (evX xb (s6 (.i .i64 s.n) (.i .u64 x) (.i .u64 y)) (xm av am bv bm s.f.t s.d.t) 4).pick =
    some ⟨.nrm, .tt, s6 (.i .i64 (estep av am bv bm x y s).n) (.i .u64 x) (.i .u64 y), xm av am bv bm (estep av am bv bm x y s).f.t (estep av am bv bm x y s).d.t⟩ := by kernel_rfl

/-! ### the end -/

noncomputable def x19 : Code := xrest.sA
noncomputable def x20 : Code := xrest.sB.sA.sA
noncomputable def xl6 : Code := xrest.sB.sA.sB.inn.inn
noncomputable def x25 : Code := xrest.sB.sB
theorem xrest_eq : xrest = .seq x19 (.seq (.seq x20 (.block 6 (.loop xl6))) x25) := by kernel_rfl
structure G5 where
  v : W5
  m : W5
def G5.t (g : G5) : T := .lst 2 [tnT g.v.a0 g.m.a0, tnT g.v.a1 g.m.a1, tnT g.v.a2 g.m.a2, tnT g.v.a3 g.m.a3, tnT g.v.a4 g.m.a4]
def gotG (av am bv bm : U) : G5 := ⟨⟨(lo av am + lo bv bm) &&& ~~~(sM av am bv bm), (lo av am - lo bv bm) &&& ~~~(dM av am bv bm), (lo av am &&& lo bv bm) &&& ~~~(aM av am bv bm), (lo av am ||| lo bv bm) &&& ~~~(oM av am bv bm), (av ^^^ bv) &&& ~~~(op2 am bm)⟩,
  ⟨sM av am bv bm, dM av am bv bm, aM av am bv bm, oM av am bv bm, op2 am bm⟩⟩
def s7 (n : A) : List (Nat × V) := [(2, pt 0), (3, pt 1), (4, one .ff), (5, pt 2), (6, pt 3), (7, one n), (12, pt 48)]
def s8 (n i : A) : List (Nat × V) := [(2, pt 0), (3, pt 1), (4, one .ff), (5, pt 2), (6, pt 3), (7, one n), (12, pt 48), (13, one i)]
def xg (av am bv bm : U) (f d : W5) (g : G5) : List (Nat × Blk) := [(0, ⟨true, tnT av am⟩), (1, ⟨true, tnT bv bm⟩), (2, ⟨true, f.t⟩), (3, ⟨true, d.t⟩), (48, ⟨true, g.t⟩)]
theorem xe19 (av am bv bm n : U) (f d : W5) : endM fp33.km [2, 3, 4, 5, 6, 7, 12] [0, 1, 2, 3, 48] 49 (evX x19 (s4 (.i .i64 n)) (xm av am bv bm f.t d.t) 4).pick = some ⟨.nrm, .tt, s7 (.i .i64 n), xg av am bv bm f d (gotG av am bv bm)⟩ := by kernel_rfl
theorem xe20 (av am bv bm n : U) (f d : W5) (g : G5) : endM fp33.km [2, 3, 4, 5, 6, 7, 12, 13] [0, 1, 2, 3, 48] 49 (evX x20 (s7 (.i .i64 n)) (xg av am bv bm f d g) 49).pick = some ⟨.nrm, .tt, s8 (.i .i64 n) (.lit .i64 0), xg av am bv bm f d g⟩ := by kernel_rfl
def badC (m d v f : U) : Bool := cond (m != d) true (v != (f &&& ~~~d))
theorem x6c_0 (av am bv bm n : U) (f d : W5) (g : G5) : (evX xl6 (s8 (.i .i64 n) (.lit .i64 0)) (xg av am bv bm f d g) 49).cnd = some (badC g.m.a0 d.a0 g.v.a0 f.a0) := by kernel_rfl
theorem x6e_0 (av am bv bm n : U) (f d : W5) (g : G5) : endM fp33.km [2, 3, 4, 5, 6, 7, 12, 13] [0, 1, 2, 3, 48] 49 ((evX xl6 (s8 (.i .i64 n) (.lit .i64 0)) (xg av am bv bm f d g) 49).at false) = some ⟨.nrm, .tt, s8 (.i .i64 n) (.lit .i64 1), xg av am bv bm f d g⟩ := by kernel_rfl
theorem x6c_1 (av am bv bm n : U) (f d : W5) (g : G5) : (evX xl6 (s8 (.i .i64 n) (.lit .i64 1)) (xg av am bv bm f d g) 49).cnd = some (badC g.m.a1 d.a1 g.v.a1 f.a1) := by kernel_rfl
theorem x6e_1 (av am bv bm n : U) (f d : W5) (g : G5) : endM fp33.km [2, 3, 4, 5, 6, 7, 12, 13] [0, 1, 2, 3, 48] 49 ((evX xl6 (s8 (.i .i64 n) (.lit .i64 1)) (xg av am bv bm f d g) 49).at false) = some ⟨.nrm, .tt, s8 (.i .i64 n) (.lit .i64 2), xg av am bv bm f d g⟩ := by kernel_rfl
theorem x6c_2 (av am bv bm n : U) (f d : W5) (g : G5) : (evX xl6 (s8 (.i .i64 n) (.lit .i64 2)) (xg av am bv bm f d g) 49).cnd = some (badC g.m.a2 d.a2 g.v.a2 f.a2) := by kernel_rfl
theorem x6e_2 (av am bv bm n : U) (f d : W5) (g : G5) : endM fp33.km [2, 3, 4, 5, 6, 7, 12, 13] [0, 1, 2, 3, 48] 49 ((evX xl6 (s8 (.i .i64 n) (.lit .i64 2)) (xg av am bv bm f d g) 49).at false) = some ⟨.nrm, .tt, s8 (.i .i64 n) (.lit .i64 3), xg av am bv bm f d g⟩ := by kernel_rfl
theorem x6c_3 (av am bv bm n : U) (f d : W5) (g : G5) : (evX xl6 (s8 (.i .i64 n) (.lit .i64 3)) (xg av am bv bm f d g) 49).cnd = some (badC g.m.a3 d.a3 g.v.a3 f.a3) := by kernel_rfl
theorem x6e_3 (av am bv bm n : U) (f d : W5) (g : G5) : endM fp33.km [2, 3, 4, 5, 6, 7, 12, 13] [0, 1, 2, 3, 48] 49 ((evX xl6 (s8 (.i .i64 n) (.lit .i64 3)) (xg av am bv bm f d g) 49).at false) = some ⟨.nrm, .tt, s8 (.i .i64 n) (.lit .i64 4), xg av am bv bm f d g⟩ := by kernel_rfl
theorem x6c_4 (av am bv bm n : U) (f d : W5) (g : G5) : (evX xl6 (s8 (.i .i64 n) (.lit .i64 4)) (xg av am bv bm f d g) 49).cnd = some (badC g.m.a4 d.a4 g.v.a4 f.a4) := by kernel_rfl
theorem x6e_4 (av am bv bm n : U) (f d : W5) (g : G5) : endM fp33.km [2, 3, 4, 5, 6, 7, 12, 13] [0, 1, 2, 3, 48] 49 ((evX xl6 (s8 (.i .i64 n) (.lit .i64 4)) (xg av am bv bm f d g) 49).at false) = some ⟨.nrm, .tt, s8 (.i .i64 n) (.lit .i64 5), xg av am bv bm f d g⟩ := by kernel_rfl
theorem x6f (av am bv bm n : U) (f d : W5) (g : G5) : endM fp33.km [2, 3, 4, 5, 6, 7, 12] [0, 1, 2, 3, 48] 49 (evX xl6 (s8 (.i .i64 n) (.lit .i64 5)) (xg av am bv bm f d g) 49).pick = some ⟨.exit 6, .tt, s7 (.i .i64 n), xg av am bv bm f d g⟩ := by kernel_rfl
theorem x25e (av am bv bm n : U) (f d : W5) (g : G5) : retOf Tryd.prog fp33.km Tryd.f33.results.toList (evX x25 (s7 (.i .i64 n)) (xg av am bv bm f d g) 49).pick = some (.tt, .tt, one (.b (BitVec.slt (K 0) n))) := by kernel_rfl
end Go.WE
