/- The frame's seat: the program that is walked; states, told by functions. -/
import Derived.Test.YtljopbfbljkjoaaDoorRows
import Derived.Test.YtljopbfbljkjoaaDoorWE36
namespace Go
def Code.rfB : Code → Code
  | .rangeFunc _ _ _ b => b
  | _ => .skip
def Code.rfA : Code → Code
  | .rangeFunc _ _ a _ => a
  | _ => .skip
def Code.cL : Code → Code
  | .cond _ a _ => a
  | _ => .skip
end Go
namespace Go.WE
set_option linter.unusedVariables false
set_option maxRecDepth 100000
open Go Go.Proofs
abbrev U := BitVec 64
abbrev K (n : Int) : U := BitVec.ofInt 64 n
theorem entK : entersAll Tryd.prog = true := by kernel_rfl
def eqsK : List (TypeId × List Bool) := [(33, List.replicate 10 false), (62, List.replicate 4 false), (59, List.replicate 5 false), (31, List.replicate 6 false)]
noncomputable abbrev cxK : Cx := { P := Tryd.prog, eqT := eqTab eqsK }
theorem eqsKOk : eqTabOk Tryd.prog eqsK = true := by kernel_rfl
theorem XK {Γ : Gam} (h : ΓOK Tryd.prog Γ) : CxOK cxK Γ := ⟨eqOK_of eqsKOk rfl, h, noDfr_ok, noLam _ _ _ _, enters_of entK⟩

/-- What is known of a register. -/
structure RW where
  k : U
  o : U
  m : U
  i : U
  tv : U
  tm : U
  ul : U
  uh : U
  sl : U
  sh : U
/-- .. of many. -/
structure RF where
  k : Nat → U
  o : Nat → U
  m : Nat → U
  i : Nat → U
  tv : Nat → U
  tm : Nat → U
  ul : Nat → U
  uh : Nat → U
  sl : Nat → U
  sh : Nat → U
def RF.at (f : RF) (n : Nat) : RW := ⟨f.k n, f.o n, f.m n, f.i n, f.tv n, f.tm n, f.ul n, f.uh n, f.sl n, f.sh n⟩
/-- A state. -/
structure FSt where
  regs : RF
  g : Nat → U
  kept : RF
def RW.t (r : RW) : T := .st [.a (.i .i64 r.k), .a (.i .i64 r.o), .a (.i .i64 r.m), .a (.i .i64 r.i), .st [.st [.a (.i .u64 r.tv), .a (.i .u64 r.tm)], .st [.a (.i .u64 r.ul), .a (.i .u64 r.uh)], .st [.a (.i .i64 r.sl), .a (.i .i64 r.sh)]]]
def RF.s (f : RF) : Sh := .st [.int .i64 f.k, .int .i64 f.o, .int .i64 f.m, .int .i64 f.i, .st [.st [.int .u64 f.tv, .int .u64 f.tm], .st [.int .u64 f.ul, .int .u64 f.uh], .st [.int .i64 f.sl, .int .i64 f.sh]]]
def FSt.t (s : FSt) : T := .st [.arr 10 (.lit 11) s.regs.s, .arr 1 (.lit 128) (.int .i64 s.g), .arr 10 (.lit 16) s.kept.s]
abbrev one (a : A) : V := .t (.a a)
abbrev pt (id : Nat) : V := .t (.a (.ptr id []))

/-! ### Lay, Read: their texts -/
noncomputable def c8 : Code := bodyOf Tryd.prog 8
noncomputable def c17 : Code := bodyOf Tryd.prog 17
noncomputable def l0 : Code := c8.sA
noncomputable def l1 : Code := c8.sB.sA
noncomputable def l3 : Code := c8.sB.sB.sA.sA
noncomputable def lA : Code := c8.sB.sB.sA.sB.inn.rfA
noncomputable def lB : Code := c8.sB.sB.sA.sB.inn.rfB
noncomputable def l11 : Code := c8.sB.sB.sB
noncomputable def r0 : Code := c17.sA
noncomputable def r1 : Code := c17.sB.sA
noncomputable def r3 : Code := c17.sB.sB.sA.sA
noncomputable def rA : Code := c17.sB.sB.sA.sB.inn.rfA
noncomputable def rB : Code := c17.sB.sB.sA.sB.inn.rfB
noncomputable def r10 : Code := c17.sB.sB.sB
theorem c8_eq : c8 = .seq l0 (.seq l1 (.seq (.seq l3 (.block 0 (.rangeFunc (.tmp 15) #[16] lA lB))) l11)) := by kernel_rfl
theorem c17_eq : c17 = .seq r0 (.seq r1 (.seq (.seq r3 (.block 0 (.rangeFunc (.tmp 14) #[15] rA rB))) r10)) := by kernel_rfl
def fp8 : Fp := ⟨8657146319, 48, 66, fun _ _ => none⟩
def fp17 : Fp := ⟨23185615, 26, 66, fun _ _ => none⟩
noncomputable def evL (c : Code) (l : List (Nat × V)) (ms : List (Nat × Blk)) (n : Nat) : Out := evalC cxK (evalF cxK noΓ 400 20) fp8 400 c (stOf l (hM ms n))
noncomputable def evR (c : Code) (l : List (Nat × V)) (ms : List (Nat × Blk)) (n : Nat) : Out := evalC cxK (evalF cxK noΓ 400 20) fp17 400 c (stOf l (hM ms n))
def msB (s : FSt) : List (Nat × Blk) := [(0, ⟨true, s.t⟩), (1, ⟨true, .a (.ptr 0 [])⟩)]
end Go.WE
