/- FrameBack: what its text's pieces do. -/
import Derived.Test.YtljopbfbljkjoaaDoorM
namespace Go.WE
set_option linter.unusedVariables false
set_option maxRecDepth 100000
open Go Go.Proofs

def sT (sl at_ : U) : List (Nat × V) := [(1, i64 sl), (2, i64 at_), (7, pt 1), (9, pt 2)]
def sU (sl at_ : U) : List (Nat × V) := [(1, i64 sl), (2, i64 at_), (7, pt 1), (9, pt 2), (13, pt 3)]
def sV (sl at_ e : U) : List (Nat × V) := [(1, i64 sl), (2, i64 at_), (7, pt 1), (9, pt 2), (13, pt 3), (14, pt 4), (15, i64 e)]
def sJ (sl at_ : U) (i : A) : List (Nat × V) := [(1, i64 sl), (2, i64 at_), (7, pt 1), (9, pt 2), (13, pt 3), (16, one i)]
def sW (sl at_ : U) (i : A) : List (Nat × V) := [(1, i64 sl), (2, i64 at_), (7, pt 1), (9, pt 2), (13, pt 3), (17, one i)]
def sO (sl o1 : U) : List (Nat × V) := [(1, i64 sl), (7, pt 1), (9, pt 2), (22, i64 o1)]
def sQ (sl o1 p : U) : List (Nat × V) := [(1, i64 sl), (7, pt 1), (9, pt 2), (22, i64 o1), (23, i64 p)]
def b4 (r : RW) : Nat × Blk := (4, ⟨true, r.t⟩)
def sY (v : V) (sl at_ : U) (i : A) : List (Nat × V) := [(0, v), (1, i64 sl), (2, i64 at_), (7, pt 1), (9, pt 2), (10, one i)]

def pickT (n : Int) (x : U) : U := cond (BitVec.slt (BitVec.srem x (K n)) (K 0)) (BitVec.srem x (K n) + K n) (BitVec.srem x (K n))
def ctxE (r : RW) : RW := ⟨cond (r.k == K 0) (K 2) r.k, cond (r.k == K 0) (K 0) r.o, cond (r.k == K 0) (K 0) r.m, cond (r.k == K 0) (K 0) r.i, cond (r.k == K 0) (K 0) r.tv, cond (r.k == K 0) (K 0) r.tm, cond (r.k == K 0) (K 0) r.ul, cond (r.k == K 0) (K 0) r.uh, cond (r.k == K 0) (K 0) r.sl, cond (r.k == K 0) (K 0) r.sh⟩
def slotE (sl : U) : U := K (-8) * (K 1 + pickT 16 sl)
def eq10 (p q : RW) : Bool := p.k == q.k && (p.o == q.o && (p.m == q.m && (p.i == q.i && (p.tv == q.tv && (p.tm == q.tm && (p.ul == q.ul && (p.uh == q.uh && (p.sl == q.sl && p.sh == q.sh))))))))
def outR (i : U) : Bool := cond (BitVec.slt i (K 0)) true (BitVec.sle (K 11) i)
def regW (s : FSt) (i : U) : RW := ⟨cond (outR i) (K 0) (s.regs.k i.toNat), cond (outR i) (K 0) (s.regs.o i.toNat), cond (outR i) (K 0) (s.regs.m i.toNat), cond (outR i) (K 0) (s.regs.i i.toNat), cond (outR i) (K 0) (s.regs.tv i.toNat), cond (outR i) (K 0) (s.regs.tm i.toNat), cond (outR i) (K 0) (s.regs.ul i.toNat), cond (outR i) (K 0) (s.regs.uh i.toNat), cond (outR i) (K 0) (s.regs.sl i.toNat), cond (outR i) (K 0) (s.regs.sh i.toNat)⟩
def okReg (i : U) : Bool :=
  let t7 := cond (outR i) true (vB i 11 && wB i 11)
  t7 && t7
def difS (s s' : FSt) (sl i : U) : Bool := cond (i != sl) (cond (!(eq10 (ldW s (slotN i)) (ldW s' (slotN i)))) true (ldE s (slotN i) != ldE s' (slotN i))) false
def okAct (o : Ops) (n : Nat) (f : LF) (i : U) : Bool :=
  let j := 0 + i.toNat
  let t4 := (!(BitVec.msb i) && Nat.blt i.toNat n) && Nat.blt j n
  let t10 := pickT 4 (f.sz j)
  cond ((o.kn (f.r.at j)).k == K 0) t4 (cond (pickT 2 (f.kd j) == K 0) t4 (t4 && ((!(BitVec.msb t10) && Nat.blt t10.toNat 4) && Nat.blt (0 + t10.toNat) 4)))

abbrev ahead0 : V := one (.sl 0 [] 15 (.lit 0) (.lit 0) none)

section
variable (o : Ops) (n : Nat) (f : LF) (sl at_ i x : U) (r r' : RW) (s s' : FSt)
theorem e0 : endM fp3.km [0, 1, 2, 7] [0, 1] 2 (evM o m0 (sA (ahead n) sl at_ r) [bL n f] 1).pick = some ⟨.nrm, .tt, sB (ahead n) sl at_, [bL n f, bR r]⟩ := by kernel_rfl
theorem e0n : endM fp3.km [0, 1, 2, 7] [1] 2 (evM o m0 (sA (one .nils) sl at_ r) [] 1).pick = some ⟨.nrm, .tt, sB (one .nils) sl at_, [bR r]⟩ := by kernel_rfl
theorem e0z : endM fp3.km [0, 1, 2, 7] [1] 2 (evM o m0 (sA ahead0 sl at_ r) [] 1).pick = some ⟨.nrm, .tt, sB ahead0 sl at_, [bR r]⟩ := by kernel_rfl
theorem e1z : endM fp3.km [0, 1, 2, 7, 9] [1, 2] 3 (evM o m1 (sB ahead0 sl at_) [bR r] 2).pick = some ⟨.nrm, .tt, sC ahead0 sl at_, [bR r, bS newFS]⟩ := by kernel_rfl
theorem e2z : endM fp3.km [0, 1, 2, 7, 9] [1, 2] 3 (evM o m2 (sC ahead0 sl at_) [bR r, bS s] 3).pick = some ⟨.nrm, .tt, sC ahead0 sl at_, [bR r, bS s]⟩ := by kernel_rfl
theorem e4z : endM fp3.km [0, 1, 2, 7, 9, 10] [1, 2] 3 (evM o m4 (sC ahead0 sl at_) [bR r, bS s] 3).pick = some ⟨.nrm, .tt, sY ahead0 sl at_ (.lit .i64 0), [bR r, bS s]⟩ := by kernel_rfl
theorem e5z : endM fp3.km [1, 2, 7, 9] [1, 2] 3 (evM o la0 (sY ahead0 sl at_ (.lit .i64 0)) [bR r, bS s] 3).pick = some ⟨.exit 0, .tt, sT sl at_, [bR r, bS s]⟩ := by kernel_rfl
theorem e1 : endM fp3.km [0, 1, 2, 7, 9] [0, 1, 2] 3 (evM o m1 (sB (ahead n) sl at_) [bL n f, bR r] 2).pick = some ⟨.nrm, .tt, sC (ahead n) sl at_, [bL n f, bR r, bS newFS]⟩ := by kernel_rfl
theorem e1n : endM fp3.km [0, 1, 2, 7, 9] [1, 2] 3 (evM o m1 (sB (one .nils) sl at_) [bR r] 2).pick = some ⟨.nrm, .tt, sC (one .nils) sl at_, [bR r, bS newFS]⟩ := by kernel_rfl
theorem e2c : (evM o m2 (sC (ahead n) sl at_) [bL n f, bR r, bS s] 3).cnd = some (BitVec.slt (K 40) (BitVec.ofNat 64 n)) := by kernel_rfl
theorem e2t : endM fp3.km [8] [] 3 ((evM o m2 (sC (ahead n) sl at_) [bL n f, bR r, bS s] 3).at true) = some ⟨.ret, .b (Nat.blt n (2 ^ 63)), [(8, one (.b true))], []⟩ := by kernel_rfl
theorem e2f : endM fp3.km [0, 1, 2, 7, 9] [0, 1, 2] 3 ((evM o m2 (sC (ahead n) sl at_) [bL n f, bR r, bS s] 3).at false) = some ⟨.nrm, .b (Nat.blt n (2 ^ 63)), sC (ahead n) sl at_, [bL n f, bR r, bS s]⟩ := by kernel_rfl
theorem e2n : endM fp3.km [0, 1, 2, 7, 9] [1, 2] 3 (evM o m2 (sC (one .nils) sl at_) [bR r, bS s] 3).pick = some ⟨.nrm, .tt, sC (one .nils) sl at_, [bR r, bS s]⟩ := by kernel_rfl
theorem e4 : endM fp3.km [0, 1, 2, 7, 9, 10] [0, 1, 2] 3 (evM o m4 (sC (ahead n) sl at_) [bL n f, bR r, bS s] 3).pick = some ⟨.nrm, .tt, sY (ahead n) sl at_ (.lit .i64 0), [bL n f, bR r, bS s]⟩ := by kernel_rfl
theorem e4n : endM fp3.km [0, 1, 2, 7, 9, 10] [1, 2] 3 (evM o m4 (sC (one .nils) sl at_) [bR r, bS s] 3).pick = some ⟨.nrm, .tt, sY (one .nils) sl at_ (.lit .i64 0), [bR r, bS s]⟩ := by kernel_rfl
theorem e5c : (evM o la0 (sY (ahead n) sl at_ (.i .i64 i)) [bL n f, bR r, bS s] 3).cnd = some (BitVec.slt i (BitVec.ofNat 64 n)) := by kernel_rfl
theorem e5t : endM fp3.km [0, 1, 2, 7, 9, 10] [0, 1, 2] 3 ((evM o la0 (sY (ahead n) sl at_ (.i .i64 i)) [bL n f, bR r, bS s] 3).at true) = some ⟨.nrm, .b (Nat.blt n (2 ^ 63)), sY (ahead n) sl at_ (.i .i64 i), [bL n f, bR r, bS s]⟩ := by kernel_rfl
theorem e5f : endM fp3.km [1, 2, 7, 9] [1, 2] 3 ((evM o la0 (sY (ahead n) sl at_ (.i .i64 i)) [bL n f, bR r, bS s] 3).at false) = some ⟨.exit 0, .b (Nat.blt n (2 ^ 63)), sT sl at_, [bR r, bS s]⟩ := by kernel_rfl
theorem e5n : endM fp3.km [1, 2, 7, 9] [1, 2] 3 (evM o la0 (sY (one .nils) sl at_ (.lit .i64 0)) [bR r, bS s] 3).pick = some ⟨.exit 0, .tt, sT sl at_, [bR r, bS s]⟩ := by kernel_rfl
noncomputable def actFS : FSt := match endM fp3.km [] [2] 3 (evM o la1 (sY (ahead n) sl at_ (.i .i64 i)) [bL n f, bR r, bS s] 3).pick with
  | some ⟨_, _, _, [(_, ⟨_, t⟩)]⟩ => match asFS t with
    | some s' => s'
    | none => s
  | _ => s
theorem e7 : endM fp3.km [0, 1, 2, 7, 9, 10] [0, 1, 2] 3 (evM o la1 (sY (ahead n) sl at_ (.i .i64 i)) [bL n f, bR r, bS s] 3).pick = some ⟨.nrm, .b (okAct o n f i), sY (ahead n) sl at_ (.i .i64 i), [bL n f, bR r, bS (actFS o n f sl at_ i r s)]⟩ := by kernel_rfl
theorem e6 : endM fp3.km [0, 1, 2, 7, 9, 10] [0, 1, 2] 3 (evM o la2 (sY (ahead n) sl at_ (.i .i64 i)) [bL n f, bR r, bS s] 3).pick = some ⟨.nrm, .tt, sY (ahead n) sl at_ (.i .i64 (i + K 1)), [bL n f, bR r, bS s]⟩ := by kernel_rfl
theorem e14 : endM fp3.km [1, 2, 7, 9] [1, 2] 3 (evM o m14 (sT sl at_) [bR r, bS s] 3).pick = some ⟨.nrm, .tt, sT sl at_, [bR (o.kn r), bS s]⟩ := by kernel_rfl
theorem e15 : endM fp3.km [1, 2, 7, 9] [1, 2] 3 (evM o m15 (sT sl at_) [bR r, bS s] 3).pick = some ⟨.nrm, .tt, sT sl at_, [bR (ctxE r), bS s]⟩ := by kernel_rfl
theorem e17 : endM fp3.km [1, 2, 7, 9, 13] [1, 2, 3] 4 (evM o m17 (sT sl at_) [bR r, bS s] 3).pick = some ⟨.nrm, .tt, sU sl at_, [bR r, bS s, bC s]⟩ := by kernel_rfl
theorem e18 : endM fp3.km [1, 2, 7, 9, 13] [1, 2, 3] 4 (evM o m18 (sU sl at_) [bR r, bS s, bC s'] 4).pick = some ⟨.nrm, .tt, sU sl at_, [bR r, bS s, bC s']⟩ := by kernel_rfl
theorem e20 : endM fp3.km [1, 2, 7, 9, 13] [1, 2, 3] 4 (evM o m20 (sU sl at_) [bR r, bS s, bC s'] 4).pick = some ⟨.nrm, .tt, sU (slotE sl) at_, [bR r, bS s, bC s']⟩ := by kernel_rfl
theorem e21 : endM fp3.km [1, 2, 7, 9, 13] [1, 2, 3] 4 (evM o m21 (sU sl at_) [bR r, bS s, bC s'] 4).pick = some ⟨.nrm, .b (isSlot sl), sU sl at_, [bR r, bS (stoK s (slotN sl) r), bC s']⟩ := by kernel_rfl
theorem e23 : endM fp3.km [1, 2, 7, 9, 13, 14, 15] [1, 2, 3, 4] 5 (evM o m23 (sU sl at_) [bR r, bS s, bC s'] 4).pick = some ⟨.nrm, .b (isSlot sl), sV sl at_ (ldE s (slotN sl)), [bR r, bS s, bC s', b4 (ldW s (slotN sl))]⟩ := by kernel_rfl
theorem e24c : (evM o m24 (sV sl at_ i) [bR r, bS s, bC s', b4 r'] 5).cnd = some (cond (i != K 0) true (!(eq10 r' r))) := by kernel_rfl
theorem e24 : endM fp3.km [1, 2, 7, 9, 13] [1, 2, 3] 4 ((evM o m24 (sV sl at_ i) [bR r, bS s, bC s', b4 r'] 5).at false) = some ⟨.nrm, .tt, sU sl at_, [bR r, bS s, bC s']⟩ := by kernel_rfl
theorem e26 : endM fp3.km [1, 2, 7, 9, 13, 16] [1, 2, 3] 4 (evM o m26 (sU sl at_) [bR r, bS s, bC s'] 4).pick = some ⟨.nrm, .tt, sJ sl at_ (.lit .i64 0), [bR r, bS s, bC s']⟩ := by kernel_rfl
theorem e27c : (evM o lb0 (sJ sl at_ (.i .i64 i)) [bR r, bS s, bC s'] 4).cnd = some (BitVec.slt i (K 11)) := by kernel_rfl
theorem e27t : endM fp3.km [1, 2, 7, 9, 13, 16] [1, 2, 3] 4 ((evM o lb0 (sJ sl at_ (.i .i64 i)) [bR r, bS s, bC s'] 4).at true) = some ⟨.nrm, .tt, sJ sl at_ (.i .i64 i), [bR r, bS s, bC s']⟩ := by kernel_rfl
theorem e27f : endM fp3.km [1, 2, 7, 9, 13] [1, 2, 3] 4 ((evM o lb0 (sJ sl at_ (.i .i64 i)) [bR r, bS s, bC s'] 4).at false) = some ⟨.exit 2, .tt, sU sl at_, [bR r, bS s, bC s']⟩ := by kernel_rfl
theorem e29c : (evM o lb1 (sJ sl at_ (.i .i64 i)) [bR r, bS s, bC s'] 4).cnd = some (!(eq10 (regW s i) (regW s' i))) := by kernel_rfl
theorem e29 : endM fp3.km [1, 2, 7, 9, 13, 16] [1, 2, 3] 4 ((evM o lb1 (sJ sl at_ (.i .i64 i)) [bR r, bS s, bC s'] 4).at false) = some ⟨.nrm, .b (okReg i), sJ sl at_ (.i .i64 i), [bR r, bS s, bC s']⟩ := by kernel_rfl
theorem e28 : endM fp3.km [1, 2, 7, 9, 13, 16] [1, 2, 3] 4 (evM o lb2 (sJ sl at_ (.i .i64 i)) [bR r, bS s, bC s'] 4).pick = some ⟨.nrm, .tt, sJ sl at_ (.i .i64 (i + K 1)), [bR r, bS s, bC s']⟩ := by kernel_rfl
theorem e31 : endM fp3.km [1, 2, 7, 9, 13, 17] [1, 2, 3] 4 (evM o m31 (sU sl at_) [bR r, bS s, bC s'] 4).pick = some ⟨.nrm, .tt, sW sl at_ (.lit .i64 (-128)), [bR r, bS s, bC s']⟩ := by kernel_rfl
theorem e32c : (evM o lc0 (sW sl at_ (.i .i64 i)) [bR r, bS s, bC s'] 4).cnd = some (BitVec.slt i (K 0)) := by kernel_rfl
theorem e32t : endM fp3.km [1, 2, 7, 9, 13, 17] [1, 2, 3] 4 ((evM o lc0 (sW sl at_ (.i .i64 i)) [bR r, bS s, bC s'] 4).at true) = some ⟨.nrm, .tt, sW sl at_ (.i .i64 i), [bR r, bS s, bC s']⟩ := by kernel_rfl
theorem e32f : endM fp3.km [1, 2, 7, 9, 13] [1, 2, 3] 4 ((evM o lc0 (sW sl at_ (.i .i64 i)) [bR r, bS s, bC s'] 4).at false) = some ⟨.exit 4, .tt, sU sl at_, [bR r, bS s, bC s']⟩ := by kernel_rfl
theorem e34c : (evM o lc1 (sW sl at_ (.i .i64 i)) [bR r, bS s, bC s'] 4).cnd = some (difS s s' sl i) := by kernel_rfl
theorem e34 : endM fp3.km [1, 2, 7, 9, 13, 17] [1, 2, 3] 4 ((evM o lc1 (sW sl at_ (.i .i64 i)) [bR r, bS s, bC s'] 4).at false) = some ⟨.nrm, .b (isSlot i && isSlot i), sW sl at_ (.i .i64 i), [bR r, bS s, bC s']⟩ := by kernel_rfl
theorem e33 : endM fp3.km [1, 2, 7, 9, 13, 17] [1, 2, 3] 4 (evM o lc2 (sW sl at_ (.i .i64 i)) [bR r, bS s, bC s'] 4).pick = some ⟨.nrm, .tt, sW sl at_ (.i .i64 (i + K 8)), [bR r, bS s, bC s']⟩ := by kernel_rfl
theorem e38 : endM fp3.km [1, 7, 9, 22] [1, 2] 3 (evM o m38 (sU sl at_) [bR r, bS s, bC s'] 4).pick = some ⟨.nrm, .tt, sO sl (sl + pickT 8 at_), [bR r, bS s]⟩ := by kernel_rfl
theorem e39c : (evM o m39 (sO sl x) [bR r, bS s] 3).cnd = some (cond (thereB x (K 1)) (K 0) (K 17) != K 0) := by kernel_rfl
theorem e39 : endM fp3.km [1, 7, 9, 22] [1, 2] 3 ((evM o m39 (sO sl x) [bR r, bS s] 3).at false) = some ⟨.nrm, .tt, sO sl x, [bR r, bS (layR s x (K 1))]⟩ := by kernel_rfl
theorem e41 : endM fp3.km [1, 7, 9, 22, 23] [1, 2] 3 (evM o m41 (sO sl x) [bR r, bS s] 3).pick = some ⟨.nrm, .tt, sQ sl x sl, [bR r, bS s]⟩ := by kernel_rfl
theorem e42c : (evM o ld0 (sQ sl x i) [bR r, bS s] 3).cnd = some (BitVec.slt i (sl + K 8)) := by kernel_rfl
theorem e42t : endM fp3.km [1, 7, 9, 22, 23] [1, 2] 3 ((evM o ld0 (sQ sl x i) [bR r, bS s] 3).at true) = some ⟨.nrm, .tt, sQ sl x i, [bR r, bS s]⟩ := by kernel_rfl
theorem e42f : endM fp3.km [1, 7, 9, 22] [1, 2] 3 ((evM o ld0 (sQ sl x i) [bR r, bS s] 3).at false) = some ⟨.exit 6, .tt, sO sl x, [bR r, bS s]⟩ := by kernel_rfl
theorem e44c : (evM o ld1 (sQ sl x i) [bR r, bS s] 3).cnd = some (!(readR s.g i (K 1) == cond (cond (r.k != K 1) (i != x) false) (K 15) (K 0))) := by kernel_rfl
theorem e44 : endM fp3.km [1, 7, 9, 22, 23] [1, 2] 3 ((evM o ld1 (sQ sl x i) [bR r, bS s] 3).at false) = some ⟨.nrm, .tt, sQ sl x i, [bR r, bS s]⟩ := by kernel_rfl
theorem e43 : endM fp3.km [1, 7, 9, 22, 23] [1, 2] 3 (evM o ld2 (sQ sl x i) [bR r, bS s] 3).pick = some ⟨.nrm, .tt, sQ sl x (i + K 1), [bR r, bS s]⟩ := by kernel_rfl
theorem e49 : retOf Tryd.prog fp3.km Tryd.f3.results.toList (evM o m49 (sO sl x) [bR r, bS s] 3).pick = some (.tt, .tt, one (.b true)) := by kernel_rfl
end
end Go.WE
