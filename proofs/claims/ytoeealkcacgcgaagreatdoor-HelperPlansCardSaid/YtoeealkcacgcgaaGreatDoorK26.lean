/- A part of a proof of the helpers' law; no condition of its own. -/
import Derived.Test.YtoeealkcacgcgaaGreatDoorK25
set_option linter.unusedVariables false
set_option maxRecDepth 100000
noncomputable section
namespace Go.WE
open Go Go.Proofs Go.RowKit
def Γ14 (b:Bool) (T:Nat):Gam:=anyΓ 31 (turnV setSV) (anyΓ 36 lay3V (ΓP b T))
theorem Γ14_ok (b:Bool) (T:Nat):ΓOK Tryz.prog (Γ14 b T):=anyΓ_ok set31_ok (anyΓ_ok lay3V_ok (ΓP_ok b T))
def Γ15 (sh:Bool):Gam:=anyΓ 10 (plan10Sp sh) (anyΓ 32 (turnQ setSQ) (anyΓ 37 lay3Q (anyΓ 60 putSp noΓ)))
theorem Γ15_ok (sh:Bool):ΓOK Tryz.prog (Γ15 sh):=anyΓ_ok (plan10_ok sh) (anyΓ_ok set32_ok (anyΓ_ok lay3Q_ok (anyΓ_ok put60_ok noΓ_ok)))
def resT (no val elem:A):V :=.t (.st [.a no,.a val,.a .poison,.a elem])
def mR (t:T) (n:Nat) (D:DF) (w:Nat) (g:Nat->U):List (Nat×Blk):=mP t n D++[(3,⟨false,.arr 1 (.lit w) (.int .u64 g)⟩)]
abbrev slW (w:Nat):A :=.sl 3 [] 1 (.lit 0) (.lit w) none
def ev14 (b:Bool) (T:Nat) (j w a:Int) (s:VF) (n:Nat) (D:DF) (cpu no elem:U) (val:A):R:=evalF (cxP j w) (Γ14 b T) 400 20 14 [slDP n,pt 0,one (.lit .i64 a),i64 cpu,resT (.i .i64 no) val (.i .i64 elem)] (hM (mP s.t n D) 3)
def ev15 (sh:Bool) (j w a:Int) (s:QF) (n:Nat) (D:DF) (cpu no elem:U) (val:A):R:=evalF (cxP j w) (Γ15 sh) 400 20 15 [slDP n,pt 0,one (.lit .i64 a),i64 cpu,resT (.i .i64 no) val (.i .i64 elem)] (hM (mP s.t n D) 3)
def ev14w (b:Bool) (T:Nat) (j:Int) (w:Nat) (a:Int) (s:VF) (n:Nat) (D:DF) (cpu elem:U) (g:Nat->U):R:=evalF (cxP j w) (Γ14 b T) 400 20 14 [slDP n,pt 0,one (.lit .i64 a),i64 cpu,resT z64 (slW w) (.i .i64 elem)] (hM (mR s.t n D w g) 4)
def ev15w (sh:Bool) (j:Int) (w:Nat) (a:Int) (s:QF) (n:Nat) (D:DF) (cpu elem:U) (g:Nat->U):R:=evalF (cxP j w) (Γ15 sh) 400 20 15 [slDP n,pt 0,one (.lit .i64 a),i64 cpu,resT z64 (slW w) (.i .i64 elem)] (hM (mR s.t n D w g) 4)
def obsD (v:V) (h:H):Option Ob:=match v with
 | .t (.a c)=>match h.m.get 0 with
   | some ⟨true,t⟩=>some ([c],some (0,t))
   | _=>none
 | _=>none
def R.dq:R->PQ
 | .fail =>.fail
 | .leaf ok v h =>.leaf ok h.wr (obsD v h)
 | .pan _ _ _ =>.fail
 | .node c a b =>.node c a.dq b.dq
def zVW:VW:=⟨K 0,K 0,K 0,K 0⟩
def outV6 (s:VF) (o:VW):VF:=setVF (setVF (setVF (setVF (setVF (setVF s (K 0) o) (K 1) zVW) (K 2) zVW) (K 3) zVW) (K 4) zVW) (K 5) zVW
def outQ6 (s:QF) (o:VW):QF:=setQF (setQF (setQF (setQF (setQF (setQF s (K 0) o) (K 1) zVW) (K 2) zVW) (K 3) zVW) (K 4) zVW) (K 5) zVW
def negU (x:U):U:=BitVec.ofNat 64 0-x
def numW (x:U):VW:=⟨K 1,x,K 0,K 0⟩
def cellW (m e:U):VW:=⟨K 5,K 0,m,e⟩
def mapW (e:U):VW:=⟨K 4,K 0,K 0,e⟩
def bytW (g:Nat->U):Nat->List U
 | 0=>[]
 | w+1=>bytW g w++list8 (g w)
def bytD (g:Nat->U) (w:Nat):Nat->U:=fun j=>(bytW g w).getD j (K 0)
def bytZ (w:Nat):Nat->U:=fun j=>(List.replicate (8*w) (K 0)).getD j (K 0)
def errD (t:T) (ok c:A):PQ :=.leaf ok [] (some ([c],some (0,t)))
def finD (o:Bool) (t:T):PQ :=.leaf (.b o) [0] (some ([z64],some (0,t)))
def doneV (a j:Nat) (s:VF) (no elem:U) (o:Bool):PQ:=match a with
 | 1 =>.node (no != K 0) (finD o (outV6 s (numW (K 0))).t) (finD o (outV6 s (match j with|9=>mapW elem|10=>mapW elem|_=>cellW (s.regs.i 1) elem)).t)
 | _=>finD o (outV6 s (numW (negU no))).t
def doneQ (a j:Nat) (m:U) (s:QF) (no elem:U) (o:Bool):PQ:=match a with
 | 1 =>.node (no != K 0) (finD o (outQ6 s (numW (K 0))).t) (finD o (outQ6 s (match j with|9=>mapW elem|10=>mapW elem|_=>cellW m elem)).t)
 | _=>finD o (outQ6 s (numW (negU no))).t
def argsG (e:A->A->PQ) (fin:Bool->PQ) (b:Bool) (regs:VV) (how:Nat->U) (w:Nat):List Nat->Nat->Nat->Bool->PQ
 | [],r,B,o=>fin o
 | 0::L,r,B,o =>.node (!(regs.k r != K 0)) (e (.b o) (l64 15)) (match B with
   | 0 =>.node (!(bytesE how (regs.at r) 8==K 0)) (e (.b (o&&(bytesE how (regs.at r) 8 != K 0))) (.i .i64 (bytesE how (regs.at r) 8))) .fail
   | B+1=>argsG e fin b regs how w L (r+1) B (o&&(bytesE how (regs.at r) 8==K 0)))
 | 1::L,r,B,o =>.node (!(regs.k r != K 0)) (e (.b o) (l64 15)) (match B with
   | 0 =>.node (!(bytesE how (regs.at r) (8*w)==K 0)) (e (.b (o&&(bytesE how (regs.at r) (8*w) != K 0))) (.i .i64 (bytesE how (regs.at r) (8*w)))) .fail
   | B+1=>argsG e fin b regs how w L (r+1) B (o&&(bytesE how (regs.at r) (8*w)==K 0)))
 | 2::L,r,B,o =>.node (!(regs.k r != K 0)) (e (.b o) (l64 15)) (.node (!(regs.k r==K 1)) (e (.b o) (l64 14)) (argsG e fin b regs how w L (r+1) B o))
 | _::L,r,B,o =>.node (!(regs.k r != K 0)) (e (.b o) (l64 15)) (.node (!(regs.k r==K 3)) (e (.b o) (l64 14)) (match b with
   | true=>argsG e fin b regs how w L (r+1) B (o&&roomB (regs.n r) (8*w))
   | false=>e (.b (o && !(roomB (regs.n r) (8*w)))) (l64 17)))
def headG (e:A->A->PQ) (regs:VV) (n:Nat) (rest:PQ):PQ:=
 .node (!(regs.k 1 != K 0)) (e .tt (l64 15)) (.node (!(regs.k 1==K 4)) (e .tt (l64 14)) (.node (BitVec.sle (K 1) (regs.i 1)) (.node (!(BitVec.sle (regs.i 1) (kk n))) (e (.b (n63 n)) (l64 18)) rest) (e .tt (l64 18))))
def plc:List Nat->Option Nat
 | [3]=>some 2
 | [0,3]=>some 3
 | _=>none
def laidV (L:List Nat) (w:Nat) (c:Nat->U) (s:VF):VF:=match plc L with
 | some r=>layVR s (s.regs.at r) c (8*w)
 | none=>s
def laidQ (L:List Nat) (w:Nat) (c:Nat->U) (s:QF):QF:=match plc L with
 | some r=>layQR s (s.regs.at r) c (8*w)
 | none=>s
def putN8 (g:Nat->U) (w:Nat):Nat->Nat->U
 | 0=>bytZ w
 | i+1=>putF (putN8 g w i) (8*i) (g i)
def ok15 (sh:Bool) (D:DF) (n:Nat) (po:PO) (j w:Nat):Bool:=((okPl n D (Nat.beq n n)&&(bif sh then po.has else !po.has))&&((!(BitVec.msb (po.m-K 1)))&&Nat.blt (po.m-K 1).toNat n))&&(Nat.blt (0+(po.m-K 1).toNat) n&&((D.k (0+(po.m-K 1).toNat)==K j)&&(D.w (0+(po.m-K 1).toNat)==K w)))
def poQ (n:Nat) (D:DF) (s:QF) (no cpu:U):PO:=planF n D s.regs s.how s.b no cpu
def restDV (S:Sel) (j w a:Nat) (L:List Nat) (s:VF) (n:Nat) (D:DF) (no elem:U):PQ:=argsG (errD s.t) (doneV a j (laidV L w (bytZ w) s) no elem) S.b s.regs s.how w L 2 S.B (okI D s.regs n j w)
def restDW (S:Sel) (j w a:Nat) (L:List Nat) (s:VF) (n:Nat) (D:DF) (elem:U) (g:Nat->U):PQ:=argsG (errD s.t) (doneV a j (laidV L w (bytD g w) s) (K 0) elem) S.b s.regs s.how w L 2 S.B (okI D s.regs n j w)
def headD (sh:Bool) (n:Nat) (D:DF) (q:QF) (no cpu:U) (rest:PQ):PQ :=.node ((poQ n D q no cpu).code != K 0) (errD q.t (.b (okPl n D (Nat.beq n n)&&(bif sh then (poQ n D q no cpu).has else !(poQ n D q no cpu).has))) (.i .i64 (poQ n D q no cpu).code)) rest
def restDQ (sh:Bool) (j w a:Nat) (L:List Nat) (q:QF) (n:Nat) (D:DF) (cpu no elem:U):PQ:=doneQ a j (poQ n D q (K a) cpu).m (laidQ L w (bytZ w) q) no elem (ok15 sh D n (poQ n D q (K a) cpu) j w)
def restDX (sh:Bool) (j w a:Nat) (L:List Nat) (q:QF) (n:Nat) (D:DF) (cpu elem:U) (g:Nat->U):PQ:=doneQ a j (poQ n D q (K a) cpu).m (laidQ L w (putN8 g w w) q) (K 0) elem (ok15 sh D n (poQ n D q (K a) cpu) j w)
structure DnV (val:A) (b:Bool) (T j w a:Nat) (rest:VF->Nat->DF->U->U->PQ):Prop where
 pick:∀s n D cpu no elem x,(headG (errD s.t) s.regs n (rest s n D no elem)).pick=some x->(ev14 b T j w a s n D cpu no elem val).dq.pick=some x
structure DwV (b:Bool) (T j w a:Nat) (rest:VF->Nat->DF->U->(Nat->U)->PQ):Prop where
 pick:∀s n D cpu elem g x,(headG (errD s.t) s.regs n (rest s n D elem g)).pick=some x->(ev14w b T j w a s n D cpu elem g).dq.pick=some x
structure DnQ (val:A) (sh:Bool) (j w a:Nat) (rest:QF->Nat->DF->U->U->U->PQ):Prop where
 pick:∀q n D cpu no elem x,(headD sh n D q (K a) cpu (rest q n D cpu no elem)).pick=some x->(ev15 sh j w a q n D cpu no elem val).dq.pick=some x
structure DwQ (sh:Bool) (j w a:Nat) (rest:QF->Nat->DF->U->U->(Nat->U)->PQ):Prop where
 pick:∀q n D cpu elem g x,(headD sh n D q (K a) cpu (rest q n D cpu elem g)).pick=some x->(ev15w sh j w a q n D cpu elem g).dq.pick=some x
theorem dnV_of {val:A} {b:Bool} {T j w a:Nat} {rest:VF->Nat->DF->U->U->PQ} (h:∀s n D cpu no elem,(ev14 b T j w a s n D cpu no elem val).dq=headG (errD s.t) s.regs n (rest s n D no elem)):DnV val b T j w a rest:=⟨fun s n D cpu no elem x e=>by rw [h];exact e⟩
theorem dnV_cut {val:A} {b:Bool} {T j w a:Nat} {rest:VF->Nat->DF->U->U->PQ} (p:List Bool) (h:∀s n D cpu no elem,(ev14 b T j w a s n D cpu no elem val).dq.cut p=headG (errD s.t) s.regs n (rest s n D no elem)):DnV val b T j w a rest:=⟨fun s n D cpu no elem x e=>by rw [← h s n D cpu] at e;exact cut_pick _ _ e⟩
theorem dwV_of {b:Bool} {T j w a:Nat} {rest:VF->Nat->DF->U->(Nat->U)->PQ} (h:∀s n D cpu elem g,(ev14w b T j w a s n D cpu elem g).dq=headG (errD s.t) s.regs n (rest s n D elem g)):DwV b T j w a rest:=⟨fun s n D cpu elem g x e=>by rw [h];exact e⟩
theorem dwV_cut {b:Bool} {T j w a:Nat} {rest:VF->Nat->DF->U->(Nat->U)->PQ} (p:List Bool) (h:∀s n D cpu elem g,(ev14w b T j w a s n D cpu elem g).dq.cut p=headG (errD s.t) s.regs n (rest s n D elem g)):DwV b T j w a rest:=⟨fun s n D cpu elem g x e=>by rw [← h s n D cpu] at e;exact cut_pick _ _ e⟩
theorem dnQ_of {val:A} {sh:Bool} {j w a:Nat} {rest:QF->Nat->DF->U->U->U->PQ} (h:∀q n D cpu no elem,(ev15 sh j w a q n D cpu no elem val).dq=headD sh n D q (K a) cpu (rest q n D cpu no elem)):DnQ val sh j w a rest:=⟨fun q n D cpu no elem x e=>by rw [h];exact e⟩
theorem dwQ_of {sh:Bool} {j w a:Nat} {rest:QF->Nat->DF->U->U->(Nat->U)->PQ} (h:∀q n D cpu elem g,(ev15w sh j w a q n D cpu elem g).dq=headD sh n D q (K a) cpu (rest q n D cpu elem g)):DwQ sh j w a rest:=⟨fun q n D cpu elem g x e=>by rw [h];exact e⟩
def noneDV (j:Nat) (s:VF) (n:Nat) (D:DF) (no elem:U):PQ:=errD s.t (.b (okK D s.regs n j)) (l64 18)
def nilA (L:List Nat):A:=match plc L with
 | some _ =>.nils
 | none =>.poison
def hasV:List Nat->Bool
 | [1]=>true
 | [1,2]=>true
 | [0,1,2]=>true
 | _=>false
end Go.WE
end
