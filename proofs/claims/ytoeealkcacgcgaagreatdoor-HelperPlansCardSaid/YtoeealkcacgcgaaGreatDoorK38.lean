/- A part of a proof of the helpers' law; no condition of its own. -/
import Derived.Test.YtoeealkcacgcgaaGreatDoorK36
import Derived.Test.YtoeealkcacgcgaaGreatDoorK37
set_option linter.unusedVariables false
set_option maxRecDepth 100000
noncomputable section
namespace Go.WE
open Go Go.Proofs Go.RowKit
def Γ16 (bad:Option Nat):Gam:=anyΓ 63 knSp (anyΓ 65 (chk65 bad) (stΓ 33 setS (layΓ noΓ)))
theorem Γ16_ok (bad:Option Nat):ΓOK Tryz.prog (Γ16 bad):=anyΓ_ok kn63_ok (anyΓ_ok (chk65_ok bad) (set33_ok (layΓ_ok noΓ_ok)))
def Γ17:Gam:=anyΓ 66 knSp (anyΓ 68 chk68 (stΓ 34 setS (layΓ22 noΓ)))
theorem Γ17_ok:ΓOK Tryz.prog Γ17:=anyΓ_ok kn66_ok (anyΓ_ok chk68_ok (set34_ok (layΓ22_ok noΓ_ok)))
def ev16 (bad:Option Nat) (j w a:Int) (s:FSt) (n:Nat) (D:DF) (id:U):R:=evalF (cxP j w) (Γ16 bad) 400 20 16 [slDP n,pt 0,one (.lit .i64 a),i64 id] (hM (mP s.t n D) 3)
def ev17 (j w a:Int) (s:FSt) (n:Nat) (D:DF) (id:U):R:=evalF (cxP j w) Γ17 400 20 17 [slDP n,pt 0,one (.lit .i64 a),i64 id] (hM (mP s.t n D) 3)
def vvf (f:RF):VV:=⟨f.k,f.o,f.o,f.m⟩
def zeroRW:RW:=⟨K 0,K 0,K 0,K 0,K 0,K 0,K 0,K 0,K 0,K 0⟩
def out6F (s:FSt) (o:RW):FSt:=setFS (setFS (setFS (setFS (setFS (setFS s (K 0) o) (K 1) zeroRW) (K 2) zeroRW) (K 3) zeroRW) (K 4) zeroRW) (K 5) zeroRW
def cellK (m id:U):RW:=⟨K 6,K 0,m,id,K 0,K 0,K 0,K 0,K 0,K 0⟩
def mapK (i id:U):RW:=⟨K 7,K 0,i,id,K 0,K 0,K 0,K 0,K 0,K 0⟩
def argE (s:FSt) (w x r:Nat):U:=argN s (s.regs.at r) (szA x w) x
def laidF (L:List Nat) (w:Nat) (s:FSt):FSt:=match plc L with
 | some r=>layR s (s.regs.o r) (K (8*w:Nat))
 | none=>s
def laidX (L:List Nat) (w:Nat) (s:FSt):FSt:=match plc L with
 | some r=>lay22R s (s.regs.o r) (K (8*w:Nat))
 | none=>s
def outK (a j:Nat) (D:DF) (s:FSt) (id:U):RW:=match a with
 | 1=>(match j with|9=>mapK (D.i (0+(s.regs.m 1-K 1).toNat)) id|10=>mapK (D.i (0+(s.regs.m 1-K 1).toNat)) id|_=>cellK (s.regs.m 1) id)
 | _=>kOut
def okChk (s:FSt) (w:Nat):List Nat->Nat->Bool->Bool
 | [],r,o=>o
 | x::L,r,o=>okChk s w L (r+1) (o&&(argE s w x r==K 0))
def badChk (s:FSt) (w y:Nat):List Nat->Nat->Bool->PQ
 | [],r,o =>.fail
 | x::L,r,o=>match Nat.beq y x with
   | true=>errD s.t (.b (o&&(argE s w x r != K 0))) (.i .i64 (argE s w x r))
   | false=>badChk s w y L (r+1) (o&&(argE s w x r==K 0))
def headX (e:A->A->PQ) (regs:VV) (n:Nat) (rest:PQ):PQ:=
 .node (regs.k 1==K 0) (e .tt (l64 15)) (.node (regs.k 1 != K 4) (e .tt (l64 14)) (.node (BitVec.slt (regs.i 1) (K 1)) (e .tt (l64 18)) (.node (BitVec.slt (kk n) (regs.i 1)) (e (.b (n63 n)) (l64 18)) rest)))
def chkX (s:FSt) (w:Nat) (fin:PQ) (o:Bool):List Nat->Nat->PQ
 | [],r=>fin
 | x::L,r =>.node (argE s w x r != K 0) (errD s.t (.b o) (.i .i64 (argE s w x r))) (chkX s w fin o L (r+1))
structure CkV (bad:Option Nat) (j w a:Nat) (rest:FSt->Nat->DF->U->PQ):Prop where
 eq:∀s n D id,(ev16 bad j w a s n D id).dq=headG (errD s.t) (vvf s.regs) n (rest s n D id)
structure CkQ (j w a:Nat) (rest:FSt->Nat->DF->U->PQ):Prop where
 eq:∀s n D id,(ev17 j w a s n D id).dq=headX (errD s.t) (vvf s.regs) n (rest s n D id)
def goodV (j w a:Nat) (L:List Nat) (s:FSt) (n:Nat) (D:DF) (id:U):PQ:=finD (okChk s w L 2 (okI D (vvf s.regs) n j w)) (out6F (laidF L w s) (outK a j D s id)).t
def badV (y j w:Nat) (L:List Nat) (s:FSt) (n:Nat) (D:DF) (id:U):PQ:=badChk s w y L 2 (okI D (vvf s.regs) n j w)
def noneC (j:Nat) (s:FSt) (n:Nat) (D:DF) (id:U):PQ:=errD s.t (.b (okK D (vvf s.regs) n j)) (l64 18)
def goodQ (j w a:Nat) (L:List Nat) (s:FSt) (n:Nat) (D:DF) (id:U):PQ:=chkX s w (finD (okI D (vvf s.regs) n j w) (out6F (laidX L w s) (outK a j D s id)).t) (okI D (vvf s.regs) n j w) L 2
end Go.WE
end
