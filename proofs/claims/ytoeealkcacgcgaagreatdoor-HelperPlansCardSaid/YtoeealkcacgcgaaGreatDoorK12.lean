/- A part of a proof of the helpers' law; no condition of its own. -/
import Derived.Test.YtoeealkcacgcgaaGreatDoorK11
set_option linter.unusedVariables false
set_option maxRecDepth 100000
noncomputable section
namespace Go.WE
open Go Go.Proofs
open Go.RowKit (Below)
def fp39:Fp:=⟨8796097234887,62,66,fun _ _=>none⟩
def fp72:Fp:=⟨34494089415,36,66,fun _ _=>none⟩
def evQ (c:Code) (l:List (Nat×V)) (ms:List (Nat×Blk)) (n:Nat):Out:=evalC cxK (evalF cxK noΓ 400 20) fp39 400 c (stOf l (hM ms n))
def evU (c:Code) (l:List (Nat×V)) (ms:List (Nat×Blk)) (n:Nat):Out:=evalC cxK (evalF cxK noΓ 400 20) fp72 400 c (stOf l (hM ms n))
def msF (s:FSt):List (Nat×Blk):=[(0,⟨false,s.t⟩)]
def sq (x y:U) (i:A):List (Nat×V):=[(0,pt 0),(1,i64 x),(2,i64 y),(7,one i)]
def m8 (t:Bool) (z0 z1 z2 z3 z4 z5 z6 z7 z8:U):U:=cond t (cond t (cond t (cond t (cond t (cond t (cond t (cond t z8 z7) z6) z5) z4) z3) z2) z1) z0
theorem m8_eq (t:Bool) (z0 z1 z2 z3 z4 z5 z6 z7 z8:U):m8 t z0 z1 z2 z3 z4 z5 z6 z7 z8=cond t z8 z0:=by cases t<;>rfl
def m8f (t:Bool) (f:Nat->U):Nat->U:=fun j=>m8 t (f j) (f j) (f j) (f j) (f j) (f j) (f j) (f j) (f j)
def m8g (t:Bool) (k:Nat) (g:Nat->U):Nat->U:=fun j=>m8 t (g j) (putN (8*k) (K 0) g j) (putN (8*k+1) (K 0) (putN (8*k) (K 0) g) j)
 (putN (8*k+2) (K 0) (putN (8*k+1) (K 0) (putN (8*k) (K 0) g)) j) (putN (8*k+3) (K 0) (putN (8*k+2) (K 0) (putN (8*k+1) (K 0) (putN (8*k) (K 0) g))) j)
 (putN (8*k+4) (K 0) (putN (8*k+3) (K 0) (putN (8*k+2) (K 0) (putN (8*k+1) (K 0) (putN (8*k) (K 0) g)))) j)
 (putN (8*k+5) (K 0) (putN (8*k+4) (K 0) (putN (8*k+3) (K 0) (putN (8*k+2) (K 0) (putN (8*k+1) (K 0) (putN (8*k) (K 0) g))))) j)
 (putN (8*k+6) (K 0) (putN (8*k+5) (K 0) (putN (8*k+4) (K 0) (putN (8*k+3) (K 0) (putN (8*k+2) (K 0) (putN (8*k+1) (K 0) (putN (8*k) (K 0) g)))))) j)
 (putN (8*k+7) (K 0) (putN (8*k+6) (K 0) (putN (8*k+5) (K 0) (putN (8*k+4) (K 0) (putN (8*k+3) (K 0) (putN (8*k+2) (K 0) (putN (8*k+1) (K 0) (putN (8*k) (K 0) g))))))) j)
def RF.set0 (f:RF) (n:Nat):RF:=f.map2 (putN n (K 0))
def lay22E (s:FSt) (b:Nat):FSt:=⟨s.regs.map2 (m8f (s.g b==K 2)),putN b (K 1) (m8g (s.g b==K 2) (b / 8) s.g),(s.kept.map2 (m8f (s.g b==K 2))).set0 (b / 8)⟩
def there22 (x y:U):Bool:=cond (cond (cond (BitVec.sle (K 0) y) (BitVec.sle (K (-128)) x) false) (BitVec.sle x (K 0)) false) (BitVec.sle x (0#64-y)) false
section
variable (s:FSt) (x y i:U)
theorem q0_ev:endM fp39.km [0,1,2] [0] 1 (evQ q0 (sl0 x y) (ms0 s) 1).pick=some ⟨.nrm,.tt,sl0 x y,ms0 s⟩:=by kernel_rfl
theorem q1_c:(evQ q1 (sl0 x y) (ms0 s) 1).cnd=some (!(there22 x y)):=by kernel_rfl
theorem q1_x:endM fp39.km [6] [0] 1 ((evQ q1 (sl0 x y) (ms0 s) 1).at true)=some ⟨.ret,.tt,[(6,one (.lit .i64 17))],ms0 s⟩:=by kernel_rfl
theorem q1_f:endM fp39.km [0,1,2] [0] 1 ((evQ q1 (sl0 x y) (ms0 s) 1).at false)=some ⟨.nrm,.tt,sl0 x y,ms0 s⟩:=by kernel_rfl
theorem q3_ev:endM fp39.km [0,1,2,7] [0] 1 (evQ q3 (sl0 x y) (ms0 s) 1).pick=some ⟨.nrm,.tt,sq x y (.i .i64 (K 128+x)),ms0 s⟩:=by kernel_rfl
theorem qh_c:(evQ qh (sq x y (.i .i64 i)) (ms0 s) 1).cnd=some (BitVec.slt i (K 128+x+y)):=by kernel_rfl
theorem qh_t:endM fp39.km [0,1,2,7] [0] 1 ((evQ qh (sq x y (.i .i64 i)) (ms0 s) 1).at true)=some ⟨.nrm,.tt,sq x y (.i .i64 i),ms0 s⟩:=by kernel_rfl
theorem qh_f:endM fp39.km [0,1,2] [0] 1 ((evQ qh (sq x y (.i .i64 i)) (ms0 s) 1).at false)=some ⟨.exit 0,.tt,sl0 x y,ms0 s⟩:=by kernel_rfl
theorem qi_ev:endM fp39.km [0,1,2,7] [0] 1 (evQ qi (sq x y (.i .i64 i)) (ms0 s) 1).pick=some ⟨.nrm,.tt,sq x y (.i .i64 (i+K 1)),ms0 s⟩:=by kernel_rfl
def okU (i:U):Bool:=vB (K 128+i) 128&&wB (K 128+i) 128
theorem u0_ev:endM fp72.km [0,1,2] [0] 1 (evU u0 (sl0 x y) (msF s) 1).pick=some ⟨.nrm,.tt,sl0 x y,msF s⟩:=by kernel_rfl
theorem u1_c:(evU u1 (sl0 x y) (msF s) 1).cnd=some (!(there22 x y)):=by kernel_rfl
theorem u1_x:endM fp72.km [6] [0] 1 ((evU u1 (sl0 x y) (msF s) 1).at true)=some ⟨.ret,.tt,[(6,one (.lit .i64 17))],msF s⟩:=by kernel_rfl
theorem u1_f:endM fp72.km [0,1,2] [0] 1 ((evU u1 (sl0 x y) (msF s) 1).at false)=some ⟨.nrm,.tt,sl0 x y,msF s⟩:=by kernel_rfl
theorem u3_ev:endM fp72.km [0,1,2,7] [0] 1 (evU u3 (sl0 x y) (msF s) 1).pick=some ⟨.nrm,.tt,sq x y (.i .i64 x),msF s⟩:=by kernel_rfl
theorem uh_c:(evU uh (sq x y (.i .i64 i)) (msF s) 1).cnd=some (BitVec.slt i (x+y)):=by kernel_rfl
theorem uh_t:endM fp72.km [0,1,2,7] [0] 1 ((evU uh (sq x y (.i .i64 i)) (msF s) 1).at true)=some ⟨.nrm,.tt,sq x y (.i .i64 i),msF s⟩:=by kernel_rfl
theorem uh_f:endM fp72.km [0,1,2] [0] 1 ((evU uh (sq x y (.i .i64 i)) (msF s) 1).at false)=some ⟨.exit 0,.tt,sl0 x y,msF s⟩:=by kernel_rfl
theorem ub_c:(evU ub (sq x y (.i .i64 i)) (msF s) 1).cnd=some (s.g (K 128+i).toNat==K 0):=by kernel_rfl
theorem ub_t:endM fp72.km [6] [0] 1 ((evU ub (sq x y (.i .i64 i)) (msF s) 1).at true)=some ⟨.ret,.b (okU i),[(6,one (.lit .i64 15))],msF s⟩:=by kernel_rfl
theorem ub_c2:(evU ub (sq x y (.i .i64 i)) (msF s) 1).nR.cnd=some (s.g (K 128+i).toNat==K 2):=by kernel_rfl
def okU2 (i:U):Bool:=(okU i&&vB (K 128+i) 128)&&wB (K 128+i) 128
theorem ub_t2:endM fp72.km [6] [0] 1 ((evU ub (sq x y (.i .i64 i)) (msF s) 1).nR.at true)=some ⟨.ret,.b (okU2 i),[(6,one (.lit .i64 14))],msF s⟩:=by kernel_rfl
theorem ub_f2:endM fp72.km [0,1,2,7] [0] 1 ((evU ub (sq x y (.i .i64 i)) (msF s) 1).nR.at false)=some ⟨.nrm,.b (okU2 i),sq x y (.i .i64 i),msF s⟩:=by kernel_rfl
theorem ui_ev:endM fp72.km [0,1,2,7] [0] 1 (evU ui (sq x y (.i .i64 i)) (msF s) 1).pick=some ⟨.nrm,.tt,sq x y (.i .i64 (i+K 1)),msF s⟩:=by kernel_rfl
theorem u10_x:endM fp72.km [6] [0] 1 (evU u10 (sl0 x y) (msF s) 1).pick=some ⟨.ret,.tt,[(6,one (.lit .i64 0))],msF s⟩:=by kernel_rfl
theorem q14_x:endM fp39.km [6] [0] 1 (evQ q14 (sl0 x y) (ms0 s) 1).pick=some ⟨.ret,.tt,[(6,one (.lit .i64 0))],ms0 s⟩:=by kernel_rfl
end
end Go.WE
end
