/- A part of a proof of the helpers' law; no condition of its own. -/
import Derived.WideShapes
import Derived.Test.YtoeealkcacgcgaaGreatDoorK18
import Derived.Test.YtoeealkcacgcgaaGreatDoorK32
import Derived.Test.YtoeealkcacgcgaaGreatDoorK33
import Derived.Test.YtoeealkcacgcgaaGreatDoorK43
set_option linter.unusedVariables false
set_option maxRecDepth 100000
noncomputable section
namespace Go.WE
open Go Go.Proofs Go.RowKit
theorem k_in {k:U} (h:kDecl k=false):1≤k.toNat/\k.toNat≤10:=by
 unfold kDecl at h;cases h1:BitVec.slt k (K 1)
 · rw [h1,cond_false] at h;rw [BitVec.slt,decide_eq_false_iff_not,KtoInt (by omega)] at h1
   rw [BitVec.sle,decide_eq_false_iff_not,KtoInt (by omega)] at h
   have h2:=BitVec.toInt_eq_toNat_cond k;have h3:=k.isLt;split at h2<;>omega
 · rw [h1,cond_true] at h;cases h
theorem okKd_true (k:U):okKd k=true:=by
 unfold okKd;cases h:kDecl k
 · obtain ⟨h1,h2⟩:=k_in h;have h3:k.msb=false:=by
    rw [BitVec.msb_eq_decide];simp only [decide_eq_false_iff_not];omega
   have h4:Nat.blt k.toNat 11=true:=nB (by omega)
   rw [h3,h4];rfl
 · rfl
theorem okA_true (k e:U):okA k e=true:=by
 unfold okA;rw [okKd_true];cases cond (kDecl k) false true<;>cases inE e<;>rfl
theorem okBb_true (k e b:U):okBb k e b=true:=by
 unfold okBb;rw [okA_true];cases kB k<;>cases inB32 b<;>rfl
theorem okDc_true {n:Nat} (hn:n≤10) (k e b:U):okDc n k e b=true:=by
 unfold okDc;have:Nat.blt n (2 ^ 63)=true:=nB (by omega)
 rw [okBb_true,this];cases kN k<;>rfl
theorem okX_true {n:Nat} (hn:n≤10) (D:DF) (k e b i:U) (h:inM n i=true):okX n D k e b i=true:=by
 obtain ⟨m1,m2,m3,m4⟩:=inM_nat hn h;have a1:Nat.blt (i-K 1).toNat n=true:=by rw [m4];exact nB (by omega)
 have a2:Nat.blt (ixD i) n=true:=by unfold ixD;rw [Nat.zero_add];exact a1
 unfold okX;rw [okDc_true hn,m3,a1,a2,okKd_true];rfl
theorem ok1_true {n:Nat} (hn:n≤10) (D:DF) (k e w b i:U):ok1 n D k e w b i=true:=by
 unfold ok1;rw [okA_true,okBb_true,okDc_true hn];cases chA k e w
 · cases chB k b
   · cases hC:chC n k i
     · simp only [cond_false];cases hN:kN k
       · unfold chD;rw [hN];rfl
       · have hm:inM n i=true:=by
          unfold chC at hC;rw [hN,cond_true] at hC;cases h:inM n i
          · rw [h] at hC;cases hC
          · rfl
         rw [okX_true hn D k e b i hm];cases chD D k i<;>rfl
     · rfl
   · rfl
 · rfl
theorem chk1_good {n:Nat} {D:DF} {k e w b i:U} (h:chk1 n D k e w b i=K 0):1≤k.toNat/\k.toNat≤10/\wOK k.toNat w.toNat=true:=by
 unfold chk1 at h;cases hA:chA k e w
 · unfold chA at hA;cases hk:kDecl k
   · obtain ⟨h1,h2⟩:=k_in hk;rw [hk] at hA;simp only [cond_false,Bool.not_true] at hA;cases hE:inE e
     · rw [hE] at hA;cases hA
     · rw [hE] at hA;simp only [Bool.not_true,cond_false] at hA;have hW:inW k w=true:=by simpa using hA
       refine ⟨h1,h2,?_⟩;unfold inW at hW;cases w1:BitVec.sle (K 1) w
       · rw [w1] at hW;cases hW
       · rw [w1,cond_true] at hW;rw [BitVec.sle,decide_eq_true_eq,KtoInt (by omega)] at w1
         have hw2:=BitVec.toInt_eq_toNat_cond w;have hw3:=w.isLt;have fin:∀m:Nat,m≤4->BitVec.sle w (K m)=true->1≤w.toNat/\w.toNat≤m:=fun m hm hs=>by
          rw [BitVec.sle,decide_eq_true_eq,KtoInt (by omega)] at hs
          split at hw2<;>omega
         have one:BitVec.sle w (K 1)=true->Nat.beq w.toNat 1=true:=fun hs=>by
          obtain ⟨a,b⟩:=fin 1 (by decide) hs
          have:w.toNat=1:=by omega
          rw [this];rfl
         have four:BitVec.sle w (K 4)=true->(Nat.ble 1 w.toNat&&Nat.ble w.toNat 4)=true:=fun hs=>by
          obtain ⟨a,b⟩:=fin 4 (by decide) hs
          rw [bA];exact ⟨nB a,nB b⟩
         unfold kW at hW;rw [hk,cond_false] at hW;generalize k.toNat=q at hW h1 h2 ⊢
         match q,h1,h2 with
         | 1,_,_=>exact one hW
         | 2,_,_=>exact one hW
         | 3,_,_=>exact four hW
         | 4,_,_=>exact one hW
         | 5,_,_=>exact one hW
         | 6,_,_=>exact four hW
         | 7,_,_=>exact four hW
         | 8,_,_=>exact one hW
         | 9,_,_=>exact one hW
         | 10,_,_=>exact one hW
         | q+11,_,h=>omega
   · rw [hk] at hA;cases hA
 · rw [hA,cond_true] at h;exact absurd h (by decide)
structure DW where
 k:U
 e:U
 w:U
 b:U
 i:U
def DW.t (d:DW):T :=.st [.a (.i .i64 d.k),.a (.i .i64 d.e),.a (.i .i64 d.w),.a (.i .i64 d.b),.a (.i .i64 d.i)]
def DF.at (D:DF) (j:Nat):DW:=⟨D.k j,D.e j,D.w j,D.b j,D.i j⟩
def dwOf:T->Option DW
 | .st [.a k,.a e,.a w,.a b,.a i]=>match bvI .i64 k,bvI .i64 e,bvI .i64 w,bvI .i64 b,bvI .i64 i with
   | some k,some e,some w,some b,some i=>some ⟨k,e,w,b,i⟩
   | _,_,_,_,_=>none
 | _=>none
theorem dwOf_rel {t:T} {x:DW} (h:dwOf t=some x) {ν ν':Nu} {u:Value} (hr:t.relV ν u):x.t.relV ν' u:=by
 unfold dwOf at h;split at h
 · split at h
   · rename_i h1 h2 h3 h4 h5;cases h;obtain ⟨vs,rfl,hr⟩:=hr;refine ⟨vs,rfl,?_⟩;unfold DW.t;simp only [T.rel,relTs] at hr ⊢;obtain ⟨u1,w1,e1,r1,u2,w2,e2,r2,u3,w3,e3,r3,u4,w4,e4,r4,u5,w5,e5,r5,e6⟩:=hr;have c1:=bv_less1 (ν':=ν') h1 (ν:=ν) (vs:=u1) (by simpa only [T.rel] using r1)
     have c2:=bv_less1 (ν':=ν') h2 (ν:=ν) (vs:=u2) (by simpa only [T.rel] using r2)
     have c3:=bv_less1 (ν':=ν') h3 (ν:=ν) (vs:=u3) (by simpa only [T.rel] using r3)
     have c4:=bv_less1 (ν':=ν') h4 (ν:=ν) (vs:=u4) (by simpa only [T.rel] using r4)
     have c5:=bv_less1 (ν':=ν') h5 (ν:=ν) (vs:=u5) (by simpa only [T.rel] using r5)
     simp only [T.rel] at c1 c2 c3 c4 c5;exact ⟨u1,w1,e1,c1,u2,w2,e2,c2,u3,w3,e3,c3,u4,w4,e4,c4,u5,w5,e5,c5,e6⟩
   · cases h
 · cases h
def chkD (n:Nat) (D:DF) (d:DW):U:=chk1 n D d.k d.e d.w d.b d.i
def okCk (n:Nat) (o:Bool):Bool:=(Nat.blt 0 n&&Nat.ble n 10)&&o
def chkSp:List V->H->Option R
 | [.t (.a la),.t td],h=>match dfOf h la,dwOf td with
   | some (id,n,D,o),some d=>some (.leaf (.b (okCk n o)) (i64 (chkD n D d)) (h.sees [id]))
   | _,_=>none
 | _,_=>none
theorem chkSp_inv {args:List V} {h:H} {r:R} (e:chkSp args h=some r):∃la td id n D o d,args=[.t (.a la),.t td]/\dfOf h la=some (id,n,D,o)/\dwOf td=some d/\r = .leaf (.b (okCk n o)) (i64 (chkD n D d)) (h.sees [id]):=by
 unfold chkSp at e;split at e
 · split at e
   · rename_i h1 h2;cases e;exact ⟨_,_,_,_,_,_,_,rfl,h1,h2,rfl⟩
   · cases e
 · cases e
theorem check74_ok:AnyOK Tryz.prog 74 chkSp where
 ent:=enters_of entK 74 _ Tryz.func74 (by simp [Tryz.f74])
 ok:=by
  intro args h r ok v h' he hp hok;obtain ⟨la,td,id,n,D,o,d,rfl,h1,h2,rfl⟩:=chkSp_inv he;simp only [R.pick,oI,pI] at hp;obtain ⟨rfl,rfl,rfl⟩:=hp;have hok:okCk n o=true:=hok;unfold okCk at hok;simp only [bA] at hok;obtain ⟨⟨o1,o2⟩,o3⟩:=hok;have o1:0<n:=nL o1;have o2:=nL o2;refine fn_calm [id] fun S ν w us hm hS hus => ?_
  match us,hus with
  | [u0,u1],⟨r0,r1,_⟩=>
    obtain ⟨B,off,c,hH,rfl,hc,_⟩:=df_here hm h1 o3 (hS id (.head _)) o1 r0;obtain ⟨h',hp⟩:=res_some (chk_ev n D d.k d.e d.w d.b d.i);obtain ⟨_,hfn⟩:=evalF_fn (XK noΓ_ok) rfl hp (ok1_true o2 D _ _ _ _ _);refine (call_at hfn hH (vs:=[.slice (some ⟨B,off,none⟩) n c,u1]) ⟨slD_rel hc,dwOf_rel h2 r1,trivial⟩ rfl ν).mono ?_;rintro e w' ⟨u,rfl,hu,hb⟩;exact ⟨u,rfl,hu,hb⟩
 pan:=by intro args h r ok v h' he hp hok;obtain ⟨la,td,id,n,D,o,d,rfl,h1,h2,rfl⟩:=chkSp_inv he;simp [R.pickP] at hp
 ext:=by intro args h r he hlo;obtain ⟨la,td,id,n,D,o,d,rfl,h1,h2,rfl⟩:=chkSp_inv he;exact sees_ext [id] h
def ΓC:Gam:=anyΓ 74 chkSp noΓ
theorem ΓC_ok:ΓOK Tryz.prog ΓC:=anyΓ_ok check74_ok noΓ_ok
def c22:Code:=bodyOf Tryz.prog 22
def k0:Code:=c22.sA
def k1:Code:=c22.sB.sA
def k3:Code:=c22.sB.sB.sA.sA
def kL:Code:=c22.sB.sB.sA.sB.inn.inn
def k10:Code:=c22.sB.sB.sB
theorem c22_eq:c22 = .seq k0 (.seq k1 (.seq (.seq k3 (.block 0 (.loop kL))) k10)):=by kernel_rfl
def kh:Code:=kL.sA
def kf:Code:=kL.sB.sA
def kb:Code:=kL.sB.sB.sA.inn
def ki:Code:=kL.sB.sB.sB
theorem kL_eq:kL = .seq kh (.seq kf (.seq (.block 1 kb) ki)):=by kernel_rfl
theorem body22:Tryz.f22.body=some c22:=by kernel_rfl
def fp22:Fp:=⟨532277,22,66,fun _ _=>none⟩
def evK (c:Code) (l:List (Nat×V)) (ms:List (Nat×Blk)) (n:Nat):Out:=evalC cxK (evalF cxK ΓC 400 20) fp22 400 c (stOf l (hM ms n))
def mC (n:Nat) (D:DF):List (Nat×Blk):=[(0,⟨false,D.arr n⟩)]
def vK (n:Nat):List (Nat×V):=[(0,slD n)]
def vK3 (n:Nat) (i:A):List (Nat×V):=[(0,slD n),(9,slD n),(10,i64 (kk n)),(11,one i)]
section
variable (n:Nat) (D:DF) (i:U)
theorem k0_ev:endM fp22.km [0] [0] 1 (evK k0 (vK n) (mC n D) 1).pick=some ⟨.nrm,.tt,vK n,mC n D⟩:=by kernel_rfl
theorem k1_c:(evK k1 (vK n) (mC n D) 1).cnd=some (BitVec.slt (K 10) (kk n)):=by kernel_rfl
theorem k1_t:endM fp22.km [2] [0] 1 ((evK k1 (vK n) (mC n D) 1).at true)=some ⟨.ret,.b (Nat.blt n (2 ^ 63)),[(2,one (.lit .i64 19))],mC n D⟩:=by kernel_rfl
theorem k1_f:endM fp22.km [0] [0] 1 ((evK k1 (vK n) (mC n D) 1).at false)=some ⟨.nrm,.b (Nat.blt n (2 ^ 63)),vK n,mC n D⟩:=by kernel_rfl
theorem k3_ev:endM fp22.km [0,9,10,11] [0] 1 (evK k3 (vK n) (mC n D) 1).pick=some ⟨.nrm,.b (Nat.blt n (2 ^ 63)),vK3 n (.lit .i64 0),mC n D⟩:=by kernel_rfl
theorem kh_ev:endM fp22.km [0,9,10,11,12] [0] 1 (evK kh (vK3 n (.i .i64 i)) (mC n D) 1).pick=some ⟨.nrm,.tt,vK3 n (.i .i64 i)++[(12,one (.b (BitVec.slt i (kk n))))],mC n D⟩:=by kernel_rfl
theorem kf_c (c:Bool):(evK kf (vK3 n (.i .i64 i)++[(12,one (.b c))]) (mC n D) 1).cnd=some c:=by kernel_rfl
theorem kf_t (c:Bool):endM fp22.km [0,9,10,11] [0] 1 ((evK kf (vK3 n (.i .i64 i)++[(12,one (.b c))]) (mC n D) 1).at true)=some ⟨.nrm,.tt,vK3 n (.i .i64 i),mC n D⟩:=by kernel_rfl
theorem kf_f (c:Bool):endM fp22.km [0] [0] 1 ((evK kf (vK3 n (.i .i64 i)++[(12,one (.b c))]) (mC n D) 1).at false)=some ⟨.exit 0,.tt,vK n,mC n D⟩:=by kernel_rfl
def okKb (n:Nat) (i:U):Bool:=(vB i n&&Nat.blt (0+i.toNat) n)&&okCk n (Nat.beq n n)
theorem kb_c:(evK kb (vK3 n (.i .i64 i)) (mC n D) 1).cnd=some (chkD n D (D.at (0+i.toNat)) != K 0):=by kernel_rfl
theorem kb_t:endM fp22.km [2] [0] 1 ((evK kb (vK3 n (.i .i64 i)) (mC n D) 1).at true)=some ⟨.ret,.b (okKb n i),[(2,i64 (chkD n D (D.at (0+i.toNat))))],mC n D⟩:=by kernel_rfl
theorem kb_f:endM fp22.km [0,9,10,11] [0] 1 ((evK kb (vK3 n (.i .i64 i)) (mC n D) 1).at false)=some ⟨.nrm,.b (okKb n i),vK3 n (.i .i64 i),mC n D⟩:=by kernel_rfl
theorem ki_ev:endM fp22.km [0,9,10,11] [0] 1 (evK ki (vK3 n (.i .i64 i)) (mC n D) 1).pick=some ⟨.nrm,.tt,vK3 n (.i .i64 (i+K 1)),mC n D⟩:=by kernel_rfl
theorem k10_ev:endM fp22.km [2] [0] 1 (evK k10 (vK n) (mC n D) 1).pick=some ⟨.ret,.tt,[(2,one (.lit .i64 0))],mC n D⟩:=by kernel_rfl
end
def chkN (n:Nat) (D:DF):Nat->U
 | 0=>K 0
 | m+1=>cond (chkN n D m==K 0) (chkD n D (D.at m)) (chkN n D m)
def checkU (n:Nat) (D:DF):U:=cond (BitVec.slt (K 10) (kk n)) (K 19) (chkN n D n)
theorem chkN_zero {n:Nat} {D:DF}:∀{m:Nat},(∀j,j<m->chkD n D (D.at j)=K 0)->chkN n D m=K 0
 | 0,_=>rfl
 | m+1,h=>by
   show cond (chkN n D m==K 0) _ _=K 0;rw [chkN_zero (m:=m) fun j hj=>h j (by omega)]
   exact h m (by omega)
theorem chkN_first {n:Nat} {D:DF} {k:Nat} (hz:∀j,j<k->chkD n D (D.at j)=K 0) (hne:chkD n D (D.at k)≠K 0):∀m,k<m->chkN n D m=chkD n D (D.at k)
 | 0,h=>absurd h (by omega)
 | m+1,h=>by
   show cond (chkN n D m==K 0) _ _=_;by_cases e:k=m
   · subst e;rw [chkN_zero hz];rfl
   · rw [chkN_first hz hne m (by omega)]
     have:(chkD n D (D.at k)==K 0)=false:=by simpa using hne
     rw [this];rfl
theorem chkN_all {n:Nat} {D:DF}:∀{m:Nat},chkN n D m=K 0->∀j,j<m->chkD n D (D.at j)=K 0
 | 0,_,j,hj=>absurd hj (Nat.not_lt_zero _)
 | m+1,h,j,hj=>by
   have h:cond (chkN n D m==K 0) (chkD n D (D.at m)) (chkN n D m)=K 0:=h;cases e:chkN n D m==K 0
   · rw [e,cond_false] at h;rw [h] at e;exact absurd e (by decide)
   · rw [e,cond_true] at h;by_cases ej:j=m
     · subst ej;exact h
     · exact chkN_all (eq_of_beq e) j (by omega)
theorem check_good {n:Nat} {D:DF} (h63:n<2 ^ 63) (h:checkU n D=K 0):n≤10/\OKD n D:=by
 unfold checkU at h;cases h1:BitVec.slt (K 10) (kk n)
 · rw [h1,cond_false] at h;rw [BitVec.slt,decide_eq_false_iff_not,KtoInt (by omega)] at h1
   have hk:(kk n).toInt=n:=by
    rw [BitVec.toInt_eq_toNat_cond,kk_nat (by omega)]
    split<;>omega
   rw [hk] at h1;exact ⟨by omega,fun i hi=>chk1_good (chkN_all h i hi)⟩
 · rw [h1,cond_true] at h;exact absurd h (by decide)
theorem check22 {w:World} {b off n c:Nat} {D:DF} (h0:0<n) (h63:n<2 ^ 63) (hc:n≤c) (hH:HoldsAt w b off (D.arr n)):Calls Tryz.prog 22 #[.slice (some ⟨b,off,none⟩) n c] w fun e w'=>e = .returned (.int .i64 (vof .i64 (checkU n D)))/\Below w.heap.size w w':=by
 have X:=XK ΓC_ok;have st:OwnL fp22 1 (mC n D) w (vK n) { tmps := #[.slice (some ⟨b,off,none⟩) n c]++Array.replicate (Tryz.f22.ntmps-1) undef,defers:=[] } w:=
  OwnL.enterA (fp:=fp22) (args:=[slD n]) (vs:=[.slice (some ⟨b,off,none⟩) n c]) (mem_at hH) (fun id q base h x hx=>by have:=get_memT _ id x hx;unfold mC at this;simp only [List.mem_singleton,pI] at this;rw [this.2]) ⟨slD_rel hc,trivial⟩ (by show 1≤22;decide)
 have o63:okB (.b (Nat.blt n (2 ^ 63)))=true:=nB h63;refine calls_phases Tryz.func22 body22 ?_;rw [c22_eq];refine wp_two (OwnL.go X rfl (k0_ev n D) rfl rfl rfl (by kernel_rfl) (LessA.refl _) (LessM.refl _) st) fun a w1 hI => ?_
 cases h10:BitVec.slt (K 10) (kk n)
 · refine wp_two (OwnL.goB X rfl ((k1_c n D).trans (by rw [h10])) (k1_f n D) o63 rfl rfl (by kernel_rfl) (LessA.refl _) (LessM.refl _) hI) fun a w1 hI => ?_
   have hn10:n≤10:=by
    rw [BitVec.slt,decide_eq_false_iff_not,KtoInt (by omega)] at h10
    have hk:(kk n).toInt=n:=by
     rw [BitVec.toInt_eq_toNat_cond,kk_nat (by omega)]
     split<;>omega
    rw [hk] at h10;omega
   have eU:checkU n D=chkN n D n:=by unfold checkU;rw [h10];rfl
   rw [eU];have lK:LessA (vK3 n (.lit .i64 0)) (vK3 n (.i .i64 (kk 0))):=fun ν=>⟨rfl,same_rel,rfl,same_rel,rfl,same_rel,rfl,lit_less rfl,trivial⟩;refine wp_then (K:=fun a w1=>(∀j,j<n->chkD n D (D.at j)=K 0)/\OwnL fp22 1 (mC n D) w (vK n) a w1) ?_ fun a w1 hI => ?_
   · refine wp_two (OwnL.go X rfl (k3_ev n D) o63 rfl rfl (by kernel_rfl) lK (LessM.refl _) hI) fun a w1 hI => ?_
     refine for_any (fun k a w1=>(∀j,j<k->chkD n D (D.at j)=K 0)/\OwnL fp22 1 (mC n D) w (vK3 n (.i .i64 (kk k))) a w1) n ?_ ⟨fun j hj=>absurd hj (Nat.not_lt_zero _),hI⟩;rintro k hk a w1 ⟨hz,hI⟩;rw [kL_eq];refine wp_two (OwnL.go X rfl (kh_ev n D _) rfl rfl rfl (by kernel_rfl) (LessA.refl _) (LessM.refl _) hI) fun a w1 hI => ?_
     by_cases hkn:k<n
     · refine wp_two (OwnL.goB X rfl ((kf_c n D _ _).trans (by rw [slt_kk (by omega) (by omega),decide_eq_true hkn])) (kf_t n D _ _) rfl rfl rfl (by kernel_rfl) (LessA.refl _) (LessM.refl _) hI) fun a w1 hI => ?_
       have ek:(kk k).toNat=k:=kk_nat (by omega)
       have okb:okB (.b (okKb n (kk k)))=true:=by
        show okKb n (kk k)=true;unfold okKb vB okCk;have q1:Nat.blt k n=true:=nB hkn;have q2:Nat.blt 0 n=true:=nB h0;have q3:Nat.ble n 10=true:=nB hn10;have q4:Nat.beq n n=true:=Nat.beq_refl n;rw [ek,Nat.zero_add,msb_kk (by omega),q1,q2,q3,q4]
        rfl
       have e0:0+(kk k).toNat=k:=by rw [ek,Nat.zero_add]
       cases hd:chkD n D (D.at k) != K 0
       · have hz0:chkD n D (D.at k)=K 0:=by simpa using hd
         refine wp_two (wp_in (OwnL.goB X rfl ((kb_c n D _).trans (by rw [e0,hd])) (kb_f n D _) okb rfl rfl (by kernel_rfl) (LessA.refl _) (LessM.refl _) hI)) fun a w1 hI => ?_
         refine wp_mono (OwnL.go X rfl (ki_ev n D _) rfl rfl rfl (by kernel_rfl) (LessA.refl _) (LessM.refl _) hI) ?_
         rintro x' a' w' ⟨rfl,hI⟩;refine ⟨hkn,fun j hj => ?_,?_⟩
         · by_cases e:j=k
           · subst e;exact hz0
           · exact hz j (by omega)
         · rw [← kk_one];exact hI
       · have hne:chkD n D (D.at k)≠K 0:=bne_iff_ne.1 hd;have kt:=kb_t n D (kk k);rw [e0] at kt;refine wp_seq (wp_block (OwnL.phase (r:=⟨.ret,.b (okKb n (kk k)),[(2,i64 (chkD n D (D.at k)))],mC n D⟩) X rfl ((congrArg (endM fp22.km [2] [0] 1) (Out.at_pick ((kb_c n D _).trans (by rw [e0,hd])))).trans kt) okb rfl rfl (by kernel_rfl) (LessA.refl _) (LessM.refl _) hI fun ν' a' w' x' hx' h => ?_))
         have hx':x' = .ret:=hx';subst hx';show bodyPostD Tryz.prog Tryz.f22 _ .ret a' w';refine OwnL.left h rfl fun u ⟨ν,hu⟩ hb=>⟨?_,hb⟩;have hu:(A.i .i64 (chkD n D (D.at k))).rel ν u:=hu;simp only [A.rel] at hu;rw [hu,chkN_first hz hne n hkn]
     · obtain rfl:k=n:=by omega
       refine wp_seq (wp_mono (OwnL.outB X rfl ((kf_c _ D _ _).trans (by rw [slt_kk (by omega) (by omega),decide_eq_false (by omega)])) (kf_f _ D _ _) rfl rfl rfl (by kernel_rfl) (LessA.refl _) (LessM.refl _) hI) ?_)
       rintro x' a' w' ⟨rfl,hI⟩;exact ⟨hz,hI⟩
   · refine OwnL.phase (r:=⟨.ret,.tt,[(2,one (.lit .i64 0))],mC n D⟩) X rfl (k10_ev n D) rfl rfl rfl (by kernel_rfl) (LessA.refl _) (LessM.refl _) hI.2 fun ν' a' w' x' hx' h => ?_
     have hx':x' = .ret:=hx';subst hx';refine OwnL.left h rfl fun u ⟨ν,hu⟩ hb=>⟨?_,hb⟩;have hu:(A.lit .i64 0).rel ν u:=hu;simp only [A.rel] at hu;rw [hu.1,chkN_zero hI.1];rfl
 · refine wp_seq (OwnL.phase (r:=⟨.ret,.b (Nat.blt n (2 ^ 63)),[(2,one (.lit .i64 19))],mC n D⟩) X rfl ((congrArg (endM fp22.km [2] [0] 1) (Out.at_pick ((k1_c n D).trans (by rw [h10])))).trans (k1_t n D)) o63 rfl rfl (by kernel_rfl) (LessA.refl _) (LessM.refl _) hI fun ν' a' w' x' hx' h => ?_)
   have hx':x' = .ret:=hx';subst hx';show bodyPostD Tryz.prog Tryz.f22 _ .ret a' w';refine OwnL.left h rfl fun u ⟨ν,hu⟩ hb=>⟨?_,hb⟩;have hu:(A.lit .i64 19).rel ν u:=hu;simp only [A.rel] at hu;have eU:checkU n D=K 19:=by unfold checkU;rw [h10];rfl
   rw [hu.1,eU];rfl
def checkSp:List V->H->Option R
 | [.t (.a la)],h=>match dfOf h la with
   | some (id,n,D,o)=>some (.leaf (.b ((Nat.blt 0 n&&Nat.blt n (2 ^ 63))&&o)) (i64 (checkU n D)) (h.sees [id]))
   | none=>none
 | _,_=>none
theorem check22_ok:AnyOK Tryz.prog 22 checkSp where
 ent:=enters_of entK 22 _ Tryz.func22 (by simp [Tryz.f22])
 ok:=by
  intro args h r ok v h' he hp hok;unfold checkSp at he;split at he
  · split at he
    · rename_i la id n D o hd;cases he;simp only [R.pick,oI,pI] at hp;obtain ⟨rfl,rfl,rfl⟩:=hp;have hok:((Nat.blt 0 n&&Nat.blt n (2 ^ 63))&&o)=true:=hok;simp only [bA] at hok;obtain ⟨⟨o1,o2⟩,o3⟩:=hok;have o1:0<n:=nL o1;have o2:n<2 ^ 63:=nL o2;refine fn_calm [id] fun S ν w us hm hS hus => ?_
      match us,hus with
      | [u0],⟨r0,_⟩=>
        obtain ⟨B,off,c,hH,rfl,hc,_⟩:=df_here hm hd o3 (hS id (.head _)) o1 r0;refine (check22 o1 o2 hc hH).mono ?_;rintro e w' ⟨rfl,hb⟩;refine ⟨_,rfl,?_,hb⟩;show (A.i .i64 (checkU n D)).rel ν _;simp only [A.rel]
    · cases he
  · cases he
 pan:=by
  intro args h r ok v h' he hp hok;unfold checkSp at he;split at he
  · split at he
    · cases he;simp [R.pickP] at hp
    · cases he
  · cases he
 ext:=by
  intro args h r he hlo;unfold checkSp at he;split at he
  · split at he
    · cases he;exact sees_ext _ h
    · cases he
  · cases he
theorem pick4 (x:U):obsW (evalF cxK noΓ 400 20 8 [i64 x,one (.lit .i64 4)] (hM [] 0))=some (.tt,i64 (pickU x (K 4)),[]):=by kernel_rfl
def pickOK:Int->Bool
 | .ofNat 4=>true
 | .ofNat 1000=>true
 | _=>false
def pickSp:List V->H->Option R
 | [.t (.a ax),.t (.a (.lit .i64 n))],h=>match i64Of ax,pickOK n with
   | some x,true=>some (.leaf .tt (i64 (pickU x (K n))) (h.sees []))
   | _,_=>none
 | _,_=>none
theorem pickSp_inv {args:List V} {h:H} {r:R} (e:pickSp args h=some r):∃ax n x,args=[one ax,one (.lit .i64 n)]/\i64Of ax=some x/\pickOK n=true/\r = .leaf .tt (i64 (pickU x (K n))) (h.sees []):=by
 unfold pickSp at e;split at e
 · split at e
   · rename_i h1 h2;cases e;exact ⟨_,_,_,rfl,h1,h2,rfl⟩
   · cases e
 · cases e
theorem pick8_ok:AnyOK Tryz.prog 8 pickSp where
 ent:=enters_of entK 8 _ Tryz.func8 (by simp [Tryz.f8])
 ok:=by
  intro args h r ok v h' he hp hok;obtain ⟨ax,n,x,rfl,hx,hn,rfl⟩:=pickSp_inv he;simp only [R.pick,oI,pI] at hp;obtain ⟨rfl,rfl,rfl⟩:=hp;refine fn_calm [] fun S ν w us hm hS hus => ?_
  match us,hus with
  | [u0,u1],⟨r0,r1,_⟩=>
    obtain rfl:=i64Of_rel hx r0;have r1:(A.lit .i64 n).rel ν u1:=r1;simp only [A.rel] at r1;obtain ⟨rfl,hw⟩:=r1;have key:Calls Tryz.prog 8 #[.int .i64 (vof .i64 x),.int .i64 n] w fun e w'=>e = .returned (.int .i64 (vof .i64 (pickU x (K n))))/\Below w.heap.size w w':=by
     unfold pickOK at hn;split at hn
     · exact pick_at (n:=4) rfl (pick4 x) w
     · exact pick_at (n:=1000) rfl (pick1000 x) w
     · cases hn
    refine key.mono ?_;rintro e w' ⟨rfl,hb⟩;refine ⟨_,rfl,?_,hb⟩;show (A.i .i64 _).rel ν _;simp only [A.rel]
 pan:=by intro args h r ok v h' he hp hok;obtain ⟨ax,n,x,rfl,hx,hn,rfl⟩:=pickSp_inv he;simp [R.pickP] at hp
 ext:=by intro args h r he hlo;obtain ⟨ax,n,x,rfl,hx,hn,rfl⟩:=pickSp_inv he;exact sees_ext _ h
def Γ3 (sh sf:Bool):Gam:=anyΓ 8 pickSp (anyΓ 22 checkSp (anyΓ 7 (stSp (sigK knoW)) (anyΓ 9 (plan9Sp sh) (anyΓ 10 (plan10Sp sh) (anyΓ 54 swSp (anyΓ 12 sameSp (anyΓ 13 (fitSp sf) (anyΓ 14 done14Sp (anyΓ 15 done15Sp (anyΓ 16 (ckSp laidF) (anyΓ 17 (ckSp laidX) (anyΓ 18 knowsSp (anyΓ 6 knownSp noΓ)))))))))))))
theorem Γ3_ok (sh sf:Bool):ΓOK Tryz.prog (Γ3 sh sf):=anyΓ_ok pick8_ok (anyΓ_ok check22_ok (anyΓ_ok (states_ok kno30_ok kno_k) (anyΓ_ok (plan9_ok sh) (anyΓ_ok (plan10_ok sh) (anyΓ_ok sw54_ok (anyΓ_ok same12_ok (anyΓ_ok (fit13_ok sf) (anyΓ_ok done14_ok (anyΓ_ok done15_ok (anyΓ_ok ck16_ok (anyΓ_ok ck17_ok (anyΓ_ok knows18_ok (anyΓ_ok known6_ok noΓ_ok)))))))))))))
def callV (no cpu id rno elem:U) (val:A) (key:U):V :=.t (.st [.a (.i .i64 no),.a (.i .i64 cpu),.a (.i .i64 id),.st [.a (.i .i64 rno),.a val,.a (.i .u64 key),.a (.i .i64 elem)]])
def R.wayB (p:List Bool) (r:R):Option (Bool×A×Option Bool×List Nat):=match r.way p with
 | some (c,.leaf ok (.t (.a x)) h)=>some (c,ok,truthA x,h.wr)
 | _=>none
theorem wayB_some {p:List Bool} {r:R} {c:Bool} {ok:A} {y:Option Bool} {wr:List Nat} (h:r.wayB p=some (c,ok,y,wr)) (hc:c=true):∃x h',r.pick=some (ok,one x,h')/\truthA x=y/\h'.wr=wr:=by
 unfold R.wayB at h;split at h
 · rename_i c ok x h' hw;simp only [oI,pI] at h;obtain ⟨rfl,rfl,rfl,rfl⟩:=h;exact ⟨x,h',(way_pick hw hc).1.trans rfl,rfl,rfl⟩
 · cases h
def ev3 (ta va:A) (ms:List (Nat×Blk)) (sh sf:Bool) (n:Nat) (no cpu id rno elem key:U):R:=evalF cxK (Γ3 sh sf) 400 20 3 [one (.sl 0 [] 5 (.lit 0) (.sym n) none),one ta,callV no cpu id rno elem va key] (hM ms 4)
def hsP (sh:Bool) (P:PO):Bool:=match sh with
 | true=>P.has
 | false => !P.has
def vPO (sh:Bool) (P:PO):Option (Nat×(Nat->U)):=match sh with
 | true=>some (P.len,P.wd)
 | false=>none
def swB (sh:Bool) (P P':PO):Bool:=(match sh with
 | true=>Nat.beq P.len P.len&&Nat.beq P'.len P'.len
 | false=>true&&true)&&dec (vPO sh P=vPO sh P'/\∀k g,vPO sh P=some (k,g)->1≤k/\k≤4)
def wdM (D:DF) (m:U):Nat:=(D.w (m-K 1).toNat).toNat
def rnoS (sf:Bool) (rno:U):U:=match sf with
 | true=>K 0
 | false=>pickU rno (K 22)
def valS (sf:Bool) (D:DF) (m:U) (l:Nat) (g:Nat->U):Option (Nat×(Nat->U)):=match sf with
 | true=>some (wdM D m,fitG l g)
 | false=>none
def elemS (sf:Bool) (D:DF) (m elem:U):U:=match sf with
 | true=>fitEl D (m-K 1).toNat elem
 | false=>K 0
def ovS (sf:Bool) (D:DF) (m:U):Bool:=match sf with
 | true=>Nat.beq (wdM D m) (wdM D m)
 | false=>true
def fitB (sf:Bool) (n:Nat) (m rno:U) (ov:Bool):Bool:=match sf with
 | true=>ov&&(inM n m&&(pickU rno (K 22)==K 0))
 | false=>ov&&bad6 n m rno
def o63 (n:Nat):Bool:=Nat.blt n (2 ^ 63)
def oBig (n:Nat) (oT:A):A:=andOk (andOk (.b (o63 n)) oT) (.b ((Nat.blt 0 n&&o63 n)&&Nat.beq n n))
section
variable (n:Nat) (D:DF) (oT oS:A) (sv:VF) (sq:QF) (f:FSt) (sh sf:Bool) (no cpu id rno elem:U) (l:Nat) (g:Nat->U) (ov:Bool)
def p3V:PO:=planF n D sv.regs sv.how sv.flat no (pickU cpu (K 4))
def p3Q:PO:=planF n D sq.regs sq.how sq.b no (pickU cpu (K 4))
def okFin:A:=
 let P:=p3V n D sv no cpu
 let P':=p3Q n D sq no cpu
 let p:=okPl n D (Nat.beq n n)
 let a1:=andOk (andOk (oBig n oT) oS) (.b (p&&hsP sh P))
 let a2:=andOk (andOk a1 (.b (p&&hsP sh P'))) (.b (swB sh P P'))
 let a3:=andOk (andOk a2 (.b (dec (Rel23 sv sq)))) (.b (p&&fitB sf n P'.m rno ov))
 let a4:=andOk (andOk a3 (.b (p&&(ovS sf D P'.m&&dec (FitOK n D sv.regs no (rnoS sf rno) (valS sf D P'.m l g)))))) (.b (p&&(ovS sf D P'.m&&dec (FitOK n D sq.regs no (rnoS sf rno) (valS sf D P'.m l g)))))
 let a5:=andOk (andOk a4 (.b ((!(!(P.code != P'.code)))||dec (Rel23 (doneVF n D sv no (pickU cpu (K 4)) (rnoS sf rno) (elemS sf D P'.m elem) (valS sf D P'.m l g)) (doneQF n D sq no (pickU cpu (K 4)) (rnoS sf rno) (elemS sf D P'.m elem) (valS sf D P'.m l g)))))) (.b p)
 andOk (andOk a5 (.b p)) (.b ((!((ckP n D f no).code==(ckP n D f no).code))||dec (ckS laidF n D f no (pickU id (K 1000))=ckS laidX n D f no (pickU id (K 1000)))))
def thC (cT:Option Bool) (x:Bool):Bool:=match cT with
 | some c => !c&&x
 | none=>x
def pT (cT:Option Bool):List Bool:=match cT with
 | some _=>[false]
 | none=>[]
def cBig (n:Nat):Bool:=BitVec.slt (kk n) (K 1)
def cFin (cT:Option Bool):Bool:=
 let P:=p3V n D sv no cpu
 let P':=p3Q n D sq no cpu
 !(cBig n)&&(thC cT (!(checkU n D != K 0)&&(!(cond (P.m != P'.m) true (P.code != P'.code))&&(cond (cond (cond (P.op==P'.op) (P.key==P'.key) false) (P.flag==P'.flag) false) (P.cpu==P'.cpu) false&&(!(cond (P.code != P'.code) true false)&&true)))))
def vFin:Bool:=cond (cond ((ckP n D f no).code==(ckP n D f no).code) true false) true false
end
structure Ev3 (ta va:A) (ms:List (Nat×Blk)) (n:Nat) (D:DF) (oT:A) (cT:Option Bool) (oS:A) (sv:VF) (sq:QF) (f:FSt) (l:Nat) (g:Nat->U) (ov:Bool):Prop where
 w2:∀c,cT=some c->∀no cpu id rno elem key,(ev3 ta va ms false false n no cpu id rno elem key).wayB [false,true]=some (!(cBig n)&&(c&&true),andOk (.b (o63 n)) oT,some true,[])
 w3:∀no cpu id rno elem key,(ev3 ta va ms false false n no cpu id rno elem key).wayB (false::(pT cT++[true]))=some (!(cBig n)&&(thC cT ((checkU n D != K 0)&&true)),oBig n oT,some true,[])
 w4:∀sh sf no cpu id rno elem key,(ev3 ta va ms sh sf n no cpu id rno elem key).wayB (false::(pT cT++[false,false,true,false]))=some (cFin n D sv sq no cpu cT,okFin n D oT oS sv sq f sh sf no cpu id rno elem l g ov,some (vFin n D f no),[])
theorem argsF_vk {regs:VV} {how flat:Nat->U} {w:Nat} {m op cpu m' o' k' f' c':U} {v':Option (Nat×(Nat->U))}:∀(L:List Nat) (r:Nat) (key flag:U) (v:Option (Nat×(Nat->U))),argsF regs how flat w m op cpu L r key flag v = .ok m' o' k' f' c' v'->v'=v\/∃g,v'=some (w,g)
 | [],r,key,flag,v,h=>by cases h;exact .inl rfl
 | 0::L,r,key,flag,v,h=>by
   unfold argsF at h;cases h0:regs.k r==K 0<;>simp only [h0,cond_true,cond_false] at h
   · cases h1:bytesE how (regs.at r) 8 != K 0<;>simp only [h1,cond_true,cond_false] at h
     · exact argsF_vk L _ _ _ _ h
     · cases h
   · cases h
 | 1::L,r,key,flag,v,h=>by
   unfold argsF at h;cases h0:regs.k r==K 0<;>simp only [h0,cond_true,cond_false] at h
   · cases h1:bytesE how (regs.at r) (8*w) != K 0<;>simp only [h1,cond_true,cond_false] at h
     · rcases argsF_vk L _ _ _ _ h with e|e
       · exact .inr ⟨_,e⟩
       · exact .inr e
     · cases h
   · cases h
 | 2::L,r,key,flag,v,h=>by
   unfold argsF at h;cases h0:regs.k r==K 0<;>simp only [h0,cond_true,cond_false] at h
   · cases h1:regs.k r != K 1<;>simp only [h1,cond_true,cond_false] at h
     · exact argsF_vk L _ _ _ _ h
     · cases h
   · cases h
 | (n+3)::L,r,key,flag,v,h=>by
   unfold argsF at h;cases h0:regs.k r==K 0<;>simp only [h0,cond_true,cond_false] at h
   · cases h1:regs.k r != K 3<;>simp only [h1,cond_true,cond_false] at h
     · cases h2:roomB (regs.n r) (8*w)<;>simp only [h2,Bool.not_true,Bool.not_false,cond_true,cond_false] at h
       · cases h
       · exact argsF_vk L _ _ _ _ h
     · cases h
   · cases h
theorem plan_val {n:Nat} (hn:n≤10) {D:DF} (hD:OKD n D) {regs:VV} {how flat:Nat->U} {no cpu m' o' k' f' c':U} {v':Option (Nat×(Nat->U))} (h:planF n D regs how flat no cpu = .ok m' o' k' f' c' v') {k:Nat} {g:Nat->U} (hv:v'=some (k,g)):1≤k/\k≤4:=by
 subst hv;unfold planF at h;cases h0:cond (BitVec.sle (K 1) no) (BitVec.sle no (K 8)) false<;>simp only [h0,Bool.not_true,Bool.not_false,cond_true,cond_false] at h
 · cases h
 · cases h7:no==K 7<;>simp only [h7,cond_true,cond_false] at h
   · cases h2:regs.k 1==K 0<;>simp only [h2,cond_true,cond_false] at h
     · cases h3:regs.k 1 != K 4<;>simp only [h3,cond_true,cond_false] at h
       · cases h4:inM n (regs.i 1)<;>simp only [h4,Bool.not_true,Bool.not_false,cond_true,cond_false] at h
         · cases h
         · obtain ⟨m1,m2,_,m4⟩:=inM_nat hn h4;obtain ⟨_,_,d3⟩:=hD (ixU regs) (by unfold ixU;rw [m4];omega)
           have hw:=wOK_le d3;unfold planL at h;split at h
           · cases h
           · rcases argsF_vk _ _ _ _ _ h with e|⟨g',e⟩
             · cases e
             · simp only [oI,pI] at e;obtain ⟨rfl,_⟩:=e;omega
       · cases h
     · cases h
   · cases h
theorem inM_zero (n:Nat):inM n (K 0)=false:=rfl
theorem plan_m {n:Nat} {D:DF} {regs:VV} {how flat:Nat->U} {no cpu:U} (h:inM n (planF n D regs how flat no cpu).m=true):(planF n D regs how flat no cpu).m=regs.i 1:=by
 cases hp:planF n D regs how flat no cpu with
 | err x=>
   rw [hp] at h;have h:inM n (K 0)=true:=h;rw [inM_zero] at h;cases h
 | ok m' o' k' f' c' v'=>
   cases h7:no==K 7
   · obtain ⟨_,_,hm,_⟩:=plan_facts hp h7;exact hm
   · obtain rfl:=eq_of_beq h7;rw [planF_7] at hp;cases hp;rw [planF_7] at h;have h:inM n (K 0)=true:=h;rw [inM_zero] at h;cases h
theorem bad6_not {n:Nat} {m rno:U} (h:(inM n m&&(pickU rno (K 22)==K 0))=false):bad6 n m rno=true:=by
 unfold bad6 bad4;unfold inM at h;rw [slt_not_sle,slt_not_sle,bne];cases h1:pickU rno (K 22)==K 0
 · rfl
 · cases h2:BitVec.sle (K 1) m
   · rfl
   · cases h3:BitVec.sle m (kk n)
     · rfl
     · rw [h1,h2,h3] at h;cases h
theorem okB_and {a b:A} (ha:okB a=true) (hb:okB b=true):okB (andOk a b)=true:=by
 unfold andOk;split<;>first|assumption|skip
 all_goals (simp only [okB] at *;try simp [*])
theorem cBig_false {n:Nat} (h0:0<n) (h63:n<2 ^ 63):cBig n=false:=by
 have:cBig n=BitVec.slt (kk n) (kk 1):=rfl;rw [this,slt_kk h63 (by decide),decide_eq_false]
 omega
def RT3 (w:World) (e:Ending) (w':World):Prop:=e = .returned (.bool true)/\Below w.heap.size w w'
theorem rt_of {sh sf:Bool} {args:List V} {ms:List (Nat×Blk)} {N:Nat} {p:List Bool} {c:Bool} {ok:A} (h:(evalF cxK (Γ3 sh sf) 400 20 3 args (hM ms N)).wayB p=some (c,ok,some true,[])) (hc:c=true) (ho:okB ok=true) {ν:Nu} {w:World} (hm:Mem (fun _=>True) ν w (hM ms N)) {us:List Value} (ha:relV ν args us):Calls Tryz.prog 3 us.toArray w (RT3 w):=by
 obtain ⟨x,h',hp,hx,hw⟩:=wayB_some h hc;obtain ⟨_,hfn⟩:=evalF_fn (XK (Γ3_ok sh sf)) rfl hp ho;refine (hfn (fun _=>True) ν w us (fun _ _=>trivial) (fun _ _=>trivial) hm ha).mono ?_;rintro e w' ⟨u,ν',rfl,hu,g⟩;have hu:x.rel ν' u:=hu;refine ⟨by rw [truthA_rel hx hu],g.frm.os,g.frm.tape,g.frm.output,g.frm.size,fun r hr=>g.frm.block r hr fun id base hid=>⟨?_,by rw [hw];intro h;cases h⟩⟩
 rw [g.ext.lo];refine Classical.byContradiction fun hge => ?_;have hge:¬id<N:=hge;rw [hm.nums.fresh id (show N≤id by omega)] at hid
 cases hid
theorem plans_of {ta va:A} {ms:List (Nat×Blk)} {n:Nat} {D:DF} {oT:A} {cT:Option Bool} {oS:A} {sv:VF} {sq:QF} {f:FSt} {l:Nat} {g:Nat->U} {ov:Bool} (E:Ev3 ta va ms n D oT cT oS sv sq f l g ov) (h0:0<n) (h63:n<2 ^ 63) (hoT:okB oT=true) (hoS:n≤10->cT≠some true->okB oS=true) (hI:StI sv sq f) (hov:ov=true)
 {no cpu id rno elem key:U} {ν:Nu} {w:World} (hm:Mem (fun _=>True) ν w (hM ms 4)) {us:List Value} (ha:relV ν [one (.sl 0 [] 5 (.lit 0) (.sym n) none),one ta,callV no cpu id rno elem va key] us):Calls Tryz.prog 3 us.toArray w (RT3 w):=by
 have hb:=cBig_false h0 h63;have h63':o63 n=true:=nB h63;have hbig:okB (oBig n oT)=true:=by
  refine okB_and (okB_and h63' hoT) ?_;show ((Nat.blt 0 n&&o63 n)&&Nat.beq n n)=true;rw [h63',Nat.beq_refl,show Nat.blt 0 n=true from nB h0]
  rfl
 by_cases hT:cT=some true
 · exact rt_of (E.w2 true hT no cpu id rno elem key) (by rw [hb];rfl) (okB_and h63' hoT) hm ha
 have hth:∀x,x=true->thC cT x=true:=fun x hx=>by
  unfold thC;split
  · rename_i c;cases c
    · rw [hx];rfl
    · exact absurd rfl hT
  · exact hx
 by_cases hck:checkU n D=K 0
 · obtain ⟨hn,hD⟩:=check_good h63 hck;have hS:=hoS hn hT;have hP':p3Q n D sq no cpu=p3V n D sv no cpu:=by
    unfold p3Q p3V;rw [hI.rel.regs,rel_how hI.rel,rel_flat hI.rel]
   have hpl:=okPl_true h0 hn hD;have hr:sq.regs=sv.regs:=hI.rel.regs;have key:=E.w4 (p3V n D sv no cpu).has (inM n (p3V n D sv no cpu).m&&(pickU rno (K 22)==K 0)) no cpu id rno elem key;have hv:vFin n D f no=true:=by unfold vFin;rw [beq_self_eq_true];rfl
   rw [hv] at key;refine rt_of key ?_ ?_ hm ha
   · unfold cFin;rw [hP',hb];simp only [hck,bne_self_eq_false,beq_self_eq_true,cond_true,cond_false,Bool.not_false,Bool.and_self,Bool.true_and];exact hth _ rfl
   · have q1:∀b,b=true->okB (.b (okPl n D (Nat.beq n n)&&b))=true:=fun b hb=>by
      show (okPl n D (Nat.beq n n)&&b)=true;rw [hpl,hb];rfl
     have hs1:hsP (p3V n D sv no cpu).has (p3V n D sv no cpu)=true:=by unfold hsP;cases e:(p3V n D sv no cpu).has<;>simp
     have hw:swB (p3V n D sv no cpu).has (p3V n D sv no cpu) (p3V n D sv no cpu)=true:=by
      unfold swB;rw [dec_true]
      · split<;>simp [Nat.beq_refl]
      · refine ⟨rfl,fun k g' hk => ?_⟩;unfold vPO at hk;split at hk
        · rename_i hh;simp only [oI,pI] at hk;obtain ⟨rfl,rfl⟩:=hk;unfold PO.has PO.val at hh;cases hp:p3V n D sv no cpu with
          | err x=>rw [hp] at hh;cases hh
          | ok m' o' k' f' c' v'=>
            rw [hp] at hh;cases v' with
            | none=>cases hh
            | some p=>exact plan_val hn hD (k:=p.1) (g:=p.2) hp rfl
        · cases hk
     have hfit:fitB (inM n (p3V n D sv no cpu).m&&(pickU rno (K 22)==K 0)) n (p3V n D sv no cpu).m rno ov=true:=by
      unfold fitB;rw [hov];split
      · rename_i e;rw [e];rfl
      · rename_i e;rw [bad6_not e];rfl
     have hovs:∀b m,ovS b D m=true:=fun b m=>by
      unfold ovS;cases b
      · rfl
      · exact Nat.beq_refl _
     have hFit:FitOK n D sv.regs no (rnoS (inM n (p3V n D sv no cpu).m&&(pickU rno (K 22)==K 0)) rno) (valS (inM n (p3V n D sv no cpu).m&&(pickU rno (K 22)==K 0)) D (p3V n D sv no cpu).m l g):=by
      unfold valS rnoS;cases e:(inM n (p3V n D sv no cpu).m&&(pickU rno (K 22)==K 0))
      · exact trivial
      · rw [bA] at e;have e2:=plan_m e.1;refine ⟨rfl,?_,?_⟩
        · rw [← e2];exact e.1
        · unfold wdM ixU;rw [show (p3V n D sv no cpu).m=sv.regs.i 1 from e2]
     unfold okFin;simp only [hP',hr];have a1:=okB_and (okB_and hbig hS) (q1 _ hs1);have a2:=okB_and (okB_and a1 (q1 _ hs1)) (show okB (.b (swB (p3V n D sv no cpu).has (p3V n D sv no cpu) (p3V n D sv no cpu)))=true from hw)
     have a3:=okB_and (okB_and a2 (show okB (.b (dec (Rel23 sv sq)))=true from dec_true hI.rel)) (q1 _ hfit)
     have d:(ovS (inM n (p3V n D sv no cpu).m&&(pickU rno (K 22)==K 0)) D (p3V n D sv no cpu).m&&dec (FitOK n D sv.regs no (rnoS (inM n (p3V n D sv no cpu).m&&(pickU rno (K 22)==K 0)) rno) (valS (inM n (p3V n D sv no cpu).m&&(pickU rno (K 22)==K 0)) D (p3V n D sv no cpu).m l g)))=true:=by rw [hovs,dec_true hFit];rfl
     have a4:=okB_and (okB_and a3 (q1 _ d)) (q1 _ d);refine okB_and (okB_and (okB_and (okB_and a4 ?_) hpl) hpl) ?_
     · show (_||dec _)=true;rw [dec_true (rel_done hI.rel hn hD _ _ _ _ _),Bool.or_true]
     · show (_||dec _)=true;rw [dec_true (ckS_same hI.inv _ _).symm,Bool.or_true]
 · refine rt_of (E.w3 no cpu id rno elem key) ?_ hbig hm ha;rw [hb];have e:(checkU n D != K 0)=true:=bne_iff_ne.2 hck;rw [e];show thC cT true=true;exact hth _ rfl
theorem e3_ss (n:Nat) (D:DF) (nt:Nat) (F:TF) (l:Nat) (g:Nat->U):Ev3 (.sl 1 [] 8 (.lit 0) (.sym nt) none) (.sl 3 [] 1 (.lit 0) (.sym l) none) [(0,⟨false,D.arr n⟩),(1,⟨false,F.arr nt⟩),(2,⟨false,.lst 7777 []⟩),(3,⟨false,.arr 1 (.sym l) (.int .u64 g)⟩)] n D (.b (o63 nt)) (some (BitVec.slt (K 60) (kk nt))) (.b (okSt n nt (Nat.beq n n) (Nat.beq nt nt))) (foldV n F nt) (foldQ n F nt) (foldF knoW n F nt) l g (Nat.beq l l&&Nat.blt 0 l) where
 w2:=fun c hc no cpu id rno elem key=>by cases hc;kernel_rfl
 w3:=fun no cpu id rno elem key=>by kernel_rfl
 w4:=fun sh sf no cpu id rno elem key=>by
  cases sh<;>cases sf
  · kernel_rfl
  · kernel_rfl
  · kernel_rfl
  · kernel_rfl
theorem e3_sn (n:Nat) (D:DF) (nt:Nat) (F:TF) (l:Nat) (g:Nat->U):Ev3 (.sl 1 [] 8 (.lit 0) (.sym nt) none) (.nils) [(0,⟨false,D.arr n⟩),(1,⟨false,F.arr nt⟩),(2,⟨false,.lst 7777 []⟩)] n D (.b (o63 nt)) (some (BitVec.slt (K 60) (kk nt))) (.b (okSt n nt (Nat.beq n n) (Nat.beq nt nt))) (foldV n F nt) (foldQ n F nt) (foldF knoW n F nt) 0 (fun _=>K 0) true where
 w2:=fun c hc no cpu id rno elem key=>by cases hc;kernel_rfl
 w3:=fun no cpu id rno elem key=>by kernel_rfl
 w4:=fun sh sf no cpu id rno elem key=>by
  cases sh<;>cases sf
  · kernel_rfl
  · kernel_rfl
  · kernel_rfl
  · kernel_rfl
theorem e3_sz (n:Nat) (D:DF) (nt:Nat) (F:TF) (l:Nat) (g:Nat->U):Ev3 (.sl 1 [] 8 (.lit 0) (.sym nt) none) (.sl 3 [] 1 (.lit 0) (.lit 0) none) [(0,⟨false,D.arr n⟩),(1,⟨false,F.arr nt⟩),(2,⟨false,.lst 7777 []⟩)] n D (.b (o63 nt)) (some (BitVec.slt (K 60) (kk nt))) (.b (okSt n nt (Nat.beq n n) (Nat.beq nt nt))) (foldV n F nt) (foldQ n F nt) (foldF knoW n F nt) 0 (fun _=>K 0) true where
 w2:=fun c hc no cpu id rno elem key=>by cases hc;kernel_rfl
 w3:=fun no cpu id rno elem key=>by kernel_rfl
 w4:=fun sh sf no cpu id rno elem key=>by
  cases sh<;>cases sf
  · kernel_rfl
  · kernel_rfl
  · kernel_rfl
  · kernel_rfl
theorem e3_ns (n:Nat) (D:DF) (nt:Nat) (F:TF) (l:Nat) (g:Nat->U):Ev3 (.nils) (.sl 3 [] 1 (.lit 0) (.sym l) none) [(0,⟨false,D.arr n⟩),(2,⟨false,.lst 7777 []⟩),(3,⟨false,.arr 1 (.sym l) (.int .u64 g)⟩)] n D .tt none .tt newVF newQF newFS l g (Nat.beq l l&&Nat.blt 0 l) where
 w2:=fun c hc=>by cases hc
 w3:=fun no cpu id rno elem key=>by kernel_rfl
 w4:=fun sh sf no cpu id rno elem key=>by
  cases sh<;>cases sf
  · kernel_rfl
  · kernel_rfl
  · kernel_rfl
  · kernel_rfl
theorem e3_nn (n:Nat) (D:DF) (nt:Nat) (F:TF) (l:Nat) (g:Nat->U):Ev3 (.nils) (.nils) [(0,⟨false,D.arr n⟩),(2,⟨false,.lst 7777 []⟩)] n D .tt none .tt newVF newQF newFS 0 (fun _=>K 0) true where
 w2:=fun c hc=>by cases hc
 w3:=fun no cpu id rno elem key=>by kernel_rfl
 w4:=fun sh sf no cpu id rno elem key=>by
  cases sh<;>cases sf
  · kernel_rfl
  · kernel_rfl
  · kernel_rfl
  · kernel_rfl
theorem e3_nz (n:Nat) (D:DF) (nt:Nat) (F:TF) (l:Nat) (g:Nat->U):Ev3 (.nils) (.sl 3 [] 1 (.lit 0) (.lit 0) none) [(0,⟨false,D.arr n⟩),(2,⟨false,.lst 7777 []⟩)] n D .tt none .tt newVF newQF newFS 0 (fun _=>K 0) true where
 w2:=fun c hc=>by cases hc
 w3:=fun no cpu id rno elem key=>by kernel_rfl
 w4:=fun sh sf no cpu id rno elem key=>by
  cases sh<;>cases sf
  · kernel_rfl
  · kernel_rfl
  · kernel_rfl
  · kernel_rfl
theorem e3_zs (n:Nat) (D:DF) (nt:Nat) (F:TF) (l:Nat) (g:Nat->U):Ev3 (.sl 1 [] 8 (.lit 0) (.lit 0) none) (.sl 3 [] 1 (.lit 0) (.sym l) none) [(0,⟨false,D.arr n⟩),(2,⟨false,.lst 7777 []⟩),(3,⟨false,.arr 1 (.sym l) (.int .u64 g)⟩)] n D .tt none .tt newVF newQF newFS l g (Nat.beq l l&&Nat.blt 0 l) where
 w2:=fun c hc=>by cases hc
 w3:=fun no cpu id rno elem key=>by kernel_rfl
 w4:=fun sh sf no cpu id rno elem key=>by
  cases sh<;>cases sf
  · kernel_rfl
  · kernel_rfl
  · kernel_rfl
  · kernel_rfl
theorem e3_zn (n:Nat) (D:DF) (nt:Nat) (F:TF) (l:Nat) (g:Nat->U):Ev3 (.sl 1 [] 8 (.lit 0) (.lit 0) none) (.nils) [(0,⟨false,D.arr n⟩),(2,⟨false,.lst 7777 []⟩)] n D .tt none .tt newVF newQF newFS 0 (fun _=>K 0) true where
 w2:=fun c hc=>by cases hc
 w3:=fun no cpu id rno elem key=>by kernel_rfl
 w4:=fun sh sf no cpu id rno elem key=>by
  cases sh<;>cases sf
  · kernel_rfl
  · kernel_rfl
  · kernel_rfl
  · kernel_rfl
theorem e3_zz (n:Nat) (D:DF) (nt:Nat) (F:TF) (l:Nat) (g:Nat->U):Ev3 (.sl 1 [] 8 (.lit 0) (.lit 0) none) (.sl 3 [] 1 (.lit 0) (.lit 0) none) [(0,⟨false,D.arr n⟩),(2,⟨false,.lst 7777 []⟩)] n D .tt none .tt newVF newQF newFS 0 (fun _=>K 0) true where
 w2:=fun c hc=>by cases hc
 w3:=fun no cpu id rno elem key=>by kernel_rfl
 w4:=fun sh sf no cpu id rno elem key=>by
  cases sh<;>cases sf
  · kernel_rfl
  · kernel_rfl
  · kernel_rfl
  · kernel_rfl
theorem arr_holds {W:World} {b off n s:Nat} {sh:Sh} {g:Nat->List Value} (h0:0<n) (hs:0<s) (hl:∀i,i<n->(g i).length=s)
 (hc:∀i,i<n->∀j,j<s->W.cell? ⟨b,off+s*i+j,none⟩=(g i)[j]?) (hr:∀i,i<n->sh.rel i (g i)):HoldsAt W b off (.arr s (.sym n) sh):=by
 have hrow:∃cs ty fr,W.heap[b]? = some (.cells cs ty fr)/\∀i,i<n->∀j,j<s->cs[off+s*i+j]? = (g i)[j]? := by
  have h:=hc 0 h0 0 hs;rw [List.getElem?_eq_getElem (by rw [hl 0 h0];exact hs)] at h
  unfold World.cell? at h;cases hh:W.heap[b]? with
  | none=>simp [hh] at h
  | some o=>
    cases o with
    | cells cs ty fr=>
      refine ⟨cs,ty,fr,rfl,fun i hi j hj => ?_⟩;have:=hc i hi j hj;simpa [World.cell?,hh] using this
    | _=>simp [hh] at h
 obtain ⟨cs,ty,fr,hh,hcs⟩:=hrow;have hlt:off+s*(n-1)+(s-1)<cs.size:=by
  have:=hcs (n-1) (by omega) (s-1) (by omega)
  rw [List.getElem?_eq_getElem (by rw [hl (n-1) (by omega)];omega)] at this
  exact (Array.getElem?_eq_some_iff.1 this).1
 have hsz:off+s*n≤cs.size:=by
  obtain ⟨m,rfl⟩:∃m,n=m+1:=⟨n-1,by omega⟩
  rw [Nat.add_sub_cancel] at hlt;rw [Nat.mul_succ];omega
 refine ⟨cs,ty,fr,cs.toList.take off,(cs.toList.drop off).take (s*n),(cs.toList.drop off).drop (s*n),hh,?_,by simp;omega,?_⟩
 · rw [List.append_assoc,List.take_append_drop,List.take_append_drop]
 · simp only [T.rel];refine ⟨by simp [Ix.val];omega,fun i hi => ?_⟩
   have hi:i<n:=hi;have hle:s*i+s≤s*n:=by rw [← Nat.mul_succ];exact Nat.mul_le_mul_left s hi
   have e:(((cs.toList.drop off).take (s*n)).drop (s*i)).take s=g i:=by
    apply List.ext_getElem?;intro j;by_cases hj:j<s
    · rw [List.getElem?_take_of_lt hj,List.getElem?_drop,List.getElem?_take_of_lt (by omega),List.getElem?_drop,Array.getElem?_toList,← hcs i hi j hj]
      congr 1;omega
    · rw [List.getElem?_eq_none (by simp;omega),List.getElem?_eq_none (by rw [hl i hi];omega)]
   rw [e];exact hr i hi
theorem mem_ro {W:World} {ν:Nu} {ms:List (Nat×Blk)} {N:Nat} (hro:∀i x,(i,x)∈ms->x.rw=false/\i<N/\∃b off,ν i=some (b,off)/\HoldsAt W b off x.t) (hf:∀i,N≤i->ν i=none) (hb:∀i r b,ν i=some (r,b)->r<W.heap.size)
 (hfr:(ms.all fun p=>p.2.t.free)=true):Mem (fun _=>True) ν W (hM ms N):=by
 refine ⟨⟨hb,fun i x e hrw => ?_,hf,fun i x e=>(hro i x (get_memT ms i x e)).2.1,Nat.le_refl _,fun g hg=>by cases hg⟩,fun i x e _ => ?_⟩
 · have:=(hro i x (get_memT ms i x e)).1;rw [hrw] at this;cases this
 · have hm:=get_memT ms i x e;obtain ⟨h1,h2,b,off,h3,cs,ty,fr,pre,vs,post,q1,q2,q3,q4⟩:=hro i x hm;exact .inl ⟨b,off,cs,ty,fr,pre,vs,post,h3,q1,q2,q3,T.rel_free (List.all_eq_true.1 hfr _ hm) q4,fun h=>by rw [h1] at h;cases h⟩
def nuA (p:Nat×Nat) (p1 p3:Option (Nat×Nat)):Nu:=fun i=>if i=0\/i=2 then some p else if i=1 then p1 else if i=3 then p3 else none
theorem nuA_lt {W:World} {p:Nat×Nat} {p1 p3:Option (Nat×Nat)} (h0:p.1<W.heap.size) (h1:∀q,p1=some q->q.1<W.heap.size) (h3:∀q,p3=some q->q.1<W.heap.size):∀i r b,nuA p p1 p3 i=some (r,b)->r<W.heap.size:=by
 intro i r b h;unfold nuA at h;split at h
 · cases h;exact h0
 · split at h
   · exact h1 _ h
   · split at h
     · exact h3 _ h
     · cases h
theorem nuA_fresh (p:Nat×Nat) (p1 p3:Option (Nat×Nat)):∀i,4≤i->nuA p p1 p3 i=none:=fun i hi=>by
 unfold nuA;rw [if_neg (by omega),if_neg (by omega),if_neg (by omega)]
theorem mark_at {W:World} {b off:Nat} {t:T} (h:HoldsAt W b off t):HoldsAt W b off (.lst 7777 []):=by
 obtain ⟨cs,ty,fr,pre,vs,post,q1,q2,q3,q4⟩:=h;refine ⟨cs,ty,fr,pre,[],vs++post,q1,by rw [q2];simp,q3,?_⟩
 simp only [T.rel,relLst]
def DW.vs (d:DW):List Value:=[.int .i64 (vof .i64 d.k),.int .i64 (vof .i64 d.e),.int .i64 (vof .i64 d.w),.int .i64 (vof .i64 d.b),.int .i64 (vof .i64 d.i)]
def TW.vs (t:TW):List Value:=[.int .i64 (vof .i64 t.k),.int .i64 (vof .i64 t.o),.int .i64 (vof .i64 t.m),.int .i64 (vof .i64 t.w),.int .i64 (vof .i64 t.b),.int .u64 (vof .u64 t.v),.int .u64 (vof .u64 t.l),.int .u64 (vof .u64 t.r)]
def DF.of (g:Nat->DW):DF:=⟨fun i=>(g i).k,fun i=>(g i).e,fun i=>(g i).w,fun i=>(g i).b,fun i=>(g i).i⟩
def TF.of (g:Nat->TW):TF:=⟨fun i=>(g i).k,fun i=>(g i).o,fun i=>(g i).m,fun i=>(g i).w,fun i=>(g i).b,fun i=>(g i).v,fun i=>(g i).l,fun i=>(g i).r⟩
def noDW:DW:=⟨0,0,0,0,0⟩
def noTW:TW:=⟨0,0,0,0,0,0,0,0⟩
theorem df_rel (g:Nat->DW) (i:Nat):(DF.of g).s.rel i (g i).vs:=by
 simp only [DF.s,DF.of,Sh.rel,relShs];exact ⟨[_],_,rfl,rfl,[_],_,rfl,rfl,[_],_,rfl,rfl,[_],_,rfl,rfl,[_],_,rfl,rfl,rfl⟩
theorem tf_rel (g:Nat->TW) (i:Nat):(TF.of g).s.rel i (g i).vs:=by
 simp only [TF.s,TF.of,Sh.rel,relShs];exact ⟨[_],_,rfl,rfl,[_],_,rfl,rfl,[_],_,rfl,rfl,[_],_,rfl,rfl,[_],_,rfl,rfl,[_],_,rfl,rfl,[_],_,rfl,rfl,[_],_,rfl,rfl,rfl⟩
theorem atomsD {cs:List Value} (h:Atoms [some .i64,some .i64,some .i64,some .i64,some .i64] cs):∃x:DW,cs=x.vs:=by
 obtain ⟨x0,_,rfl,x1,_,rfl,x2,_,rfl,x3,_,rfl,x4,_,rfl,rfl⟩:=h;exact ⟨⟨x0,x1,x2,x3,x4⟩,rfl⟩
theorem atomsT {cs:List Value} (h:Atoms [some .i64,some .i64,some .i64,some .i64,some .i64,some .u64,some .u64,some .u64] cs):∃x:TW,cs=x.vs:=by
 obtain ⟨x0,_,rfl,x1,_,rfl,x2,_,rfl,x3,_,rfl,x4,_,rfl,x5,_,rfl,x6,_,rfl,x7,_,rfl,rfl⟩:=h;exact ⟨⟨x0,x1,x2,x3,x4,x5,x6,x7⟩,rfl⟩
def SlIs {α:Type} (W:World) (tr:α->Nat->T) (u:Value):Prop:=(∃(x:α) (n b o c:Nat),0<n/\n<2 ^ 63/\n≤c/\HoldsAt W b o (tr x n)/\u = .slice (some ⟨b,o,none⟩) n c)\/u = .slice none 0 0\/∃b o c,b<W.heap.size/\u = .slice (some ⟨b,o,none⟩) 0 c
theorem atoms_length:∀{ks:List (Option IntKind)} {cs:List Value},Atoms ks cs->cs.length=ks.length
 | [],_,h=>by simp only [Atoms] at h;rw [h];rfl
 | some k::ks,_,h=>by obtain ⟨x,cs',rfl,h⟩:=h;simp [atoms_length h]
 | none::ks,_,h=>by obtain ⟨x,cs',rfl,h⟩:=h;simp [atoms_length h]
theorem sl_is {α H:Type} {enc:TypeId×Value->H} {P:Program} {W:World} {spare:Nat->Bool} {held:Bool} {b0 fuel:Nat} {y:DataW H×List MemPlace} {sh:α->Sh} {t e:TypeId} {s:Nat} {ks:List (Option IntKind)} {v:Value}
 (ht:P.underlying t=some (.slice e)) (hk:kindsOf P 10 e=some ks) (hs:P.cellsOf e=s) (hl:ks.length=s) (h0:0<s)
 (mk:∀(n:Nat) (g:Nat->List Value),(∀i,i<n->Atoms ks (g i))->∃x:α,∀i,i<n->(sh x).rel i (g i))
 {base:Nat} (hok:Cell.okWide P W .any base t v) (hf:DataW.trod enc P W b0 spare held fuel t v.cells.toList=some y):SlIs W (fun (x:α) n =>.arr s (.sym n) (sh x)) v:=by
 obtain ⟨a0,len,cap,rfl⟩:∃a len cap,v = .slice a len cap:=by simp only [Cell.okWide,ht] at hok;cases v<;>simp_all [Cell.ok]
 rcases DataW.trod_slice ht hf with ⟨hcs,hx⟩|⟨a,len',cap',elems,rest,n,_,hcs,hx,hb,hle,hm,hlen,hel,_,_⟩
 · simp [Value.cells] at hcs;obtain ⟨rfl,rfl,rfl⟩:=hcs;exact .inr (.inl rfl)
 · simp [Value.cells] at hcs;obtain ⟨rfl,rfl,rfl⟩:=hcs;rw [hs] at hel;simp only [ht,Cell.okWide,Cell.ok] at hok;obtain ⟨_,_,_,hspot,row,cells,hshape,_⟩:=hok;obtain ⟨b,off,spot⟩:=a;have hspot:spot=none:=hspot;subst hspot;have hbW:b<W.heap.size:=by
    refine Classical.byContradiction fun hge => ?_;have hnone:W.heap[b]? = none:=Array.getElem?_eq_none (by omega)
    simp [World.shape?,hnone] at hshape
   rcases Nat.eq_zero_or_pos len with h1|h1
   · subst h1;exact .inr (.inr ⟨b,off,cap,hbW,rfl⟩)
   · have key:∀i,i<len->∃cs,Atoms ks cs/\∀j,j<s->W.cell? ⟨b,off+s*i+j,none⟩=cs[j]? := fun i hi=>by
      have hi':i<elems.length:=by omega
      have h:=(hel i hi).trans (List.getElem?_eq_getElem hi');rw [Option.bind_eq_some_iff] at h;obtain ⟨cs,hcs,hy⟩:=h;refine ⟨cs,open_kinds 10 hk hy,fun j hj => ?_⟩;obtain ⟨_,_,hc⟩:=World.cells?_some hcs;rw [← hc j hj,Go.WideShapes.add_plain,Go.WideShapes.add_plain,Nat.mul_comm i s]
     let g:Nat->List Value:=fun i=>if h:i<len then (key i h).choose else []
     have hg:∀i,(hi:i<len)->Atoms ks (g i)/\∀j,j<s->W.cell? ⟨b,off+s*i+j,none⟩=(g i)[j]? := fun i hi=>by have e:g i=(key i hi).choose:=dif_pos hi;rw [e];exact (key i hi).choose_spec
     obtain ⟨x,hx⟩:=mk len g fun i hi=>(hg i hi).1;exact .inl ⟨x,len,b,off,cap,h1,Nat.lt_of_le_of_lt (Nat.le_trans hle hm) (by decide),hle,arr_holds h1 h0 (fun i hi=>(atoms_length (hg i hi).1).trans hl) (fun i hi=>(hg i hi).2) hx,rfl⟩
theorem mkD (n:Nat) (g:Nat->List Value) (h:∀i,i<n->Atoms [some .i64,some .i64,some .i64,some .i64,some .i64] (g i)):∃x:DF,∀i,i<n->x.s.rel i (g i):=by
 have key:∀i,i<n->∃d:DW,g i=d.vs:=fun i hi=>atomsD (h i hi);refine ⟨DF.of fun i=>if hi:i<n then (key i hi).choose else noDW,fun i hi => ?_⟩
 have e:g i=(if hi:i<n then (key i hi).choose else noDW:DW).vs:=by rw [dif_pos hi];exact (key i hi).choose_spec
 rw [e];exact df_rel _ i
theorem mkT (n:Nat) (g:Nat->List Value) (h:∀i,i<n->Atoms [some .i64,some .i64,some .i64,some .i64,some .i64,some .u64,some .u64,some .u64] (g i)):∃x:TF,∀i,i<n->x.s.rel i (g i):=by
 have key:∀i,i<n->∃d:TW,g i=d.vs:=fun i hi=>atomsT (h i hi);refine ⟨TF.of fun i=>if hi:i<n then (key i hi).choose else noTW,fun i hi => ?_⟩
 have e:g i=(if hi:i<n then (key i hi).choose else noTW:TW).vs:=by rw [dif_pos hi];exact (key i hi).choose_spec
 rw [e];exact tf_rel _ i
theorem mkW (n:Nat) (g:Nat->List Value) (h:∀i,i<n->Atoms [some .u64] (g i)):∃x:Nat->U,∀i,i<n->(Sh.int .u64 x).rel i (g i):=by
 have key:∀i,i<n->∃d:U,g i=[.int .u64 (vof .u64 d)]:=fun i hi=>by obtain ⟨x,_,e,rfl⟩:=h i hi;exact ⟨x,e⟩
 refine ⟨fun i=>if hi:i<n then (key i hi).choose else 0,fun i hi => ?_⟩
 show g i=[.int .u64 (vof .u64 (if hi:i<n then (key i hi).choose else 0))]
 rw [dif_pos hi];exact (key i hi).choose_spec
theorem slA_rel {ν:Nu} {id s b o c:Nat} {len:Ix} (h:ν id=some (b,o)) (hc:len.val≤c):(A.sl id [] s (.lit 0) len none).rel ν (.slice (some ⟨b,o,none⟩) len.val c):=by
 simp only [A.rel];exact ⟨b,o,o,c,h,rfl,fun _=>by simp [pathOff,Ix.val],hc,fun _ e=>by cases e⟩
theorem oneK {ν:Nu} {k:IntKind} {x:U}:(T.a (.i k x)).rel ν [.int k (vof k x)]:=by
 simp only [T.rel,A.rel];exact ⟨_,rfl,rfl,trivial⟩
def WF (g:Nat->U) (n:Nat):T :=.arr 1 (.sym n) (.int .u64 g)
def callC (no cpu id rno elem:U) (u:Value) (key:U):Value :=.agg #[.int .i64 (vof .i64 no),.int .i64 (vof .i64 cpu),.int .i64 (vof .i64 id),.int .i64 (vof .i64 rno),u,.int .u64 (vof .u64 key),.int .i64 (vof .i64 elem)]
theorem callV_rel {ν:Nu} {no cpu id rno elem key:U} {va:A} {u:Value} (h:va.rel ν u) (hc:Cell u):(callV no cpu id rno elem va key).rel ν (callC no cpu id rno elem u key):=by
 refine ⟨_,rfl,?_⟩;simp only [T.rel,relTs];exact ⟨[_],_,rfl,oneK,[_],_,rfl,oneK,[_],_,rfl,oneK,[_,_,_,_],_,rfl,⟨[_],_,rfl,oneK,[_],_,rfl,⟨u,rfl,h,hc⟩,[_],_,rfl,oneK,[_],_,rfl,oneK,rfl⟩,rfl⟩
theorem e3_lnil (no cpu id rno elem key:U):(evalF cxK (Γ3 false false) 400 20 3 [one .nils,one .poison,callV no cpu id rno elem .poison key] (hM [] 4)).wayB []=some (true,.tt,some true,[]):=by kernel_rfl
theorem e3_lzero (no cpu id rno elem key:U):(evalF cxK (Γ3 false false) 400 20 3 [one (.sl 0 [] 5 (.lit 0) (.lit 0) none),one .poison,callV no cpu id rno elem .poison key] (hM [] 4)).wayB []=some (true,.tt,some true,[]):=by kernel_rfl
theorem nt60 {nt:Nat} (h63:nt<2 ^ 63) (h:some (BitVec.slt (K 60) (kk nt))≠some true):nt≤60:=by
 have e:BitVec.slt (K 60) (kk nt)=BitVec.slt (kk 60) (kk nt):=rfl;rw [e,slt_kk (by decide) h63] at h
 simp only [ne_eq,oI,decide_eq_true_eq] at h;omega
theorem okSt_ok {n nt:Nat} (h0:0<n) (hn:n≤10) (h1:0<nt) (h2:nt≤60):okB (.b (okSt n nt (Nat.beq n n) (Nat.beq nt nt)))=true:=by
 show okSt n nt (Nat.beq n n) (Nat.beq nt nt)=true;unfold okSt;rw [Nat.beq_refl,Nat.beq_refl,nB h0,nB hn,nB h1,nB h2];rfl
theorem ovl {l:Nat} (h:0<l):(Nat.beq l l&&Nat.blt 0 l)=true:=by
 rw [Nat.beq_refl,show Nat.blt 0 l=true from nB h]
 rfl
theorem newI:StI newVF newQF newFS:=⟨rel_new,rfl,inv_new⟩
def noTF:TF:=TF.of fun _=>noTW
theorem nilA_rel (ν:Nu):A.nils.rel ν (.slice none 0 0):=by simp only [A.rel]
theorem poiA_rel (ν:Nu) (u:Value):A.poison.rel ν u:=by simp only [A.rel]
theorem sl_cell {α:Type} {W:World} {tr:α->Nat->T} {u:Value} (h:SlIs W tr u):Cell u:=by
 rcases h with ⟨x,n,b,o,c,_,_,_,_,rfl⟩|rfl|⟨b,o,c,_,rfl⟩<;>trivial
theorem plans3 {W:World} {u0 u1 u2:Value} (hl:SlIs W DF.arr u0) (ht:SlIs W TF.arr u1) (hv:SlIs W WF u2) (no cpu id rno elem key:U):Calls Tryz.prog 3 #[u0,u1,callC no cpu id rno elem u2 key] W (RT3 W):=by
 rcases hl with ⟨D,n,b0,o0,c0,h0,h63,hc0,H0,rfl⟩|rfl|⟨b0,o0,c0,hb0,rfl⟩
 · have M0:=mark_at H0;rcases ht with ⟨F,nt,b1,o1,c1,g0,g63,hc1,H1,rfl⟩|rfl|⟨b1,o1,c1,hb1,rfl⟩ <;>
    rcases hv with ⟨g,l,b3,o3,c3,l0,l63,hc3,H3,rfl⟩|rfl|⟨b3,o3,c3,hb3,rfl⟩
   · have hm:Mem (fun _=>True) (nuA (b0,o0) (some (b1,o1)) (some (b3,o3))) W (hM [(0,⟨false,D.arr n⟩),(1,⟨false,F.arr nt⟩),(2,⟨false,.lst 7777 []⟩),(3,⟨false,.arr 1 (.sym l) (.int .u64 g)⟩)] 4):=mem_ro (fun i x hx=>by
      simp only [List.mem_cons,pI,List.not_mem_nil,or_false] at hx;rcases hx with ⟨rfl,rfl⟩|⟨rfl,rfl⟩|⟨rfl,rfl⟩|⟨rfl,rfl⟩
      · exact ⟨rfl,by decide,_,_,rfl,H0⟩
      · exact ⟨rfl,by decide,_,_,rfl,H1⟩
      · exact ⟨rfl,by decide,_,_,rfl,M0⟩
      · exact ⟨rfl,by decide,_,_,rfl,H3⟩) (nuA_fresh _ _ _) (nuA_lt H0.lt (fun q e=>by cases e;exact H1.lt) (fun q e=>by cases e;exact H3.lt)) rfl
     exact plans_of (e3_ss n D nt F l g) h0 h63 (nB g63) (fun hn hT=>okSt_ok h0 hn g0 (nt60 g63 hT)) (fold_I kno_k n F nt) (ovl l0) hm (us:=[_,_,_]) ⟨slA_rel (len :=.sym n) rfl hc0,slA_rel (len :=.sym nt) rfl hc1,callV_rel (slA_rel (len :=.sym l) rfl hc3) trivial,trivial⟩
   · have hm:Mem (fun _=>True) (nuA (b0,o0) (some (b1,o1)) none) W (hM [(0,⟨false,D.arr n⟩),(1,⟨false,F.arr nt⟩),(2,⟨false,.lst 7777 []⟩)] 4):=mem_ro (fun i x hx=>by
      simp only [List.mem_cons,pI,List.not_mem_nil,or_false] at hx;rcases hx with ⟨rfl,rfl⟩|⟨rfl,rfl⟩|⟨rfl,rfl⟩
      · exact ⟨rfl,by decide,_,_,rfl,H0⟩
      · exact ⟨rfl,by decide,_,_,rfl,H1⟩
      · exact ⟨rfl,by decide,_,_,rfl,M0⟩) (nuA_fresh _ _ _) (nuA_lt H0.lt (fun q e=>by cases e;exact H1.lt) (fun q e=>by cases e)) rfl
     exact plans_of (e3_sn n D nt F 0 (fun _=>K 0)) h0 h63 (nB g63) (fun hn hT=>okSt_ok h0 hn g0 (nt60 g63 hT)) (fold_I kno_k n F nt) rfl hm (us:=[_,_,_]) ⟨slA_rel (len :=.sym n) rfl hc0,slA_rel (len :=.sym nt) rfl hc1,callV_rel (nilA_rel (nuA (b0,o0) (some (b1,o1)) none)) trivial,trivial⟩
   · have hm:Mem (fun _=>True) (nuA (b0,o0) (some (b1,o1)) (some (b3,o3))) W (hM [(0,⟨false,D.arr n⟩),(1,⟨false,F.arr nt⟩),(2,⟨false,.lst 7777 []⟩)] 4):=mem_ro (fun i x hx=>by
      simp only [List.mem_cons,pI,List.not_mem_nil,or_false] at hx;rcases hx with ⟨rfl,rfl⟩|⟨rfl,rfl⟩|⟨rfl,rfl⟩
      · exact ⟨rfl,by decide,_,_,rfl,H0⟩
      · exact ⟨rfl,by decide,_,_,rfl,H1⟩
      · exact ⟨rfl,by decide,_,_,rfl,M0⟩) (nuA_fresh _ _ _) (nuA_lt H0.lt (fun q e=>by cases e;exact H1.lt) (fun q e=>by cases e;exact hb3)) rfl
     exact plans_of (e3_sz n D nt F 0 (fun _=>K 0)) h0 h63 (nB g63) (fun hn hT=>okSt_ok h0 hn g0 (nt60 g63 hT)) (fold_I kno_k n F nt) rfl hm (us:=[_,_,_]) ⟨slA_rel (len :=.sym n) rfl hc0,slA_rel (len :=.sym nt) rfl hc1,callV_rel (slA_rel (len :=.lit 0) rfl (Nat.zero_le _)) trivial,trivial⟩
   · have hm:Mem (fun _=>True) (nuA (b0,o0) none (some (b3,o3))) W (hM [(0,⟨false,D.arr n⟩),(2,⟨false,.lst 7777 []⟩),(3,⟨false,.arr 1 (.sym l) (.int .u64 g)⟩)] 4):=mem_ro (fun i x hx=>by
      simp only [List.mem_cons,pI,List.not_mem_nil,or_false] at hx;rcases hx with ⟨rfl,rfl⟩|⟨rfl,rfl⟩|⟨rfl,rfl⟩
      · exact ⟨rfl,by decide,_,_,rfl,H0⟩
      · exact ⟨rfl,by decide,_,_,rfl,M0⟩
      · exact ⟨rfl,by decide,_,_,rfl,H3⟩) (nuA_fresh _ _ _) (nuA_lt H0.lt (fun q e=>by cases e) (fun q e=>by cases e;exact H3.lt)) rfl
     exact plans_of (e3_ns n D 0 noTF l g) h0 h63 rfl (fun _ _=>rfl) newI (ovl l0) hm (us:=[_,_,_]) ⟨slA_rel (len :=.sym n) rfl hc0,nilA_rel (nuA (b0,o0) none (some (b3,o3))),callV_rel (slA_rel (len :=.sym l) rfl hc3) trivial,trivial⟩
   · have hm:Mem (fun _=>True) (nuA (b0,o0) none none) W (hM [(0,⟨false,D.arr n⟩),(2,⟨false,.lst 7777 []⟩)] 4):=mem_ro (fun i x hx=>by
      simp only [List.mem_cons,pI,List.not_mem_nil,or_false] at hx;rcases hx with ⟨rfl,rfl⟩|⟨rfl,rfl⟩
      · exact ⟨rfl,by decide,_,_,rfl,H0⟩
      · exact ⟨rfl,by decide,_,_,rfl,M0⟩) (nuA_fresh _ _ _) (nuA_lt H0.lt (fun q e=>by cases e) (fun q e=>by cases e)) rfl
     exact plans_of (e3_nn n D 0 noTF 0 (fun _=>K 0)) h0 h63 rfl (fun _ _=>rfl) newI rfl hm (us:=[_,_,_]) ⟨slA_rel (len :=.sym n) rfl hc0,nilA_rel (nuA (b0,o0) none none),callV_rel (nilA_rel (nuA (b0,o0) none none)) trivial,trivial⟩
   · have hm:Mem (fun _=>True) (nuA (b0,o0) none (some (b3,o3))) W (hM [(0,⟨false,D.arr n⟩),(2,⟨false,.lst 7777 []⟩)] 4):=mem_ro (fun i x hx=>by
      simp only [List.mem_cons,pI,List.not_mem_nil,or_false] at hx;rcases hx with ⟨rfl,rfl⟩|⟨rfl,rfl⟩
      · exact ⟨rfl,by decide,_,_,rfl,H0⟩
      · exact ⟨rfl,by decide,_,_,rfl,M0⟩) (nuA_fresh _ _ _) (nuA_lt H0.lt (fun q e=>by cases e) (fun q e=>by cases e;exact hb3)) rfl
     exact plans_of (e3_nz n D 0 noTF 0 (fun _=>K 0)) h0 h63 rfl (fun _ _=>rfl) newI rfl hm (us:=[_,_,_]) ⟨slA_rel (len :=.sym n) rfl hc0,nilA_rel (nuA (b0,o0) none (some (b3,o3))),callV_rel (slA_rel (len :=.lit 0) rfl (Nat.zero_le _)) trivial,trivial⟩
   · have hm:Mem (fun _=>True) (nuA (b0,o0) (some (b1,o1)) (some (b3,o3))) W (hM [(0,⟨false,D.arr n⟩),(2,⟨false,.lst 7777 []⟩),(3,⟨false,.arr 1 (.sym l) (.int .u64 g)⟩)] 4):=mem_ro (fun i x hx=>by
      simp only [List.mem_cons,pI,List.not_mem_nil,or_false] at hx;rcases hx with ⟨rfl,rfl⟩|⟨rfl,rfl⟩|⟨rfl,rfl⟩
      · exact ⟨rfl,by decide,_,_,rfl,H0⟩
      · exact ⟨rfl,by decide,_,_,rfl,M0⟩
      · exact ⟨rfl,by decide,_,_,rfl,H3⟩) (nuA_fresh _ _ _) (nuA_lt H0.lt (fun q e=>by cases e;exact hb1) (fun q e=>by cases e;exact H3.lt)) rfl
     exact plans_of (e3_zs n D 0 noTF l g) h0 h63 rfl (fun _ _=>rfl) newI (ovl l0) hm (us:=[_,_,_]) ⟨slA_rel (len :=.sym n) rfl hc0,slA_rel (len :=.lit 0) rfl (Nat.zero_le _),callV_rel (slA_rel (len :=.sym l) rfl hc3) trivial,trivial⟩
   · have hm:Mem (fun _=>True) (nuA (b0,o0) (some (b1,o1)) none) W (hM [(0,⟨false,D.arr n⟩),(2,⟨false,.lst 7777 []⟩)] 4):=mem_ro (fun i x hx=>by
      simp only [List.mem_cons,pI,List.not_mem_nil,or_false] at hx;rcases hx with ⟨rfl,rfl⟩|⟨rfl,rfl⟩
      · exact ⟨rfl,by decide,_,_,rfl,H0⟩
      · exact ⟨rfl,by decide,_,_,rfl,M0⟩) (nuA_fresh _ _ _) (nuA_lt H0.lt (fun q e=>by cases e;exact hb1) (fun q e=>by cases e)) rfl
     exact plans_of (e3_zn n D 0 noTF 0 (fun _=>K 0)) h0 h63 rfl (fun _ _=>rfl) newI rfl hm (us:=[_,_,_]) ⟨slA_rel (len :=.sym n) rfl hc0,slA_rel (len :=.lit 0) rfl (Nat.zero_le _),callV_rel (nilA_rel (nuA (b0,o0) (some (b1,o1)) none)) trivial,trivial⟩
   · have hm:Mem (fun _=>True) (nuA (b0,o0) (some (b1,o1)) (some (b3,o3))) W (hM [(0,⟨false,D.arr n⟩),(2,⟨false,.lst 7777 []⟩)] 4):=mem_ro (fun i x hx=>by
      simp only [List.mem_cons,pI,List.not_mem_nil,or_false] at hx;rcases hx with ⟨rfl,rfl⟩|⟨rfl,rfl⟩
      · exact ⟨rfl,by decide,_,_,rfl,H0⟩
      · exact ⟨rfl,by decide,_,_,rfl,M0⟩) (nuA_fresh _ _ _) (nuA_lt H0.lt (fun q e=>by cases e;exact hb1) (fun q e=>by cases e;exact hb3)) rfl
     exact plans_of (e3_zz n D 0 noTF 0 (fun _=>K 0)) h0 h63 rfl (fun _ _=>rfl) newI rfl hm (us:=[_,_,_]) ⟨slA_rel (len :=.sym n) rfl hc0,slA_rel (len :=.lit 0) rfl (Nat.zero_le _),callV_rel (slA_rel (len :=.lit 0) rfl (Nat.zero_le _)) trivial,trivial⟩
 · exact rt_of (e3_lnil no cpu id rno elem key) rfl rfl (mem_ro (ν:=fun _=>none) (fun i x hx=>by cases hx) (fun _ _=>rfl) (fun i r b h=>by cases h) rfl) (us:=[_,_,_]) ⟨nilA_rel (fun _=>none),poiA_rel (fun _=>none) u1,callV_rel (poiA_rel (fun _=>none) u2) (sl_cell hv),trivial⟩
 · exact rt_of (e3_lzero no cpu id rno elem key) rfl rfl (mem_ro (ν:=nuA (b0,o0) none none) (fun i x hx=>by cases hx) (nuA_fresh _ _ _) (nuA_lt hb0 (fun q e=>by cases e) (fun q e=>by cases e)) rfl) (us:=[_,_,_]) ⟨slA_rel (len :=.lit 0) rfl (Nat.zero_le _),poiA_rel (nuA (b0,o0) none none) u1,callV_rel (poiA_rel (nuA (b0,o0) none none) u2) (sl_cell hv),trivial⟩
end Go.WE
end
