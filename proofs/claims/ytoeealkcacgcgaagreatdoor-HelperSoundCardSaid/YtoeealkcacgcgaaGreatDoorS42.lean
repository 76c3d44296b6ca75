/- A part of a proof of the helpers' law; no condition of its own. -/
import Derived.Test.YtoeealkcacgcgaaGreatDoorS18
import Derived.Test.YtoeealkcacgcgaaGreatDoorS24
import Derived.Test.YtoeealkcacgcgaaGreatDoorS31
import Derived.Test.YtoeealkcacgcgaaGreatDoorS33
import Derived.Test.YtoeealkcacgcgaaGreatDoorS41
set_option linter.unusedVariables false
set_option maxRecDepth 100000
noncomputable section
namespace Go.WE
open Go Go.Proofs Go.RowKit
theorem k_in {k:U} (h:kDecl k=false):1≤k.toNat/\k.toNat≤10:=by
 unfold kDecl at h;cases h1:BitVec.slt k (K 1)
 · rw [h1,cond_false] at h;rw [BitVec.slt,decide_eq_false_iff_not,KtoInt (by omega)] at h1
   rw [BitVec.sle,decide_eq_false_iff_not,KtoInt (by omega)] at h
   have h2:=BitVec.toInt_eq_toNat_cond k;have h3:=k.isLt;split at h2<;>omega
 · rw [h1,cond_true] at h;cases h
theorem okKd_true (k:U):okKd k=true:=by
 unfold okKd;cases h:kDecl k
 · obtain ⟨h1,h2⟩:=k_in h;have h3:k.msb=false:=by
    rw [BitVec.msb_eq_decide];simp only [decide_eq_false_iff_not];omega
   have h4:Nat.blt k.toNat 11=true:=nB (by omega)
   rw [h3,h4];rfl
 · rfl
theorem okA_true (k e:U):okA k e=true:=by
 unfold okA;rw [okKd_true];cases cond (kDecl k) false true<;>cases inE e<;>rfl
theorem okBb_true (k e b:U):okBb k e b=true:=by
 unfold okBb;rw [okA_true];cases kB k<;>cases inB32 b<;>rfl
theorem okDc_true {n:Nat} (hn:n≤10) (k e b:U):okDc n k e b=true:=by
 unfold okDc;have:Nat.blt n (2 ^ 63)=true:=nB (by omega)
 rw [okBb_true,this];cases kN k<;>rfl
theorem okX_true {n:Nat} (hn:n≤10) (D:DF) (k e b i:U) (h:inM n i=true):okX n D k e b i=true:=by
 obtain ⟨m1,m2,m3,m4⟩:=inM_nat hn h;have a1:Nat.blt (i-K 1).toNat n=true:=by rw [m4];exact nB (by omega)
 have a2:Nat.blt (ixD i) n=true:=by unfold ixD;rw [Nat.zero_add];exact a1
 unfold okX;rw [okDc_true hn,m3,a1,a2,okKd_true];rfl
theorem ok1_true {n:Nat} (hn:n≤10) (D:DF) (k e w b i:U):ok1 n D k e w b i=true:=by
 unfold ok1;rw [okA_true,okBb_true,okDc_true hn];cases chA k e w
 · cases chB k b
   · cases hC:chC n k i
     · simp only [cond_false];cases hN:kN k
       · unfold chD;rw [hN];rfl
       · have hm:inM n i=true:=by
          unfold chC at hC;rw [hN,cond_true] at hC;cases h:inM n i
          · rw [h] at hC;cases hC
          · rfl
         rw [okX_true hn D k e b i hm];cases chD D k i<;>rfl
     · rfl
   · rfl
 · rfl
theorem chk1_good {n:Nat} {D:DF} {k e w b i:U} (h:chk1 n D k e w b i=K 0):1≤k.toNat/\k.toNat≤10/\wOK k.toNat w.toNat=true:=by
 unfold chk1 at h;cases hA:chA k e w
 · unfold chA at hA;cases hk:kDecl k
   · obtain ⟨h1,h2⟩:=k_in hk;rw [hk] at hA;simp only [cond_false,Bool.not_true] at hA;cases hE:inE e
     · rw [hE] at hA;cases hA
     · rw [hE] at hA;simp only [Bool.not_true,cond_false] at hA;have hW:inW k w=true:=by simpa using hA
       refine ⟨h1,h2,?_⟩;unfold inW at hW;cases w1:BitVec.sle (K 1) w
       · rw [w1] at hW;cases hW
       · rw [w1,cond_true] at hW;rw [BitVec.sle,decide_eq_true_eq,KtoInt (by omega)] at w1
         have hw2:=BitVec.toInt_eq_toNat_cond w;have hw3:=w.isLt;have fin:∀m:Nat,m≤4->BitVec.sle w (K m)=true->1≤w.toNat/\w.toNat≤m:=fun m hm hs=>by
          rw [BitVec.sle,decide_eq_true_eq,KtoInt (by omega)] at hs
          split at hw2<;>omega
         have one:BitVec.sle w (K 1)=true->Nat.beq w.toNat 1=true:=fun hs=>by
          obtain ⟨a,b⟩:=fin 1 (by decide) hs
          have:w.toNat=1:=by omega
          rw [this];rfl
         have four:BitVec.sle w (K 4)=true->(Nat.ble 1 w.toNat&&Nat.ble w.toNat 4)=true:=fun hs=>by
          obtain ⟨a,b⟩:=fin 4 (by decide) hs
          rw [bA];exact ⟨nB a,nB b⟩
         unfold kW at hW;rw [hk,cond_false] at hW;generalize k.toNat=q at hW h1 h2 ⊢
         match q,h1,h2 with
         | 1,_,_=>exact one hW
         | 2,_,_=>exact one hW
         | 3,_,_=>exact four hW
         | 4,_,_=>exact one hW
         | 5,_,_=>exact one hW
         | 6,_,_=>exact four hW
         | 7,_,_=>exact four hW
         | 8,_,_=>exact one hW
         | 9,_,_=>exact one hW
         | 10,_,_=>exact one hW
         | q+11,_,h=>omega
   · rw [hk] at hA;cases hA
 · rw [hA,cond_true] at h;exact absurd h (by decide)
structure DW where
 k:U
 e:U
 w:U
 b:U
 i:U
def DW.t (d:DW):T :=.st [.a (.i .i64 d.k),.a (.i .i64 d.e),.a (.i .i64 d.w),.a (.i .i64 d.b),.a (.i .i64 d.i)]
def DF.at (D:DF) (j:Nat):DW:=⟨D.k j,D.e j,D.w j,D.b j,D.i j⟩
def dwOf:T->Option DW
 | .st [.a k,.a e,.a w,.a b,.a i]=>match bvI .i64 k,bvI .i64 e,bvI .i64 w,bvI .i64 b,bvI .i64 i with
   | some k,some e,some w,some b,some i=>some ⟨k,e,w,b,i⟩
   | _,_,_,_,_=>none
 | _=>none
theorem dwOf_rel {t:T} {x:DW} (h:dwOf t=some x) {ν ν':Nu} {u:Value} (hr:t.relV ν u):x.t.relV ν' u:=by
 unfold dwOf at h;split at h
 · split at h
   · rename_i h1 h2 h3 h4 h5;cases h;obtain ⟨vs,rfl,hr⟩:=hr;refine ⟨vs,rfl,?_⟩;unfold DW.t;simp only [T.rel,relTs] at hr ⊢;obtain ⟨u1,w1,e1,r1,u2,w2,e2,r2,u3,w3,e3,r3,u4,w4,e4,r4,u5,w5,e5,r5,e6⟩:=hr;have c1:=bv_less1 (ν':=ν') h1 (ν:=ν) (vs:=u1) (by simpa only [T.rel] using r1)
     have c2:=bv_less1 (ν':=ν') h2 (ν:=ν) (vs:=u2) (by simpa only [T.rel] using r2)
     have c3:=bv_less1 (ν':=ν') h3 (ν:=ν) (vs:=u3) (by simpa only [T.rel] using r3)
     have c4:=bv_less1 (ν':=ν') h4 (ν:=ν) (vs:=u4) (by simpa only [T.rel] using r4)
     have c5:=bv_less1 (ν':=ν') h5 (ν:=ν) (vs:=u5) (by simpa only [T.rel] using r5)
     simp only [T.rel] at c1 c2 c3 c4 c5;exact ⟨u1,w1,e1,c1,u2,w2,e2,c2,u3,w3,e3,c3,u4,w4,e4,c4,u5,w5,e5,c5,e6⟩
   · cases h
 · cases h
def chkD (n:Nat) (D:DF) (d:DW):U:=chk1 n D d.k d.e d.w d.b d.i
def okCk (n:Nat) (o:Bool):Bool:=(Nat.blt 0 n&&Nat.ble n 10)&&o
def chkSp:List V->H->Option R
 | [.t (.a la),.t td],h=>match dfOf h la,dwOf td with
   | some (id,n,D,o),some d=>some (.leaf (.b (okCk n o)) (i64 (chkD n D d)) (h.sees [id]))
   | _,_=>none
 | _,_=>none
theorem chkSp_inv {args:List V} {h:H} {r:R} (e:chkSp args h=some r):∃la td id n D o d,args=[.t (.a la),.t td]/\dfOf h la=some (id,n,D,o)/\dwOf td=some d/\r = .leaf (.b (okCk n o)) (i64 (chkD n D d)) (h.sees [id]):=by
 unfold chkSp at e;split at e
 · split at e
   · rename_i h1 h2;cases e;exact ⟨_,_,_,_,_,_,_,rfl,h1,h2,rfl⟩
   · cases e
 · cases e
theorem check74_ok:AnyOK Tryz.prog 74 chkSp where
 ent:=enters_of entK 74 _ Tryz.func74 (by simp [Tryz.f74])
 ok:=by
  intro args h r ok v h' he hp hok;obtain ⟨la,td,id,n,D,o,d,rfl,h1,h2,rfl⟩:=chkSp_inv he;simp only [R.pick,oI,pI] at hp;obtain ⟨rfl,rfl,rfl⟩:=hp;have hok:okCk n o=true:=hok;unfold okCk at hok;simp only [bA] at hok;obtain ⟨⟨o1,o2⟩,o3⟩:=hok;have o1:0<n:=nL o1;have o2:=nL o2;refine fn_calm [id] fun S ν w us hm hS hus => ?_
  match us,hus with
  | [u0,u1],⟨r0,r1,_⟩=>
    obtain ⟨B,off,c,hH,rfl,hc,_⟩:=df_here hm h1 o3 (hS id (.head _)) o1 r0;obtain ⟨h',hp⟩:=res_some (chk_ev n D d.k d.e d.w d.b d.i);obtain ⟨_,hfn⟩:=evalF_fn (XK noΓ_ok) rfl hp (ok1_true o2 D _ _ _ _ _);refine (call_at hfn hH (vs:=[.slice (some ⟨B,off,none⟩) n c,u1]) ⟨slD_rel hc,dwOf_rel h2 r1,trivial⟩ rfl ν).mono ?_;rintro e w' ⟨u,rfl,hu,hb⟩;exact ⟨u,rfl,hu,hb⟩
 pan:=by intro args h r ok v h' he hp hok;obtain ⟨la,td,id,n,D,o,d,rfl,h1,h2,rfl⟩:=chkSp_inv he;simp [R.pickP] at hp
 ext:=by intro args h r he hlo;obtain ⟨la,td,id,n,D,o,d,rfl,h1,h2,rfl⟩:=chkSp_inv he;exact sees_ext [id] h
def ΓC:Gam:=anyΓ 74 chkSp noΓ
theorem ΓC_ok:ΓOK Tryz.prog ΓC:=anyΓ_ok check74_ok noΓ_ok
def c22:Code:=bodyOf Tryz.prog 22
def k0:Code:=c22.sA
def k1:Code:=c22.sB.sA
def k3:Code:=c22.sB.sB.sA.sA
def kL:Code:=c22.sB.sB.sA.sB.inn.inn
def k10:Code:=c22.sB.sB.sB
theorem c22_eq:c22 = .seq k0 (.seq k1 (.seq (.seq k3 (.block 0 (.loop kL))) k10)):=by kernel_rfl
def kh:Code:=kL.sA
def kf:Code:=kL.sB.sA
def kb:Code:=kL.sB.sB.sA.inn
def ki:Code:=kL.sB.sB.sB
theorem kL_eq:kL = .seq kh (.seq kf (.seq (.block 1 kb) ki)):=by kernel_rfl
theorem body22:Tryz.f22.body=some c22:=by kernel_rfl
def fp22:Fp:=⟨532277,22,66,fun _ _=>none⟩
def evK (c:Code) (l:List (Nat×V)) (ms:List (Nat×Blk)) (n:Nat):Out:=evalC cxK (evalF cxK ΓC 400 20) fp22 400 c (stOf l (hM ms n))
def mC (n:Nat) (D:DF):List (Nat×Blk):=[(0,⟨false,D.arr n⟩)]
def vK (n:Nat):List (Nat×V):=[(0,slD n)]
def vK3 (n:Nat) (i:A):List (Nat×V):=[(0,slD n),(9,slD n),(10,i64 (kk n)),(11,one i)]
section
variable (n:Nat) (D:DF) (i:U)
theorem k0_ev:endM fp22.km [0] [0] 1 (evK k0 (vK n) (mC n D) 1).pick=some ⟨.nrm,.tt,vK n,mC n D⟩:=by kernel_rfl
theorem k1_c:(evK k1 (vK n) (mC n D) 1).cnd=some (BitVec.slt (K 10) (kk n)):=by kernel_rfl
theorem k1_t:endM fp22.km [2] [0] 1 ((evK k1 (vK n) (mC n D) 1).at true)=some ⟨.ret,.b (Nat.blt n (2 ^ 63)),[(2,one (.lit .i64 19))],mC n D⟩:=by kernel_rfl
theorem k1_f:endM fp22.km [0] [0] 1 ((evK k1 (vK n) (mC n D) 1).at false)=some ⟨.nrm,.b (Nat.blt n (2 ^ 63)),vK n,mC n D⟩:=by kernel_rfl
theorem k3_ev:endM fp22.km [0,9,10,11] [0] 1 (evK k3 (vK n) (mC n D) 1).pick=some ⟨.nrm,.b (Nat.blt n (2 ^ 63)),vK3 n (.lit .i64 0),mC n D⟩:=by kernel_rfl
theorem kh_ev:endM fp22.km [0,9,10,11,12] [0] 1 (evK kh (vK3 n (.i .i64 i)) (mC n D) 1).pick=some ⟨.nrm,.tt,vK3 n (.i .i64 i)++[(12,one (.b (BitVec.slt i (kk n))))],mC n D⟩:=by kernel_rfl
theorem kf_c (c:Bool):(evK kf (vK3 n (.i .i64 i)++[(12,one (.b c))]) (mC n D) 1).cnd=some c:=by kernel_rfl
theorem kf_t (c:Bool):endM fp22.km [0,9,10,11] [0] 1 ((evK kf (vK3 n (.i .i64 i)++[(12,one (.b c))]) (mC n D) 1).at true)=some ⟨.nrm,.tt,vK3 n (.i .i64 i),mC n D⟩:=by kernel_rfl
theorem kf_f (c:Bool):endM fp22.km [0] [0] 1 ((evK kf (vK3 n (.i .i64 i)++[(12,one (.b c))]) (mC n D) 1).at false)=some ⟨.exit 0,.tt,vK n,mC n D⟩:=by kernel_rfl
def okKb (n:Nat) (i:U):Bool:=(vB i n&&Nat.blt (0+i.toNat) n)&&okCk n (Nat.beq n n)
theorem kb_c:(evK kb (vK3 n (.i .i64 i)) (mC n D) 1).cnd=some (chkD n D (D.at (0+i.toNat)) != K 0):=by kernel_rfl
theorem kb_t:endM fp22.km [2] [0] 1 ((evK kb (vK3 n (.i .i64 i)) (mC n D) 1).at true)=some ⟨.ret,.b (okKb n i),[(2,i64 (chkD n D (D.at (0+i.toNat))))],mC n D⟩:=by kernel_rfl
theorem kb_f:endM fp22.km [0,9,10,11] [0] 1 ((evK kb (vK3 n (.i .i64 i)) (mC n D) 1).at false)=some ⟨.nrm,.b (okKb n i),vK3 n (.i .i64 i),mC n D⟩:=by kernel_rfl
theorem ki_ev:endM fp22.km [0,9,10,11] [0] 1 (evK ki (vK3 n (.i .i64 i)) (mC n D) 1).pick=some ⟨.nrm,.tt,vK3 n (.i .i64 (i+K 1)),mC n D⟩:=by kernel_rfl
theorem k10_ev:endM fp22.km [2] [0] 1 (evK k10 (vK n) (mC n D) 1).pick=some ⟨.ret,.tt,[(2,one (.lit .i64 0))],mC n D⟩:=by kernel_rfl
end
def chkN (n:Nat) (D:DF):Nat->U
 | 0=>K 0
 | m+1=>cond (chkN n D m==K 0) (chkD n D (D.at m)) (chkN n D m)
def checkU (n:Nat) (D:DF):U:=cond (BitVec.slt (K 10) (kk n)) (K 19) (chkN n D n)
theorem chkN_zero {n:Nat} {D:DF}:∀{m:Nat},(∀j,j<m->chkD n D (D.at j)=K 0)->chkN n D m=K 0
 | 0,_=>rfl
 | m+1,h=>by
   show cond (chkN n D m==K 0) _ _=K 0;rw [chkN_zero (m:=m) fun j hj=>h j (by omega)]
   exact h m (by omega)
theorem chkN_first {n:Nat} {D:DF} {k:Nat} (hz:∀j,j<k->chkD n D (D.at j)=K 0) (hne:chkD n D (D.at k)≠K 0):∀m,k<m->chkN n D m=chkD n D (D.at k)
 | 0,h=>absurd h (by omega)
 | m+1,h=>by
   show cond (chkN n D m==K 0) _ _=_;by_cases e:k=m
   · subst e;rw [chkN_zero hz];rfl
   · rw [chkN_first hz hne m (by omega)]
     have:(chkD n D (D.at k)==K 0)=false:=by simpa using hne
     rw [this];rfl
theorem chkN_all {n:Nat} {D:DF}:∀{m:Nat},chkN n D m=K 0->∀j,j<m->chkD n D (D.at j)=K 0
 | 0,_,j,hj=>absurd hj (Nat.not_lt_zero _)
 | m+1,h,j,hj=>by
   have h:cond (chkN n D m==K 0) (chkD n D (D.at m)) (chkN n D m)=K 0:=h;cases e:chkN n D m==K 0
   · rw [e,cond_false] at h;rw [h] at e;exact absurd e (by decide)
   · rw [e,cond_true] at h;by_cases ej:j=m
     · subst ej;exact h
     · exact chkN_all (eq_of_beq e) j (by omega)
theorem check_good {n:Nat} {D:DF} (h63:n<2 ^ 63) (h:checkU n D=K 0):n≤10/\OKD n D:=by
 unfold checkU at h;cases h1:BitVec.slt (K 10) (kk n)
 · rw [h1,cond_false] at h;rw [BitVec.slt,decide_eq_false_iff_not,KtoInt (by omega)] at h1
   have hk:(kk n).toInt=n:=by
    rw [BitVec.toInt_eq_toNat_cond,kk_nat (by omega)]
    split<;>omega
   rw [hk] at h1;exact ⟨by omega,fun i hi=>chk1_good (chkN_all h i hi)⟩
 · rw [h1,cond_true] at h;exact absurd h (by decide)
theorem check22 {w:World} {b off n c:Nat} {D:DF} (h0:0<n) (h63:n<2 ^ 63) (hc:n≤c) (hH:HoldsAt w b off (D.arr n)):Calls Tryz.prog 22 #[.slice (some ⟨b,off,none⟩) n c] w fun e w'=>e = .returned (.int .i64 (vof .i64 (checkU n D)))/\Below w.heap.size w w':=by
 have X:=XK ΓC_ok;have st:OwnL fp22 1 (mC n D) w (vK n) { tmps := #[.slice (some ⟨b,off,none⟩) n c]++Array.replicate (Tryz.f22.ntmps-1) undef,defers:=[] } w:=
  OwnL.enterA (fp:=fp22) (args:=[slD n]) (vs:=[.slice (some ⟨b,off,none⟩) n c]) (mem_at hH) (fun id q base h x hx=>by have:=get_memT _ id x hx;unfold mC at this;simp only [List.mem_singleton,pI] at this;rw [this.2]) ⟨slD_rel hc,trivial⟩ (by show 1≤22;decide)
 have o63:okB (.b (Nat.blt n (2 ^ 63)))=true:=nB h63;refine calls_phases Tryz.func22 body22 ?_;rw [c22_eq];refine wp_two (OwnL.go X rfl (k0_ev n D) rfl rfl rfl (by kernel_rfl) (LessA.refl _) (LessM.refl _) st) fun a w1 hI => ?_
 cases h10:BitVec.slt (K 10) (kk n)
 · refine wp_two (OwnL.goB X rfl ((k1_c n D).trans (by rw [h10])) (k1_f n D) o63 rfl rfl (by kernel_rfl) (LessA.refl _) (LessM.refl _) hI) fun a w1 hI => ?_
   have hn10:n≤10:=by
    rw [BitVec.slt,decide_eq_false_iff_not,KtoInt (by omega)] at h10
    have hk:(kk n).toInt=n:=by
     rw [BitVec.toInt_eq_toNat_cond,kk_nat (by omega)]
     split<;>omega
    rw [hk] at h10;omega
   have eU:checkU n D=chkN n D n:=by unfold checkU;rw [h10];rfl
   rw [eU];have lK:LessA (vK3 n (.lit .i64 0)) (vK3 n (.i .i64 (kk 0))):=fun ν=>⟨rfl,same_rel,rfl,same_rel,rfl,same_rel,rfl,lit_less rfl,trivial⟩;refine wp_then (K:=fun a w1=>(∀j,j<n->chkD n D (D.at j)=K 0)/\OwnL fp22 1 (mC n D) w (vK n) a w1) ?_ fun a w1 hI => ?_
   · refine wp_two (OwnL.go X rfl (k3_ev n D) o63 rfl rfl (by kernel_rfl) lK (LessM.refl _) hI) fun a w1 hI => ?_
     refine for_any (fun k a w1=>(∀j,j<k->chkD n D (D.at j)=K 0)/\OwnL fp22 1 (mC n D) w (vK3 n (.i .i64 (kk k))) a w1) n ?_ ⟨fun j hj=>absurd hj (Nat.not_lt_zero _),hI⟩;rintro k hk a w1 ⟨hz,hI⟩;rw [kL_eq];refine wp_two (OwnL.go X rfl (kh_ev n D _) rfl rfl rfl (by kernel_rfl) (LessA.refl _) (LessM.refl _) hI) fun a w1 hI => ?_
     by_cases hkn:k<n
     · refine wp_two (OwnL.goB X rfl ((kf_c n D _ _).trans (by rw [slt_kk (by omega) (by omega),decide_eq_true hkn])) (kf_t n D _ _) rfl rfl rfl (by kernel_rfl) (LessA.refl _) (LessM.refl _) hI) fun a w1 hI => ?_
       have ek:(kk k).toNat=k:=kk_nat (by omega)
       have okb:okB (.b (okKb n (kk k)))=true:=by
        show okKb n (kk k)=true;unfold okKb vB okCk;have q1:Nat.blt k n=true:=nB hkn;have q2:Nat.blt 0 n=true:=nB h0;have q3:Nat.ble n 10=true:=nB hn10;have q4:Nat.beq n n=true:=Nat.beq_refl n;rw [ek,Nat.zero_add,msb_kk (by omega),q1,q2,q3,q4]
        rfl
       have e0:0+(kk k).toNat=k:=by rw [ek,Nat.zero_add]
       cases hd:chkD n D (D.at k) != K 0
       · have hz0:chkD n D (D.at k)=K 0:=by simpa using hd
         refine wp_two (wp_in (OwnL.goB X rfl ((kb_c n D _).trans (by rw [e0,hd])) (kb_f n D _) okb rfl rfl (by kernel_rfl) (LessA.refl _) (LessM.refl _) hI)) fun a w1 hI => ?_
         refine wp_mono (OwnL.go X rfl (ki_ev n D _) rfl rfl rfl (by kernel_rfl) (LessA.refl _) (LessM.refl _) hI) ?_
         rintro x' a' w' ⟨rfl,hI⟩;refine ⟨hkn,fun j hj => ?_,?_⟩
         · by_cases e:j=k
           · subst e;exact hz0
           · exact hz j (by omega)
         · rw [← kk_one];exact hI
       · have hne:chkD n D (D.at k)≠K 0:=bne_iff_ne.1 hd;have kt:=kb_t n D (kk k);rw [e0] at kt;refine wp_seq (wp_block (OwnL.phase (r:=⟨.ret,.b (okKb n (kk k)),[(2,i64 (chkD n D (D.at k)))],mC n D⟩) X rfl ((congrArg (endM fp22.km [2] [0] 1) (Out.at_pick ((kb_c n D _).trans (by rw [e0,hd])))).trans kt) okb rfl rfl (by kernel_rfl) (LessA.refl _) (LessM.refl _) hI fun ν' a' w' x' hx' h => ?_))
         have hx':x' = .ret:=hx';subst hx';show bodyPostD Tryz.prog Tryz.f22 _ .ret a' w';refine OwnL.left h rfl fun u ⟨ν,hu⟩ hb=>⟨?_,hb⟩;have hu:(A.i .i64 (chkD n D (D.at k))).rel ν u:=hu;simp only [A.rel] at hu;rw [hu,chkN_first hz hne n hkn]
     · obtain rfl:k=n:=by omega
       refine wp_seq (wp_mono (OwnL.outB X rfl ((kf_c _ D _ _).trans (by rw [slt_kk (by omega) (by omega),decide_eq_false (by omega)])) (kf_f _ D _ _) rfl rfl rfl (by kernel_rfl) (LessA.refl _) (LessM.refl _) hI) ?_)
       rintro x' a' w' ⟨rfl,hI⟩;exact ⟨hz,hI⟩
   · refine OwnL.phase (r:=⟨.ret,.tt,[(2,one (.lit .i64 0))],mC n D⟩) X rfl (k10_ev n D) rfl rfl rfl (by kernel_rfl) (LessA.refl _) (LessM.refl _) hI.2 fun ν' a' w' x' hx' h => ?_
     have hx':x' = .ret:=hx';subst hx';refine OwnL.left h rfl fun u ⟨ν,hu⟩ hb=>⟨?_,hb⟩;have hu:(A.lit .i64 0).rel ν u:=hu;simp only [A.rel] at hu;rw [hu.1,chkN_zero hI.1];rfl
 · refine wp_seq (OwnL.phase (r:=⟨.ret,.b (Nat.blt n (2 ^ 63)),[(2,one (.lit .i64 19))],mC n D⟩) X rfl ((congrArg (endM fp22.km [2] [0] 1) (Out.at_pick ((k1_c n D).trans (by rw [h10])))).trans (k1_t n D)) o63 rfl rfl (by kernel_rfl) (LessA.refl _) (LessM.refl _) hI fun ν' a' w' x' hx' h => ?_)
   have hx':x' = .ret:=hx';subst hx';show bodyPostD Tryz.prog Tryz.f22 _ .ret a' w';refine OwnL.left h rfl fun u ⟨ν,hu⟩ hb=>⟨?_,hb⟩;have hu:(A.lit .i64 19).rel ν u:=hu;simp only [A.rel] at hu;have eU:checkU n D=K 19:=by unfold checkU;rw [h10];rfl
   rw [hu.1,eU];rfl
def checkSp:List V->H->Option R
 | [.t (.a la)],h=>match dfOf h la with
   | some (id,n,D,o)=>some (.leaf (.b ((Nat.blt 0 n&&Nat.blt n (2 ^ 63))&&o)) (i64 (checkU n D)) (h.sees [id]))
   | none=>none
 | _,_=>none
theorem check22_ok:AnyOK Tryz.prog 22 checkSp where
 ent:=enters_of entK 22 _ Tryz.func22 (by simp [Tryz.f22])
 ok:=by
  intro args h r ok v h' he hp hok;unfold checkSp at he;split at he
  · split at he
    · rename_i la id n D o hd;cases he;simp only [R.pick,oI,pI] at hp;obtain ⟨rfl,rfl,rfl⟩:=hp;have hok:((Nat.blt 0 n&&Nat.blt n (2 ^ 63))&&o)=true:=hok;simp only [bA] at hok;obtain ⟨⟨o1,o2⟩,o3⟩:=hok;have o1:0<n:=nL o1;have o2:n<2 ^ 63:=nL o2;refine fn_calm [id] fun S ν w us hm hS hus => ?_
      match us,hus with
      | [u0],⟨r0,_⟩=>
        obtain ⟨B,off,c,hH,rfl,hc,_⟩:=df_here hm hd o3 (hS id (.head _)) o1 r0;refine (check22 o1 o2 hc hH).mono ?_;rintro e w' ⟨rfl,hb⟩;refine ⟨_,rfl,?_,hb⟩;show (A.i .i64 (checkU n D)).rel ν _;simp only [A.rel]
    · cases he
  · cases he
 pan:=by
  intro args h r ok v h' he hp hok;unfold checkSp at he;split at he
  · split at he
    · cases he;simp [R.pickP] at hp
    · cases he
  · cases he
 ext:=by
  intro args h r he hlo;unfold checkSp at he;split at he
  · split at he
    · cases he;exact sees_ext _ h
    · cases he
  · cases he
def hdI (x:U):Nat:=(x-K 1).toNat
def LikeP (n:Nat) (D:DF) (x y:U):Prop:=inM n x=true/\inM n y=true/\D.at (hdI x)=D.at (hdI y)
def InP (r:RW) (x:U):Prop:=(r.tv^^^x) &&& ~~~r.tm=K 0/\BitVec.ule r.ul x=true/\BitVec.ule x r.uh=true/\BitVec.sle r.sl x=true/\BitVec.sle x r.sh=true
def HoldsR (n:Nat) (D:DF) (r:RW) (v:VW):Prop:=
 r.k=K 0\/(r.k=K 1/\v.k=K 1/\InP r v.n)\/(r.k=K 2/\v.k=K 2/\v.n=r.o)\/(r.k=K 3/\v.k=K 3/\v.n=r.o)\/(r.k=K 4/\v.k=K 4/\LikeP n D v.i r.m) \/
 (r.k=K 6/\inM n r.m=true/\((v.k=K 1/\v.n=K 0)\/(v.k=K 5/\v.n=K 0/\LikeP n D v.m r.m))) \/
 (r.k=K 7/\inM n r.m=true/\((v.k=K 1/\v.n=K 0)\/(v.k=K 4/\LikeP n D v.i r.m)))
def rkT (k:A) (r:RW):T :=.st [.a k,.a (.i .i64 r.o),.a (.i .i64 r.m),.a (.i .i64 r.i),.st [.st [.a (.i .u64 r.tv),.a (.i .u64 r.tm)],.st [.a (.i .u64 r.ul),.a (.i .u64 r.uh)],.st [.a (.i .i64 r.sl),.a (.i .i64 r.sh)]]]
def vkT (k n:A) (v:VW):T :=.st [.a k,.a n,.a (.i .i64 v.m),.a (.i .i64 v.i)]
def e73 (n:Nat) (D:DF) (r v:T):R:=evalF cxK noΓ 400 20 73 [slD n,.t r,.t v] (hM [(0,⟨false,D.arr n⟩)] 1)
def l6 (n:Int):A :=.lit .i64 n
def oM (n:Nat) (x:U):Bool:=cond (BitVec.slt x (K 1)) true (BitVec.slt (kk n) x)
def hdIx (x:U):Nat:=0+(x-K 1).toNat
def dE (D:DF) (a b:Nat):Bool:=(D.k a==D.k b)&&((D.e a==D.e b)&&((D.w a==D.w b)&&((D.b a==D.b b)&&(D.i a==D.i b))))
section
variable (n:Nat) (D:DF) (c:Bool) (x y:U)
def hdA:Bool:=(!(!(BitVec.slt x (K 1))))||Nat.blt n (2 ^ 63)
def hdB:Bool:=(!(!c))||((!(BitVec.msb (x-K 1)))&&Nat.blt (x-K 1).toNat n)
def hdC:Bool:=(!(!c))||Nat.blt (hdIx x) n
def hdLA:Bool:=cond (oM n x) true (!(dE D (hdIx x) (hdIx x)))
def hdLB:Bool:=cond (oM n y) true (!(dE D (hdIx y) (hdIx x)))
def hdO1:Bool:=(hdA n x&&hdB n (oM n x) x)&&hdC n (oM n x) x
def hdO2:Bool:=(hdO1 n x&&hdB n (oM n x) x)&&hdC n (oM n x) x
def hdOk (p:Bool):Bool:=((((p&&hdA n y)&&hdB n (oM n y) y)&&hdC n (oM n y) y)&&hdB n (oM n y) x)&&hdC n (oM n y) x
def like2:Bool:=cond (hdLA n D x) false (cond (hdLB n D x y) false true)
def okL2:Bool:=cond (hdLA n D x) (hdO2 n x) (cond (hdLB n D x y) (hdOk n x y (hdO2 n x)) (hdOk n x y (hdO2 n x)))
def okL1:Bool:=cond (hdLA n D x) (hdO2 n x) (hdO2 n x)
end
def inB2 (r:RW) (x:U):Bool:=cond ((r.tv^^^x) &&& ~~~r.tm==K 0) (cond (cond (BitVec.ule r.ul x) (BitVec.ule x r.uh) false) (cond (BitVec.sle r.sl x) (BitVec.sle x r.sh) false) false) false
section
variable (n:Nat) (D:DF) (r:RW) (v:VW)
theorem h73_0:obsB (e73 n D (rkT (l6 0) r) v.t)=some (true,some true,[]):=by kernel_rfl
theorem h73_1:obsB (e73 n D (rkT (l6 1) r) (vkT (l6 1) (.i .u64 v.n) v))=some (true,some (inB2 r v.n),[]):=by kernel_rfl
theorem h73_2:obsB (e73 n D (rkT (l6 2) r) (vkT (l6 2) (.i .u64 v.n) v))=some (true,some (v.n==r.o),[]):=by kernel_rfl
theorem h73_3:obsB (e73 n D (rkT (l6 3) r) (vkT (l6 3) (.i .u64 v.n) v))=some (true,some (v.n==r.o),[]):=by kernel_rfl
theorem h73_4:obsB (e73 n D (rkT (l6 4) r) (vkT (l6 4) (.i .u64 v.n) v))=some (okL2 n D v.i r.m,some (like2 n D v.i r.m),[]):=by kernel_rfl
theorem h73_6n:obsB (e73 n D (rkT (l6 6) r) (vkT (l6 1) (.lit .u64 0) v))=some (okL1 n D r.m,some (cond (cond (hdLA n D r.m) false true) true false),[]):=by kernel_rfl
theorem h73_7n:obsB (e73 n D (rkT (l6 7) r) (vkT (l6 1) (.lit .u64 0) v))=some (okL1 n D r.m,some (cond (cond (hdLA n D r.m) false true) true false),[]):=by kernel_rfl
theorem h73_6c:obsB (e73 n D (rkT (l6 6) r) (vkT (l6 5) (.lit .u64 0) v))=some (okL1 n D r.m&&((!(false==false))||okL2 n D v.m r.m),some (cond (cond (hdLA n D r.m) false true) (like2 n D v.m r.m) false),[]):=by kernel_rfl
theorem h73_7m:obsB (e73 n D (rkT (l6 7) r) (vkT (l6 4) (.i .u64 v.n) v))=some (okL1 n D r.m&&((!(false==false))||okL2 n D v.i r.m),some (cond (cond (hdLA n D r.m) false true) (like2 n D v.i r.m) false),[]):=by kernel_rfl
end
theorem truth_free {x:A} {b:Bool} (h:truthA x=some b):(V.t (.a x)).free=true:=by
 unfold truthA at h;split at h<;>first|rfl|cases h
theorem hd_case {n:Nat} {D:DF} {r v:T} {W:World} {B off c:Nat} {ur uv:Value} {b y:Bool} (he:obsB (e73 n D r v)=some (b,some y,[])) (hb:b=true) (hy:y=true) (hH:HoldsAt W B off (D.arr n)) (hc:n≤c) (h1:(V.t r).rel (nuAt B off) ur) (h2:(V.t v).rel (nuAt B off) uv) :
 Calls Tryz.prog 73 #[.slice (some ⟨B,off,none⟩) n c,ur,uv] W fun e w'=>e = .returned (.bool true)/\Below W.heap.size W w':=by
 obtain ⟨ok,x,h',hp,ho,hx,hw⟩:=obsB_some he;obtain ⟨_,hfn⟩:=evalF_fn (XK noΓ_ok) rfl hp (ho.trans hb);refine (call_at hfn hH (vs:=[.slice (some ⟨B,off,none⟩) n c,ur,uv]) ⟨slD_rel hc,h1,h2,trivial⟩ (truth_free hx) nu0).mono ?_;rintro e w' ⟨u,rfl,hu,hbl⟩;have hu:x.rel nu0 u:=hu;exact ⟨by rw [truthA_rel hx hu,hy],hbl⟩
theorem rk_rel {r:RW} {c:Int} (hk:r.k=K c) (hc:IntKind.i64.wrap c=c) {ν:Nu} {u:Value} (h:(V.t r.t).rel ν u):(V.t (rkT (l6 c) r)).rel ν u:=by
 obtain ⟨vs,rfl,hr⟩:=h;refine ⟨vs,rfl,?_⟩;unfold RW.t at hr;unfold rkT l6;simp only [T.rel,relTs,A.rel,hk] at hr ⊢;obtain ⟨a1,b1,e1,⟨v,e2,e3,e4⟩,q⟩:=hr;exact ⟨a1,b1,e1,⟨v,e2,⟨by rw [e3,vof_ofInt hc],hc⟩,e4⟩,q⟩
theorem vk_rel {v:VW} {c:Int} (hk:v.k=K c) (hc:IntKind.i64.wrap c=c) {ν:Nu} {u:Value} (h:(V.t v.t).rel ν u):(V.t (vkT (l6 c) (.i .u64 v.n) v)).rel ν u:=by
 obtain ⟨vs,rfl,hr⟩:=h;refine ⟨vs,rfl,?_⟩;unfold VW.t at hr;unfold vkT l6;simp only [T.rel,relTs,A.rel,hk] at hr ⊢;obtain ⟨a1,b1,e1,⟨v,e2,e3,e4⟩,q⟩:=hr;exact ⟨a1,b1,e1,⟨v,e2,⟨by rw [e3,vof_ofInt hc],hc⟩,e4⟩,q⟩
theorem vk0_rel {v:VW} {c:Int} (hk:v.k=K c) (hn:v.n=K 0) (hc:IntKind.i64.wrap c=c) {ν:Nu} {u:Value} (h:(V.t v.t).rel ν u):(V.t (vkT (l6 c) (.lit .u64 0) v)).rel ν u:=by
 obtain ⟨vs,rfl,hr⟩:=h;refine ⟨vs,rfl,?_⟩;unfold VW.t at hr;unfold vkT l6;simp only [T.rel,relTs,A.rel,hk,hn] at hr ⊢;obtain ⟨a1,b1,e1,⟨v,e2,e3,e4⟩,a2,b2,e5,⟨v2,e6,e7,e8⟩,q⟩:=hr;exact ⟨a1,b1,e1,⟨v,e2,⟨by rw [e3,vof_ofInt hc],hc⟩,e4⟩,a2,b2,e5,⟨v2,e6,⟨by rw [e7];rfl,rfl⟩,e8⟩,q⟩
section
variable {n:Nat} {D:DF} {x y:U}
theorem oM_false {n:Nat} {x:U} (h:inM n x=true):oM n x=false/\BitVec.slt x (K 1)=false:=by
 unfold inM at h;unfold oM;rw [slt_not_sle,slt_not_sle];cases h1:BitVec.sle (K 1) x
 · rw [h1] at h;cases h
 · rw [h1,cond_true] at h;rw [h];exact ⟨rfl,rfl⟩
theorem hdA_true (hn:n≤10):hdA n x=true:=by
 unfold hdA;rw [show Nat.blt n (2 ^ 63)=true from nB (by omega),Bool.or_true]
theorem hdB_true (hn:n≤10) (c:Bool) (h:inM n x=true):hdB n c x=true:=by
 obtain ⟨h1,h2,h3,h4⟩:=inM_nat hn h;unfold hdB;rw [h3,show Nat.blt (x-K 1).toNat n=true from nB (by omega)]
 exact Bool.or_true _
theorem hdC_true (hn:n≤10) (c:Bool) (h:inM n x=true):hdC n c x=true:=by
 obtain ⟨h1,h2,h3,h4⟩:=inM_nat hn h;unfold hdC hdIx;rw [show Nat.blt (0+(x-K 1).toNat) n=true from nB (by omega),Bool.or_true]
theorem dE_true {a b:Nat} (h:D.at a=D.at b):dE D a b=true:=by
 unfold DF.at at h;simp only [DW.mk.injEq] at h;obtain ⟨h1,h2,h3,h4,h5⟩:=h;unfold dE;rw [h1,h2,h3,h4,h5];simp only [beq_self_eq_true,Bool.and_self]
theorem hdLA_false (h:inM n x=true):hdLA n D x=false:=by
 unfold hdLA;rw [(oM_false h).1,dE_true rfl];rfl
theorem hdO2_true (hn:n≤10) (h:inM n x=true):hdO2 n x=true:=by
 unfold hdO2 hdO1;rw [hdA_true hn,hdB_true hn _ h,hdC_true hn _ h];rfl
theorem like_true (hn:n≤10) (h:LikeP n D x y):like2 n D x y=true/\okL2 n D x y=true:=by
 obtain ⟨h1,h2,h3⟩:=h;have e:hdLB n D x y=false:=by
  unfold hdLB;rw [(oM_false h2).1,dE_true (a:=hdIx y) (b:=hdIx x) (by
   unfold hdIx;rw [Nat.zero_add,Nat.zero_add];exact h3.symm)]
  rfl
 unfold like2 okL2;rw [hdLA_false h1,e];refine ⟨rfl,?_⟩;show hdOk n x y (hdO2 n x)=true;unfold hdOk;rw [hdO2_true hn h1,hdA_true hn,hdB_true hn _ h2,hdC_true hn _ h2,hdB_true hn _ h1,hdC_true hn _ h1];rfl
theorem okL1_true (hn:n≤10) (h:inM n x=true):okL1 n D x=true:=by
 unfold okL1;rw [hdO2_true hn h];cases hdLA n D x<;>rfl
theorem inB2_true {r:RW} (h:InP r x):inB2 r x=true:=by
 obtain ⟨h1,h2,h3,h4,h5⟩:=h;unfold inB2;rw [h1,h2,h3,h4,h5];rfl
end
theorem holds73 {n:Nat} (hn:n≤10) {D:DF} {r:RW} {v:VW} (h:HoldsR n D r v) {W:World} {B off c:Nat} {ur uv:Value} (hH:HoldsAt W B off (D.arr n)) (hc:n≤c) (h1:(V.t r.t).rel (nuAt B off) ur) (h2:(V.t v.t).rel (nuAt B off) uv) :
 Calls Tryz.prog 73 #[.slice (some ⟨B,off,none⟩) n c,ur,uv] W fun e w'=>e = .returned (.bool true)/\Below W.heap.size W w':=by
 rcases h with hk|⟨hk,hv,hi⟩|⟨hk,hv,hi⟩|⟨hk,hv,hi⟩|⟨hk,hv,hi⟩|⟨hk,hm,⟨hv,hz⟩|⟨hv,hz,hi⟩⟩|⟨hk,hm,⟨hv,hz⟩|⟨hv,hi⟩⟩
 · exact hd_case (h73_0 n D r v) rfl rfl hH hc (rk_rel hk rfl h1) h2
 · exact hd_case (h73_1 n D r v) rfl (inB2_true hi) hH hc (rk_rel hk rfl h1) (vk_rel hv rfl h2)
 · exact hd_case (h73_2 n D r v) rfl (by rw [hi];exact beq_self_eq_true _) hH hc (rk_rel hk rfl h1) (vk_rel hv rfl h2)
 · exact hd_case (h73_3 n D r v) rfl (by rw [hi];exact beq_self_eq_true _) hH hc (rk_rel hk rfl h1) (vk_rel hv rfl h2)
 · obtain ⟨q1,q2⟩:=like_true hn hi;exact hd_case (h73_4 n D r v) q2 q1 hH hc (rk_rel hk rfl h1) (vk_rel hv rfl h2)
 · exact hd_case (h73_6n n D r v) (okL1_true hn hm) (by rw [hdLA_false hm];rfl) hH hc (rk_rel hk rfl h1) (vk0_rel hv hz rfl h2)
 · obtain ⟨q1,q2⟩:=like_true hn hi;exact hd_case (h73_6c n D r v) (by rw [okL1_true hn hm,q2];rfl) (by rw [hdLA_false hm,q1];rfl) hH hc (rk_rel hk rfl h1) (vk0_rel hv hz rfl h2)
 · exact hd_case (h73_7n n D r v) (okL1_true hn hm) (by rw [hdLA_false hm];rfl) hH hc (rk_rel hk rfl h1) (vk0_rel hv hz rfl h2)
 · obtain ⟨q1,q2⟩:=like_true hn hi;exact hd_case (h73_7m n D r v) (by rw [okL1_true hn hm,q2];rfl) (by rw [hdLA_false hm,q1];rfl) hH hc (rk_rel hk rfl h1) (vk_rel hv rfl h2)
def hdSp:List V->H->Option R
 | [.t (.a la),.t rt,.t vt],h=>match dfOf h la,rwOfT rt,vwOfT vt with
   | some (id,n,D,o),some r,some v=>some (.leaf (.b ((Nat.ble 1 n&&Nat.ble n 10)&&(o&&dec (HoldsR n D r v)))) (one .tt) (h.sees [id]))
   | _,_,_=>none
 | _,_=>none
theorem hdSp_inv {args:List V} {h:H} {q:R} (e:hdSp args h=some q):∃la rt vt id n D o r v,args=[.t (.a la),.t rt,.t vt]/\dfOf h la=some (id,n,D,o)/\rwOfT rt=some r/\vwOfT vt=some v/\q = .leaf (.b ((Nat.ble 1 n&&Nat.ble n 10)&&(o&&dec (HoldsR n D r v)))) (one .tt) (h.sees [id]):=by
 unfold hdSp at e;split at e
 · split at e
   · rename_i h1 h2 h3;cases e;exact ⟨_,_,_,_,_,_,_,_,_,rfl,h1,h2,h3,rfl⟩
   · cases e
 · cases e
theorem hd73_ok:AnyOK Tryz.prog 73 hdSp where
 ent:=enters_of entK 73 _ Tryz.func73 (by simp [Tryz.f73])
 ok:=by
  intro args h q ok v h' he hp hok;obtain ⟨la,rt,vt,id,n,D,o,r,vw,rfl,h1,h2,h3,rfl⟩:=hdSp_inv he;simp only [R.pick,oI,pI] at hp;obtain ⟨rfl,rfl,rfl⟩:=hp;have hok:((Nat.ble 1 n&&Nat.ble n 10)&&(o&&dec (HoldsR n D r vw)))=true:=hok;simp only [bA] at hok;obtain ⟨⟨a1,a2⟩,ho,hd⟩:=hok;have a1:=nL a1;have a2:=nL a2;refine fn_calm [id] fun S ν w us hm hS hus => ?_
  match us,hus with
  | [u0,u1,u2],⟨r0,r1,r2,_⟩=>
    obtain ⟨B,off,c,hH,rfl,hc,_⟩:=df_here hm h1 ho (hS id (.head _)) (by omega) r0
    refine (holds73 a2 (of_dec hd) hH hc (rwOfT_rel h2 r1) (vwOfT_rel h3 r2)).mono ?_;rintro e w' ⟨rfl,hb⟩;refine ⟨_,rfl,?_,hb⟩;show A.tt.rel ν _;simp only [A.rel]
 pan:=by intro args h q ok v h' he hp hok;obtain ⟨la,rt,vt,id,n,D,o,r,vw,rfl,h1,h2,h3,rfl⟩:=hdSp_inv he;simp [R.pickP] at hp
 ext:=by intro args h q he hlo;obtain ⟨la,rt,vt,id,n,D,o,r,vw,rfl,h1,h2,h3,rfl⟩:=hdSp_inv he;exact sees_ext [id] h
def scOf:T->Option RW
 | .st [.st [.a tv,.a tm],.st [.a ul,.a uh],.st [.a sl,.a sh]]=>match bvI .u64 tv,bvI .u64 tm,bvI .u64 ul,bvI .u64 uh,bvI .i64 sl,bvI .i64 sh with
   | some tv,some tm,some ul,some uh,some sl,some sh=>some ⟨K 0,K 0,K 0,K 0,tv,tm,ul,uh,sl,sh⟩
   | _,_,_,_,_,_=>none
 | _=>none
theorem scOf_rel {t:T} {r:RW} (h:scOf t=some r) {ν ν':Nu} {u:Value} (hr:(V.t t).rel ν u):(V.t (scT r)).rel ν' u:=by
 unfold scOf at h;split at h
 · split at h
   · rename_i h1 h2 h3 h4 h5 h6;cases h;obtain ⟨vs,rfl,hr⟩:=hr;refine ⟨vs,rfl,?_⟩;unfold scT;simp only [T.rel,relTs] at hr ⊢;obtain ⟨u1,w1,e1,⟨a1,b1,c1,r1,a2,b2,c2,r2,c3⟩,u2,w2,e2,⟨a4,b4,c4,r4,a5,b5,c5,r5,c6⟩,u3,w3,e3,⟨a7,b7,c7,r7,a8,b8,c8,r8,c9⟩,e4⟩:=hr;have d1:=bv_less1 (ν':=ν') h1 (ν:=ν) (vs:=a1) (by simpa only [T.rel] using r1)
     have d2:=bv_less1 (ν':=ν') h2 (ν:=ν) (vs:=a2) (by simpa only [T.rel] using r2)
     have d3:=bv_less1 (ν':=ν') h3 (ν:=ν) (vs:=a4) (by simpa only [T.rel] using r4)
     have d4:=bv_less1 (ν':=ν') h4 (ν:=ν) (vs:=a5) (by simpa only [T.rel] using r5)
     have d5:=bv_less1 (ν':=ν') h5 (ν:=ν) (vs:=a7) (by simpa only [T.rel] using r7)
     have d6:=bv_less1 (ν':=ν') h6 (ν:=ν) (vs:=a8) (by simpa only [T.rel] using r8)
     simp only [T.rel] at d1 d2 d3 d4 d5 d6;exact ⟨u1,w1,e1,⟨a1,b1,c1,d1,a2,b2,c2,d2,c3⟩,u2,w2,e2,⟨a4,b4,c4,d3,a5,b5,c5,d4,c6⟩,u3,w3,e3,⟨a7,b7,c7,d5,a8,b8,c8,d6,c9⟩,e4⟩
   · cases h
 · cases h
def normS:List V->Option (A×V)
 | [.t t]=>match scOf t with
   | some r=>some (.tt,nmT (NS.start r).turn.turn)
   | none=>none
 | _=>none
theorem norm_ok {Γ:Gam} (hΓ:ΓOK Tryz.prog Γ):ΓOK Tryz.prog (specG 77 normS Γ):=by
 refine specG_ok (fun args ok v hs hok => ?_) hΓ;unfold normS at hs;split at hs
 · rename_i t;split at hs
   · rename_i r hr;simp only [oI,pI] at hs;obtain ⟨rfl,rfl⟩:=hs;refine PureOK.more (pure_of_eval (XK ΓO_ok) rfl (norm_ev r) rfl rfl rfl) fun ν vs hv => ?_
     match vs,hv with
     | [u],⟨h,_⟩=>exact ⟨scOf_rel hr h,trivial⟩
   · cases hs
 · cases hs
def ΓNm:Gam:=specG 77 normS ΓO
theorem ΓNm_ok:ΓOK Tryz.prog ΓNm:=norm_ok ΓO_ok
def loT (t:TW):U:=t.v-cond (BitVec.ult t.l t.v) t.l t.v
def hiT (t:TW):U:=t.v+cond (BitVec.ult t.r (K 18446744073709551615-t.v)) t.r (K 18446744073709551615-t.v)
def nmW (t:TW):RW:=(NS.start ⟨K 0,K 0,K 0,K 0,K 0,K 18446744073709551615,loT t,hiT t,K (-9223372036854775808),K 9223372036854775807⟩).turn.turn.fin
def sel4 (t:TW) (a b c d x:U):U:=cond (t.k==K 0) a (cond (t.k==K 2) b (cond (t.k==K 3) c (cond (t.k==K 4) d x)))
def knoY (t:TW) (n:Nat) (w:RW):RW:=
 let z:=fun x=>sel4 t (K 0) (K 0) (K 0) (K 0) x
 ⟨kdU t.k,cond (t.k==K 0) (K 0) (cond (t.k==K 2) (K 0) (cond (t.k==K 3) (cutU t.o) (K 0))),sel4 t (K 0) (K 0) (K 0) (K 1+pickU t.m (kk n)) (K 0),K 0,z w.tv,z w.tm,z w.ul,z w.uh,z w.sl,z w.sh⟩
def knoX (t:TW) (n:Nat):RW:=knoY t n (nmW t)
def kEx (t:TW) (n:Nat) (D:DF):Option (A×V):=(evalF cxK ΓNm 400 20 30 [.t t.t,slD n] (hM [(0,⟨false,D.arr n⟩)] 1)).res
def knoXT (t:TW) (n:Nat):T:=match kEx t n dz with
 | some (_,.t x)=>x
 | _ =>.bad
theorem knox_ev (t:TW) (n:Nat) (D:DF):kEx t n D=some (.b (okT t n),.t (knoXT t n)):=by kernel_rfl
theorem knox_w (t:TW) (n:Nat):rwOfT (knoXT t n)=some (knoX t n):=by kernel_rfl
theorem knox_k (t:TW) (n:Nat):(knoX t n).k=kdU t.k:=rfl
theorem knox_free (t:TW) (n:Nat):(knoXT t n).free=true:=by kernel_rfl
theorem thG_ok {Γ:Gam} (hG:ΓOK Tryz.prog Γ) {f:Nat} {out0 out:TW->Nat->T} (hent:Enters Tryz.prog f) (he:∀t n (D:DF),(evalF cxK Γ 400 20 f [.t t.t,slD n] (hM [(0,⟨false,D.arr n⟩)] 1)).res=some (.b (okT t n),.t (out0 t n))) (hg:∀(t:TW) n (D:DF),Γ f [.t t.t,slD n] (hM [(0,⟨false,D.arr n⟩)] 1)=none)
 (hf:∀t n,(out0 t n).free=true) (hr:∀t n ν u,(V.t (out0 t n)).rel ν u->(V.t (out t n)).rel ν u):AnyOK Tryz.prog f (thSp out) where
 ent:=hent
 ok:=by
  intro args h r ok v h' he' hp hok;obtain ⟨tt,la,t,id,n,D,o,rfl,h1,h2,rfl⟩:=thSp_inv he';simp only [R.pick,oI,pI] at hp;obtain ⟨rfl,rfl,rfl⟩:=hp;have hok:((okT t n&&Nat.blt 0 n)&&o)=true:=hok;rw [bA,bA] at hok;obtain ⟨hok,ho⟩:=hok;have h0:0<n:=nL hok.2;refine fn_calm [id] fun S ν w us hm hS hus => ?_
  match us,hus with
  | [u0,u1],⟨r0,r1,_⟩=>
    obtain ⟨B,off,c,hH,rfl,hc,_⟩:=df_here hm h2 ho (hS id (.head _)) h0 r1;obtain ⟨h',hp⟩:=res_some (he t n D);obtain ⟨_,hfn⟩:=evalF_fn (XK hG) (hg t n D) hp hok.1;refine (call_at hfn hH (vs:=[u0,.slice (some ⟨B,off,none⟩) n c]) ⟨twOf_rel h1 r0,slD_rel hc,trivial⟩ (hf t n) ν).mono ?_;rintro e w' ⟨u,rfl,hu,hb⟩;exact ⟨u,rfl,hr _ _ _ _ hu,hb⟩
 pan:=by intro args h r ok v h' he' hp hok;obtain ⟨tt,la,t,id,n,D,o,rfl,h1,h2,rfl⟩:=thSp_inv he';simp [R.pickP] at hp
 ext:=by intro args h r he' hlo;obtain ⟨tt,la,t,id,n,D,o,rfl,h1,h2,rfl⟩:=thSp_inv he';exact sees_ext [id] h
theorem knox_ok:AnyOK Tryz.prog 30 (knoSp knoX):=thG_ok ΓNm_ok (enters_of entK 30 _ Tryz.func30 (by simp [Tryz.f30])) knox_ev (fun _ _ _=>rfl) knox_free fun t n ν u h=>rwOfT_rel (knox_w t n) h
theorem in_of {s:NS} {x:U} (ho:s.ok=true) (h:InS s x):InP s.fin x:=by
 unfold InP NS.fin;rw [ho];refine ⟨BitVec.eq_of_getLsbD_eq fun i hi => ?_,decide_eq_true h.ul,decide_eq_true h.uh,decide_eq_true h.sl,decide_eq_true h.sh⟩;show ((s.tv^^^x) &&& ~~~s.tm).getLsbD i=(0#64).getLsbD i;rw [BitVec.getLsbD_and,BitVec.getLsbD_xor,BitVec.getLsbD_not,BitVec.getLsbD_zero];cases hm:s.tm.getLsbD i
 · rw [h.t i hi hm];simp
 · simp
theorem nm_in (t:TW):InP (nmW t) t.v:=by
 have hlt:=t.v.isLt;have hmax:(K 18446744073709551615).toNat=18446744073709551615:=rfl;have hb:∀i,i<64->(K 18446744073709551615).getLsbD i=true:=fun i hi=>by
  have e:K 18446744073709551615=BitVec.allOnes 64:=by decide
  rw [e,BitVec.getLsbD_allOnes,decide_eq_true hi]
 have st:InS (NS.start ⟨K 0,K 0,K 0,K 0,K 0,K 18446744073709551615,loT t,hiT t,K (-9223372036854775808),K 9223372036854775807⟩) t.v:=by
  have q:=int_of t.v;have q3:=BitVec.msb_eq_decide t.v;refine ⟨fun i hi e => ?_,fun i hi e => ?_,?_,?_,?_,?_⟩
  · have e:(K 18446744073709551615).getLsbD i=false:=e;rw [hb i hi] at e;cases e
  · show (0#64).getLsbD i=false;rw [BitVec.getLsbD_zero]
  · show (loT t).toNat≤_;unfold loT;rw [BitVec.toNat_sub];cases h:BitVec.ult t.l t.v
    · rw [cond_false];omega
    · rw [BitVec.ult,decide_eq_true_eq] at h;rw [cond_true];omega
  · show _≤(hiT t).toNat;unfold hiT;have e:(K 18446744073709551615-t.v).toNat=18446744073709551615-t.v.toNat:=by
     rw [BitVec.toNat_sub,hmax];omega
    rw [BitVec.toNat_add];cases h:BitVec.ult t.r (K 18446744073709551615-t.v)
    · rw [cond_false,e];omega
    · rw [BitVec.ult,decide_eq_true_eq,e] at h;rw [cond_true];omega
  · show (K (-9223372036854775808)).toInt≤_;have e1:(K (-9223372036854775808)).toInt = -9223372036854775808:=rfl;rw [e1];split at q<;>rename_i h4
    · rw [q3,decide_eq_true_eq] at h4;omega
    · omega
  · show _≤(K 9223372036854775807).toInt;have e2:(K 9223372036854775807).toInt=9223372036854775807:=rfl;rw [e2];split at q<;>rename_i h4
    · omega
    · rw [q3,decide_eq_true_eq] at h4;omega
 obtain ⟨o1,h1⟩:=turn_in rfl st;obtain ⟨o2,h2⟩:=turn_in o1 h1;exact in_of o2 h2
theorem pick_in {n:Nat} (h1:1≤n) (hn:n≤10) (x:U):inM n (K 1+pickU x (kk n))=true:=by
 have h:=pick_lt n h1 (by omega) x
 have ek:(K (n:Int):U)=kk n:=by show BitVec.ofInt 64 (n:Int)=BitVec.ofNat 64 n;rw [BitVec.ofInt_natCast]
 rw [ek] at h;have e:(K 1+pickU x (kk n)).toNat=1+(pickU x (kk n)).toNat:=by rw [BitVec.toNat_add];have:(K 1).toNat=1:=rfl;rw [this];omega
 generalize K 1+pickU x (kk n)=y at e;have hy:=BitVec.toInt_eq_toNat_cond y;have hk:=BitVec.toInt_eq_toNat_cond (kk n);rw [kk_nat (by omega)] at hk
 have k1:(K 1).toInt=1:=rfl;unfold inM;rw [BitVec.sle,BitVec.sle,k1,decide_eq_true (by split at hy<;>omega),cond_true,decide_eq_true (by split at hy<;>split at hk<;>omega)]
theorem thing_holdsY {n:Nat} (h1:1≤n) (hn:n≤10) (D:DF) (t:TW) {w:RW} (hi:InP w t.v):HoldsR n D (knoY t n w) (valW t n):=by
 unfold HoldsR;cases e0:t.k==K 0
 · cases e2:t.k==K 2
   · cases e3:t.k==K 3
     · cases e4:t.k==K 4
       · refine .inr (.inl ⟨?_,?_,?_⟩)
         · show kdU t.k=K 1;unfold kdU;rw [e0,e2,e3,e4];rfl
         · show kdU t.k=K 1;unfold kdU;rw [e0,e2,e3,e4];rfl
         · have hn:(valW t n).n=t.v:=by
            unfold valW;rw [e0,e2,e3,e4];rfl
           rw [hn];unfold InP at hi ⊢;unfold knoY sel4;rw [e0,e2,e3,e4];exact hi
       · refine .inr (.inr (.inr (.inr (.inl ⟨?_,?_,?_⟩))))
         · show kdU t.k=K 4;unfold kdU;rw [e0,e2,e3,e4];rfl
         · show kdU t.k=K 4;unfold kdU;rw [e0,e2,e3,e4];rfl
         · have ei:(valW t n).i=K 1+pickU t.m (kk n):=by
            unfold valW;rw [e0,e2,e3,e4];rfl
           have em:(knoY t n w).m=K 1+pickU t.m (kk n):=by unfold knoY sel4;rw [e0,e2,e3,e4];rfl
           rw [ei,em];exact ⟨pick_in h1 hn _,pick_in h1 hn _,rfl⟩
     · refine .inr (.inr (.inr (.inl ⟨?_,?_,?_⟩)))
       · show kdU t.k=K 3;unfold kdU;rw [e0,e2,e3];rfl
       · show kdU t.k=K 3;unfold kdU;rw [e0,e2,e3];rfl
       · unfold valW knoY;rw [e0,e2,e3];rfl
   · refine .inr (.inr (.inl ⟨?_,?_,?_⟩))
     · show kdU t.k=K 2;unfold kdU;rw [e0,e2];rfl
     · show kdU t.k=K 2;unfold kdU;rw [e0,e2];rfl
     · unfold valW knoY;rw [e0,e2];rfl
 · refine .inl ?_;show kdU t.k=K 0;unfold kdU;rw [e0];rfl
theorem thing_holds {n:Nat} (h1:1≤n) (hn:n≤10) (D:DF) (t:TW):HoldsR n D (knoX t n) (valW t n):=thing_holdsY h1 hn D t (nm_in t)
def insnL (k:Nat):V :=.t (.st [.a (.lit .i64 121),.a (.lit .i64 9),.a (.lit .i64 10),.a (.lit .i64 (sP k)),.a (.lit .i64 0)])
def ΓLd:Gam:=anyΓ 106 numSp ΓR
theorem ΓLd_ok:ΓOK Tryz.prog ΓLd:=anyΓ_ok num_ok ΓR_ok
def ldP (s:VF) (k:Nat):Bool:=s.ptr.k k != K 0
def ldN (s:VF) (k:Nat):U:=readN s.how (8*k) 8
def ldA (s:VF) (k:Nat):Bool:=cond (ldP s k) true ((!(ldN s k==K 15))&&((!(ldN s k==K 14))&&true))
def lnV (s:VF) (k:Nat):VW:=⟨K 1,getW (byF s.flat (8*k)) 0,K 0,K 0⟩
def set9 (s:VF) (v:VW):VF:={ s with regs:=s.regs.set 9 v }
def ldV (s:VF) (k:Nat):VW:=cond (ldP s k) (s.ptr.at k) (lnV s k)
def ldVS (s:VF) (k:Nat):VF:=VF.bif (ldA s k) (VF.bif (ldP s k) (set9 s (s.ptr.at k)) (set9 s (lnV s k))) s
def okLd (s:VF) (k:Nat):Bool:=
 let r:=r10B (s.regs.at 10)
 let p:=r&&Nat.ble (8*k+8) 128
 cond (ldA s k) (cond (ldP s k) r p) (cond (ldN s k==K 15) p p)
def askL (s:VF) (k:Nat):V :=.tup [.st [.a (.lit .i64 0),.a (.lit .i64 0),.a (.lit .i64 0),.a (.lit .i64 0),.a (.lit .i64 0),.a (.lit .i64 0),.a (.lit .i64 0),.a (.lit .u64 0),.a (.lit .u64 0)],.a (.i .i64 (cond (ldA s k) (K 0) (cond (ldN s k==K 15) (K 15) (K 14))))]
def first4 (p:Option (A×V×List Nat×Option Blk×Option Blk)):Option (A×V×List Nat×Option Blk):=p.map fun p=>(p.1,p.2.1,p.2.2.1,p.2.2.2.1)
theorem do40L_ev (s:VF):∀k:Nat,k<16->first4 (evalF cxD ΓLd 400 20 40 [pt 0,insnL k] (hM [(0,⟨true,s.t⟩)] 1)).rt.pick=some (.b (okLd s k),askL s k,[0],some ⟨true,(ldVS s k).t⟩)
 | 0,_=>by kernel_rfl|1,_=>by kernel_rfl|2,_=>by kernel_rfl|3,_=>by kernel_rfl|4,_=>by kernel_rfl|5,_=>by kernel_rfl|6,_=>by kernel_rfl|7,_=>by kernel_rfl
 | 8,_=>by kernel_rfl|9,_=>by kernel_rfl|10,_=>by kernel_rfl|11,_=>by kernel_rfl|12,_=>by kernel_rfl|13,_=>by kernel_rfl|14,_=>by kernel_rfl|15,_=>by kernel_rfl|n+16,h=>absurd h (by omega)
def insnLX:List V->Option U
 | [.t (.st [.a (.lit .i64 a),.a (.lit .i64 b),.a (.lit .i64 c),.a ax,.a (.lit .i64 d)])]=>match decide (a=121)&&(decide (b=9)&&(decide (c=10)&&decide (d=0))) with
   | true=>i64Of ax
   | false=>none
 | _=>none
theorem insnLX_rel {rest:List V} {x:U} (h:insnLX rest=some x) {k:Nat} (hk:k<16) (e:x=K (sP k)) {ν:Nu} {us:List Value} (hr:relV ν rest us) (ν':Nu):relV ν' [insnL k] us:=by
 unfold insnLX at h;split at h
 · split at h
   · rename_i hc;simp only [bA,decide_eq_true_eq] at hc;obtain ⟨rfl,rfl,rfl,rfl⟩:=hc
     match us,hr with
     | [u],⟨r1,_⟩=>
       refine ⟨?_,trivial⟩;obtain ⟨vs,rfl,hr⟩:=r1;refine ⟨vs,rfl,?_⟩;simp only [T.rel,relTs] at hr ⊢;obtain ⟨u1,w1,e1,q1,u2,w2,e2,q2,u3,w3,e3,q3,u4,w4,e4,⟨x4,rfl,q4,c4⟩,r4⟩:=hr;have key:∀{n:Int} {vs:List Value},(∃v,vs=[v]/\(A.lit .i64 n).rel ν v/\Cell v)->∃v,vs=[v]/\(A.lit .i64 n).rel ν' v/\Cell v:=fun {n vs} ⟨v,a,b,c⟩=>⟨v,a,by simpa only [A.rel] using b,c⟩
       obtain ⟨u5,w5,e5,q5,e6⟩:=r4;exact ⟨u1,w1,e1,key q1,u2,w2,e2,key q2,u3,w3,e3,key q3,_,w4,e4,⟨x4,rfl,sP_rel hk h e q4,c4⟩,u5,w5,e5,key q5,e6⟩
   · cases h
 · cases h
theorem ldVS_ok {s:VF} {k:Nat} (h:ldA s k=true):ldVS s k=set9 s (ldV s k):=by
 unfold ldVS ldV;rw [h];cases ldP s k<;>rfl
theorem askL_rel {s:VF} {k:Nat} (h:ldA s k=true) {ν:Nu} {u:Value} (hr:(askL s k).rel ν u):askZ.rel ν u:=by
 unfold askL at hr;rw [h,cond_true] at hr;obtain ⟨vs,rfl,h1⟩:=hr;refine ⟨vs,rfl,?_⟩
 match vs,h1 with
 | ⟨[u1,u2]⟩,⟨q1,q2,q3⟩=>
   refine ⟨q1,?_,q3⟩;have q2:(A.i .i64 (K 0)).rel ν u2:=q2;show (A.lit .i64 0).rel ν u2;simp only [A.rel] at q2 ⊢;exact ⟨by rw [q2];rfl,rfl⟩
def doL (s:VF) (rest:List V):Option (A×V×VF):=match insnLX rest with
 | some x=>some (.b (isSlot x&&(ldA s (slotN x)&&okLd s (slotN x))),askZ,set9 s (ldV s (slotN x)))
 | none=>none
theorem do40L_ok:AnyOK Tryz.prog 40 (turnV doL):=turnV_ok (enters_of entK 40 _ Tryz.func40 (by simp [Tryz.f40])) fun s rest ok v s' h hok=>by
 unfold doL at h;split at h
 · rename_i x hx;cases h;have hok:(isSlot x&&(ldA s (slotN x)&&okLd s (slotN x)))=true:=hok;rw [bA] at hok;obtain ⟨k,hk,e,e2⟩:=isSlot_some hok.1;rw [e2] at hok ⊢;have hb:=hok.2;rw [bA] at hb;have he:=do40L_ev s k hk;unfold first4 at he;cases hp:(evalF cxD ΓLd 400 20 40 [pt 0,insnL k] (hM [(0,⟨true,s.t⟩)] 1)).rt.pick with
   | none=>rw [hp] at he;cases he
   | some p=>
     obtain ⟨ok0,v0,wr0,b0,b⟩:=p;rw [hp] at he;simp only [Option.map_some,oI,pI] at he;obtain ⟨rfl,rfl,rfl,rfl⟩:=he;rw [← ldVS_ok hb.1];exact says_ev (ok :=.b (okLd s k)) (XD ΓLd_ok) rfl rfl hp hb.2 (.inl rfl) rfl rfl rfl (fun _ _ h=>askL_rel hb.1 h) fun ν us hus r=>insnLX_rel hx hk e hus _
 · cases h
def c19:Code:=bodyOf Tryz.prog 19
def hq0:Code:=c19.sA
def hq1:Code:=c19.sB.sA.sA
def hqL:Code:=c19.sB.sA.sB.inn.inn
def hq6:Code:=c19.sB.sB.sA.sA
def hqM:Code:=c19.sB.sB.sA.sB.inn.inn
def hq12:Code:=c19.sB.sB.sB.sA
def hq13:Code:=c19.sB.sB.sB.sB.sA.sA
def hqN:Code:=c19.sB.sB.sB.sB.sA.sB.inn.inn
def hq21:Code:=c19.sB.sB.sB.sB.sB.sA
def hq22:Code:=c19.sB.sB.sB.sB.sB.sB
theorem c19_eq:c19 = .seq hq0 (.seq (.seq hq1 (.block 0 (.loop hqL))) (.seq (.seq hq6 (.block 2 (.loop hqM))) (.seq hq12 (.seq (.seq hq13 (.block 4 (.loop hqN))) (.seq hq21 hq22))))):=by kernel_rfl
def hqh:Code:=hqL.sA
def hqb:Code:=hqL.sB.sA.inn
def hqi:Code:=hqL.sB.sB
theorem hqL_eq:hqL = .seq hqh (.seq (.block 1 hqb) hqi):=by kernel_rfl
def hqH:Code:=hqM.sA
def hqB:Code:=hqM.sB.sA.inn
def hqI:Code:=hqM.sB.sB
theorem hqM_eq:hqM = .seq hqH (.seq (.block 3 hqB) hqI):=by kernel_rfl
def hqF:Code:=hqN.sA
def hqG:Code:=hqN.sB.sA
def hqJ:Code:=hqN.sB.sB
theorem hqN_eq:hqN = .seq hqF (.seq hqG hqJ):=by kernel_rfl
theorem body19:Tryz.f19.body=some c19:=by kernel_rfl
def fp19:Fp:=⟨1208935052556817922358727,84,66,fun _ _=>none⟩
def ΓH (T:Nat):Gam:=anyΓ 73 hdSp (anyΓ 55 (byTV T) (anyΓ 40 (turnV doL) (anyΓ 31 (turnV setSV) (rdΓ 69 ldX ΓL))))
theorem ΓH_ok (T:Nat):ΓOK Tryz.prog (ΓH T):=anyΓ_ok hd73_ok (anyΓ_ok (byTV_ok T) (anyΓ_ok do40L_ok (anyΓ_ok set31_ok (ldx_ok ΓL_ok))))
def vtT (v:VW):T :=.st [.a (.i .i64 v.k),.a (.i .u64 v.n),.a (.i .i64 v.m),.a (.i .i64 v.i)]
def mH (n:Nat) (D:DF) (f:FSt) (s:VF):List (Nat×Blk):=[(0,⟨false,D.arr n⟩),(1,⟨true,f.t⟩),(2,⟨true,s.t⟩)]
def mH3 (n:Nat) (D:DF) (f:FSt) (s:VF) (v:VW):List (Nat×Blk):=[(0,⟨false,D.arr n⟩),(1,⟨true,f.t⟩),(2,⟨true,s.t⟩),(4,⟨true,vtT v⟩)]
def evH (T:Nat) (c:Code) (l:List (Nat×V)) (ms:List (Nat×Blk)) (N:Nat):Out:=evalC cxK (evalF cxK (ΓH T) 400 20) fp19 400 c (stOf l (hM ms N))
def vH (n:Nat):List (Nat×V):=[(0,slD n),(1,pt 1),(2,pt 2)]
def vHi (n:Nat) (j:Nat) (x:A):List (Nat×V):=[(0,slD n),(1,pt 1),(2,pt 2),(j,one x)]
def vHw (n:Nat):List (Nat×V):=[(0,slD n),(1,pt 1),(2,pt 2),(11,pt 4)]
def vHj (n:Nat) (x:A):List (Nat×V):=[(0,slD n),(1,pt 1),(2,pt 2),(11,pt 4),(12,one x)]
structure HoldsP (n:Nat) (D:DF) (f:FSt) (s:VF):Prop where
 regs:∀i,i<11->HoldsR n D (f.regs.at i) (s.regs.at i)
 byt:∀b,b<128->readR f.g (xm b) (K 1)=K 0->bytesE s.how (atX (xm b)) 1=K 0
 slot:∀k,k<16->ldxE f (8*k)=K 0->ldA s k=true/\HoldsR n D (ldxW f (8*k)) (ldV s k)
 r10:r10B (s.regs.at 10)=true
def oX (x:U):Bool:=cond (BitVec.slt x (K 0)) true (BitVec.sle (K 11) x)
def regX (f:RF) (x:U):RW:=
 let g:=fun h:Nat->U=>cond (oX x) (K 0) (h x.toNat)
 ⟨g f.k,g f.o,g f.m,g f.i,g f.tv,g f.tm,g f.ul,g f.uh,g f.sl,g f.sh⟩
def regY (f:VV) (x:U):VW:=
 let g:=fun h:Nat->U=>cond (oX x) (K 0) (h x.toNat)
 ⟨g f.k,g f.n,g f.m,g f.i⟩
def okXh (x:U):Bool:=cond (oX x) true (((!(BitVec.msb x))&&Nat.blt x.toNat 11)&&Nat.blt x.toNat 11)
def okH2 (n:Nat) (D:DF) (r:RW) (v:VW):Bool:=(Nat.ble 1 n&&Nat.ble n 10)&&(Nat.beq n n&&dec (HoldsR n D r v))
theorem okX_kk:∀k:Fin 11,okXh (kk k.val)=true/\oX (kk k.val)=false/\(kk k.val).toNat=k.val/\BitVec.slt (kk k.val) (K 11)=true:=by decide +kernel
section
variable (n:Nat) (D:DF) (f:FSt) (s:VF) (v:VW) (x:U)
theorem h0_ev:endM fp19.km [0,1,2] [0,1,2] 3 (evH 0 hq0 (vH n) (mH n D f s) 3).pick=some ⟨.nrm,.tt,vH n,mH n D f s⟩:=by kernel_rfl
theorem h0_evw:wrOk [2] (evH 0 hq0 (vH n) (mH n D f s) 3).pick=true:=by kernel_rfl
theorem h1_ev:endM fp19.km [0,1,2,7] [0,1,2] 3 (evH 0 hq1 (vH n) (mH n D f s) 3).pick=some ⟨.nrm,.tt,vHi n 7 (.lit .i64 0),mH n D f s⟩:=by kernel_rfl
theorem h1_evw:wrOk [2] (evH 0 hq1 (vH n) (mH n D f s) 3).pick=true:=by kernel_rfl
theorem hh_c:(evH 0 hqh (vHi n 7 (.i .i64 x)) (mH n D f s) 3).cnd=some (BitVec.slt x (K 11)):=by kernel_rfl
theorem hh_t:endM fp19.km [0,1,2,7] [0,1,2] 3 ((evH 0 hqh (vHi n 7 (.i .i64 x)) (mH n D f s) 3).at true)=some ⟨.nrm,.tt,vHi n 7 (.i .i64 x),mH n D f s⟩:=by kernel_rfl
theorem hh_tw:wrOk [2] ((evH 0 hqh (vHi n 7 (.i .i64 x)) (mH n D f s) 3).at true)=true:=by kernel_rfl
theorem hh_f:endM fp19.km [0,1,2] [0,1,2] 3 ((evH 0 hqh (vHi n 7 (.i .i64 x)) (mH n D f s) 3).at false)=some ⟨.exit 0,.tt,vH n,mH n D f s⟩:=by kernel_rfl
theorem hh_fw:wrOk [2] ((evH 0 hqh (vHi n 7 (.i .i64 x)) (mH n D f s) 3).at false)=true:=by kernel_rfl
theorem hb_ev:endM fp19.km [0,1,2,7] [0,1,2] 3 (evH 0 hqb (vHi n 7 (.i .i64 x)) (mH n D f s) 3).pick=some ⟨.nrm,.b ((okXh x&&okXh x)&&okH2 n D (regX f.regs x) (regY s.regs x)),vHi n 7 (.i .i64 x),mH n D f s⟩:=by kernel_rfl
theorem hb_evw:wrOk [2] (evH 0 hqb (vHi n 7 (.i .i64 x)) (mH n D f s) 3).pick=true:=by kernel_rfl
theorem hi_ev:endM fp19.km [0,1,2,7] [0,1,2] 3 (evH 0 hqi (vHi n 7 (.i .i64 x)) (mH n D f s) 3).pick=some ⟨.nrm,.tt,vHi n 7 (.i .i64 (x+K 1)),mH n D f s⟩:=by kernel_rfl
theorem hi_evw:wrOk [2] (evH 0 hqi (vHi n 7 (.i .i64 x)) (mH n D f s) 3).pick=true:=by kernel_rfl
theorem h6_ev:endM fp19.km [0,1,2,8] [0,1,2] 3 (evH 0 hq6 (vH n) (mH n D f s) 3).pick=some ⟨.nrm,.tt,vHi n 8 (.lit .i64 (-128)),mH n D f s⟩:=by kernel_rfl
theorem h6_evw:wrOk [2] (evH 0 hq6 (vH n) (mH n D f s) 3).pick=true:=by kernel_rfl
theorem hH_c:(evH 0 hqH (vHi n 8 (.i .i64 x)) (mH n D f s) 3).cnd=some (BitVec.slt x (K 0)):=by kernel_rfl
theorem hH_t:endM fp19.km [0,1,2,8] [0,1,2] 3 ((evH 0 hqH (vHi n 8 (.i .i64 x)) (mH n D f s) 3).at true)=some ⟨.nrm,.tt,vHi n 8 (.i .i64 x),mH n D f s⟩:=by kernel_rfl
theorem hH_tw:wrOk [2] ((evH 0 hqH (vHi n 8 (.i .i64 x)) (mH n D f s) 3).at true)=true:=by kernel_rfl
theorem hH_f:endM fp19.km [0,1,2] [0,1,2] 3 ((evH 0 hqH (vHi n 8 (.i .i64 x)) (mH n D f s) 3).at false)=some ⟨.exit 2,.tt,vH n,mH n D f s⟩:=by kernel_rfl
theorem hH_fw:wrOk [2] ((evH 0 hqH (vHi n 8 (.i .i64 x)) (mH n D f s) 3).at false)=true:=by kernel_rfl
theorem hB_c0:(evH 0 hqB (vHi n 8 (.i .i64 x)) (mH n D f s) 3).cnd=some (cond (readR f.g x (K 1)==K 0) (bytesE s.how (atX x) 1 != K 0) false):=by kernel_rfl
theorem hB_f0:endM fp19.km [0,1,2,8] [0,1,2] 3 ((evH 0 hqB (vHi n 8 (.i .i64 x)) (mH n D f s) 3).at false)=some ⟨.nrm,.b (bytesE s.how (atX x) 1 != K 0),vHi n 8 (.i .i64 x),mH n D f s⟩:=by kernel_rfl
theorem hB_f0w:wrOk [2] ((evH 0 hqB (vHi n 8 (.i .i64 x)) (mH n D f s) 3).at false)=true:=by kernel_rfl
theorem hB_1:endM fp19.km [0,1,2,8] [0,1,2] 3 (evH 1000 hqB (vHi n 8 (.i .i64 x)) (mH n D f s) 3).pick=some ⟨.nrm,.b (bytesE s.how (atX x) 1==K 0),vHi n 8 (.i .i64 x),mH n D f s⟩:=by kernel_rfl
theorem hB_1w:wrOk [2] (evH 1000 hqB (vHi n 8 (.i .i64 x)) (mH n D f s) 3).pick=true:=by kernel_rfl
theorem hI_ev:endM fp19.km [0,1,2,8] [0,1,2] 3 (evH 0 hqI (vHi n 8 (.i .i64 x)) (mH n D f s) 3).pick=some ⟨.nrm,.tt,vHi n 8 (.i .i64 (x+K 1)),mH n D f s⟩:=by kernel_rfl
theorem hI_evw:wrOk [2] (evH 0 hqI (vHi n 8 (.i .i64 x)) (mH n D f s) 3).pick=true:=by kernel_rfl
theorem h12_ev:endM fp19.km [0,1,2,11] [0,1,2,4] 5 (evH 0 hq12 (vH n) (mH n D f s) 3).pick=some ⟨.nrm,.tt,vHw n,mH3 n D f s (s.regs.at 9)⟩:=by kernel_rfl
theorem h12_evw:wrOk [2] (evH 0 hq12 (vH n) (mH n D f s) 3).pick=true:=by kernel_rfl
theorem h13_ev:endM fp19.km [0,1,2,11,12] [0,1,2,4] 5 (evH 0 hq13 (vHw n) (mH3 n D f s v) 5).pick=some ⟨.nrm,.tt,vHj n (.lit .i64 (-128)),mH3 n D f s v⟩:=by kernel_rfl
theorem h13_evw:wrOk [2] (evH 0 hq13 (vHw n) (mH3 n D f s v) 5).pick=true:=by kernel_rfl
theorem hF_c:(evH 0 hqF (vHj n (.i .i64 x)) (mH3 n D f s v) 5).cnd=some (BitVec.slt x (K 0)):=by kernel_rfl
theorem hF_t:endM fp19.km [0,1,2,11,12] [0,1,2,4] 5 ((evH 0 hqF (vHj n (.i .i64 x)) (mH3 n D f s v) 5).at true)=some ⟨.nrm,.tt,vHj n (.i .i64 x),mH3 n D f s v⟩:=by kernel_rfl
theorem hF_tw:wrOk [2] ((evH 0 hqF (vHj n (.i .i64 x)) (mH3 n D f s v) 5).at true)=true:=by kernel_rfl
theorem hF_f:endM fp19.km [0,1,2,11] [0,1,2,4] 5 ((evH 0 hqF (vHj n (.i .i64 x)) (mH3 n D f s v) 5).at false)=some ⟨.exit 4,.tt,vHw n,mH3 n D f s v⟩:=by kernel_rfl
theorem hF_fw:wrOk [2] ((evH 0 hqF (vHj n (.i .i64 x)) (mH3 n D f s v) 5).at false)=true:=by kernel_rfl
theorem hG_c:(evH 0 hqG (vHj n (.i .i64 x)) (mH3 n D f s v) 5).cnd=some (ldxE f (plcN x) != K 0):=by kernel_rfl
theorem hG_t:endM fp19.km [0,1,2,11,12] [0,1,2,4] 5 ((evH 0 hqG (vHj n (.i .i64 x)) (mH3 n D f s v) 5).at true)=some ⟨.nrm,.b (isPlc x),vHj n (.i .i64 x),mH3 n D f s v⟩:=by kernel_rfl
theorem hG_tw:wrOk [2] ((evH 0 hqG (vHj n (.i .i64 x)) (mH3 n D f s v) 5).at true)=true:=by kernel_rfl
theorem hG_f:endM fp19.km [0,1,2,11,12] [0,1,2,4] 5 ((evH 0 hqG (vHj n (.i .i64 x)) (mH3 n D f s v) 5).at false)=some ⟨.nrm,.b ((isPlc x&&(isSlot x&&(ldA s (slotN x)&&okLd s (slotN x))))&&okH2 n D (ldxW f (plcN x)) ((set9 s (ldV s (slotN x))).regs.at 9)),vHj n (.i .i64 x),mH3 n D f (set9 s (ldV s (slotN x))) v⟩:=by kernel_rfl
theorem hG_fw:wrOk [2] ((evH 0 hqG (vHj n (.i .i64 x)) (mH3 n D f s v) 5).at false)=true:=by kernel_rfl
theorem hJ_ev:endM fp19.km [0,1,2,11,12] [0,1,2,4] 5 (evH 0 hqJ (vHj n (.i .i64 x)) (mH3 n D f s v) 5).pick=some ⟨.nrm,.tt,vHj n (.i .i64 (x+K 8)),mH3 n D f s v⟩:=by kernel_rfl
theorem hJ_evw:wrOk [2] (evH 0 hqJ (vHj n (.i .i64 x)) (mH3 n D f s v) 5).pick=true:=by kernel_rfl
theorem h21_ev:endM fp19.km [0,1,2] [0,1,2] 3 (evH 0 hq21 (vHw n) (mH3 n D f s v) 5).pick=some ⟨.nrm,.tt,vH n,mH n D f (setVF s (K 9) v)⟩:=by kernel_rfl
theorem h21_evw:wrOk [2] (evH 0 hq21 (vHw n) (mH3 n D f s v) 5).pick=true:=by kernel_rfl
theorem h22_ev:retOf Tryz.prog fp19.km Tryz.f19.results.toList (evH 0 hq22 (vH n) (mH n D f s) 3).pick=some (.tt,.tt,one .tt):=by kernel_rfl
theorem h22_evw:wrOk [2] (evH 0 hq22 (vH n) (mH n D f s) 3).pick=true:=by kernel_rfl
end
end Go.WE
end
