/- A part of a proof of the helpers' law; no condition of its own. -/
import Derived.Test.YtoeealkcacgcgaaGreatDoorK33
import Derived.Test.YtoeealkcacgcgaaGreatDoorK34
set_option linter.unusedVariables false
set_option maxRecDepth 100000
noncomputable section
namespace Go.WE
open Go Go.Proofs Go.RowKit
def c18:Code:=bodyOf Tryz.prog 18
def mk0:Code:=c18.sA
def mk1:Code:=c18.sB.sA.sA
def mkL:Code:=c18.sB.sA.sB.inn.inn
def mk6:Code:=c18.sB.sB.sA.sA
def mkM:Code:=c18.sB.sB.sA.sB.inn.inn
def mk13:Code:=c18.sB.sB.sB
theorem c18_eq:c18 = .seq mk0 (.seq (.seq mk1 (.block 0 (.loop mkL))) (.seq (.seq mk6 (.block 2 (.loop mkM))) mk13)):=by kernel_rfl
def mkh:Code:=mkL.sA
def mkb:Code:=mkL.sB.sA.inn
def mki:Code:=mkL.sB.sB
theorem mkL_eq:mkL = .seq mkh (.seq (.block 1 mkb) mki):=by kernel_rfl
def mkH:Code:=mkM.sA
def mkB:Code:=mkM.sB.sA.inn
def mkI:Code:=mkM.sB.sB
theorem mkM_eq:mkM = .seq mkH (.seq (.block 3 mkB) mkI):=by kernel_rfl
theorem body18:Tryz.f18.body=some c18:=by kernel_rfl
def fp18:Fp:=⟨18014398519973875,55,66,fun _ _=>none⟩
def ΓKn:Gam:=rdΓ 69 ldX (rdΓ 70 ldX ΓL)
theorem ΓKn_ok:ΓOK Tryz.prog ΓKn:=ldx_ok (ldx22_ok ΓL_ok)
def evKn (c:Code) (l:List (Nat×V)) (s:FSt):Out:=evalC cxK (evalF cxK ΓKn 400 20) fp18 400 c (stOf l (hM [(0,⟨true,s.t⟩),(1,⟨true,s.t⟩)] 2))
def mKn (s:FSt):List (Nat×Blk):=[(0,⟨true,s.t⟩),(1,⟨true,s.t⟩)]
def eqX (x:U) (f:Nat->U):Bool:=cond (cond (BitVec.slt x (K 0)) true (BitVec.sle (K 11) x)) (K 0) (f x.toNat)==cond (cond (BitVec.slt x (K 0)) true (BitVec.slt (K 10) x)) (K 0) (f x.toNat)
def regEqR (f:RF) (x:U):Bool:=eqX x f.k&&(eqX x f.o&&(eqX x f.m&&(eqX x f.i&&(eqX x f.tv&&(eqX x f.tm&&(eqX x f.ul&&(eqX x f.uh&&(eqX x f.sl&&eqX x f.sh))))))))
theorem regEqR_true (f:RF) {k:Nat} (hk:k<11):regEqR f (kk k)=true:=by
 obtain ⟨h1,h2,_⟩:=reg_kk ⟨k,hk⟩;have h1:cond (BitVec.slt (kk k) (K 0)) true (BitVec.sle (K 11) (kk k))=false:=h1;have h2:cond (BitVec.slt (kk k) (K 0)) true (BitVec.slt (K 10) (kk k))=false:=h2;have h:∀g:Nat->U,eqX (kk k) g=true:=fun g=>by unfold eqX;simp only [h1,h2,cond_false,beq_self_eq_true]
 unfold regEqR;simp only [h,Bool.and_self]
def RW.eqB (a b:RW):Bool:=(a.k==b.k)&&((a.o==b.o)&&((a.m==b.m)&&((a.i==b.i)&&((a.tv==b.tv)&&((a.tm==b.tm)&&((a.ul==b.ul)&&((a.uh==b.uh)&&((a.sl==b.sl)&&(a.sh==b.sh)))))))))
theorem RW.eqB_self (a:RW):a.eqB a=true:=by
 unfold RW.eqB;simp only [beq_self_eq_true,Bool.and_self]
def neK (s:FSt) (x:U):Bool:=cond (cond (!((ldxW s (plcN x)).eqB (ldxW s (plcN x)))) true (ldxE s (plcN x) != ldxE s (plcN x))) true (readR s.g x (K 1) != readR s.g x (K 1))
theorem neK_false (s:FSt) (x:U):neK s x=false:=by
 unfold neK;simp only [RW.eqB_self,bne_self_eq_false,Bool.not_true,cond_false]
theorem isPlc_xm:∀k:Fin 128,isPlc (xm k.val)=true:=by decide +kernel
section
variable (s:FSt) (x:U)
theorem mk0_ev:endM fp18.km [0,1] [0,1] 2 (evKn mk0 vS2 s).pick=some ⟨.nrm,.tt,vS2,mKn s⟩:=by kernel_rfl
theorem mk0_w:wrOk [] (evKn mk0 vS2 s).pick=true:=by kernel_rfl
theorem mk1_ev:endM fp18.km [0,1,5] [0,1] 2 (evKn mk1 vS2 s).pick=some ⟨.nrm,.tt,vS2i 5 (.lit .i64 0),mKn s⟩:=by kernel_rfl
theorem mk1_w:wrOk [] (evKn mk1 vS2 s).pick=true:=by kernel_rfl
theorem mkh_c:(evKn mkh (vS2i 5 (.i .i64 x)) s).cnd=some (BitVec.slt x (K 11)):=by kernel_rfl
theorem mkh_t:endM fp18.km [0,1,5] [0,1] 2 ((evKn mkh (vS2i 5 (.i .i64 x)) s).at true)=some ⟨.nrm,.tt,vS2i 5 (.i .i64 x),mKn s⟩:=by kernel_rfl
theorem mkh_tw:wrOk [] ((evKn mkh (vS2i 5 (.i .i64 x)) s).at true)=true:=by kernel_rfl
theorem mkh_f:endM fp18.km [0,1] [0,1] 2 ((evKn mkh (vS2i 5 (.i .i64 x)) s).at false)=some ⟨.exit 0,.tt,vS2,mKn s⟩:=by kernel_rfl
theorem mkh_fw:wrOk [] ((evKn mkh (vS2i 5 (.i .i64 x)) s).at false)=true:=by kernel_rfl
theorem mkb_c:(evKn mkb (vS2i 5 (.i .i64 x)) s).cnd=some (!(regEqR s.regs x)):=by kernel_rfl
theorem mkb_f:endM fp18.km [0,1,5] [0,1] 2 ((evKn mkb (vS2i 5 (.i .i64 x)) s).at false)=some ⟨.nrm,.b (regOk x),vS2i 5 (.i .i64 x),mKn s⟩:=by kernel_rfl
theorem mkb_w:wrOk [] ((evKn mkb (vS2i 5 (.i .i64 x)) s).at false)=true:=by kernel_rfl
theorem mki_ev:endM fp18.km [0,1,5] [0,1] 2 (evKn mki (vS2i 5 (.i .i64 x)) s).pick=some ⟨.nrm,.tt,vS2i 5 (.i .i64 (x+K 1)),mKn s⟩:=by kernel_rfl
theorem mki_w:wrOk [] (evKn mki (vS2i 5 (.i .i64 x)) s).pick=true:=by kernel_rfl
theorem mk6_ev:endM fp18.km [0,1,6] [0,1] 2 (evKn mk6 vS2 s).pick=some ⟨.nrm,.tt,vS2i 6 (.lit .i64 (-128)),mKn s⟩:=by kernel_rfl
theorem mk6_w:wrOk [] (evKn mk6 vS2 s).pick=true:=by kernel_rfl
theorem mkH_c:(evKn mkH (vS2i 6 (.i .i64 x)) s).cnd=some (BitVec.slt x (K 0)):=by kernel_rfl
theorem mkH_t:endM fp18.km [0,1,6] [0,1] 2 ((evKn mkH (vS2i 6 (.i .i64 x)) s).at true)=some ⟨.nrm,.tt,vS2i 6 (.i .i64 x),mKn s⟩:=by kernel_rfl
theorem mkH_tw:wrOk [] ((evKn mkH (vS2i 6 (.i .i64 x)) s).at true)=true:=by kernel_rfl
theorem mkH_f:endM fp18.km [0,1] [0,1] 2 ((evKn mkH (vS2i 6 (.i .i64 x)) s).at false)=some ⟨.exit 2,.tt,vS2,mKn s⟩:=by kernel_rfl
theorem mkH_fw:wrOk [] ((evKn mkH (vS2i 6 (.i .i64 x)) s).at false)=true:=by kernel_rfl
theorem mkB_c (s:FSt) (x:U):(evKn mkB (vS2i 6 (.i .i64 x)) s).cnd=some (neK s x):=by kernel_rfl
theorem mkB_f:endM fp18.km [0,1,6] [0,1] 2 ((evKn mkB (vS2i 6 (.i .i64 x)) s).at false)=some ⟨.nrm,.b (cond (cond (!((ldxW s (plcN x)).eqB (ldxW s (plcN x)))) true (ldxE s (plcN x) != ldxE s (plcN x))) (isPlc x&&isPlc x) (isPlc x&&isPlc x)),vS2i 6 (.i .i64 x),mKn s⟩:=by kernel_rfl
theorem mkB_w:wrOk [] ((evKn mkB (vS2i 6 (.i .i64 x)) s).at false)=true:=by kernel_rfl
theorem mkI_ev:endM fp18.km [0,1,6] [0,1] 2 (evKn mkI (vS2i 6 (.i .i64 x)) s).pick=some ⟨.nrm,.tt,vS2i 6 (.i .i64 (x+K 1)),mKn s⟩:=by kernel_rfl
theorem mkI_w:wrOk [] (evKn mkI (vS2i 6 (.i .i64 x)) s).pick=true:=by kernel_rfl
theorem mk13_ev:retOf Tryz.prog fp18.km Tryz.f18.results.toList (evKn mk13 vS2 s).pick=some (.tt,.tt,one .tt):=by kernel_rfl
theorem mk13_w:wrOk [] (evKn mk13 vS2 s).pick=true:=by kernel_rfl
end
theorem knows18 {w:World} {r1 r2:Nat} {s:FSt} (hne:r1≠r2) (h0:Holds w r1 s.t) (h1:Holds w r2 s.t):Calls Tryz.prog 18 #[.pointer (some ⟨r1,0,none⟩),.pointer (some ⟨r2,0,none⟩)] w fun e w'=>e = .returned (.bool true)/\Below w.heap.size w w':=by
 have X:=XK ΓKn_ok;have st:OwnG fp18 2 (mKn s) w [(0,r1),(1,r2)] [] vS2 { tmps := #[.pointer (some ⟨r1,0,none⟩),.pointer (some ⟨r2,0,none⟩)]++Array.replicate (Tryz.f18.ntmps-2) undef,defers:=[] } w:=
  OwnG.enterA (fp:=fp18) (args:=[pt 0,pt 1]) (vs:=[.pointer (some ⟨r1,0,none⟩),.pointer (some ⟨r2,0,none⟩)]) [] (mem_pp hne h0 h1) (fun p hp=>by
   simp only [List.mem_cons,List.not_mem_nil,or_false] at hp;rcases hp with rfl|rfl<;>rfl) (fun id q base h=>by
   rcases nuP2_some h with ⟨rfl,rfl,_⟩|⟨rfl,rfl,_⟩
   · exact .inl (.head _)
   · exact .inl (.tail _ (.head _))) ⟨by
     show (A.ptr 0 []).rel _ _;simp only [A.rel];exact ⟨r1,0,rfl,rfl⟩,by
     show (A.ptr 1 []).rel _ _;simp only [A.rel];exact ⟨r2,0,rfl,rfl⟩,trivial⟩ (by show 2≤55;decide)
 have hK:∀p,p∈[(0,r1),(1,r2)]->p.1<2:=fun p hp=>by
  simp only [List.mem_cons,List.not_mem_nil,or_false] at hp;rcases hp with rfl|rfl
  · show 0<2;decide
  · show 1<2;decide
 have l5:LessA (vS2i 5 (.lit .i64 0)) (vS2i 5 (.i .i64 (kk 0))):=fun ν=>⟨rfl,same_rel,rfl,same_rel,rfl,lit_less rfl,trivial⟩;have l6:LessA (vS2i 6 (.lit .i64 (-128))) (vS2i 6 (.i .i64 (xm 0))):=fun ν=>⟨rfl,same_rel,rfl,same_rel,rfl,lit_less rfl,trivial⟩;refine calls_phases Tryz.func18 body18 ?_;rw [c18_eq];refine wp_two (OwnG.go X rfl (mk0_ev s) (mk0_w s) rfl rfl rfl hK (by kernel_rfl) (LessA.refl _) (LessM.refl _) st) fun a w1 hI => ?_
 refine wp_then (K:=fun a w1=>OwnG fp18 2 (mKn s) w [(0,r1),(1,r2)] [] vS2 a w1) ?_ fun a w1 hI => ?_
 · refine wp_two (OwnG.go X rfl (mk1_ev s) (mk1_w s) rfl rfl rfl hK (by kernel_rfl) l5 (LessM.refl _) hI) fun a w1 hI => ?_
   refine for_any (fun k a w1=>OwnG fp18 2 (mKn s) w [(0,r1),(1,r2)] [] (vS2i 5 (.i .i64 (kk k))) a w1) 11 ?_ hI;intro k hk a w1 hI;rw [mkL_eq];by_cases hlt:k<11
   · obtain ⟨_,_,e3,e4⟩:=reg_kk ⟨k,hlt⟩;refine wp_two (OwnG.goB X rfl ((mkh_c s (kk k)).trans (congrArg some e4)) (mkh_t s _) (mkh_tw s _) rfl rfl rfl hK (by kernel_rfl) (LessA.refl _) (LessM.refl _) hI) fun a w1 hI => ?_
     refine wp_two (wp_in (OwnG.goB X rfl ((mkb_c s (kk k)).trans (by rw [regEqR_true s.regs hlt];rfl)) (mkb_f s _) (mkb_w s _) e3 rfl rfl hK (by kernel_rfl) (LessA.refl _) (LessM.refl _) hI)) fun a w1 hI => ?_
     refine wp_mono (OwnG.go X rfl (mki_ev s _) (mki_w s _) rfl rfl rfl hK (by kernel_rfl) (LessA.refl _) (LessM.refl _) hI) ?_
     rintro x' a' w' ⟨rfl,hI⟩;refine ⟨hlt,?_⟩;rw [← kk_one];exact hI
   · obtain rfl:k=11:=by omega
     refine wp_seq (wp_mono (OwnG.outB X rfl ((mkh_c s (kk 11)).trans rfl) (mkh_f s _) (mkh_fw s _) rfl rfl rfl hK (by kernel_rfl) (LessA.refl _) (LessM.refl _) hI) ?_)
     rintro x' a' w' ⟨rfl,hI⟩;exact hI
 refine wp_then (K:=fun a w1=>OwnG fp18 2 (mKn s) w [(0,r1),(1,r2)] [] vS2 a w1) ?_ fun a w1 hI => ?_
 · refine wp_two (OwnG.go X rfl (mk6_ev s) (mk6_w s) rfl rfl rfl hK (by kernel_rfl) l6 (LessM.refl _) hI) fun a w1 hI => ?_
   refine for_any (fun k a w1=>OwnG fp18 2 (mKn s) w [(0,r1),(1,r2)] [] (vS2i 6 (.i .i64 (xm k))) a w1) 128 ?_ hI;intro k hk a w1 hI;rw [mkM_eq];by_cases hlt:k<128
   · refine wp_two (OwnG.goB X rfl ((mkH_c s (xm k)).trans (congrArg some (xm_lt ⟨k,hlt⟩))) (mkH_t s _) (mkH_tw s _) rfl rfl rfl hK (by kernel_rfl) (LessA.refl _) (LessM.refl _) hI) fun a w1 hI => ?_
     refine wp_then (K:=fun a w1=>OwnG fp18 2 (mKn s) w [(0,r1),(1,r2)] [] (vS2i 6 (.i .i64 (xm k))) a w1) ?_ fun a w1 hI => ?_
     · refine wp_mono (wp_in (OwnG.goB X rfl ((mkB_c s (xm k)).trans (by rw [neK_false])) (mkB_f s _) (mkB_w s _) (by
        have e:=isPlc_xm ⟨k,hlt⟩;have e:isPlc (xm k)=true:=e;show cond _ (isPlc (xm k)&&isPlc (xm k)) (isPlc (xm k)&&isPlc (xm k))=true;rw [e];simp) rfl rfl hK (by kernel_rfl) (LessA.refl _) (LessM.refl _) hI)) ?_
       rintro x' a' w' ⟨rfl,hI⟩;exact hI
     refine wp_mono (OwnG.go X rfl (mkI_ev s _) (mkI_w s _) rfl rfl rfl hK (by kernel_rfl) (LessA.refl _) (LessM.refl _) hI) ?_
     rintro x' a' w' ⟨rfl,hI⟩;refine ⟨hlt,?_⟩;rw [← xm_one];exact hI
   · obtain rfl:k=128:=by omega
     refine wp_seq (wp_mono (OwnG.outB X rfl ((mkH_c s (xm 128)).trans rfl) (mkH_f s _) (mkH_fw s _) rfl rfl rfl hK (by kernel_rfl) (LessA.refl _) (LessM.refl _) hI) ?_)
     rintro x' a' w' ⟨rfl,hI⟩;exact hI
 refine OwnG.retP X rfl rfl (mk13_w s) (mk13_ev s) rfl rfl (by kernel_rfl) hI fun ν u w' hu hb _ => ?_
 have hu:A.tt.rel ν u:=hu;simp only [A.rel] at hu;subst hu;exact ⟨rfl,hb.below⟩
def knowsSp:List V->H->Option R
 | [.t (.a (.ptr i [])),.t (.a (.ptr j []))],h=>match stateOf h i,stateOf h j,Nat.beq i j with
   | some s,some q,false=>some (.leaf (.b (dec (s=q))) (one .tt) (h.sees [i,j]))
   | _,_,_=>none
 | _,_=>none
theorem knowsSp_inv {args:List V} {h:H} {r:R} (e:knowsSp args h=some r):∃i j s q,args=[pt i,pt j]/\stateOf h i=some s/\stateOf h j=some q/\i≠j/\r = .leaf (.b (dec (s=q))) (one .tt) (h.sees [i,j]):=by
 unfold knowsSp at e;split at e
 · split at e
   · rename_i h1 h2 h3;cases e;exact ⟨_,_,_,_,rfl,h1,h2,(fun e=>by rw [e,Nat.beq_refl] at h3;cases h3),rfl⟩
   · cases e
 · cases e
theorem knows18_ok:AnyOK Tryz.prog 18 knowsSp where
 ent:=enters_of entK 18 _ Tryz.func18 (by simp [Tryz.f18])
 ok:=by
  intro args h r ok v h' he hp hok;obtain ⟨i,j,s,q,rfl,h1,h2,hne,rfl⟩:=knowsSp_inv he;simp only [R.pick,oI,pI] at hp;obtain ⟨rfl,rfl,rfl⟩:=hp;have hR:s=q:=of_dec hok;subst hR;refine fn_calm [i,j] fun S ν w us hm hS hus => ?_
  match us,hus with
  | [u0,u1],⟨q0,q1,_⟩=>
    obtain ⟨r1,e1,hh1,rfl⟩:=ptr_here hm (stateOf_some h1) (hS i (.head _)) rfl rfl q0;obtain ⟨r2,e2,hh2,rfl⟩:=ptr_here hm (stateOf_some h2) (hS j (.tail _ (.head _))) rfl rfl q1;have hrr:r1≠r2:=by rintro rfl;exact hne (hm.nums.inj i _ (stateOf_some h1) rfl j r1 0 0 e1 e2).symm
    refine (knows18 hrr hh1 hh2).mono ?_;rintro e w' ⟨rfl,hb⟩;refine ⟨_,rfl,?_,hb⟩;show A.tt.rel ν _;simp only [A.rel]
 pan:=by intro args h r ok v h' he hp hok;obtain ⟨i,j,s,q,rfl,h1,h2,hne,rfl⟩:=knowsSp_inv he;simp [R.pickP] at hp
 ext:=by intro args h r he hlo;obtain ⟨i,j,s,q,rfl,h1,h2,hne,rfl⟩:=knowsSp_inv he;exact sees_ext _ h
theorem must_evG (c:Bool) (k:Nat):resR (evalF cxK noΓ 400 20 61 [one (.b c),one (.lit .i64 (.ofNat k))] H.none)=some (!c,.tt,(.tup []),.iface 24 (.lit .i64 (.ofNat k)),.tt):=by kernel_rfl
theorem must_evS (c:Bool) (e:U):resR (evalF cxK noΓ 400 20 61 [one (.b c),one (.i .i64 e)] H.none)=some (!c,.tt,(.tup []),.iface 24 (.i .i64 e),.tt):=by kernel_rfl
def mustA (k0:Nat):List V->H->Option R
 | [.t (.a (.b c)),.t (.a (.lit .i64 (.ofNat k)))],h=>match Nat.beq k k0 with
   | true=>some (.pan (.b (!c)) (.iface 24 (.lit .i64 (.ofNat k))) h)
   | false=>some (.leaf (.b c) (.tup []) h)
 | [.t (.a (.b c)),.t (.a (.i .i64 e))],h=>match Nat.beq k0 99 with
   | true=>some (.pan (.b (!c)) (.iface 24 (.i .i64 e)) h)
   | false=>some (.leaf (.b c) (.tup []) h)
 | _,_=>none
theorem mustA_inv {k0:Nat} {args:List V} {h:H} {r:R} (e:mustA k0 args h=some r):∃c x,args=[one (.b c),one x]/\x.free=true/\resR (evalF cxK noΓ 400 20 61 [one (.b c),one x] H.none)=some (!c,.tt,(.tup []),.iface 24 x,.tt)/\(r = .pan (.b (!c)) (.iface 24 x) h\/r = .leaf (.b c) (.tup []) h):=by
 unfold mustA at e;split at e
 · rename_i c k;split at e
   · cases e;exact ⟨c,_,rfl,rfl,must_evG c k,.inl rfl⟩
   · cases e;exact ⟨c,_,rfl,rfl,must_evG c k,.inr rfl⟩
 · rename_i c x;split at e
   · cases e;exact ⟨c,_,rfl,rfl,must_evS c x,.inl rfl⟩
   · cases e;exact ⟨c,_,rfl,rfl,must_evS c x,.inr rfl⟩
 · cases e
theorem mustA_ok (k0:Nat):AnyOK Tryz.prog 61 (mustA k0) where
 ent:=enters_of entK 61 _ Tryz.func61 (by simp [Tryz.f61])
 ok:=by
  intro args h r ok v h' he hp hok;obtain ⟨c,x,rfl,hx,hev,rfl|rfl⟩:=mustA_inv he
  · cases hp
  · simp only [R.pick,oI,pI] at hp;obtain ⟨rfl,rfl,rfl⟩:=hp;have hc:c=true:=hok;subst hc;obtain ⟨h1,h2,e⟩:=resR_some hev;have hp:(evalF cxK noΓ 400 20 61 [one (.b true),one x] H.none).pick=some (.tt,(.tup []),h2):=by rw [e];rfl
    obtain ⟨_,hfn⟩:=evalF_fn (XK noΓ_ok) rfl hp rfl;exact fnOK_any hfn (by simp [freeVs,V.free,T.free,A.free,hx]) rfl h
 pan:=by
  intro args h r ok v h' he hp hok;obtain ⟨c,x,rfl,hx,hev,rfl|rfl⟩:=mustA_inv he
  · simp only [R.pickP,oI,pI] at hp;obtain ⟨rfl,rfl,rfl⟩:=hp;have hc:c=false:=by
     have:(!c)=true:=hok;simpa using this
    subst hc;obtain ⟨h1,h2,e⟩:=resR_some hev;have hp:(evalF cxK noΓ 400 20 61 [one (.b false),one x] H.none).pickP=some (.tt,.iface 24 x,h1):=by rw [e];rfl
    have hfn:=((evalF_sound (XK noΓ_ok).eq (XK noΓ_ok).gam (XK noΓ_ok).dfr (XK noΓ_ok).lam (XK noΓ_ok).ent (fuel:=400) 20).pan _ _ _ _ _ _ hp rfl).2;exact fnPan_any hfn (by simp [freeVs,V.free,T.free,A.free,hx]) (by simp [A.free,hx]) h
  · cases hp
 ext:=by intro args h r he hlo;obtain ⟨c,x,rfl,hx,hev,rfl|rfl⟩:=mustA_inv he<;>exact Ext.refl _
def argN (s:FSt) (r:RW) (n:Nat):Nat->U
 | 2=>cond (r.k==K 0) (K 15) (cond (r.k != K 1) (K 14) (K 0))
 | 3=>cond (r.k==K 0) (K 15) (cond (r.k != K 3) (K 14) (cond (!(roomB r.o n)) (K 17) (K 0)))
 | _=>cond (r.k==K 0) (K 15) (cond (r.k != K 3) (K 14) (readR s.g r.o (K n)))
def ev68 (s:FSt) (r:RW) (b n:Int):R:=evalF cxK ΓL 400 20 68 [pt 0,.t r.t,one (.lit .u8 b),one (.lit .i64 n)] (hM [(0,⟨true,s.t⟩)] 1)
section
variable (s:FSt) (r:RW)
theorem e68_k:obsW (ev68 s r 107 8)=some (.tt,i64 (argN s r 8 0),[]):=by kernel_rfl
theorem e68_v8:obsW (ev68 s r 118 8)=some (.tt,i64 (argN s r 8 1),[]):=by kernel_rfl
theorem e68_v16:obsW (ev68 s r 118 16)=some (.tt,i64 (argN s r 16 1),[]):=by kernel_rfl
theorem e68_v24:obsW (ev68 s r 118 24)=some (.tt,i64 (argN s r 24 1),[]):=by kernel_rfl
theorem e68_v32:obsW (ev68 s r 118 32)=some (.tt,i64 (argN s r 32 1),[]):=by kernel_rfl
theorem e68_f8:obsW (ev68 s r 102 8)=some (.tt,i64 (argN s r 8 2),[]):=by kernel_rfl
theorem e68_f16:obsW (ev68 s r 102 16)=some (.tt,i64 (argN s r 16 2),[]):=by kernel_rfl
theorem e68_f24:obsW (ev68 s r 102 24)=some (.tt,i64 (argN s r 24 2),[]):=by kernel_rfl
theorem e68_f32:obsW (ev68 s r 102 32)=some (.tt,i64 (argN s r 32 2),[]):=by kernel_rfl
theorem e68_p8:obsW (ev68 s r 112 8)=some (.tt,i64 (argN s r 8 3),[]):=by kernel_rfl
theorem e68_p16:obsW (ev68 s r 112 16)=some (.tt,i64 (argN s r 16 3),[]):=by kernel_rfl
theorem e68_p24:obsW (ev68 s r 112 24)=some (.tt,i64 (argN s r 24 3),[]):=by kernel_rfl
theorem e68_p32:obsW (ev68 s r 112 32)=some (.tt,i64 (argN s r 32 3),[]):=by kernel_rfl
end
end Go.WE
end
