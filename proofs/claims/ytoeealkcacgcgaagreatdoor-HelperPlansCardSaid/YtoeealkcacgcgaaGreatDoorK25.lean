/- A part of a proof of the helpers' law; no condition of its own. -/
import Derived.Test.YtoeealkcacgcgaaGreatDoorK16
import Derived.Test.YtoeealkcacgcgaaGreatDoorK19
import Derived.Test.YtoeealkcacgcgaaGreatDoorK24
set_option linter.unusedVariables false
set_option maxRecDepth 100000
noncomputable section
namespace Go.WE
open Go Go.Proofs Go.RowKit
def outV (x:U):Bool:=cond (BitVec.slt x (K 0)) true (BitVec.slt (K 9) x)
def setR (f:VV) (x:U) (v:VW):VV:=VV.bif (outV x) f (f.set x.toNat v)
def setVF (s:VF) (x:U) (v:VW):VF:={ s with regs:=setR s.regs x v }
def setQF (s:QF) (x:U) (v:VW):QF:={ s with regs:=setR s.regs x v }
def setVF0 (s:VF) (x:U) (v:VW):VF:=VF.bif (outV x) s { s with regs:=s.regs.set x.toNat v }
def setQF0 (s:QF) (x:U) (v:VW):QF:=QF.bif (outV x) s { s with regs:=s.regs.set x.toNat v }
theorem setVF_eq (s:VF) (x:U) (v:VW):setVF0 s x v=setVF s x v:=by
 unfold setVF0 setVF setR;cases outV x<;>rfl
theorem setQF_eq (s:QF) (x:U) (v:VW):setQF0 s x v=setQF s x v:=by
 unfold setQF0 setQF setR;cases outV x<;>rfl
def okSetV (x:U):Bool:=cond (outV x) true (vB x 11&&wB x 11)
theorem set31_ev (s:VF) (x:U) (v:VW):(evalF cxK noΓ 400 20 31 [pt 0,i64 x,.t v.t] (hM [(0,⟨true,s.t⟩)] 1)).rt.sum=some (.b (okSetV x),true,[0],some ⟨true,(setVF0 s x v).t⟩):=by kernel_rfl
theorem set32_ev (s:QF) (x:U) (v:VW):(evalF cxK noΓ 400 20 32 [pt 0,i64 x,.t v.t] (hM [(0,⟨true,s.t⟩)] 1)).rt.sum=some (.b (okSetV x),true,[0],some ⟨true,(setQF0 s x v).t⟩):=by kernel_rfl
theorem okSetV_true (x:U):okSetV x=true:=by
 unfold okSetV;cases h:outV x
 · simp only [cond_false];unfold outV at h;cases h1:BitVec.slt x (K 0)
   · rw [h1,cond_false] at h;rw [BitVec.slt,decide_eq_false_iff_not] at h1 h;have e0:(K 0).toInt=0:=rfl;have e1:(K 9).toInt=9:=rfl;rw [e0] at h1;rw [e1] at h;have h2:=BitVec.toInt_eq_toNat_cond x;have h3:=x.isLt;have h4:x.toNat<10:=by split at h2<;>omega
     have h5:x.msb=false:=by rw [BitVec.msb_eq_decide];simp only [decide_eq_false_iff_not];omega
     have h6:Nat.blt x.toNat 11=true:=nB (by omega)
     simp [vB,wB,h5,h6]
   · rw [h1,cond_true] at h;cases h
 · rfl
def setA:List V->Option (U×VW)
 | [.t (.a ax),.t vt]=>match i64Of ax,vwOfT vt with
   | some x,some v=>some (x,v)
   | _,_=>none
 | _=>none
theorem setA_rel {rest:List V} {x:U} {v:VW} (h:setA rest=some (x,v)) {ν:Nu} {us:List Value} (hr:relV ν rest us) (ν':Nu):relV ν' [i64 x,.t v.t] us:=by
 unfold setA at h;split at h
 · split at h
   · rename_i h1 h2;cases h
     match us,hr with
     | [u1,u2],⟨r1,r2,_⟩=>
       refine ⟨?_,vwOfT_rel h2 r2,trivial⟩;show (A.i .i64 x).rel ν' u1;simp only [A.rel];exact i64Of_rel h1 r1
   · cases h
 · cases h
def setSV (s:VF) (rest:List V):Option (A×V×VF):=match setA rest with
 | some (x,v)=>some (.tt,one .poison,setVF s x v)
 | none=>none
def setSQ (s:QF) (rest:List V):Option (A×V×QF):=match setA rest with
 | some (x,v)=>some (.tt,one .poison,setQF s x v)
 | none=>none
theorem set31_ok:AnyOK Tryz.prog 31 (turnV setSV):=turnV_ok (enters_of entK 31 _ Tryz.func31 (by simp [Tryz.f31])) fun s rest ok v s' h hok=>by
 unfold setSV at h;split at h
 · rename_i x vv hx;cases h;rw [← setVF_eq];exact says_sum (ok :=.b (okSetV x)) (XK noΓ_ok) rfl rfl (set31_ev s x vv) (okSetV_true x) (.inl rfl) rfl rfl fun ν us hus r=>setA_rel hx hus _
 · cases h
theorem set32_ok:AnyOK Tryz.prog 32 (turnQ setSQ):=turnQ_ok (enters_of entK 32 _ Tryz.func32 (by simp [Tryz.f32])) fun s rest ok v s' h hok=>by
 unfold setSQ at h;split at h
 · rename_i x vv hx;cases h;rw [← setQF_eq];exact says_sum (ok :=.b (okSetV x)) (XK noΓ_ok) rfl rfl (set32_ev s x vv) (okSetV_true x) (.inl rfl) rfl rfl fun ν us hus r=>setA_rel hx hus _
 · cases h
theorem rel_set {s:VF} {q:QF} (h:Rel23 s q) (x:U) (v:VW):Rel23 (setVF s x v) (setQF q x v):=by
 unfold setVF setQF;rw [h.regs];exact rel_regs h _
def RF.bif (c:Bool) (p q:RF):RF:=⟨fun j=>bif c then p.k j else q.k j,fun j=>bif c then p.o j else q.o j,fun j=>bif c then p.m j else q.m j,fun j=>bif c then p.i j else q.i j,fun j=>bif c then p.tv j else q.tv j,fun j=>bif c then p.tm j else q.tm j,fun j=>bif c then p.ul j else q.ul j,fun j=>bif c then p.uh j else q.uh j,fun j=>bif c then p.sl j else q.sl j,fun j=>bif c then p.sh j else q.sh j⟩
def FSt.bif (c:Bool) (p q:FSt):FSt:=⟨RF.bif c p.regs q.regs,fun j=>bif c then p.g j else q.g j,RF.bif c p.kept q.kept⟩
def outF (x:U):Bool:=cond (BitVec.slt x (K 0)) true (BitVec.sle (K 10) x)
theorem outF_eq (x:U):outF x=outV x:=by
 unfold outF outV;have:BitVec.sle (K 10) x=BitVec.slt (K 9) x:=by rw [BitVec.sle,BitVec.slt];have e0:(K 10).toInt=10:=rfl;have e1:(K 9).toInt=9:=rfl;rw [e0,e1];exact decide_eq_decide.2 ⟨fun h=>by omega,fun h=>by omega⟩
 rw [this]
def setFS (s:FSt) (x:U) (r:RW):FSt:={ s with regs:=RF.bif (outV x) s.regs (s.regs.setR x.toNat r) }
def setFS0 (c:Bool) (s:FSt) (x:U) (r:RW):FSt:=FSt.bif c s { s with regs:=s.regs.setR x.toNat r }
theorem setFS_eq (s:FSt) (x:U) (r:RW):setFS0 (outV x) s x r=setFS s x r:=by
 unfold setFS0 setFS;cases outV x<;>rfl
theorem set33_ev (s:FSt) (x:U) (r:RW):resM (evS 33 s [i64 x,.t r.t])=some (.b (cond (outF x) true (vB x 11&&wB x 11)),one (.b (cond (outF x) false true)),[0],some ⟨true,(setFS0 (outF x) s x r).t⟩):=by kernel_rfl
theorem set34_ev (s:FSt) (x:U) (r:RW):resM (evS 34 s [i64 x,.t r.t])=some (.b (cond (outV x) true (vB x 11&&wB x 11)),one (.b (cond (outV x) false true)),[0],some ⟨true,(setFS0 (outV x) s x r).t⟩):=by kernel_rfl
def setS (s:FSt):List V->Option (A×V×FSt)
 | [.t (.a ax),.t t]=>match i64Of ax,rwOfT t with
   | some x,some r=>some (.tt,one (.b (cond (outV x) false true)),setFS s x r)
   | _,_=>none
 | _=>none
theorem setS_ok {f:Nat} (he:∀s x r,resM (evS f s [i64 x,.t r.t])=some (.b (cond (outV x) true (vB x 11&&wB x 11)),one (.b (cond (outV x) false true)),[0],some ⟨true,(setFS0 (outV x) s x r).t⟩)) (hΓL:∀(s:FSt) x (r:RW),ΓL f [pt 0,i64 x,.t r.t] (hM [(0,⟨true,s.t⟩)] 1)=none) {Γ:Gam} (hΓ:ΓOK Tryz.prog Γ):ΓOK Tryz.prog (stΓ f setS Γ):=by
 refine stΓ_ok (fun s rest ok v s' hs hok => ?_) hΓ;unfold setS at hs;split at hs
 · split at hs
   · rename_i h1 h2;cases hs;rw [← setFS_eq];refine saysW_ev (hΓL s _ _) (he s _ _) (okSetV_true _) (.inl rfl) rfl fun ν ν' us hu => ?_
     match us,hu with
     | [u1,u2],⟨r1,r2,_⟩=>
       refine ⟨?_,rwOfT_rel h2 r2,trivial⟩;show (A.i .i64 _).rel ν' u1;simp only [A.rel];exact i64Of_rel h1 r1
   · cases hs
 · cases hs
theorem set33_ok {Γ:Gam} (hΓ:ΓOK Tryz.prog Γ):ΓOK Tryz.prog (stΓ 33 setS Γ):=setS_ok (fun s x r=>by rw [set33_ev,outF_eq]) (fun _ _ _=>rfl) hΓ
theorem set34_ok {Γ:Gam} (hΓ:ΓOK Tryz.prog Γ):ΓOK Tryz.prog (stΓ 34 setS Γ):=setS_ok (fun s x r=>set34_ev s x r) (fun _ _ _=>rfl) hΓ
theorem inv_setFS {s:FSt} (h:InvS s) (x:U) (r:RW):InvS (setFS s x r):=inv_regs h _
theorem PureOK.weak {P:Program} {f:FuncId} {args:List V} {v v':V} (h:PureOK P f args v) (hv:∀ν u,v.rel ν u->v'.rel ν u):PureOK P f args v':=by
 rcases h with ⟨h1,h2⟩|h
 · exact .inl ⟨h1,fun h=>fn_weak (h2 h) hv⟩
 · exact .inr fun ν w vs ha=>by obtain ⟨u,h1,h2⟩:=h ν w vs ha;exact ⟨u,h1,hv _ _ h2⟩
theorem pick_ev (x:U):(evalF cxK noΓ 400 20 8 [i64 x,one (.lit .i64 9)] H.none).res=some (.tt,i64 (pickU x (K 9))):=by kernel_rfl
def pickS (j:Nat):List V->Option (A×V)
 | [.t (.a ax),.t (.a (.lit .i64 (.ofNat 9)))]=>match i64Of ax with
   | some x=>some (.b (pickU x (K 9)==kk j),one (.lit .i64 (.ofNat j)))
   | none=>none
 | _=>none
theorem pickS_ok {j:Nat} (hj:j<9) {Γ:Gam} (hΓ:ΓOK Tryz.prog Γ):ΓOK Tryz.prog (specG 8 (pickS j) Γ):=by
 refine specG_ok (fun args ok v hs hok => ?_) hΓ;unfold pickS at hs;split at hs
 · split at hs
   · rename_i x hx;cases hs;have hok:(pickU x (K 9)==kk j)=true:=hok;have e:=eq_of_beq hok;refine PureOK.weak (v:=i64 (pickU x (K 9))) (PureOK.more (pure_of_eval (XK noΓ_ok) rfl (pick_ev x) rfl rfl rfl) fun ν vs hv => ?_) fun ν u hu => ?_
     · match vs,hv with
       | [u0,u1],⟨r0,r1,_⟩=>
         refine ⟨?_,r1,trivial⟩;show (A.i .i64 x).rel ν u0;simp only [A.rel];exact i64Of_rel hx r0
     · have hu:(A.i .i64 (pickU x (K 9))).rel ν u:=hu;show (A.lit .i64 (.ofNat j)).rel ν u;simp only [A.rel] at hu ⊢;have e2:vof .i64 (kk j)=(j:Int):=vof_kk (by omega)
       rw [hu,e,e2];refine ⟨rfl,?_⟩;have:∀j:Fin 9,IntKind.i64.wrap (Int.ofNat j.val)=Int.ofNat j.val:=by decide
       exact this ⟨j,hj⟩
   · cases hs
 · cases hs
def ΓS0 (kn:TW->Nat->RW) (j:Nat):Gam:=specG 8 (pickS j) (anyΓ 29 valSp (anyΓ 30 (knoSp kn) (anyΓ 31 (turnV setSV) (anyΓ 32 (turnQ setSQ) (anyΓ 36 lay3V (anyΓ 37 lay3Q (anyΓ 40 (turnV doS) (anyΓ 43 (turnQ doSQ) (stΓ 33 setS (stΓ 34 setS (stΓ 44 stoS (stΓ 45 stoS (newΓ 25 (newS1 newVF.t) (newΓ 26 (newS1 newQF.t) (newΓ 27 newS (newΓ 28 newS ΓL))))))))))))))))
theorem ΓS0_ok {kn:TW->Nat->RW} (hk:AnyOK Tryz.prog 30 (knoSp kn)) {j:Nat} (hj:j<9):ΓOK Tryz.prog (ΓS0 kn j):=
 pickS_ok hj (anyΓ_ok val29_ok (anyΓ_ok hk (anyΓ_ok set31_ok (anyΓ_ok set32_ok (anyΓ_ok lay3V_ok (anyΓ_ok lay3Q_ok (anyΓ_ok do40_ok (anyΓ_ok do43_ok (set33_ok (set34_ok (sto_ok (sto22_ok (new25_ok (new26_ok (new_ok (new22_ok ΓL_ok))))))))))))))))
def c7:Code:=bodyOf Tryz.prog 7
def y0:Code:=c7.sA
def y1:Code:=c7.sB.sA
def y2:Code:=c7.sB.sB.sA
def y3:Code:=c7.sB.sB.sB.sA
def y4:Code:=c7.sB.sB.sB.sB.sA
def y5:Code:=c7.sB.sB.sB.sB.sB.sA.sA
def yL:Code:=c7.sB.sB.sB.sB.sB.sA.sB.inn.inn
def y39:Code:=c7.sB.sB.sB.sB.sB.sB
theorem c7_eq:c7 = .seq y0 (.seq y1 (.seq y2 (.seq y3 (.seq y4 (.seq (.seq y5 (.block 0 (.loop yL))) y39))))):=by kernel_rfl
def yh:Code:=yL.sA
def yB:Code:=yL.sB.sA.inn
def yi:Code:=yL.sB.sB
theorem yL_eq:yL = .seq yh (.seq (.block 1 yB) yi):=by kernel_rfl
def y8:Code:=yB.sA
def y9:Code:=yB.sB.sA
def y10:Code:=yB.sB.sB.sA
def y11:Code:=yB.sB.sB.sB.sA
def y16:Code:=yB.sB.sB.sB.sB.sA
def y17:Code:=yB.sB.sB.sB.sB.sB.sA
def y28:Code:=yB.sB.sB.sB.sB.sB.sB.sA
def y29:Code:=yB.sB.sB.sB.sB.sB.sB.sB
theorem yB_eq:yB = .seq y8 (.seq y9 (.seq y10 (.seq y11 (.seq y16 (.seq y17 (.seq y28 y29)))))):=by kernel_rfl
def fp7:Fp:=⟨664613997897444755462317612556353523,158,66,fun _ _=>none⟩
def ev7 (kn:TW->Nat->RW) (j:Nat) (c:Code) (l:List (Nat×V)) (ms:List (Nat×Blk)) (n:Nat):Out:=evalC cxK (evalF cxK (ΓS0 kn j) 400 20) fp7 400 c (stOf l (hM ms n))
def mD (n:Nat) (D:DF) (nt:Nat) (F:TF):List (Nat×Blk):=[(0,⟨false,D.arr n⟩),(1,⟨false,F.arr nt⟩)]
def mS (n:Nat) (D:DF) (nt:Nat) (F:TF) (s:VF) (q:QF) (f g:FSt):List (Nat×Blk):=mD n D nt F++[(2,⟨true,s.t⟩),(3,⟨true,q.t⟩),(4,⟨true,f.t⟩),(5,⟨true,g.t⟩)]
abbrev slT (nt:Nat):V:=one (.sl 1 [] 8 (.lit 0) (.sym nt) none)
def vA (n nt:Nat):List (Nat×V):=[(0,slD n),(1,slT nt)]
def vS (n nt:Nat):List (Nat×V):=[(0,slD n),(1,slT nt),(8,pt 2),(9,pt 3),(10,pt 4),(11,pt 5)]
def vI (n nt:Nat) (i:A):List (Nat×V):=vS n nt++[(12,one i)]
section
variable (kn:TW->Nat->RW) (n:Nat) (D:DF) (nt:Nat) (F:TF) (s:VF) (q:QF) (f g:FSt) (i:U)
theorem y0_ev:endM fp7.km [0,1] [0,1] 2 (ev7 kn 0 y0 (vA n nt) (mD n D nt F) 2).pick=some ⟨.nrm,.tt,vA n nt,mD n D nt F⟩:=by kernel_rfl
theorem y1_ev:endM fp7.km [0,1,8] [0,1,2] 3 (ev7 kn 0 y1 (vA n nt) (mD n D nt F) 2).pick=some ⟨.nrm,.tt,vA n nt++[(8,pt 2)],mD n D nt F++[(2,⟨true,newVF.t⟩)]⟩:=by kernel_rfl
theorem y2_ev:endM fp7.km [0,1,8,9] [0,1,2,3] 4 (ev7 kn 0 y2 (vA n nt++[(8,pt 2)]) (mD n D nt F++[(2,⟨true,newVF.t⟩)]) 3).pick=some ⟨.nrm,.tt,vA n nt++[(8,pt 2),(9,pt 3)],mD n D nt F++[(2,⟨true,newVF.t⟩),(3,⟨true,newQF.t⟩)]⟩:=by kernel_rfl
theorem y3_ev:endM fp7.km [0,1,8,9,10] [0,1,2,3,4] 5 (ev7 kn 0 y3 (vA n nt++[(8,pt 2),(9,pt 3)]) (mD n D nt F++[(2,⟨true,newVF.t⟩),(3,⟨true,newQF.t⟩)]) 4).pick=some ⟨.nrm,.tt,vA n nt++[(8,pt 2),(9,pt 3),(10,pt 4)],mD n D nt F++[(2,⟨true,newVF.t⟩),(3,⟨true,newQF.t⟩),(4,⟨true,newFS.t⟩)]⟩:=by kernel_rfl
theorem y4_ev:endM fp7.km [0,1,8,9,10,11] [0,1,2,3,4,5] 6 (ev7 kn 0 y4 (vA n nt++[(8,pt 2),(9,pt 3),(10,pt 4)]) (mD n D nt F++[(2,⟨true,newVF.t⟩),(3,⟨true,newQF.t⟩),(4,⟨true,newFS.t⟩)]) 5).pick=some ⟨.nrm,.tt,vS n nt,mS n D nt F newVF newQF newFS newFS⟩:=by kernel_rfl
theorem y5_ev:endM fp7.km [0,1,8,9,10,11,12] [0,1,2,3,4,5] 6 (ev7 kn 0 y5 (vS n nt) (mS n D nt F s q f g) 6).pick=some ⟨.nrm,.tt,vI n nt (.lit .i64 0),mS n D nt F s q f g⟩:=by kernel_rfl
theorem yi_ev:endM fp7.km [0,1,8,9,10,11,12] [0,1,2,3,4,5] 6 (ev7 kn 0 yi (vI n nt (.i .i64 i)) (mS n D nt F s q f g) 6).pick=some ⟨.nrm,.tt,vI n nt (.i .i64 (i+K 1)),mS n D nt F s q f g⟩:=by kernel_rfl
theorem yh_c:(ev7 kn 0 yh (vI n nt (.i .i64 i)) (mS n D nt F s q f g) 6).cnd=some (BitVec.slt i (kk nt)):=by kernel_rfl
theorem yh_t:endM fp7.km [0,1,8,9,10,11,12] [0,1,2,3,4,5] 6 ((ev7 kn 0 yh (vI n nt (.i .i64 i)) (mS n D nt F s q f g) 6).at true)=some ⟨.nrm,.b (Nat.blt nt (2 ^ 63)),vI n nt (.i .i64 i),mS n D nt F s q f g⟩:=by kernel_rfl
theorem yh_f:endM fp7.km [0,1,8,9,10,11] [0,1,2,3,4,5] 6 ((ev7 kn 0 yh (vI n nt (.i .i64 i)) (mS n D nt F s q f g) 6).at false)=some ⟨.exit 0,.b (Nat.blt nt (2 ^ 63)),vS n nt,mS n D nt F s q f g⟩:=by kernel_rfl
end
def cutP (w:U):U:=cond (BitVec.slt (K 10) (cond (BitVec.slt (K 25) w) (K 25) w)) (cond (BitVec.slt (K 25) w) (K 25) w) (K 10)
def placeU (w:U):U:=K (-8)*(cutP w-K 9)
def list8 (x:U):List U:=[x>>>(K 0).toNat,x>>>(K 8).toNat,x>>>(K 16).toNat,x>>>(K 24).toNat,x>>>(K 32).toNat,x>>>(K 40).toNat,x>>>(K 48).toNat,x>>>(K 56).toNat]
def bytC (x:U) (j:Nat):Nat->U:=fun i=>((list8 x).take j).getD i (K 0)
def atV (w:U):VW:=⟨K 3,placeU w,K 0,K 0⟩
def mT (n:Nat) (D:DF) (nt:Nat) (F:TF) (s:VF) (q:QF) (f g:FSt) (t:TW):List (Nat×Blk):=mS n D nt F s q f g++[(6,⟨true,t.t⟩)]
def mV (n:Nat) (D:DF) (nt:Nat) (F:TF) (s:VF) (q:QF) (f g:FSt) (t:TW) (v:VW):List (Nat×Blk):=mS n D nt F s q f g++[(6,⟨true,t.t⟩),(7,⟨true,v.t⟩)]
def mB (n:Nat) (D:DF) (nt:Nat) (F:TF) (s:VF) (q:QF) (f g:FSt) (t:TW) (v:VW) (k:RW):List (Nat×Blk):=mS n D nt F s q f g++[(6,⟨true,t.t⟩),(7,⟨true,v.t⟩),(8,⟨true,k.t⟩)]
def vB3 (n nt:Nat) (i:A):List (Nat×V):=vI n nt i++[(13,pt 6),(14,pt 7),(15,pt 8)]
def vB4 (n nt:Nat) (i:A) (j:Nat):List (Nat×V):=vB3 n nt i++[(16,one (.lit .i64 (.ofNat j)))]
section
variable (kn:TW->Nat->RW) (n:Nat) (D:DF) (nt:Nat) (F:TF) (s:VF) (q:QF) (f g:FSt) (i:U) (t:TW) (v:VW) (k:RW)
theorem y8_ev:endM fp7.km [0,1,8,9,10,11,12,13] [0,1,2,3,4,5,6] 7 (ev7 kn 0 y8 (vI n nt (.i .i64 i)) (mS n D nt F s q f g) 6).pick=some ⟨.nrm,.b (vB i nt&&Nat.blt (0+i.toNat) nt),vI n nt (.i .i64 i)++[(13,pt 6)],mT n D nt F s q f g (F.at (0+i.toNat))⟩:=by kernel_rfl
theorem y9_ev:endM fp7.km [0,1,8,9,10,11,12,13,14] [0,1,2,3,4,5,6,7] 8 (ev7 kn 0 y9 (vI n nt (.i .i64 i)++[(13,pt 6)]) (mT n D nt F s q f g t) 7).pick=some ⟨.nrm,.b (okH t n (Nat.beq n n)),vI n nt (.i .i64 i)++[(13,pt 6),(14,pt 7)],mV n D nt F s q f g t (valW t n)⟩:=by kernel_rfl
theorem y10_ev:endM fp7.km [0,1,8,9,10,11,12,13,14,15] [0,1,2,3,4,5,6,7,8] 9 (ev7 kn 0 y10 (vI n nt (.i .i64 i)++[(13,pt 6),(14,pt 7)]) (mV n D nt F s q f g t v) 8).pick=some ⟨.nrm,.b (okH t n (Nat.beq n n)),vB3 n nt (.i .i64 i),mB n D nt F s q f g t v (kn t n)⟩:=by kernel_rfl
theorem y11_c:(ev7 kn 0 y11 (vB3 n nt (.i .i64 i)) (mB n D nt F s q f g t v k) 9).cnd=some (BitVec.slt t.w (K 10)):=by kernel_rfl
theorem y11_t:endM fp7.km [0,1,8,9,10,11,12] [0,1,2,3,4,5] 6 ((ev7 kn 0 y11 (vB3 n nt (.i .i64 i)) (mB n D nt F s q f g t v k) 9).at true)=some ⟨.exit 1,.tt,vI n nt (.i .i64 i),mS n D nt F (setVF s t.w v) (setQF q t.w v) (setFS f t.w k) (setFS g t.w k)⟩:=by kernel_rfl
theorem y11_f:endM fp7.km [0,1,8,9,10,11,12,13,14,15] [0,1,2,3,4,5,6,7,8] 9 ((ev7 kn 0 y11 (vB3 n nt (.i .i64 i)) (mB n D nt F s q f g t v k) 9).at false)=some ⟨.nrm,.tt,vB3 n nt (.i .i64 i),mB n D nt F s q f g t v k⟩:=by kernel_rfl
theorem y16_ev (j:Nat):endM fp7.km [0,1,8,9,10,11,12,13,14,15,16] [0,1,2,3,4,5,6,7,8] 9 (ev7 kn j y16 (vB3 n nt (.i .i64 i)) (mB n D nt F s q f g t v k) 9).pick=some ⟨.nrm,.b (pickU t.b (K 9)==kk j),vB4 n nt (.i .i64 i) j,mB n D nt F s q f g t v k⟩:=by kernel_rfl
theorem y17_0:endM fp7.km [0,1,8,9,10,11,12,13,14,15] [0,1,2,3,4,5,6,7,8] 9 (ev7 kn 0 y17 (vB4 n nt (.i .i64 i) 0) (mB n D nt F s q f g t v k) 9).pick=some ⟨.nrm,.tt,vB3 n nt (.i .i64 i),mB n D nt F s q f g t v k⟩:=by kernel_rfl
theorem y28_c:(ev7 kn 0 y28 (vB3 n nt (.i .i64 i)) (mB n D nt F s q f g t v k) 9).cnd=some (v.k==K 0):=by kernel_rfl
theorem y28_t:endM fp7.km [0,1,8,9,10,11,12] [0,1,2,3,4,5] 6 ((ev7 kn 0 y28 (vB3 n nt (.i .i64 i)) (mB n D nt F s q f g t v k) 9).at true)=some ⟨.exit 1,.tt,vI n nt (.i .i64 i),mS n D nt F s q f g⟩:=by kernel_rfl
theorem y28_f:endM fp7.km [0,1,8,9,10,11,12,13,14,15] [0,1,2,3,4,5,6,7,8] 9 ((ev7 kn 0 y28 (vB3 n nt (.i .i64 i)) (mB n D nt F s q f g t v k) 9).at false)=some ⟨.nrm,.tt,vB3 n nt (.i .i64 i),mB n D nt F s q f g t v k⟩:=by kernel_rfl
def dvA (s:VF) (w:U) (v:VW):VF:=setVF s (K 9) v
def dvB (s:VF) (w:U) (v:VW):VF:=stoVR (dvA s w v) (slotN (placeU w)) ((dvA s w v).regs.at 9)
def dvC (s:VF) (w:U) (v:VW):VF:=setVF (dvB s w v) (K 9) (s.regs.at 9)
def dqA (q:QF) (w:U) (v:VW):QF:=setQF q (K 9) v
def dqB (q:QF) (w:U) (v:VW):QF:=doQ (dqA q w v) (placeU w)
def dqC (q:QF) (w:U) (v:VW):QF:=setQF (dqB q w v) (K 9) (q.regs.at 9)
theorem y29_ev:endM fp7.km [0,1,8,9,10,11,12] [0,1,2,3,4,5] 6 (ev7 kn 0 y29 (vB3 n nt (.i .i64 i)) (mB n D nt F s q f g t v k) 9).pick=some ⟨.nrm,.b ((((isSlot (placeU t.w)&&okDo (dvA s t.w v) (slotN (placeU t.w)))&&okQ (dqA q t.w v) (placeU t.w))&&isSlot (placeU t.w))&&isSlot (placeU t.w)),vI n nt (.i .i64 i),mS n D nt F (dvC s t.w v) (dqC q t.w v) (stoK f (slotN (placeU t.w)) k) (stoK g (slotN (placeU t.w)) k)⟩:=by kernel_rfl
end
theorem y17_j (kn:TW->Nat->RW) (n:Nat) (D:DF) (nt:Nat) (F:TF) (s:VF) (q:QF) (f g:FSt) (i:U) (t:TW) (v:VW) (k:RW):∀j:Nat,0<j->j<9->endM fp7.km [0,1,8,9,10,11,12] [0,1,2,3,4,5] 6 (ev7 kn j y17 (vB4 n nt (.i .i64 i) j) (mB n D nt F s q f g t v k) 9).pick=some ⟨.exit 1,.tt,vI n nt (.i .i64 i),mS n D nt F (layVR s (atV t.w) (bytC t.v j) j) (layQR q (atV t.w) (bytC t.v j) j) (layR f (placeU t.w) (K j)) (lay22R g (placeU t.w) (K j))⟩
 | 0,h,_=>absurd h (by decide)|1,_,_=>by kernel_rfl|2,_,_=>by kernel_rfl|3,_,_=>by kernel_rfl|4,_,_=>by kernel_rfl|5,_,_=>by kernel_rfl|6,_,_=>by kernel_rfl|7,_,_=>by kernel_rfl|8,_,_=>by kernel_rfl|n+9,_,h=>absurd h (by omega)
theorem KtoInt {n:Int} (h : -1000000≤n/\n≤1000000):(K n).toInt=n:=by
 rw [K,BitVec.toInt_ofInt];simp only [Int.bmod_def];split<;>omega
theorem pick_lt (n:Nat) (hn:0<n) (hb:n<1000000) (x:U):(pickU x (K n)).toNat<n:=by
 have hr:(BitVec.srem x (K n)).toInt=x.toInt.tmod n:=by rw [BitVec.toInt_srem,KtoInt (by omega)]
 have h1:x.toInt.tmod n<n:=Int.tmod_lt_of_pos _ (by omega)
 have h2 : -(n:Int)<x.toInt.tmod n:=by
  have:=Int.lt_tmod_of_pos x.toInt (b:=n) (by omega)
  omega
 have hn1:BitVec.slt (K n) (K 1)=false:=by
  rw [BitVec.slt,decide_eq_false_iff_not,KtoInt (by omega),KtoInt (by omega)]
  omega
 unfold pickU;rw [hn1,cond_false];have hs:BitVec.slt (BitVec.srem x (K n)) (K 0)=decide (x.toInt.tmod n<0):=by rw [BitVec.slt,hr,KtoInt (by omega)]
 rw [hs];by_cases h:x.toInt.tmod n<0
 · simp only [h,decide_true,cond_true];have e:(BitVec.srem x (K n)+K n).toInt=x.toInt.tmod n+n:=by
    rw [BitVec.toInt_add,hr,KtoInt (n:=(n:Int)) (by omega)]
    simp only [Int.bmod_def];split<;>omega
   have h3:=BitVec.toInt_eq_toNat_cond (BitVec.srem x (K n)+K n);have h4:=(BitVec.srem x (K n)+K n).isLt;split at h3<;>omega
 · simp only [h,decide_false,cond_false];have h3:=BitVec.toInt_eq_toNat_cond (BitVec.srem x (K n));have h4:=(BitVec.srem x (K n)).isLt;split at h3<;>omega
theorem kk_back (x:U):kk x.toNat=x:=by unfold kk;simp
theorem place_slot:∀c:Fin 16,isSlot (K (-8)*(K (10+c.val:Nat)-K 9))=true:=by decide +kernel
theorem cut_range (w:U):∃c:Fin 16,cutP w=K (10+c.val:Nat):=by
 unfold cutP;have e10:(K 10).toInt=10:=rfl;have e25:(K 25).toInt=25:=rfl;by_cases h:w.toInt≤25
 · have h1:BitVec.slt (K 25) w=false:=by rw [BitVec.slt,decide_eq_false_iff_not,e25];omega
   rw [h1,cond_false];by_cases h2:10<w.toInt
   · have h3:BitVec.slt (K 10) w=true:=by rw [BitVec.slt,decide_eq_true_eq,e10];omega
     rw [h3,cond_true];refine ⟨⟨(w.toInt-10).toNat,by omega⟩,BitVec.eq_of_toInt_eq ?_⟩
     rw [KtoInt (by simp only;omega)]
     simp only;omega
   · have h3:BitVec.slt (K 10) w=false:=by rw [BitVec.slt,decide_eq_false_iff_not,e10];omega
     rw [h3,cond_false];exact ⟨0,rfl⟩
 · have h1:BitVec.slt (K 25) w=true:=by rw [BitVec.slt,decide_eq_true_eq,e25];omega
   rw [h1,cond_true];exact ⟨15,rfl⟩
theorem place_ok (w:U):isSlot (placeU w)=true:=by
 obtain ⟨c,hc⟩:=cut_range w;unfold placeU;rw [hc];exact place_slot c
def stepV (n:Nat) (t:TW) (s:VF):VF:=cond (BitVec.slt t.w (K 10)) (setVF s t.w (valW t n)) (match (pickU t.b (K 9)).toNat with
 | 0=>cond ((valW t n).k==K 0) s (dvC s t.w (valW t n))
 | j+1=>layVR s (atV t.w) (bytC t.v (j+1)) (j+1))
def stepQ (n:Nat) (t:TW) (s:QF):QF:=cond (BitVec.slt t.w (K 10)) (setQF s t.w (valW t n)) (match (pickU t.b (K 9)).toNat with
 | 0=>cond ((valW t n).k==K 0) s (dqC s t.w (valW t n))
 | j+1=>layQR s (atV t.w) (bytC t.v (j+1)) (j+1))
def stepF (kn:TW->Nat->RW) (n:Nat) (t:TW) (s:FSt):FSt:=cond (BitVec.slt t.w (K 10)) (setFS s t.w (kn t n)) (match (pickU t.b (K 9)).toNat with
 | 0=>cond ((valW t n).k==K 0) s (stoK s (slotN (placeU t.w)) (kn t n))
 | j+1=>layR s (placeU t.w) (K ((j+1:Nat):Int)))
structure StI (s:VF) (q:QF) (f:FSt):Prop where
 rel:Rel23 s q
 r10:r10B (s.regs.at 10)=true
 inv:InvS f
theorem setR_at10 (f:VV) (x:U) (v:VW):(setR f x v).at 10=f.at 10:=by
 unfold setR;cases h:outV x
 · show (f.set x.toNat v).at 10=f.at 10;rw [set_k,if_neg];intro e;unfold outV at h;cases h1:BitVec.slt x (K 0)
   · rw [h1,cond_false] at h;have hx:x=K 10:=by
      apply BitVec.eq_of_toNat_eq;rw [← e];rfl
     rw [hx] at h;exact absurd h (by decide)
   · rw [h1,cond_true] at h;cases h
 · rfl
theorem layVN_regs (s:VF) (b:Nat) (c:Nat->U):∀n,(layVN s b c n).regs=s.regs
 | 0=>rfl
 | n+1=>layVN_regs s b c n
theorem layVR_regs (s:VF) (v:VW) (c:Nat->U) (n:Nat):(layVR s v c n).regs=s.regs:=by
 unfold layVR;cases stackE v n==K 0
 · rfl
 · exact layVN_regs _ _ _ _
theorem stoVR_regs (s:VF) (k:Nat) (v:VW):(stoVR s k v).regs=s.regs:=by
 unfold stoVR;cases isPt v
 · exact layVN_regs _ _ _ _
 · rfl
theorem set9_at9 (f:VV) (v:VW):(setR f (K 9) v).at 9=v:=by
 show (f.set 9 v).at 9=v;rw [set_k,if_pos rfl]
theorem slot_lt (w:U):slotN (placeU w)<16:=by
 obtain ⟨k,hk,_,e⟩:=isSlot_some (place_ok w);rw [e];exact hk
theorem doQ_eq {q:QF} {v:VW} (hr:r10B (q.regs.at 10)=true) (hv:v.k≠K 0) (w:U):dqB q w v=stoQR (dqA q w v) (slotN (placeU w)) v:=by
 unfold dqB doQ;have e10:(dqA q w v).regs.at 10=q.regs.at 10:=setR_at10 _ _ _;have e9:(dqA q w v).regs.at 9=v:=set9_at9 _ _;rw [← e10] at hr;unfold r10B at hr;simp only [bA,beq_iff_eq] at hr;obtain ⟨h1,h2,_⟩:=hr;have h1:(dqA q w v).regs.k 10=K 3:=h1;have h2:(dqA q w v).regs.n 10=K 0:=h2;have h9:(dqA q w v).regs.k 9=v.k:=congrArg VW.k e9;have n9:(v.k==K 0)=false:=by simpa using hv
 have z:K 0+placeU w=placeU w:=by show 0#64+_=_;rw [BitVec.zero_add]
 rw [h1,h2,h9,n9,e9,z];rfl
theorem okB_do {s:VF} {v:VW} (hr:r10B (s.regs.at 10)=true) (hv:v.k≠K 0) (w:U):okDo (dvA s w v) (slotN (placeU w))=true:=by
 have e10:(dvA s w v).regs.at 10=s.regs.at 10:=setR_at10 _ _ _;have e9:(dvA s w v).regs.at 9=v:=set9_at9 _ _;have h9:(dvA s w v).regs.k 9=v.k:=congrArg VW.k e9;have n9:(v.k != K 0)=true:=bne_iff_ne.2 hv;have hk:=slot_lt w;have q1:Nat.ble (8*slotN (placeU w)+8) 128=true:=nB (by omega)
 unfold okDo;rw [e9,e10,h9,hr,n9,q1];cases isPt v<;>rfl
theorem okB_dq {q:QF} {v:VW} (hr:r10B (q.regs.at 10)=true) (hv:v.k≠K 0) (w:U):okQ (dqA q w v) (placeU w)=true:=by
 unfold okQ;have e10:(dqA q w v).regs.at 10=q.regs.at 10:=setR_at10 _ _ _;have e9:(dqA q w v).regs.at 9=v:=set9_at9 _ _;rw [← e10] at hr;unfold r10B at hr;simp only [bA,beq_iff_eq] at hr;obtain ⟨h1,h2,_⟩:=hr;have h1:(dqA q w v).regs.k 10=K 3:=h1;have h2:(dqA q w v).regs.n 10=K 0:=h2;have h9:(dqA q w v).regs.k 9=v.k:=congrArg VW.k e9;have n9:(v.k==K 0)=false:=by simpa using hv
 have z:K 0+placeU w=placeU w:=by show 0#64+_=_;rw [BitVec.zero_add]
 have hk:=slot_lt w;have q1:Nat.ble (8*slotN (placeU w)+8) 128=true:=nB (by omega)
 rw [h1,h2,h9,n9,e9,z,place_ok];unfold okDQ;rw [q1];cases v.k != K 1<;>rfl
theorem kd_kno {kn:TW->Nat->RW} (hk:∀t n,(kn t n).k=kdU t.k) (t:TW) (n:Nat) (h:((valW t n).k==K 0)=false):(kn t n).k≠K 0:=by
 rw [hk];intro e;have:(kdU t.k==K 0)=false:=h;rw [e] at this;exact absurd this (by decide)
theorem step_I {kn:TW->Nat->RW} (hk:∀t n,(kn t n).k=kdU t.k) {s:VF} {q:QF} {f:FSt} (h:StI s q f) (n:Nat) (t:TW):StI (stepV n t s) (stepQ n t q) (stepF kn n t f):=by
 unfold stepV stepQ stepF;cases BitVec.slt t.w (K 10)
 · simp only [cond_false];have hj:(pickU t.b (K 9)).toNat<9:=pick_lt 9 (by omega) (by omega) _
   cases e:(pickU t.b (K 9)).toNat with
   | zero=>
     simp only;cases hv:(valW t n).k==K 0
     · simp only [cond_false];have hv':(valW t n).k≠K 0:=by simpa using hv
       have hq10:r10B (q.regs.at 10)=true:=by rw [h.rel.regs];exact h.r10
       refine ⟨?_,?_,inv_sto h.inv (kd_kno hk t n hv)⟩
       · unfold dvC dqC;rw [doQ_eq hq10 hv',h.rel.regs];refine rel_set ?_ _ _;unfold dvB;have e9:(dvA s t.w (valW t n)).regs.at 9=valW t n:=set9_at9 _ _;rw [e9];exact rel_sto (rel_set h.rel _ _) (slot_lt _) hv'
       · show r10B ((setR (dvB s t.w (valW t n)).regs (K 9) (s.regs.at 9)).at 10)=true;rw [setR_at10];unfold dvB;rw [stoVR_regs];show r10B ((setR s.regs (K 9) (valW t n)).at 10)=true;rw [setR_at10];exact h.r10
     · exact h
   | succ j=>
     simp only;refine ⟨rel_layR h.rel _ _ ?_,by rw [layVR_regs];exact h.r10,inv_layR h.inv _ _⟩
     rw [e] at hj;have:∀j:Fin 9,0<j.val->isLn j.val=true:=by decide
     exact this ⟨j+1,hj⟩ (Nat.succ_pos _)
 · refine ⟨rel_set h.rel _ _,?_,inv_setFS h.inv _ _⟩;show r10B ((setR s.regs t.w _).at 10)=true;rw [setR_at10];exact h.r10
def foldV (n:Nat) (F:TF):Nat->VF
 | 0=>newVF
 | i+1=>stepV n (F.at i) (foldV n F i)
def foldQ (n:Nat) (F:TF):Nat->QF
 | 0=>newQF
 | i+1=>stepQ n (F.at i) (foldQ n F i)
def foldF (kn:TW->Nat->RW) (n:Nat) (F:TF):Nat->FSt
 | 0=>newFS
 | i+1=>stepF kn n (F.at i) (foldF kn n F i)
theorem fold_I {kn:TW->Nat->RW} (hk:∀t n,(kn t n).k=kdU t.k) (n:Nat) (F:TF):∀i,StI (foldV n F i) (foldQ n F i) (foldF kn n F i)
 | 0=>⟨rel_new,rfl,inv_new⟩
 | i+1=>step_I hk (fold_I hk n F i) n _
def nu3 (r b off:Nat):Nu:=fun i=>if i=0 then some (r,0) else if i=1\/i=2 then some (b,off) else none
theorem nu3_some {r b off i B o:Nat} (h:nu3 r b off i=some (B,o)):(i=0/\B=r/\o=0)\/((i=1\/i=2)/\B=b/\o=off):=by
 unfold nu3 at h;split at h
 · simp at h;exact .inl ⟨by assumption,h.1.symm,h.2.symm⟩
 · split at h
   · simp at h;exact .inr ⟨by assumption,h.1.symm,h.2.symm⟩
   · cases h
theorem get_mP {t:T} {n:Nat} {D:DF} {i:Nat} {x:Blk} (e:(hM (mP t n D) 3).m.get i=some x):(i=0/\x=⟨true,t⟩)\/(i=1/\x=⟨false,D.arr n⟩)\/(i=2/\x=⟨false,.lst 7777 []⟩):=by
 have:=get_memT _ i x e;unfold mP at this;simp only [List.mem_cons,List.not_mem_nil,or_false,pI] at this;exact this
theorem mem_p3 {w:World} {r b off n:Nat} {t:T} {D:DF} (hne:r≠b) (h0:Holds w r t) (h1:HoldsAt w b off (D.arr n)):Mem (fun _=>True) (nu3 r b off) w (hM (mP t n D) 3):=by
 refine ⟨⟨fun i r' b' e => ?_,fun i x e hrw i' r' b1 b2 e1 e2 => ?_,fun i hi => ?_,fun i x e => ?_,Nat.le_refl _,fun g hg=>(by cases hg)⟩,fun i x e _ => ?_⟩
 · rcases nu3_some e with ⟨_,rfl,_⟩|⟨_,rfl,_⟩
   · exact h0.lt
   · exact h1.lt
 · rcases get_mP e with ⟨rfl,rfl⟩|⟨_,rfl⟩|⟨_,rfl⟩
   · rcases nu3_some e1 with ⟨_,rfl,_⟩|⟨h,_⟩
     · rcases nu3_some e2 with ⟨h,_⟩|⟨_,h,_⟩
       · exact h
       · exact absurd h hne
     · omega
   · cases hrw
   · cases hrw
 · have hi:3≤i:=hi;unfold nu3;rw [if_neg (by omega),if_neg (by omega)]
 · rcases get_mP e with ⟨rfl,_⟩|⟨rfl,_⟩|⟨rfl,_⟩<;>(show _<3;decide)
 · rcases get_mP e with ⟨rfl,rfl⟩|⟨rfl,rfl⟩|⟨rfl,rfl⟩
   · obtain ⟨cs,ty,vs,post,q1,q2,q3⟩:=h0;exact .inl ⟨r,0,cs,ty,(0,0),[],vs,post,by simp [nu3],q1,by simpa using q2,rfl,T.rel_mono (fun i p e=>by cases e) q3,fun _=>⟨rfl,rfl⟩⟩
   · obtain ⟨cs,ty,fr,pre,vs,post,q1,q2,q3,q4⟩:=h1;exact .inl ⟨b,off,cs,ty,fr,pre,vs,post,by simp [nu3],q1,q2,q3,T.rel_mono (fun i p e=>by cases e) q4,fun h=>by cases h⟩
   · obtain ⟨cs,ty,fr,pre,vs,post,q1,q2,q3,q4⟩:=h1;exact .inl ⟨b,off,cs,ty,fr,pre,[],vs++post,by simp [nu3],q1,by simpa using q2,q3,by simp [T.rel,relLst],fun h=>by cases h⟩
def pOp (po:PO) (l:Value):Value :=.agg #[.int .i64 (vof .i64 po.op),.int .u64 (vof .u64 po.key),l,.int .i64 (vof .i64 po.flag),.int .i64 (vof .i64 po.cpu)]
def PlanP (w:World) (po:PO) (e:Ending) (w':World):Prop:=Below w.heap.size w w'/\match po.val with
 | none=>e = .returned (.tuple #[.int .i64 (vof .i64 po.m),pOp po (.slice none 0 0),.int .i64 (vof .i64 po.code)])
 | some (k,g)=>∃B c,w.heap.size≤B/\k≤c/\e = .returned (.tuple #[.int .i64 (vof .i64 po.m),pOp po (.slice (some ⟨B,0,none⟩) k c),.int .i64 (vof .i64 po.code)])/\Holds w' B (.arr 1 (.lit k) (.int .u64 g))
theorem plan_of {P:Program} {f:Nat} {args:List V} {t:T} {n:Nat} {D:DF} {R0:R} {po:PO} {ok:A} {ob:Ob} (hpk:R0.pq.pick=some (ok,[],ob)) (hR:ObR ob po) (hfn:∀v h',R0.pick=some (ok,v,h')->FnOK P f args (hM (mP t n D) 3) v h') (hpos:∀k g,po.val=some (k,g)->0<k)
 {w:World} {r b off:Nat} (hne:r≠b) (h0:Holds w r t) (h1:HoldsAt w b off (D.arr n)) {us:List Value} (ha:relV (nu3 r b off) args us):Calls P f us.toArray w (PlanP w po):=by
 obtain ⟨v,h',hp,hw,ho⟩:=pq_pick hpk;have hm:=mem_p3 hne h0 h1;refine (hfn v h' hp (fun _=>True) (nu3 r b off) w us (fun _ _=>trivial) (fun _ _=>trivial) hm ha).mono ?_;rintro e w' ⟨u,ν',rfl,hu,g⟩;have hb:Below w.heap.size w w':=⟨g.frm.os,g.frm.tape,g.frm.output,g.frm.size,fun r hr=>g.frm.block r hr fun id base hid=>by
  refine ⟨?_,by rw [hw];intro h;cases h⟩
  rw [g.ext.lo];show id<3;rcases nu3_some hid with ⟨rfl,_⟩|⟨rfl|rfl,_⟩<;>decide⟩
 refine ⟨hb,?_⟩;obtain ⟨m,op,key,flag,cpu,c,e1,r1,r2,r3,r4,r5,r6,r7⟩:=hR;unfold obsV at ho;split at ho
 · rename_i m0 op0 key0 val0 flag0 cpu0 c0;obtain ⟨xs,rfl,hx⟩:=hu
   match xs,hx with
   | ⟨[u1,u2,u3]⟩,hx=>
     obtain ⟨x1,x2,x3,_⟩:=hx;have x1:m0.rel ν' u1:=x1;have x3:c0.rel ν' u3:=x3;obtain ⟨vs,rfl,hst⟩:=x2;simp only [T.rel,relTs] at hst;obtain ⟨a1,b1,f1,⟨v1,rfl,y1,_⟩,a2,b2,f2,⟨v2,rfl,y2,_⟩,a3,b3,f3,⟨v3,rfl,y3,_⟩,a4,b4,f4,⟨v4,rfl,y4,_⟩,a5,b5,f5,⟨v5,rfl,y5,_⟩,f6⟩:=hst;subst f6;subst f5;subst f4;subst f3;subst f2;obtain ⟨vs⟩:=vs;have f1:vs=[v1,v2,v3,v4,v5]:=f1;subst f1;split at ho
     · cases ho;simp only at e1 r7;cases e1;cases hv:po.val with
       | none=>
         simp only;have y3:A.nils.rel ν' v3:=y3;simp only [A.rel] at y3;rw [i64Of_rel r1 x1,i64Of_rel r2 y1,u64Of_rel r3 y2,y3,i64Of_rel r4 y4,i64Of_rel r5 y5,i64Of_rel r6 x3];rfl
       | some p=>rw [hv] at r7;exact r7.elim
     · rename_i id w0;split at ho
       · rename_i t0 h3 hg;cases ho;simp only at e1 r7;cases e1;cases hv:po.val with
         | none=>rw [hv] at r7;exact r7.elim
         | some p=>
           obtain ⟨k,gg⟩:=p;rw [hv] at r7;obtain ⟨rfl,rfl⟩:=r7;have hk:=hpos _ _ hv;simp only;simp only [A.rel] at y3;obtain ⟨B,base,o,c',q1,rfl,q3,q4,q5⟩:=y3;have hsn:=g.mem.seen id _ hg (.inl trivial);obtain ⟨r',base',cs,ty,fr,pre,vs,post,z1,z2,z3,z4,z5,z6⟩:=hsn.cells rfl;rw [q1] at z1;cases z1;obtain ⟨rfl,rfl⟩:=z6 rfl;have hid:3≤id:=nL h3;have ho0:o=0:=by
            have q4':k≤c':=q4;have:=q3 (by omega)
            simpa [pathOff,Ix.val] using this
           subst ho0;refine ⟨B,c',g.new id B 0 ?_ q1,q4,?_,seen_holds hsn rfl rfl q1⟩
           · unfold nu3;rw [if_neg (by omega),if_neg (by omega)]
           · rw [i64Of_rel r1 x1,i64Of_rel r2 y1,u64Of_rel r3 y2,i64Of_rel r4 y4,i64Of_rel r5 y5,i64Of_rel r6 x3];rfl
       · cases ho
     · cases ho
 · cases ho
def OKD (n:Nat) (D:DF):Prop:=∀i,i<n->1≤(D.k i).toNat/\(D.k i).toNat≤10/\wOK (D.k i).toNat (D.w i).toNat=true
theorem Kof (x:U):K (x.toNat:Int)=x:=by
 rw [K,BitVec.ofInt_natCast];simp
theorem inM_nat {n:Nat} (hn:n≤10) {m:U} (h:inM n m=true):1≤m.toNat/\m.toNat≤n/\BitVec.msb (m-K 1)=false/\(m-K 1).toNat=m.toNat-1:=by
 unfold inM at h;cases h1:BitVec.sle (K 1) m
 · rw [h1] at h;cases h
 · rw [h1,cond_true] at h;rw [BitVec.sle,decide_eq_true_eq,KtoInt (by omega)] at h1
   have hk:(kk n).toInt=n:=by
    rw [BitVec.toInt_eq_toNat_cond,kk_nat (by omega)]
    split<;>omega
   rw [BitVec.sle,decide_eq_true_eq,hk] at h;have h2:=BitVec.toInt_eq_toNat_cond m;have h3:=m.isLt;have hm:m.toNat=m.toInt:=by split at h2<;>omega
   have e1:(K 1).toNat=1:=rfl;have hs:(m-K 1).toNat=m.toNat-1:=by rw [BitVec.toNat_sub,e1];omega
   refine ⟨by omega,by omega,?_,hs⟩
   rw [BitVec.msb_eq_decide,hs];simp only [decide_eq_false_iff_not];omega
theorem slt_sle (a b:U):BitVec.slt a b = !(BitVec.sle b a):=by
 rw [BitVec.slt,BitVec.sle];by_cases h:a.toInt<b.toInt
 · rw [decide_eq_true h,decide_eq_false (by omega)];rfl
 · rw [decide_eq_false h,decide_eq_true (by omega)];rfl
def headF (n:Nat) (regs:VV) (po:PO):PO:=bif regs.k 1==K 0 then .err (K 15) else bif regs.k 1 != K 4 then .err (K 14) else bif !(inM n (regs.i 1)) then .err (K 18) else po
theorem headV_pick {regs:VV} {n:Nat} (hn:n≤10) {rest:PQ} {po:PO} (h:regs.k 1=K 4->inM n (regs.i 1)=true->Pk rest po):Pk (headV regs n rest) (headF n regs po):=by
 have h63:okB (.b (n63 n))=true:=nB (by omega)
 unfold headV headF;cases h0:regs.k 1==K 0
 · refine pk_f (by rw [bne,h0];rfl) ?_
   simp only [cond_false];cases h1:regs.k 1==K 4
   · have:(regs.k 1 != K 4)=true:=by rw [bne,h1];rfl
     simp only [this,cond_true];exact pk_t rfl (pk_err rfl rfl)
   · have:(regs.k 1 != K 4)=false:=by rw [bne,h1];rfl
     simp only [this,cond_false];refine pk_f rfl ?_;unfold inM;cases h2:BitVec.sle (K 1) (regs.i 1)
     · simp only [cond_false,Bool.not_false,cond_true];exact pk_f rfl (pk_err rfl rfl)
     · refine pk_t rfl ?_;cases h3:BitVec.sle (regs.i 1) (kk n)
       · simp only [cond_true,Bool.not_false];exact pk_t rfl (pk_err h63 rfl)
       · simp only [cond_true,Bool.not_true,cond_false];refine pk_f rfl (h (eq_of_beq h1) ?_);unfold inM;rw [h2,h3];rfl
 · simp only [cond_true];exact pk_t (by rw [bne,h0];rfl) (pk_err rfl rfl)
theorem headQ_pick {regs:VV} {n:Nat} (hn:n≤10) {rest:PQ} {po:PO} (h:regs.k 1=K 4->inM n (regs.i 1)=true->Pk rest po):Pk (headQ regs n rest) (headF n regs po):=by
 have h63:okB (.b (n63 n))=true:=nB (by omega)
 unfold headQ headF;cases h0:regs.k 1==K 0
 · refine pk_f rfl ?_;simp only [cond_false];cases h1:regs.k 1==K 4
   · have:(regs.k 1 != K 4)=true:=by rw [bne,h1];rfl
     simp only [this,cond_true];exact pk_t rfl (pk_err rfl rfl)
   · have:(regs.k 1 != K 4)=false:=by rw [bne,h1];rfl
     simp only [this,cond_false];refine pk_f rfl ?_;unfold inM;rw [slt_sle,slt_sle];cases h2:BitVec.sle (K 1) (regs.i 1)
     · simp only [cond_false,Bool.not_false,cond_true];exact pk_t rfl (pk_err rfl rfl)
     · refine pk_f rfl ?_;cases h3:BitVec.sle (regs.i 1) (kk n)
       · simp only [cond_true,Bool.not_false];exact pk_t rfl (pk_err h63 rfl)
       · simp only [cond_true,Bool.not_true,cond_false];refine pk_f rfl (h (eq_of_beq h1) ?_);unfold inM;rw [h2,h3];rfl
 · simp only [cond_true];exact pk_t rfl (pk_err rfl rfl)
theorem argsF_val {regs:VV} {how flat:Nat->U} {w:Nat} {m op cpu:U} (hw:0<w):∀(L:List Nat) (r:Nat) (key flag:U) (v:Option (Nat×(Nat->U))),(∀k g,v=some (k,g)->0<k)->∀k g,(argsF regs how flat w m op cpu L r key flag v).val=some (k,g)->0<k
 | [],r,key,flag,v,hv,k,g,h=>hv k g h
 | 0::L,r,key,flag,v,hv,k,g,h=>by
   unfold argsF at h;cases h0:regs.k r==K 0<;>simp only [h0,cond_true,cond_false] at h
   · cases h1:bytesE how (regs.at r) 8 != K 0<;>simp only [h1,cond_true,cond_false] at h
     · exact argsF_val hw L _ _ _ _ hv k g h
     · cases h
   · cases h
 | 1::L,r,key,flag,v,hv,k,g,h=>by
   unfold argsF at h;cases h0:regs.k r==K 0<;>simp only [h0,cond_true,cond_false] at h
   · cases h1:bytesE how (regs.at r) (8*w) != K 0<;>simp only [h1,cond_true,cond_false] at h
     · exact argsF_val hw L _ _ _ _ (fun k g e=>by cases e;exact hw) k g h
     · cases h
   · cases h
 | 2::L,r,key,flag,v,hv,k,g,h=>by
   unfold argsF at h;cases h0:regs.k r==K 0<;>simp only [h0,cond_true,cond_false] at h
   · cases h1:regs.k r != K 1<;>simp only [h1,cond_true,cond_false] at h
     · exact argsF_val hw L _ _ _ _ hv k g h
     · cases h
   · cases h
 | (n+3)::L,r,key,flag,v,hv,k,g,h=>by
   unfold argsF at h;cases h0:regs.k r==K 0<;>simp only [h0,cond_true,cond_false] at h
   · cases h1:regs.k r != K 3<;>simp only [h1,cond_true,cond_false] at h
     · cases h2:roomB (regs.n r) (8*w)<;>simp only [h2,Bool.not_true,Bool.not_false,cond_true,cond_false] at h
       · cases h
       · exact argsF_val hw L _ _ _ _ hv k g h
     · cases h
   · cases h
theorem wOK_pos {j w:Nat} (h:wOK j w=true):0<w:=by
 unfold wOK at h;split at h
 · rcases w_four h with rfl|rfl|rfl|rfl<;>decide
 · rcases w_four h with rfl|rfl|rfl|rfl<;>decide
 · rcases w_four h with rfl|rfl|rfl|rfl<;>decide
 · rw [w_one h];decide
theorem headF_val {n:Nat} {regs:VV} {po:PO} {k:Nat} {g:Nat->U} (h:(headF n regs po).val=some (k,g)):inM n (regs.i 1)=true/\po.val=some (k,g):=by
 unfold headF at h;cases h0:regs.k 1==K 0<;>simp only [h0,cond_true,cond_false] at h
 · cases h1:regs.k 1 != K 4<;>simp only [h1,cond_true,cond_false] at h
   · cases h2:inM n (regs.i 1)<;>simp only [h2,Bool.not_true,Bool.not_false,cond_true,cond_false] at h
     · cases h
     · exact ⟨rfl,h⟩
   · cases h
 · cases h
theorem planF_val {n:Nat} (hn:n≤10) {D:DF} (hD:OKD n D) {regs:VV} {how flat:Nat->U} {no cpu:U} {k:Nat} {g:Nat->U} (h:(planF n D regs how flat no cpu).val=some (k,g)):0<k:=by
 unfold planF at h;cases h0:cond (BitVec.sle (K 1) no) (BitVec.sle no (K 8)) false<;>simp only [h0,Bool.not_true,Bool.not_false,cond_true,cond_false] at h
 · cases h
 · cases h1:no==K 7<;>simp only [h1,cond_true,cond_false] at h
   · have h:(headF n regs (planL regs how flat cpu (D.k (ixU regs)).toNat (D.w (ixU regs)).toNat (argsOf no.toNat (D.k (ixU regs)).toNat))).val=some (k,g):=h;obtain ⟨hm,h⟩:=headF_val h;obtain ⟨m1,m2,_,m4⟩:=inM_nat hn hm;have hix:ixU regs<n:=by unfold ixU;rw [m4];omega
     obtain ⟨_,_,hw⟩:=hD _ hix;unfold planL at h;split at h
     · cases h
     · exact argsF_val (wOK_pos hw) _ _ _ _ _ (fun k g e=>by cases e) k g h
   · cases h
theorem argsOf_L {a j op:Nat} {L:List Nat} (h:argsOf a j=some (op,L)):L=[0]\/L=[0,1,2]\/L=[1,2]\/L=[3]\/L=[1]\/L=[0,3]:=by
 unfold argsOf at h
 repeat' split at h
 all_goals first|(cases h;simp;done)|cases h
theorem sel_v {regs:VV} {how:Nat->U} {w:Nat} {L:List Nat} (hL:L=[0]\/L=[0,1,2]\/L=[1,2]\/L=[3]\/L=[1]\/L=[0,3]):∃S:Sel,selV L S=true/\OKB regs how w L 2 S.B/\OKb regs w S.b L 2 S.B:=by
 rcases hL with rfl|rfl|rfl|rfl|rfl|rfl
 · by_cases h:bytesE how (regs.at 2) 8=K 0
   · exact ⟨.all,rfl,⟨h,trivial⟩,trivial⟩
   · exact ⟨.e0,rfl,h,trivial⟩
 · by_cases h:bytesE how (regs.at 2) 8=K 0
   · by_cases h':bytesE how (regs.at 3) (8*w)=K 0
     · exact ⟨.all,rfl,⟨h,h',trivial⟩,trivial⟩
     · exact ⟨.e1,rfl,⟨h,h'⟩,trivial⟩
   · exact ⟨.e0,rfl,h,trivial⟩
 · by_cases h:bytesE how (regs.at 2) (8*w)=K 0
   · exact ⟨.all,rfl,⟨h,trivial⟩,trivial⟩
   · exact ⟨.e0,rfl,h,trivial⟩
 · cases h:roomB (regs.n 2) (8*w)
   · exact ⟨.nr,rfl,trivial,h,trivial⟩
   · exact ⟨.all,rfl,trivial,h,trivial⟩
 · by_cases h:bytesE how (regs.at 2) (8*w)=K 0
   · exact ⟨.all,rfl,⟨h,trivial⟩,trivial⟩
   · exact ⟨.e0,rfl,h,trivial⟩
 · by_cases h:bytesE how (regs.at 2) 8=K 0
   · cases h':roomB (regs.n 3) (8*w)
     · exact ⟨.nr,rfl,⟨h,trivial⟩,h',trivial⟩
     · exact ⟨.all,rfl,⟨h,trivial⟩,h',trivial⟩
   · exact ⟨.e0,rfl,h,trivial⟩
theorem sel_q {regs:VV} {how:Nat->U} {w:Nat} {L:List Nat} (hL:L=[0]\/L=[0,1,2]\/L=[1,2]\/L=[3]\/L=[1]\/L=[0,3]):∃S:Sel,selQ L S=true/\OKB regs how w L 2 S.B:=by
 rcases hL with rfl|rfl|rfl|rfl|rfl|rfl
 · by_cases h:bytesE how (regs.at 2) 8=K 0
   · exact ⟨.all,rfl,h,trivial⟩
   · exact ⟨.e0,rfl,h⟩
 · by_cases h:bytesE how (regs.at 2) 8=K 0
   · by_cases h':bytesE how (regs.at 3) (8*w)=K 0
     · exact ⟨.all,rfl,h,h',trivial⟩
     · exact ⟨.e1,rfl,h,h'⟩
   · exact ⟨.e0,rfl,h⟩
 · by_cases h:bytesE how (regs.at 2) (8*w)=K 0
   · exact ⟨.all,rfl,h,trivial⟩
   · exact ⟨.e0,rfl,h⟩
 · exact ⟨.all,rfl,trivial⟩
 · by_cases h:bytesE how (regs.at 2) (8*w)=K 0
   · exact ⟨.all,rfl,h,trivial⟩
   · exact ⟨.e0,rfl,h⟩
 · by_cases h:bytesE how (regs.at 2) 8=K 0
   · exact ⟨.all,rfl,h,trivial⟩
   · exact ⟨.e0,rfl,h⟩
structure AllV (a:Nat):Prop where
 some:∀{S:Sel} {j w op:Nat} {L:List Nat},argsOf a j=some (op,L)->wOK j w=true->selV L S=true->∃T,EvV S.b T j w a (restV S j w op L)
 none:∀{j:Nat},1≤j->j≤10->argsOf a j=none->EvV true 1000 j 1 a (noneV j)
structure AllQ (a:Nat):Prop where
 some:∀{S:Sel} {j w op:Nat} {L:List Nat},argsOf a j=some (op,L)->wOK j w=true->selQ L S=true->∃T,EvQ T j w a (restQ S j w op L)
 none:∀{j:Nat},1≤j->j≤10->argsOf a j=none->EvQ 1000 j 1 a (noneQ j)
theorem in_cases {no:U} (h:inH no=true) (h7:(no==K 7)=false):∃a:Nat,no.toNat=a/\no=K a/\(a=1\/a=2\/a=3\/a=4\/a=5\/a=6\/a=8):=by
 unfold inH at h;cases h1:BitVec.sle (K 1) no
 · rw [h1] at h;cases h
 · rw [h1,cond_true] at h;rw [BitVec.sle,decide_eq_true_eq,KtoInt (by omega)] at h1 h
   have h2:=BitVec.toInt_eq_toNat_cond no;have h3:=no.isLt;have h4:no.toNat=no.toInt:=by split at h2<;>omega
   refine ⟨no.toNat,rfl,(Kof no).symm,?_⟩;have:no.toNat≠7:=fun e=>by
    have:no=K 7:=by rw [← Kof no,e];rfl
    rw [this] at h7;exact absurd h7 (by decide)
   omega
theorem allV {a:Nat} (h:a=1\/a=2\/a=3\/a=4\/a=5\/a=6\/a=8):AllV a:=by
 rcases h with rfl|rfl|rfl|rfl|rfl|rfl|rfl
 · exact ⟨evV_1,evVn_1⟩
 · exact ⟨evV_2,evVn_2⟩
 · exact ⟨evV_3,evVn_3⟩
 · exact ⟨evV_4,evVn_4⟩
 · exact ⟨evV_5,evVn_5⟩
 · exact ⟨evV_6,evVn_6⟩
 · exact ⟨evV_8,evVn_8⟩
theorem allQ {a:Nat} (h:a=1\/a=2\/a=3\/a=4\/a=5\/a=6\/a=8):AllQ a:=by
 rcases h with rfl|rfl|rfl|rfl|rfl|rfl|rfl
 · exact ⟨evQ_1,evQn_1⟩
 · exact ⟨evQ_2,evQn_2⟩
 · exact ⟨evQ_3,evQn_3⟩
 · exact ⟨evQ_4,evQn_4⟩
 · exact ⟨evQ_5,evQn_5⟩
 · exact ⟨evQ_6,evQn_6⟩
 · exact ⟨evQ_8,evQn_8⟩
theorem okI_true {n:Nat} (hn:n≤10) {D:DF} {regs:VV} (hm:inM n (regs.i 1)=true):okK D regs n (D.k (ixU regs)).toNat=true/\okI D regs n (D.k (ixU regs)).toNat (D.w (ixU regs)).toNat=true:=by
 obtain ⟨m1,m2,m3,m4⟩:=inM_nat hn hm;have e0:ix0 regs=ixU regs:=Nat.zero_add _;have a1:n63 n=true:=nB (by omega)
 have a2:mOK regs n=true:=by
  unfold mOK;rw [m3,m4];have:Nat.blt ((regs.i 1).toNat-1) n=true:=nB (by omega)
  rw [this];rfl
 have a3:Nat.blt (ixU regs) n=true:=by unfold ixU;rw [m4];exact nB (by omega)
 have a4:(D.k (ixU regs)==K ((D.k (ixU regs)).toNat:Int))=true:=by rw [Kof];exact beq_self_eq_true _
 have a5:(D.w (ixU regs)==K ((D.w (ixU regs)).toNat:Int))=true:=by rw [Kof];exact beq_self_eq_true _
 unfold okI okK;rw [e0,a1,a2,a3,a4,a5];exact ⟨rfl,rfl⟩
theorem cpu_of {j:Nat} {cpu:U}:i64Of (cpuA j cpu)=some (bif Nat.beq j 2 then cpu else K 0):=by
 unfold cpuA;split
 · rfl
 · rename_i h;have:Nat.beq j 2=false:=by
    cases e:Nat.beq j 2
    · rfl
    · exact absurd (Nat.eq_of_beq_eq_true e) h
   rw [this];rfl
theorem exV {n:Nat} (hn:n≤10) {D:DF} (hD:OKD n D) {a:Nat} (hA:AllV a) (s:VF) (cpu:U):∃(b:Bool) (T j w:Nat) (ok:A) (ob:Ob),(ev9 b T j w a s n D cpu).pq.pick=some (ok,[],ob)/\okB ok=true /\
 ObR ob (headF n s.regs (planL s.regs s.how s.flat cpu (D.k (ixU s.regs)).toNat (D.w (ixU s.regs)).toNat (argsOf a (D.k (ixU s.regs)).toNat))):=by
 by_cases hM:inM n (s.regs.i 1)=true
 · obtain ⟨m1,m2,_,m4⟩:=inM_nat hn hM;have hix:ixU s.regs<n:=by unfold ixU;rw [m4];omega
   obtain ⟨d1,d2,d3⟩:=hD _ hix;obtain ⟨o1,o2⟩:=okI_true hn (D:=D) hM;cases hargs:argsOf a (D.k (ixU s.regs)).toNat with
   | none=>
     have E:=hA.none d1 d2 hargs;obtain ⟨ok,ob,h1,h2,h3⟩:=headV_pick (regs:=s.regs) hn (rest:=noneV (D.k (ixU s.regs)).toNat s n D cpu) (po :=.err (K 18)) fun _ _=>pk_err o1 rfl;exact ⟨_,_,_,_,ok,ob,E.pick s n D cpu _ h1,h2,h3⟩
   | some p=>
     obtain ⟨op,L⟩:=p;obtain ⟨S,s1,s2,s3⟩:=sel_v (regs:=s.regs) (how:=s.how) (w:=(D.w (ixU s.regs)).toNat) (argsOf_L hargs);obtain ⟨T,E⟩:=hA.some hargs d3 s1;obtain ⟨ok,ob,h1,h2,h3⟩:=headV_pick (regs:=s.regs) hn (rest:=restV S (D.k (ixU s.regs)).toNat (D.w (ixU s.regs)).toNat op L s n D cpu) (po:=planL s.regs s.how s.flat cpu (D.k (ixU s.regs)).toNat (D.w (ixU s.regs)).toNat (some (op,L))) fun _ _=>
      argsV_pick cpu_of L 2 S.B _ _ _ _ _ _ _ o2 rfl rfl trivial s2 s3
     exact ⟨_,T,_,_,ok,ob,E.pick s n D cpu _ h1,h2,h3⟩
 · cases hargs:argsOf a 1 with
   | none=>
     have E:=hA.none (j:=1) (by decide) (by decide) hargs
     obtain ⟨ok,ob,h1,h2,h3⟩:=headV_pick (regs:=s.regs) hn (rest:=noneV 1 s n D cpu) fun _ h=>absurd h hM;exact ⟨_,_,_,_,ok,ob,E.pick s n D cpu _ h1,h2,h3⟩
   | some p=>
     obtain ⟨op,L⟩:=p;obtain ⟨T,E⟩:=hA.some (S :=.all) (w:=1) hargs rfl (by unfold selV;rfl)
     obtain ⟨ok,ob,h1,h2,h3⟩:=headV_pick (regs:=s.regs) hn (rest:=restV .all 1 1 op L s n D cpu) fun _ h=>absurd h hM;exact ⟨_,T,_,_,ok,ob,E.pick s n D cpu _ h1,h2,h3⟩
theorem exQ {n:Nat} (hn:n≤10) {D:DF} (hD:OKD n D) {a:Nat} (hA:AllQ a) (s:QF) (cpu:U):∃(T j w:Nat) (ok:A) (ob:Ob),(ev10 T j w a s n D cpu).pq.pick=some (ok,[],ob)/\okB ok=true /\
 ObR ob (headF n s.regs (planL s.regs s.how s.b cpu (D.k (ixU s.regs)).toNat (D.w (ixU s.regs)).toNat (argsOf a (D.k (ixU s.regs)).toNat))):=by
 by_cases hM:inM n (s.regs.i 1)=true
 · obtain ⟨m1,m2,_,m4⟩:=inM_nat hn hM;have hix:ixU s.regs<n:=by unfold ixU;rw [m4];omega
   obtain ⟨d1,d2,d3⟩:=hD _ hix;obtain ⟨o1,o2⟩:=okI_true hn (D:=D) hM;cases hargs:argsOf a (D.k (ixU s.regs)).toNat with
   | none=>
     have E:=hA.none d1 d2 hargs;obtain ⟨ok,ob,h1,h2,h3⟩:=headQ_pick (regs:=s.regs) hn (rest:=noneQ (D.k (ixU s.regs)).toNat s n D cpu) (po :=.err (K 18)) fun _ _=>pk_err o1 rfl;exact ⟨_,_,_,ok,ob,E.pick s n D cpu _ h1,h2,h3⟩
   | some p=>
     obtain ⟨op,L⟩:=p;obtain ⟨S,s1,s2⟩:=sel_q (regs:=s.regs) (how:=s.how) (w:=(D.w (ixU s.regs)).toNat) (argsOf_L hargs);obtain ⟨T,E⟩:=hA.some hargs d3 s1;obtain ⟨ok,ob,h1,h2,h3⟩:=headQ_pick (regs:=s.regs) hn (rest:=restQ S (D.k (ixU s.regs)).toNat (D.w (ixU s.regs)).toNat op L s n D cpu) (po:=planL s.regs s.how s.b cpu (D.k (ixU s.regs)).toNat (D.w (ixU s.regs)).toNat (some (op,L))) fun _ _=>
      argsQ_pick cpu_of L 2 S.B _ _ _ _ _ _ _ o2 rfl rfl trivial s2
     exact ⟨T,_,_,ok,ob,E.pick s n D cpu _ h1,h2,h3⟩
 · cases hargs:argsOf a 1 with
   | none=>
     have E:=hA.none (j:=1) (by decide) (by decide) hargs
     obtain ⟨ok,ob,h1,h2,h3⟩:=headQ_pick (regs:=s.regs) hn (rest:=noneQ 1 s n D cpu) fun _ h=>absurd h hM;exact ⟨_,_,_,ok,ob,E.pick s n D cpu _ h1,h2,h3⟩
   | some p=>
     obtain ⟨op,L⟩:=p;obtain ⟨T,E⟩:=hA.some (S :=.all) (w:=1) hargs rfl (by unfold selQ;rfl)
     obtain ⟨ok,ob,h1,h2,h3⟩:=headQ_pick (regs:=s.regs) hn (rest:=restQ .all 1 1 op L s n D cpu) fun _ h=>absurd h hM;exact ⟨T,_,_,ok,ob,E.pick s n D cpu _ h1,h2,h3⟩
theorem relArgs {r b off n c:Nat} {no cpu:U} (hc:n≤c) {x:A} (hx:x.rel (nu3 r b off) (.int .i64 (vof .i64 no))):relV (nu3 r b off) [slDP n,pt 0,one x,i64 cpu] [.slice (some ⟨b,off,none⟩) n c,.pointer (some ⟨r,0,none⟩),.int .i64 (vof .i64 no),.int .i64 (vof .i64 cpu)]:=by
 refine ⟨?_,?_,hx,?_,trivial⟩
 · show (A.sl 1 [] 5 (.lit 0) (.sym n) none).rel _ _;simp only [A.rel];exact ⟨b,off,off,c,by simp [nu3],rfl,fun _=>by simp [pathOff,Ix.val],hc,fun _ e=>by cases e⟩
 · show (A.ptr 0 []).rel _ _;simp only [A.rel];exact ⟨r,0,rfl,rfl⟩
 · show (A.i .i64 cpu).rel (nu3 r b off) (.int .i64 (vof .i64 cpu));simp only [A.rel]
theorem lit_no {ν:Nu} {a:Nat} {no:U} (h:no=K a) (ha:a≤8):(A.lit .i64 (a:Int)).rel ν (.int .i64 (vof .i64 no)):=by
 simp only [A.rel];subst h;have:∀a:Fin 9,vof .i64 (K (a.val:Int))=a.val/\IntKind.i64.wrap (a.val:Int)=a.val:=by decide +kernel
 obtain ⟨q1,q2⟩:=this ⟨a,by omega⟩
 exact ⟨congrArg _ q1,q2⟩
theorem planF_no {n:Nat} {D:DF} {regs:VV} {how flat:Nat->U} {no cpu:U} (h:inH no=false):planF n D regs how flat no cpu = .err (K 18):=by
 unfold inH at h;unfold planF;rw [h];rfl
theorem planF_7 {n:Nat} {D:DF} {regs:VV} {how flat:Nat->U} {cpu:U}:planF n D regs how flat (K 7) cpu = .ok (K 0) (K 0) (K 0) (K 0) (K 0) none:=rfl
theorem planF_in {n:Nat} {D:DF} {regs:VV} {how flat:Nat->U} {no cpu:U} (h:inH no=true) (h7:(no==K 7)=false):planF n D regs how flat no cpu=headF n regs (planL regs how flat cpu (D.k (ixU regs)).toNat (D.w (ixU regs)).toNat (argsOf no.toNat (D.k (ixU regs)).toNat)):=by
 unfold inH at h;unfold planF headF;rw [h,h7];rfl
theorem obR_7:ObR ([z64,z64,.lit .u64 0,z64,z64,z64],none) (.ok (K 0) (K 0) (K 0) (K 0) (K 0) none):=⟨_,_,_,_,_,_,rfl,rfl,rfl,rfl,rfl,rfl,rfl,trivial⟩
theorem OwnG.retR {cx:Cx} {Γ:Gam} {fuel d:Nat} {fp:Fp} {c:Code} {l:List (Nat×V)} {ms:List (Nat×Blk)} {n:Nat} {W:World} {K:List (Nat×Nat)} {Wr:List Nat} {a:Act} {w:World} {fn:Func} {o1 o2:A} {v:V} {R:Ending->World->Prop} {p:Option (Ex×St)} (X:CxOK cx Γ) (hlam:fp.lam=fun _ _=>none) (hpk:(evalC cx (evalF cx Γ fuel d) fp fuel c (stOf l (hM ms n))).pick=p) (hwr:wrOk Wr p=true)
 (hret:p.map (fun p=>p.1)=some .ret) (hp:retOf cx.P fp.km fn.results.toList p=some (o1,o2,v)) (ho1:okB o1=true) (ho2:okB o2=true) (hgl:codeGl c []=[])
 (hI:OwnG fp n ms W K Wr l a w) (hR:∀ν u w',v.rel ν u->ButK K Wr W.heap.size W w'->R (.returned u) w'):c.wp cx.P (fun x a' w'=>x = .ret/\bodyPostD cx.P fn R .ret a' w') a w:=by
 obtain ⟨ν,hs,hb,h0,hn⟩:=hI;subst hpk;obtain ⟨e,s,h',h1,he,h2,h3,h4⟩:=retOf_some hp;rw [h1] at hwr hret;have hret:e = .ret:=by simpa using hret
 subst hret;refine WE.phase X hlam h1 (by rw [h2];exact ho1) (gl_none hgl) hs fun ν' a' w' x hc hg hx => ?_
 have hbel:=OwnG.but hs.mem hb hn (wrOk_mem hwr) hg;obtain ⟨u,hu,hrun,g⟩:=resOf_sound (fp:=fp) (S:=markS (fun _=>True) (hM ms n)) h3 ho2 (fun _ _ =>.inl trivial) rfl (ν:=ν') (a:=a') (w:=w') hc;have hd:a'.defers=[]:=by
  have:=hc.defers;rw [h4] at this;cases hd:a'.defers with
  | nil=>rfl
  | cons _ _=>rw [hd] at this;exact this.elim
 have hx:x = .ret:=hx;subst hx;have hl:Leaves cx.P fn a'.tmps R a'.defers .returning w':=by rw [hd];exact ⟨u,hrun,hR _ _ _ hu hbel⟩
 exact ⟨rfl,hl⟩
section
variable {w:World} {r b off n c:Nat} {D:DF} {no cpu:U}
theorem plan9 {s:VF} (hn:n≤10) (hD:OKD n D) (hc:n≤c) (hne:r≠b) (h0:Holds w r s.t) (h1:HoldsAt w b off (D.arr n)):Calls Tryz.prog 9 #[.slice (some ⟨b,off,none⟩) n c,.pointer (some ⟨r,0,none⟩),.int .i64 (vof .i64 no),.int .i64 (vof .i64 cpu)] w (PlanP w (planF n D s.regs s.how s.flat no cpu)):=by
 have hpos:∀k g,(planF n D s.regs s.how s.flat no cpu).val=some (k,g)->0<k:=fun k g h=>planF_val hn hD h;cases hin:inH no
 · rw [planF_no hin] at hpos ⊢;obtain ⟨ok,ob,q1,q2,q3⟩:Pk (ev9n s n D no cpu).pq (.err (K 18)):=by
    rw [v_no];exact pk_err (by show (!(inH no))=true;rw [hin];rfl) rfl
   refine plan_of q1 q3 (fun v h' hp=>(evalF_fn (XP 1 1 (help_ok (ΓP_ok true 1000))) rfl hp q2).2) hpos hne h0 h1 (us:=[_,_,_,_]) (relArgs hc ?_);simp only [A.rel]
 · cases h7:no==K 7
   · obtain ⟨a,ha,hK,hcs⟩:=in_cases hin h7;rw [planF_in hin h7] at hpos ⊢;obtain ⟨bb,T,j,w',ok,ob,q1,q2,q3⟩:=exV hn hD (allV hcs) s cpu;rw [ha] at hpos ⊢;refine plan_of q1 q3 (fun v h' hp=>(evalF_fn (XP j w' (ΓP_ok bb T)) rfl hp q2).2) hpos hne h0 h1 (us:=[_,_,_,_]) (relArgs hc (lit_no hK (by omega)))
   · have h7:=eq_of_beq h7;subst h7;rw [planF_7] at hpos ⊢;refine plan_of (R0:=ev9 true 1000 1 1 7 s n D cpu) (ok :=.tt) (by rw [v7];rfl) obR_7 (fun v h' hp=>(evalF_fn (XP 1 1 (ΓP_ok true 1000)) rfl hp rfl).2) hpos hne h0 h1 (us:=[_,_,_,_]) (relArgs hc (lit_no (a:=7) rfl (by decide)))
theorem plan10no {s:QF} (hin:inH no=false) (hn:n≤10) (hc:n≤c) (hne:r≠b) (h0:Holds w r s.t) (h1:HoldsAt w b off (D.arr n)):Calls Tryz.prog 10 #[.slice (some ⟨b,off,none⟩) n c,.pointer (some ⟨r,0,none⟩),.int .i64 (vof .i64 no),.int .i64 (vof .i64 cpu)] w (PlanP w (.err (K 18))):=by
 have X:=XK noΓ_ok;have hq:inQ no=true:=by
  unfold inH at hin;unfold inQ;rw [slt_sle,slt_sle];cases h2:BitVec.sle (K 1) no
  · rfl
  · rw [h2,cond_true] at hin;rw [hin];rfl
 refine calls_phases Tryz.func10 body10 ?_;rw [c10_eq];have st:OwnG fp10 3 (mP s.t n D) w [(0,r)] [3] (vT n no cpu) { tmps := #[.slice (some ⟨b,off,none⟩) n c,.pointer (some ⟨r,0,none⟩),.int .i64 (vof .i64 no),.int .i64 (vof .i64 cpu)]++Array.replicate (Tryz.f10.ntmps-4) undef,defers:=[] } w:=
  OwnG.enterA (fp:=fp10) (args:=[slDP n,pt 0,i64 no,i64 cpu]) (vs:=[.slice (some ⟨b,off,none⟩) n c,.pointer (some ⟨r,0,none⟩),.int .i64 (vof .i64 no),.int .i64 (vof .i64 cpu)]) [3] (mem_p3 hne h0 h1) (fun p hp=>by
   simp only [List.mem_singleton] at hp;subst hp;rfl) (fun id q base h=>by
   rcases nu3_some h with ⟨rfl,rfl,_⟩|⟨hi,_,_⟩
   · exact .inl (.head _)
   · refine .inr fun x hx => ?_;rcases get_mP hx with ⟨rfl,_⟩|⟨_,rfl⟩|⟨_,rfl⟩
     · omega
     · rfl
     · rfl) (relArgs hc (by simp only [A.rel])) (by show 4≤134;decide)
 have hK4:∀p,p∈[(0,r)]->p.1<4:=fun p hp=>by simp only [List.mem_singleton] at hp;subst hp;show 0<4;decide
 have w3:wrOk [3] (evT pa (vT n no cpu) (mP s.t n D) 3).pick=true:=by kernel_rfl
 refine wp_two (OwnG.go X rfl (pa_ev s n D no cpu) w3 rfl rfl rfl hK4 (by kernel_rfl) (LessA.refl _) (LessM.refl _) st) fun a w1 hI => ?_
 refine wp_seq (wp_mono (OwnG.retR (fn:=Tryz.f10) (R:=PlanP w (.err (K 18))) X rfl (Out.at_pick ((pb_c s n D no cpu).trans (by rw [hq]))) (pb_w s n D no cpu) (by kernel_rfl) (pb_t s n D no cpu) rfl rfl (by kernel_rfl) hI fun ν u w' hu hbut => ?_) ?_)
 · have hb:Below w.heap.size w w':=⟨hbut.os,hbut.tape,hbut.output,hbut.size,fun r' hr=>hbut.block r' hr fun id hid hm=>by
    simp only [List.mem_singleton] at hid hm;subst hid;simp only [pI] at hm;omega⟩
   refine ⟨hb,?_⟩;obtain ⟨xs,rfl,hx⟩:=hu
   match xs,hx with
   | ⟨[u1,u2,u3]⟩,hx=>
     obtain ⟨x1,x2,x3,_⟩:=hx;have x1:z64.rel ν u1:=x1;have x3:(l64 18).rel ν u3:=x3;obtain ⟨vs,rfl,hst⟩:=x2;unfold zOp at hst;simp only [T.rel,relTs] at hst;obtain ⟨a1,b1,f1,⟨v1,rfl,y1,_⟩,a2,b2,f2,⟨v2,rfl,y2,_⟩,a3,b3,f3,⟨v3,rfl,y3,_⟩,a4,b4,f4,⟨v4,rfl,y4,_⟩,a5,b5,f5,⟨v5,rfl,y5,_⟩,f6⟩:=hst;subst f6;subst f5;subst f4;subst f3;subst f2;obtain ⟨vs⟩:=vs;have f1:vs=[v1,v2,v3,v4,v5]:=f1;subst f1;have y3:A.nils.rel ν v3:=y3;simp only [A.rel] at y3;rw [i64Of_rel (x:=K 0) rfl x1,i64Of_rel (x:=K 0) rfl y1,u64Of_rel (x:=K 0) rfl y2,y3,i64Of_rel (x:=K 0) rfl y4,i64Of_rel (x:=K 0) rfl y5,i64Of_rel (x:=K 18) rfl x3];rfl
 · rintro x a' w' ⟨rfl,h⟩;exact h
theorem plan10 {s:QF} (hn:n≤10) (hD:OKD n D) (hc:n≤c) (hne:r≠b) (h0:Holds w r s.t) (h1:HoldsAt w b off (D.arr n)):Calls Tryz.prog 10 #[.slice (some ⟨b,off,none⟩) n c,.pointer (some ⟨r,0,none⟩),.int .i64 (vof .i64 no),.int .i64 (vof .i64 cpu)] w (PlanP w (planF n D s.regs s.how s.b no cpu)):=by
 have hpos:∀k g,(planF n D s.regs s.how s.b no cpu).val=some (k,g)->0<k:=fun k g h=>planF_val hn hD h;cases hin:inH no
 · rw [planF_no hin];exact plan10no hin hn hc hne h0 h1
 · cases h7:no==K 7
   · obtain ⟨a,ha,hK,hcs⟩:=in_cases hin h7;rw [planF_in hin h7] at hpos ⊢;obtain ⟨T,j,w',ok,ob,q1,q2,q3⟩:=exQ hn hD (allQ hcs) s cpu;rw [ha] at hpos ⊢;refine plan_of q1 q3 (fun v h' hp=>(evalF_fn (XP j w' (ΓP_ok true T)) rfl hp q2).2) hpos hne h0 h1 (us:=[_,_,_,_]) (relArgs hc (lit_no hK (by omega)))
   · have h7:=eq_of_beq h7;subst h7;rw [planF_7] at hpos ⊢;refine plan_of (R0:=ev10 1000 1 1 7 s n D cpu) (ok :=.tt) (by rw [q7];rfl) obR_7 (fun v h' hp=>(evalF_fn (XP 1 1 (ΓP_ok true 1000)) rfl hp rfl).2) hpos hne h0 h1 (us:=[_,_,_,_]) (relArgs hc (lit_no (a:=7) rfl (by decide)))
end
def dec (p:Prop):Bool := @decide p (Classical.propDecidable p)
theorem dec_true {p:Prop} (h:p):dec p=true:=by
 unfold dec;exact @decide_eq_true p (Classical.propDecidable p) h
theorem of_dec {p:Prop} (h:dec p=true):p:=by
 unfold dec at h;exact @of_decide_eq_true p (Classical.propDecidable p) h
def PO.len (po:PO):Nat:=match po.val with
 | some (k,_)=>k
 | none=>0
def PO.wd (po:PO):Nat->U:=match po.val with
 | some (_,g)=>g
 | none=>fun _=>K 0
def PO.has (po:PO):Bool:=match po.val with
 | some _=>true
 | none=>false
def poTup (po:PO) (x:A):V :=.tup [.a (.i .i64 po.m),.st [.a (.i .i64 po.op),.a (.i .u64 po.key),.a x,.a (.i .i64 po.flag),.a (.i .i64 po.cpu)],.a (.i .i64 po.code)]
def okPl (n:Nat) (D:DF) (o:Bool):Bool:=(Nat.ble 1 n&&Nat.ble n 10)&&(o&&dec (OKD n D))
def planR (sh:Bool) (n:Nat) (D:DF) (o:Bool) (po:PO) (id idl:Nat) (h:H):R:=match sh with
 | false =>.leaf (.b (okPl n D o && !po.has)) (poTup po .nils) (h.sees [id,idl])
 | true =>.leaf (.b (okPl n D o&&po.has)) (poTup po (.sl h.next [] 1 (.lit 0) (.sym po.len) none)) ((h.sees [id,idl]).new ⟨true,.arr 1 (.sym po.len) (.int .u64 po.wd)⟩)
def planSp {σ:Type} (sh:Bool) (of:H->Nat->Option σ) (regs:σ->VV) (how flat:σ->Nat->U):List V->H->Option R
 | [.t (.a la),.t (.a (.ptr id [])),.t (.a an),.t (.a ac)],h=>match dfOf h la,of h id,i64Of an,i64Of ac with
   | some (idl,n,D,o),some s,some no,some cpu=>match Nat.beq id idl with
     | false=>some (planR sh n D o (planF n D (regs s) (how s) (flat s) no cpu) id idl h)
     | true=>none
   | _,_,_,_=>none
 | _,_=>none
theorem planSp_inv {σ:Type} {sh:Bool} {of:H->Nat->Option σ} {regs:σ->VV} {how flat:σ->Nat->U} {args:List V} {h:H} {r:R} (e:planSp sh of regs how flat args h=some r):∃la id an ac idl n D o s no cpu,args=[.t (.a la),.t (.a (.ptr id [])),.t (.a an),.t (.a ac)]/\dfOf h la=some (idl,n,D,o)/\of h id=some s/\i64Of an=some no/\i64Of ac=some cpu/\id≠idl/\r=planR sh n D o (planF n D (regs s) (how s) (flat s) no cpu) id idl h:=by
 unfold planSp at e;split at e
 · split at e
   · rename_i h1 h2 h3 h4;split at e
     · rename_i hb;cases e;exact ⟨_,_,_,_,_,_,_,_,_,_,_,rfl,h1,h2,h3,h4,(fun e=>by rw [e,Nat.beq_refl] at hb;cases hb),rfl⟩
     · cases e
   · cases e
 · cases e
theorem poTup_rel {ν:Nu} {po:PO} {x:A} {l:Value} (hx:x.rel ν l) (hc:Cell l):(poTup po x).rel ν (.tuple #[.int .i64 (vof .i64 po.m),pOp po l,.int .i64 (vof .i64 po.code)]):=by
 refine ⟨_,rfl,?_,?_,?_,trivial⟩
 · show (A.i .i64 po.m).rel ν (.int .i64 (vof .i64 po.m));simp only [A.rel]
 · refine ⟨_,rfl,?_⟩;simp only [T.rel,relTs,A.rel];exact ⟨_,_,rfl,⟨_,rfl,rfl,trivial⟩,_,_,rfl,⟨_,rfl,rfl,trivial⟩,_,_,rfl,⟨_,rfl,hx,hc⟩,_,_,rfl,⟨_,rfl,rfl,trivial⟩,_,_,rfl,⟨_,rfl,rfl,trivial⟩,rfl⟩
 · show (A.i .i64 po.code).rel ν (.int .i64 (vof .i64 po.code));simp only [A.rel]
theorem plan_fn {σ:Type} {sh:Bool} {of:H->Nat->Option σ} {regs:σ->VV} {how flat:σ->Nat->U} {t:σ->T} {f:Nat} (hof:∀{h id s},of h id=some s->h.m.get id=some ⟨true,t s⟩) (hn:∀s,notMp (t s)=true) (hf:∀s,(t s).free=true) (hent:Enters Tryz.prog f)
 (hc:∀{w:World} {r b off n c:Nat} {D:DF} {no cpu:U} {s:σ},n≤10->OKD n D->n≤c->r≠b->Holds w r (t s)->HoldsAt w b off (D.arr n)->Calls Tryz.prog f #[.slice (some ⟨b,off,none⟩) n c,.pointer (some ⟨r,0,none⟩),.int .i64 (vof .i64 no),.int .i64 (vof .i64 cpu)] w (PlanP w (planF n D (regs s) (how s) (flat s) no cpu))):AnyOK Tryz.prog f (planSp sh of regs how flat) where
 ent:=hent
 ok:=by
  intro args h r ok v h' he hp hok;obtain ⟨la,id,an,ac,idl,n,D,o,s,no,cpu,rfl,hd,hs,hno,hcpu,hne,rfl⟩:=planSp_inv he;have call:okPl n D o=true->∀S ν w us,Mem S ν w h->(∀i,i∈[id,idl]->S i\/h.lo≤i)->relV ν [.t (.a la),.t (.a (.ptr id [])),.t (.a an),.t (.a ac)] us->Calls Tryz.prog f us.toArray w (PlanP w (planF n D (regs s) (how s) (flat s) no cpu)):=fun ho S ν w us hm hS hus=>by
   unfold okPl at ho;simp only [bA] at ho;obtain ⟨⟨o1,o2⟩,o3,o4⟩:=ho;have o1:=nL o1;have o2:=nL o2
   match us,hus with
   | [u0,u1,u2,u3],⟨r0,r1,r2,r3,_⟩=>
     obtain ⟨B,off,c,hH,rfl,hcc,hνl⟩:=df_here hm hd o3 (hS idl (.tail _ (.head _))) (by omega) r0
     obtain ⟨rr,e1,hh,rfl⟩:=ptr_here hm (hof hs) (hS id (.head _)) (hn s) (hf s) r1;obtain rfl:=i64Of_rel hno r2;obtain rfl:=i64Of_rel hcpu r3;have hrB:rr≠B:=by rintro rfl;exact hne (hm.nums.inj id _ (hof hs) rfl idl rr 0 off e1 hνl).symm
     exact hc o2 (of_dec o4) hcc hrB hh hH
  cases sh
  · simp only [planR,R.pick,oI,pI] at hp;obtain ⟨rfl,rfl,rfl⟩:=hp;have hok:(okPl n D o && !(planF n D (regs s) (how s) (flat s) no cpu).has)=true:=hok;rw [bA] at hok;refine fn_calm [id,idl] fun S ν w us hm hS hus=>(call hok.1 S ν w us hm hS hus).mono ?_;rintro e w' ⟨hb,hv⟩;have h2:=hok.2;unfold PO.has at h2;cases hval:(planF n D (regs s) (how s) (flat s) no cpu).val with
    | some p=>rw [hval] at h2;cases h2
    | none=>
      rw [hval] at hv;exact ⟨_,hv,poTup_rel (by simp only [A.rel]) trivial,hb⟩
  · simp only [planR,R.pick,oI,pI] at hp;obtain ⟨rfl,rfl,rfl⟩:=hp;have hok:(okPl n D o&&(planF n D (regs s) (how s) (flat s) no cpu).has)=true:=hok;rw [bA] at hok;refine fn_made rfl [id,idl] fun S ν w us hm hS hus=>(call hok.1 S ν w us hm hS hus).mono ?_;rintro e w' ⟨hb,hv⟩;have h2:=hok.2;unfold PO.has at h2;cases hval:(planF n D (regs s) (how s) (flat s) no cpu).val with
    | none=>rw [hval] at h2;cases h2
    | some p=>
      obtain ⟨k,g⟩:=p;rw [hval] at hv;obtain ⟨B,c,hB,hkc,rfl,hH⟩:=hv;have e1:(planF n D (regs s) (how s) (flat s) no cpu).len=k:=by unfold PO.len;rw [hval]
      have e2:(planF n D (regs s) (how s) (flat s) no cpu).wd=g:=by unfold PO.wd;rw [hval]
      rw [e1,e2];refine ⟨_,B,rfl,hB,hb,?_,fun ν' _ hν=>poTup_rel ?_ trivial⟩
      · obtain ⟨cs,ty,vs,post,z1,z2,z3⟩:=hH;exact ⟨cs,ty,vs,post,z1,z2,by
         simp only [T.rel] at z3 ⊢;exact z3⟩
      · simp only [A.rel];exact ⟨B,0,0,c,hν,rfl,fun _=>by simp [pathOff,Ix.val],hkc,fun _ e=>by cases e⟩
 pan:=by intro args h r ok v h' he hp hok;obtain ⟨la,id,an,ac,idl,n,D,o,s,no,cpu,rfl,hd,hs,hno,hcpu,hne,rfl⟩:=planSp_inv he;cases sh<;>simp [planR,R.pickP] at hp
 ext:=by
  intro args h r he hlo;obtain ⟨la,id,an,ac,idl,n,D,o,s,no,cpu,rfl,hd,hs,hno,hcpu,hne,rfl⟩:=planSp_inv he;cases sh
  · exact sees_ext _ h
  · exact (sees_ext _ h).trans (new_ext (by rw [sees_lo,sees_next];exact hlo) _)
def plan9Sp (sh:Bool):List V->H->Option R:=planSp sh vfOf VF.regs VF.how VF.flat
def plan10Sp (sh:Bool):List V->H->Option R:=planSp sh qfOf QF.regs QF.how QF.b
theorem plan9_ok (sh:Bool):AnyOK Tryz.prog 9 (plan9Sp sh):=plan_fn (t:=VF.t) vfOf_some (fun _=>rfl) (fun _=>rfl) (enters_of entK 9 _ Tryz.func9 (by simp [Tryz.f9])) plan9
theorem plan10_ok (sh:Bool):AnyOK Tryz.prog 10 (plan10Sp sh):=plan_fn (t:=QF.t) qfOf_some (fun _=>rfl) (fun _=>rfl) (enters_of entK 10 _ Tryz.func10 (by simp [Tryz.f10])) plan10
end Go.WE
end
