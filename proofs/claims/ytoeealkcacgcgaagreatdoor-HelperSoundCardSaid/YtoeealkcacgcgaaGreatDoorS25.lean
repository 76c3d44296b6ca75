/- A part of a proof of the helpers' law; no condition of its own. -/
import Derived.Test.YtoeealkcacgcgaaGreatDoorS24
set_option linter.unusedVariables false
set_option maxRecDepth 100000
noncomputable section
namespace Go.WE
open Go Go.Proofs Go.RowKit
theorem argsF_val {regs:VV} {how flat:Nat->U} {w:Nat} {m op cpu:U} (hw:0<w):∀(L:List Nat) (r:Nat) (key flag:U) (v:Option (Nat×(Nat->U))),(∀k g,v=some (k,g)->0<k)->∀k g,(argsF regs how flat w m op cpu L r key flag v).val=some (k,g)->0<k
 | [],r,key,flag,v,hv,k,g,h=>hv k g h
 | 0::L,r,key,flag,v,hv,k,g,h=>by
   unfold argsF at h;cases h0:regs.k r==K 0<;>simp only [h0,cond_true,cond_false] at h
   · cases h1:bytesE how (regs.at r) 8 != K 0<;>simp only [h1,cond_true,cond_false] at h
     · exact argsF_val hw L _ _ _ _ hv k g h
     · cases h
   · cases h
 | 1::L,r,key,flag,v,hv,k,g,h=>by
   unfold argsF at h;cases h0:regs.k r==K 0<;>simp only [h0,cond_true,cond_false] at h
   · cases h1:bytesE how (regs.at r) (8*w) != K 0<;>simp only [h1,cond_true,cond_false] at h
     · exact argsF_val hw L _ _ _ _ (fun k g e=>by cases e;exact hw) k g h
     · cases h
   · cases h
 | 2::L,r,key,flag,v,hv,k,g,h=>by
   unfold argsF at h;cases h0:regs.k r==K 0<;>simp only [h0,cond_true,cond_false] at h
   · cases h1:regs.k r != K 1<;>simp only [h1,cond_true,cond_false] at h
     · exact argsF_val hw L _ _ _ _ hv k g h
     · cases h
   · cases h
 | (n+3)::L,r,key,flag,v,hv,k,g,h=>by
   unfold argsF at h;cases h0:regs.k r==K 0<;>simp only [h0,cond_true,cond_false] at h
   · cases h1:regs.k r != K 3<;>simp only [h1,cond_true,cond_false] at h
     · cases h2:roomB (regs.n r) (8*w)<;>simp only [h2,Bool.not_true,Bool.not_false,cond_true,cond_false] at h
       · cases h
       · exact argsF_val hw L _ _ _ _ hv k g h
     · cases h
   · cases h
theorem wOK_pos {j w:Nat} (h:wOK j w=true):0<w:=by
 unfold wOK at h;split at h
 · rcases w_four h with rfl|rfl|rfl|rfl<;>decide
 · rcases w_four h with rfl|rfl|rfl|rfl<;>decide
 · rcases w_four h with rfl|rfl|rfl|rfl<;>decide
 · rw [w_one h];decide
theorem headF_val {n:Nat} {regs:VV} {po:PO} {k:Nat} {g:Nat->U} (h:(headF n regs po).val=some (k,g)):inM n (regs.i 1)=true/\po.val=some (k,g):=by
 unfold headF at h;cases h0:regs.k 1==K 0<;>simp only [h0,cond_true,cond_false] at h
 · cases h1:regs.k 1 != K 4<;>simp only [h1,cond_true,cond_false] at h
   · cases h2:inM n (regs.i 1)<;>simp only [h2,Bool.not_true,Bool.not_false,cond_true,cond_false] at h
     · cases h
     · exact ⟨rfl,h⟩
   · cases h
 · cases h
theorem planF_val {n:Nat} (hn:n≤10) {D:DF} (hD:OKD n D) {regs:VV} {how flat:Nat->U} {no cpu:U} {k:Nat} {g:Nat->U} (h:(planF n D regs how flat no cpu).val=some (k,g)):0<k:=by
 unfold planF at h;cases h0:cond (BitVec.sle (K 1) no) (BitVec.sle no (K 8)) false<;>simp only [h0,Bool.not_true,Bool.not_false,cond_true,cond_false] at h
 · cases h
 · cases h1:no==K 7<;>simp only [h1,cond_true,cond_false] at h
   · have h:(headF n regs (planL regs how flat cpu (D.k (ixU regs)).toNat (D.w (ixU regs)).toNat (argsOf no.toNat (D.k (ixU regs)).toNat))).val=some (k,g):=h;obtain ⟨hm,h⟩:=headF_val h;obtain ⟨m1,m2,_,m4⟩:=inM_nat hn hm;have hix:ixU regs<n:=by unfold ixU;rw [m4];omega
     obtain ⟨_,_,hw⟩:=hD _ hix;unfold planL at h;split at h
     · cases h
     · exact argsF_val (wOK_pos hw) _ _ _ _ _ (fun k g e=>by cases e) k g h
   · cases h
theorem argsOf_L {a j op:Nat} {L:List Nat} (h:argsOf a j=some (op,L)):L=[0]\/L=[0,1,2]\/L=[1,2]\/L=[3]\/L=[1]\/L=[0,3]:=by
 unfold argsOf at h
 repeat' split at h
 all_goals first|(cases h;simp;done)|cases h
theorem sel_v {regs:VV} {how:Nat->U} {w:Nat} {L:List Nat} (hL:L=[0]\/L=[0,1,2]\/L=[1,2]\/L=[3]\/L=[1]\/L=[0,3]):∃S:Sel,selV L S=true/\OKB regs how w L 2 S.B/\OKb regs w S.b L 2 S.B:=by
 rcases hL with rfl|rfl|rfl|rfl|rfl|rfl
 · by_cases h:bytesE how (regs.at 2) 8=K 0
   · exact ⟨.all,rfl,⟨h,trivial⟩,trivial⟩
   · exact ⟨.e0,rfl,h,trivial⟩
 · by_cases h:bytesE how (regs.at 2) 8=K 0
   · by_cases h':bytesE how (regs.at 3) (8*w)=K 0
     · exact ⟨.all,rfl,⟨h,h',trivial⟩,trivial⟩
     · exact ⟨.e1,rfl,⟨h,h'⟩,trivial⟩
   · exact ⟨.e0,rfl,h,trivial⟩
 · by_cases h:bytesE how (regs.at 2) (8*w)=K 0
   · exact ⟨.all,rfl,⟨h,trivial⟩,trivial⟩
   · exact ⟨.e0,rfl,h,trivial⟩
 · cases h:roomB (regs.n 2) (8*w)
   · exact ⟨.nr,rfl,trivial,h,trivial⟩
   · exact ⟨.all,rfl,trivial,h,trivial⟩
 · by_cases h:bytesE how (regs.at 2) (8*w)=K 0
   · exact ⟨.all,rfl,⟨h,trivial⟩,trivial⟩
   · exact ⟨.e0,rfl,h,trivial⟩
 · by_cases h:bytesE how (regs.at 2) 8=K 0
   · cases h':roomB (regs.n 3) (8*w)
     · exact ⟨.nr,rfl,⟨h,trivial⟩,h',trivial⟩
     · exact ⟨.all,rfl,⟨h,trivial⟩,h',trivial⟩
   · exact ⟨.e0,rfl,h,trivial⟩
structure AllV (a:Nat):Prop where
 some:∀{S:Sel} {j w op:Nat} {L:List Nat},argsOf a j=some (op,L)->wOK j w=true->selV L S=true->∃T,EvV S.b T j w a (restV S j w op L)
 none:∀{j:Nat},1≤j->j≤10->argsOf a j=none->EvV true 1000 j 1 a (noneV j)
theorem in_cases {no:U} (h:inH no=true) (h7:(no==K 7)=false):∃a:Nat,no.toNat=a/\no=K a/\(a=1\/a=2\/a=3\/a=4\/a=5\/a=6\/a=8):=by
 unfold inH at h;cases h1:BitVec.sle (K 1) no
 · rw [h1] at h;cases h
 · rw [h1,cond_true] at h;rw [BitVec.sle,decide_eq_true_eq,KtoInt (by omega)] at h1 h
   have h2:=BitVec.toInt_eq_toNat_cond no;have h3:=no.isLt;have h4:no.toNat=no.toInt:=by split at h2<;>omega
   refine ⟨no.toNat,rfl,(Kof no).symm,?_⟩;have:no.toNat≠7:=fun e=>by
    have:no=K 7:=by rw [← Kof no,e];rfl
    rw [this] at h7;exact absurd h7 (by decide)
   omega
theorem allV {a:Nat} (h:a=1\/a=2\/a=3\/a=4\/a=5\/a=6\/a=8):AllV a:=by
 rcases h with rfl|rfl|rfl|rfl|rfl|rfl|rfl
 · exact ⟨evV_1,evVn_1⟩
 · exact ⟨evV_2,evVn_2⟩
 · exact ⟨evV_3,evVn_3⟩
 · exact ⟨evV_4,evVn_4⟩
 · exact ⟨evV_5,evVn_5⟩
 · exact ⟨evV_6,evVn_6⟩
 · exact ⟨evV_8,evVn_8⟩
theorem okI_true {n:Nat} (hn:n≤10) {D:DF} {regs:VV} (hm:inM n (regs.i 1)=true):okK D regs n (D.k (ixU regs)).toNat=true/\okI D regs n (D.k (ixU regs)).toNat (D.w (ixU regs)).toNat=true:=by
 obtain ⟨m1,m2,m3,m4⟩:=inM_nat hn hm;have e0:ix0 regs=ixU regs:=Nat.zero_add _;have a1:n63 n=true:=nB (by omega)
 have a2:mOK regs n=true:=by
  unfold mOK;rw [m3,m4];have:Nat.blt ((regs.i 1).toNat-1) n=true:=nB (by omega)
  rw [this];rfl
 have a3:Nat.blt (ixU regs) n=true:=by unfold ixU;rw [m4];exact nB (by omega)
 have a4:(D.k (ixU regs)==K ((D.k (ixU regs)).toNat:Int))=true:=by rw [Kof];exact beq_self_eq_true _
 have a5:(D.w (ixU regs)==K ((D.w (ixU regs)).toNat:Int))=true:=by rw [Kof];exact beq_self_eq_true _
 unfold okI okK;rw [e0,a1,a2,a3,a4,a5];exact ⟨rfl,rfl⟩
theorem cpu_of {j:Nat} {cpu:U}:i64Of (cpuA j cpu)=some (bif Nat.beq j 2 then cpu else K 0):=by
 unfold cpuA;split
 · rfl
 · rename_i h;have:Nat.beq j 2=false:=by
    cases e:Nat.beq j 2
    · rfl
    · exact absurd (Nat.eq_of_beq_eq_true e) h
   rw [this];rfl
theorem exV {n:Nat} (hn:n≤10) {D:DF} (hD:OKD n D) {a:Nat} (hA:AllV a) (s:VF) (cpu:U):∃(b:Bool) (T j w:Nat) (ok:A) (ob:Ob),(ev9 b T j w a s n D cpu).pq.pick=some (ok,[],ob)/\okB ok=true /\
 ObR ob (headF n s.regs (planL s.regs s.how s.flat cpu (D.k (ixU s.regs)).toNat (D.w (ixU s.regs)).toNat (argsOf a (D.k (ixU s.regs)).toNat))):=by
 by_cases hM:inM n (s.regs.i 1)=true
 · obtain ⟨m1,m2,_,m4⟩:=inM_nat hn hM;have hix:ixU s.regs<n:=by unfold ixU;rw [m4];omega
   obtain ⟨d1,d2,d3⟩:=hD _ hix;obtain ⟨o1,o2⟩:=okI_true hn (D:=D) hM;cases hargs:argsOf a (D.k (ixU s.regs)).toNat with
   | none=>
     have E:=hA.none d1 d2 hargs;obtain ⟨ok,ob,h1,h2,h3⟩:=headV_pick (regs:=s.regs) hn (rest:=noneV (D.k (ixU s.regs)).toNat s n D cpu) (po :=.err (K 18)) fun _ _=>pk_err o1 rfl;exact ⟨_,_,_,_,ok,ob,E.pick s n D cpu _ h1,h2,h3⟩
   | some p=>
     obtain ⟨op,L⟩:=p;obtain ⟨S,s1,s2,s3⟩:=sel_v (regs:=s.regs) (how:=s.how) (w:=(D.w (ixU s.regs)).toNat) (argsOf_L hargs);obtain ⟨T,E⟩:=hA.some hargs d3 s1;obtain ⟨ok,ob,h1,h2,h3⟩:=headV_pick (regs:=s.regs) hn (rest:=restV S (D.k (ixU s.regs)).toNat (D.w (ixU s.regs)).toNat op L s n D cpu) (po:=planL s.regs s.how s.flat cpu (D.k (ixU s.regs)).toNat (D.w (ixU s.regs)).toNat (some (op,L))) fun _ _=>
      argsV_pick cpu_of L 2 S.B _ _ _ _ _ _ _ o2 rfl rfl trivial s2 s3
     exact ⟨_,T,_,_,ok,ob,E.pick s n D cpu _ h1,h2,h3⟩
 · cases hargs:argsOf a 1 with
   | none=>
     have E:=hA.none (j:=1) (by decide) (by decide) hargs
     obtain ⟨ok,ob,h1,h2,h3⟩:=headV_pick (regs:=s.regs) hn (rest:=noneV 1 s n D cpu) fun _ h=>absurd h hM;exact ⟨_,_,_,_,ok,ob,E.pick s n D cpu _ h1,h2,h3⟩
   | some p=>
     obtain ⟨op,L⟩:=p;obtain ⟨T,E⟩:=hA.some (S :=.all) (w:=1) hargs rfl (by unfold selV;rfl)
     obtain ⟨ok,ob,h1,h2,h3⟩:=headV_pick (regs:=s.regs) hn (rest:=restV .all 1 1 op L s n D cpu) fun _ h=>absurd h hM;exact ⟨_,T,_,_,ok,ob,E.pick s n D cpu _ h1,h2,h3⟩
theorem relArgs {r b off n c:Nat} {no cpu:U} (hc:n≤c) {x:A} (hx:x.rel (nu3 r b off) (.int .i64 (vof .i64 no))):relV (nu3 r b off) [slDP n,pt 0,one x,i64 cpu] [.slice (some ⟨b,off,none⟩) n c,.pointer (some ⟨r,0,none⟩),.int .i64 (vof .i64 no),.int .i64 (vof .i64 cpu)]:=by
 refine ⟨?_,?_,hx,?_,trivial⟩
 · show (A.sl 1 [] 5 (.lit 0) (.sym n) none).rel _ _;simp only [A.rel];exact ⟨b,off,off,c,by simp [nu3],rfl,fun _=>by simp [pathOff,Ix.val],hc,fun _ e=>by cases e⟩
 · show (A.ptr 0 []).rel _ _;simp only [A.rel];exact ⟨r,0,rfl,rfl⟩
 · show (A.i .i64 cpu).rel (nu3 r b off) (.int .i64 (vof .i64 cpu));simp only [A.rel]
theorem lit_no {ν:Nu} {a:Nat} {no:U} (h:no=K a) (ha:a≤8):(A.lit .i64 (a:Int)).rel ν (.int .i64 (vof .i64 no)):=by
 simp only [A.rel];subst h;have:∀a:Fin 9,vof .i64 (K (a.val:Int))=a.val/\IntKind.i64.wrap (a.val:Int)=a.val:=by decide +kernel
 obtain ⟨q1,q2⟩:=this ⟨a,by omega⟩
 exact ⟨congrArg _ q1,q2⟩
theorem planF_no {n:Nat} {D:DF} {regs:VV} {how flat:Nat->U} {no cpu:U} (h:inH no=false):planF n D regs how flat no cpu = .err (K 18):=by
 unfold inH at h;unfold planF;rw [h];rfl
theorem planF_7 {n:Nat} {D:DF} {regs:VV} {how flat:Nat->U} {cpu:U}:planF n D regs how flat (K 7) cpu = .ok (K 0) (K 0) (K 0) (K 0) (K 0) none:=rfl
theorem planF_in {n:Nat} {D:DF} {regs:VV} {how flat:Nat->U} {no cpu:U} (h:inH no=true) (h7:(no==K 7)=false):planF n D regs how flat no cpu=headF n regs (planL regs how flat cpu (D.k (ixU regs)).toNat (D.w (ixU regs)).toNat (argsOf no.toNat (D.k (ixU regs)).toNat)):=by
 unfold inH at h;unfold planF headF;rw [h,h7];rfl
theorem obR_7:ObR ([z64,z64,.lit .u64 0,z64,z64,z64],none) (.ok (K 0) (K 0) (K 0) (K 0) (K 0) none):=⟨_,_,_,_,_,_,rfl,rfl,rfl,rfl,rfl,rfl,rfl,trivial⟩
section
variable {w:World} {r b off n c:Nat} {D:DF} {no cpu:U}
theorem plan9 {s:VF} (hn:n≤10) (hD:OKD n D) (hc:n≤c) (hne:r≠b) (h0:Holds w r s.t) (h1:HoldsAt w b off (D.arr n)):Calls Tryz.prog 9 #[.slice (some ⟨b,off,none⟩) n c,.pointer (some ⟨r,0,none⟩),.int .i64 (vof .i64 no),.int .i64 (vof .i64 cpu)] w (PlanP w (planF n D s.regs s.how s.flat no cpu)):=by
 have hpos:∀k g,(planF n D s.regs s.how s.flat no cpu).val=some (k,g)->0<k:=fun k g h=>planF_val hn hD h;cases hin:inH no
 · rw [planF_no hin] at hpos ⊢;obtain ⟨ok,ob,q1,q2,q3⟩:Pk (ev9n s n D no cpu).pq (.err (K 18)):=by
    rw [v_no];exact pk_err (by show (!(inH no))=true;rw [hin];rfl) rfl
   refine plan_of q1 q3 (fun v h' hp=>(evalF_fn (XP 1 1 (help_ok (ΓP_ok true 1000))) rfl hp q2).2) hpos hne h0 h1 (us:=[_,_,_,_]) (relArgs hc ?_);simp only [A.rel]
 · cases h7:no==K 7
   · obtain ⟨a,ha,hK,hcs⟩:=in_cases hin h7;rw [planF_in hin h7] at hpos ⊢;obtain ⟨bb,T,j,w',ok,ob,q1,q2,q3⟩:=exV hn hD (allV hcs) s cpu;rw [ha] at hpos ⊢;refine plan_of q1 q3 (fun v h' hp=>(evalF_fn (XP j w' (ΓP_ok bb T)) rfl hp q2).2) hpos hne h0 h1 (us:=[_,_,_,_]) (relArgs hc (lit_no hK (by omega)))
   · have h7:=eq_of_beq h7;subst h7;rw [planF_7] at hpos ⊢;refine plan_of (R0:=ev9 true 1000 1 1 7 s n D cpu) (ok :=.tt) (by rw [v7];rfl) obR_7 (fun v h' hp=>(evalF_fn (XP 1 1 (ΓP_ok true 1000)) rfl hp rfl).2) hpos hne h0 h1 (us:=[_,_,_,_]) (relArgs hc (lit_no (a:=7) rfl (by decide)))
end
def dec (p:Prop):Bool := @decide p (Classical.propDecidable p)
theorem dec_true {p:Prop} (h:p):dec p=true:=by
 unfold dec;exact @decide_eq_true p (Classical.propDecidable p) h
theorem of_dec {p:Prop} (h:dec p=true):p:=by
 unfold dec at h;exact @of_decide_eq_true p (Classical.propDecidable p) h
def PO.len (po:PO):Nat:=match po.val with
 | some (k,_)=>k
 | none=>0
def PO.wd (po:PO):Nat->U:=match po.val with
 | some (_,g)=>g
 | none=>fun _=>K 0
def PO.has (po:PO):Bool:=match po.val with
 | some _=>true
 | none=>false
def poTup (po:PO) (x:A):V :=.tup [.a (.i .i64 po.m),.st [.a (.i .i64 po.op),.a (.i .u64 po.key),.a x,.a (.i .i64 po.flag),.a (.i .i64 po.cpu)],.a (.i .i64 po.code)]
def okPl (n:Nat) (D:DF) (o:Bool):Bool:=(Nat.ble 1 n&&Nat.ble n 10)&&(o&&dec (OKD n D))
def planR (sh:Bool) (n:Nat) (D:DF) (o:Bool) (po:PO) (id idl:Nat) (h:H):R:=match sh with
 | false =>.leaf (.b (okPl n D o && !po.has)) (poTup po .nils) (h.sees [id,idl])
 | true =>.leaf (.b (okPl n D o&&po.has)) (poTup po (.sl h.next [] 1 (.lit 0) (.sym po.len) none)) ((h.sees [id,idl]).new ⟨true,.arr 1 (.sym po.len) (.int .u64 po.wd)⟩)
def planSp {σ:Type} (sh:Bool) (of:H->Nat->Option σ) (regs:σ->VV) (how flat:σ->Nat->U):List V->H->Option R
 | [.t (.a la),.t (.a (.ptr id [])),.t (.a an),.t (.a ac)],h=>match dfOf h la,of h id,i64Of an,i64Of ac with
   | some (idl,n,D,o),some s,some no,some cpu=>match Nat.beq id idl with
     | false=>some (planR sh n D o (planF n D (regs s) (how s) (flat s) no cpu) id idl h)
     | true=>none
   | _,_,_,_=>none
 | _,_=>none
theorem planSp_inv {σ:Type} {sh:Bool} {of:H->Nat->Option σ} {regs:σ->VV} {how flat:σ->Nat->U} {args:List V} {h:H} {r:R} (e:planSp sh of regs how flat args h=some r):∃la id an ac idl n D o s no cpu,args=[.t (.a la),.t (.a (.ptr id [])),.t (.a an),.t (.a ac)]/\dfOf h la=some (idl,n,D,o)/\of h id=some s/\i64Of an=some no/\i64Of ac=some cpu/\id≠idl/\r=planR sh n D o (planF n D (regs s) (how s) (flat s) no cpu) id idl h:=by
 unfold planSp at e;split at e
 · split at e
   · rename_i h1 h2 h3 h4;split at e
     · rename_i hb;cases e;exact ⟨_,_,_,_,_,_,_,_,_,_,_,rfl,h1,h2,h3,h4,(fun e=>by rw [e,Nat.beq_refl] at hb;cases hb),rfl⟩
     · cases e
   · cases e
 · cases e
theorem poTup_rel {ν:Nu} {po:PO} {x:A} {l:Value} (hx:x.rel ν l) (hc:Cell l):(poTup po x).rel ν (.tuple #[.int .i64 (vof .i64 po.m),pOp po l,.int .i64 (vof .i64 po.code)]):=by
 refine ⟨_,rfl,?_,?_,?_,trivial⟩
 · show (A.i .i64 po.m).rel ν (.int .i64 (vof .i64 po.m));simp only [A.rel]
 · refine ⟨_,rfl,?_⟩;simp only [T.rel,relTs,A.rel];exact ⟨_,_,rfl,⟨_,rfl,rfl,trivial⟩,_,_,rfl,⟨_,rfl,rfl,trivial⟩,_,_,rfl,⟨_,rfl,hx,hc⟩,_,_,rfl,⟨_,rfl,rfl,trivial⟩,_,_,rfl,⟨_,rfl,rfl,trivial⟩,rfl⟩
 · show (A.i .i64 po.code).rel ν (.int .i64 (vof .i64 po.code));simp only [A.rel]
theorem plan_fn {σ:Type} {sh:Bool} {of:H->Nat->Option σ} {regs:σ->VV} {how flat:σ->Nat->U} {t:σ->T} {f:Nat} (hof:∀{h id s},of h id=some s->h.m.get id=some ⟨true,t s⟩) (hn:∀s,notMp (t s)=true) (hf:∀s,(t s).free=true) (hent:Enters Tryz.prog f)
 (hc:∀{w:World} {r b off n c:Nat} {D:DF} {no cpu:U} {s:σ},n≤10->OKD n D->n≤c->r≠b->Holds w r (t s)->HoldsAt w b off (D.arr n)->Calls Tryz.prog f #[.slice (some ⟨b,off,none⟩) n c,.pointer (some ⟨r,0,none⟩),.int .i64 (vof .i64 no),.int .i64 (vof .i64 cpu)] w (PlanP w (planF n D (regs s) (how s) (flat s) no cpu))):AnyOK Tryz.prog f (planSp sh of regs how flat) where
 ent:=hent
 ok:=by
  intro args h r ok v h' he hp hok;obtain ⟨la,id,an,ac,idl,n,D,o,s,no,cpu,rfl,hd,hs,hno,hcpu,hne,rfl⟩:=planSp_inv he;have call:okPl n D o=true->∀S ν w us,Mem S ν w h->(∀i,i∈[id,idl]->S i\/h.lo≤i)->relV ν [.t (.a la),.t (.a (.ptr id [])),.t (.a an),.t (.a ac)] us->Calls Tryz.prog f us.toArray w (PlanP w (planF n D (regs s) (how s) (flat s) no cpu)):=fun ho S ν w us hm hS hus=>by
   unfold okPl at ho;simp only [bA] at ho;obtain ⟨⟨o1,o2⟩,o3,o4⟩:=ho;have o1:=nL o1;have o2:=nL o2
   match us,hus with
   | [u0,u1,u2,u3],⟨r0,r1,r2,r3,_⟩=>
     obtain ⟨B,off,c,hH,rfl,hcc,hνl⟩:=df_here hm hd o3 (hS idl (.tail _ (.head _))) (by omega) r0
     obtain ⟨rr,e1,hh,rfl⟩:=ptr_here hm (hof hs) (hS id (.head _)) (hn s) (hf s) r1;obtain rfl:=i64Of_rel hno r2;obtain rfl:=i64Of_rel hcpu r3;have hrB:rr≠B:=by rintro rfl;exact hne (hm.nums.inj id _ (hof hs) rfl idl rr 0 off e1 hνl).symm
     exact hc o2 (of_dec o4) hcc hrB hh hH
  cases sh
  · simp only [planR,R.pick,oI,pI] at hp;obtain ⟨rfl,rfl,rfl⟩:=hp;have hok:(okPl n D o && !(planF n D (regs s) (how s) (flat s) no cpu).has)=true:=hok;rw [bA] at hok;refine fn_calm [id,idl] fun S ν w us hm hS hus=>(call hok.1 S ν w us hm hS hus).mono ?_;rintro e w' ⟨hb,hv⟩;have h2:=hok.2;unfold PO.has at h2;cases hval:(planF n D (regs s) (how s) (flat s) no cpu).val with
    | some p=>rw [hval] at h2;cases h2
    | none=>
      rw [hval] at hv;exact ⟨_,hv,poTup_rel (by simp only [A.rel]) trivial,hb⟩
  · simp only [planR,R.pick,oI,pI] at hp;obtain ⟨rfl,rfl,rfl⟩:=hp;have hok:(okPl n D o&&(planF n D (regs s) (how s) (flat s) no cpu).has)=true:=hok;rw [bA] at hok;refine fn_made rfl [id,idl] fun S ν w us hm hS hus=>(call hok.1 S ν w us hm hS hus).mono ?_;rintro e w' ⟨hb,hv⟩;have h2:=hok.2;unfold PO.has at h2;cases hval:(planF n D (regs s) (how s) (flat s) no cpu).val with
    | none=>rw [hval] at h2;cases h2
    | some p=>
      obtain ⟨k,g⟩:=p;rw [hval] at hv;obtain ⟨B,c,hB,hkc,rfl,hH⟩:=hv;have e1:(planF n D (regs s) (how s) (flat s) no cpu).len=k:=by unfold PO.len;rw [hval]
      have e2:(planF n D (regs s) (how s) (flat s) no cpu).wd=g:=by unfold PO.wd;rw [hval]
      rw [e1,e2];refine ⟨_,B,rfl,hB,hb,?_,fun ν' _ hν=>poTup_rel ?_ trivial⟩
      · obtain ⟨cs,ty,vs,post,z1,z2,z3⟩:=hH;exact ⟨cs,ty,vs,post,z1,z2,by
         simp only [T.rel] at z3 ⊢;exact z3⟩
      · simp only [A.rel];exact ⟨B,0,0,c,hν,rfl,fun _=>by simp [pathOff,Ix.val],hkc,fun _ e=>by cases e⟩
 pan:=by intro args h r ok v h' he hp hok;obtain ⟨la,id,an,ac,idl,n,D,o,s,no,cpu,rfl,hd,hs,hno,hcpu,hne,rfl⟩:=planSp_inv he;cases sh<;>simp [planR,R.pickP] at hp
 ext:=by
  intro args h r he hlo;obtain ⟨la,id,an,ac,idl,n,D,o,s,no,cpu,rfl,hd,hs,hno,hcpu,hne,rfl⟩:=planSp_inv he;cases sh
  · exact sees_ext _ h
  · exact (sees_ext _ h).trans (new_ext (by rw [sees_lo,sees_next];exact hlo) _)
def plan9Sp (sh:Bool):List V->H->Option R:=planSp sh vfOf VF.regs VF.how VF.flat
theorem plan9_ok (sh:Bool):AnyOK Tryz.prog 9 (plan9Sp sh):=plan_fn (t:=VF.t) vfOf_some (fun _=>rfl) (fun _=>rfl) (enters_of entK 9 _ Tryz.func9 (by simp [Tryz.f9])) plan9
def Γ14 (b:Bool) (T:Nat):Gam:=anyΓ 31 (turnV setSV) (anyΓ 36 lay3V (ΓP b T))
theorem Γ14_ok (b:Bool) (T:Nat):ΓOK Tryz.prog (Γ14 b T):=anyΓ_ok set31_ok (anyΓ_ok lay3V_ok (ΓP_ok b T))
def resT (no val elem:A):V :=.t (.st [.a no,.a val,.a .poison,.a elem])
def mR (t:T) (n:Nat) (D:DF) (w:Nat) (g:Nat->U):List (Nat×Blk):=mP t n D++[(3,⟨false,.arr 1 (.lit w) (.int .u64 g)⟩)]
abbrev slW (w:Nat):A :=.sl 3 [] 1 (.lit 0) (.lit w) none
def ev14 (b:Bool) (T:Nat) (j w a:Int) (s:VF) (n:Nat) (D:DF) (cpu no elem:U) (val:A):R:=evalF (cxP j w) (Γ14 b T) 400 20 14 [slDP n,pt 0,one (.lit .i64 a),i64 cpu,resT (.i .i64 no) val (.i .i64 elem)] (hM (mP s.t n D) 3)
def ev14w (b:Bool) (T:Nat) (j:Int) (w:Nat) (a:Int) (s:VF) (n:Nat) (D:DF) (cpu elem:U) (g:Nat->U):R:=evalF (cxP j w) (Γ14 b T) 400 20 14 [slDP n,pt 0,one (.lit .i64 a),i64 cpu,resT z64 (slW w) (.i .i64 elem)] (hM (mR s.t n D w g) 4)
def obsD (v:V) (h:H):Option Ob:=match v with
 | .t (.a c)=>match h.m.get 0 with
   | some ⟨true,t⟩=>some ([c],some (0,t))
   | _=>none
 | _=>none
def R.dq:R->PQ
 | .fail =>.fail
 | .leaf ok v h =>.leaf ok h.wr (obsD v h)
 | .pan _ _ _ =>.fail
 | .node c a b =>.node c a.dq b.dq
def zVW:VW:=⟨K 0,K 0,K 0,K 0⟩
def outV6 (s:VF) (o:VW):VF:=setVF (setVF (setVF (setVF (setVF (setVF s (K 0) o) (K 1) zVW) (K 2) zVW) (K 3) zVW) (K 4) zVW) (K 5) zVW
def negU (x:U):U:=BitVec.ofNat 64 0-x
def numW (x:U):VW:=⟨K 1,x,K 0,K 0⟩
def cellW (m e:U):VW:=⟨K 5,K 0,m,e⟩
def mapW (e:U):VW:=⟨K 4,K 0,K 0,e⟩
def bytW (g:Nat->U):Nat->List U
 | 0=>[]
 | w+1=>bytW g w++list8 (g w)
def bytD (g:Nat->U) (w:Nat):Nat->U:=fun j=>(bytW g w).getD j (K 0)
def bytZ (w:Nat):Nat->U:=fun j=>(List.replicate (8*w) (K 0)).getD j (K 0)
def errD (t:T) (ok c:A):PQ :=.leaf ok [] (some ([c],some (0,t)))
def finD (o:Bool) (t:T):PQ :=.leaf (.b o) [0] (some ([z64],some (0,t)))
def doneV (a j:Nat) (s:VF) (no elem:U) (o:Bool):PQ:=match a with
 | 1 =>.node (no != K 0) (finD o (outV6 s (numW (K 0))).t) (finD o (outV6 s (match j with|9=>mapW elem|10=>mapW elem|_=>cellW (s.regs.i 1) elem)).t)
 | _=>finD o (outV6 s (numW (negU no))).t
def argsG (e:A->A->PQ) (fin:Bool->PQ) (b:Bool) (regs:VV) (how:Nat->U) (w:Nat):List Nat->Nat->Nat->Bool->PQ
 | [],r,B,o=>fin o
 | 0::L,r,B,o =>.node (!(regs.k r != K 0)) (e (.b o) (l64 15)) (match B with
   | 0 =>.node (!(bytesE how (regs.at r) 8==K 0)) (e (.b (o&&(bytesE how (regs.at r) 8 != K 0))) (.i .i64 (bytesE how (regs.at r) 8))) .fail
   | B+1=>argsG e fin b regs how w L (r+1) B (o&&(bytesE how (regs.at r) 8==K 0)))
 | 1::L,r,B,o =>.node (!(regs.k r != K 0)) (e (.b o) (l64 15)) (match B with
   | 0 =>.node (!(bytesE how (regs.at r) (8*w)==K 0)) (e (.b (o&&(bytesE how (regs.at r) (8*w) != K 0))) (.i .i64 (bytesE how (regs.at r) (8*w)))) .fail
   | B+1=>argsG e fin b regs how w L (r+1) B (o&&(bytesE how (regs.at r) (8*w)==K 0)))
 | 2::L,r,B,o =>.node (!(regs.k r != K 0)) (e (.b o) (l64 15)) (.node (!(regs.k r==K 1)) (e (.b o) (l64 14)) (argsG e fin b regs how w L (r+1) B o))
 | _::L,r,B,o =>.node (!(regs.k r != K 0)) (e (.b o) (l64 15)) (.node (!(regs.k r==K 3)) (e (.b o) (l64 14)) (match b with
   | true=>argsG e fin b regs how w L (r+1) B (o&&roomB (regs.n r) (8*w))
   | false=>e (.b (o && !(roomB (regs.n r) (8*w)))) (l64 17)))
def headG (e:A->A->PQ) (regs:VV) (n:Nat) (rest:PQ):PQ:=
 .node (!(regs.k 1 != K 0)) (e .tt (l64 15)) (.node (!(regs.k 1==K 4)) (e .tt (l64 14)) (.node (BitVec.sle (K 1) (regs.i 1)) (.node (!(BitVec.sle (regs.i 1) (kk n))) (e (.b (n63 n)) (l64 18)) rest) (e .tt (l64 18))))
def plc:List Nat->Option Nat
 | [3]=>some 2
 | [0,3]=>some 3
 | _=>none
def laidV (L:List Nat) (w:Nat) (c:Nat->U) (s:VF):VF:=match plc L with
 | some r=>layVR s (s.regs.at r) c (8*w)
 | none=>s
def restDV (S:Sel) (j w a:Nat) (L:List Nat) (s:VF) (n:Nat) (D:DF) (no elem:U):PQ:=argsG (errD s.t) (doneV a j (laidV L w (bytZ w) s) no elem) S.b s.regs s.how w L 2 S.B (okI D s.regs n j w)
def restDW (S:Sel) (j w a:Nat) (L:List Nat) (s:VF) (n:Nat) (D:DF) (elem:U) (g:Nat->U):PQ:=argsG (errD s.t) (doneV a j (laidV L w (bytD g w) s) (K 0) elem) S.b s.regs s.how w L 2 S.B (okI D s.regs n j w)
structure DnV (val:A) (b:Bool) (T j w a:Nat) (rest:VF->Nat->DF->U->U->PQ):Prop where
 pick:∀s n D cpu no elem x,(headG (errD s.t) s.regs n (rest s n D no elem)).pick=some x->(ev14 b T j w a s n D cpu no elem val).dq.pick=some x
structure DwV (b:Bool) (T j w a:Nat) (rest:VF->Nat->DF->U->(Nat->U)->PQ):Prop where
 pick:∀s n D cpu elem g x,(headG (errD s.t) s.regs n (rest s n D elem g)).pick=some x->(ev14w b T j w a s n D cpu elem g).dq.pick=some x
theorem dnV_of {val:A} {b:Bool} {T j w a:Nat} {rest:VF->Nat->DF->U->U->PQ} (h:∀s n D cpu no elem,(ev14 b T j w a s n D cpu no elem val).dq=headG (errD s.t) s.regs n (rest s n D no elem)):DnV val b T j w a rest:=⟨fun s n D cpu no elem x e=>by rw [h];exact e⟩
theorem dnV_cut {val:A} {b:Bool} {T j w a:Nat} {rest:VF->Nat->DF->U->U->PQ} (p:List Bool) (h:∀s n D cpu no elem,(ev14 b T j w a s n D cpu no elem val).dq.cut p=headG (errD s.t) s.regs n (rest s n D no elem)):DnV val b T j w a rest:=⟨fun s n D cpu no elem x e=>by rw [← h s n D cpu] at e;exact cut_pick _ _ e⟩
theorem dwV_of {b:Bool} {T j w a:Nat} {rest:VF->Nat->DF->U->(Nat->U)->PQ} (h:∀s n D cpu elem g,(ev14w b T j w a s n D cpu elem g).dq=headG (errD s.t) s.regs n (rest s n D elem g)):DwV b T j w a rest:=⟨fun s n D cpu elem g x e=>by rw [h];exact e⟩
theorem dwV_cut {b:Bool} {T j w a:Nat} {rest:VF->Nat->DF->U->(Nat->U)->PQ} (p:List Bool) (h:∀s n D cpu elem g,(ev14w b T j w a s n D cpu elem g).dq.cut p=headG (errD s.t) s.regs n (rest s n D elem g)):DwV b T j w a rest:=⟨fun s n D cpu elem g x e=>by rw [← h s n D cpu] at e;exact cut_pick _ _ e⟩
def noneDV (j:Nat) (s:VF) (n:Nat) (D:DF) (no elem:U):PQ:=errD s.t (.b (okK D s.regs n j)) (l64 18)
def nilA (L:List Nat):A:=match plc L with
 | some _ =>.nils
 | none =>.poison
def hasV:List Nat->Bool
 | [1]=>true
 | [1,2]=>true
 | [0,1,2]=>true
 | _=>false
end Go.WE
end
