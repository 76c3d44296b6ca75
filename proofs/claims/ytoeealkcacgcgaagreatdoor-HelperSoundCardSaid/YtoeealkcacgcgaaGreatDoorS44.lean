/- A part of a proof of the helpers' law; no condition of its own. -/
import Derived.WideShapes
import Derived.Test.YtoeealkcacgcgaaGreatDoorS18
import Derived.Test.YtoeealkcacgcgaaGreatDoorS42
import Derived.Test.YtoeealkcacgcgaaGreatDoorS43
set_option linter.unusedVariables false
set_option maxRecDepth 100000
noncomputable section
namespace Go.WE
open Go Go.Proofs Go.RowKit
section
variable (regs:VV) (how flat:Nat->U) (w:Nat) (m op cpu:U) (L:List Nat) (r:Nat) (key flag:U) (val:Option (Nat×(Nat->U)))
theorem argsF_0:argsF regs how flat w m op cpu (0::L) r key flag val=bif regs.k r==K 0 then .err (K 15) else bif bytesE how (regs.at r) 8 != K 0 then .err (bytesE how (regs.at r) 8) else argsF regs how flat w m op cpu L (r+1) (getW (byF flat (posW (regs.n r))) (8*0)) flag val:=rfl
theorem argsF_1:argsF regs how flat w m op cpu (1::L) r key flag val=bif regs.k r==K 0 then .err (K 15) else bif bytesE how (regs.at r) (8*w) != K 0 then .err (bytesE how (regs.at r) (8*w)) else argsF regs how flat w m op cpu L (r+1) key flag (some (w,wordsF (byF flat (posW (regs.n r))))):=rfl
theorem argsF_2:argsF regs how flat w m op cpu (2::L) r key flag val=bif regs.k r==K 0 then .err (K 15) else bif regs.k r != K 1 then .err (K 14) else argsF regs how flat w m op cpu L (r+1) key (regs.n r) val:=rfl
theorem argsF_3:argsF regs how flat w m op cpu (3::L) r key flag val=bif regs.k r==K 0 then .err (K 15) else bif regs.k r != K 3 then .err (K 14) else bif !(roomB (regs.n r) (8*w)) then .err (K 17) else argsF regs how flat w m op cpu L (r+1) key flag val:=rfl
end
section
variable {n:Nat} {D:DF} {f:FSt} {s:VF}
theorem kind_of (h:KnI n D f s) {i:Nat} (hi:i<11) {c:Int} (hc:c=1\/c=3) (hk:f.regs.k i=K c):s.regs.k i=K c/\(c=3->s.regs.n i=f.regs.o i):=by
 have hr:=h.regs i hi;have e:(f.regs.at i).k=K c:=hk;rcases hc with rfl|rfl
 · rcases hr with q|⟨_,q2,_⟩|⟨q,_⟩|⟨q,_⟩|⟨q,_⟩|⟨q,_⟩|⟨q,_⟩
   · rw [e] at q;exact absurd q (by decide)
   · exact ⟨q2,fun h=>by cases h⟩
   all_goals (rw [e] at q;exact absurd q (by decide))
 · rcases hr with q|⟨q,_⟩|⟨q,_⟩|⟨_,q2,q3⟩|⟨q,_⟩|⟨q,_⟩|⟨q,_⟩
   · rw [e] at q;exact absurd q (by decide)
   · rw [e] at q;exact absurd q (by decide)
   · rw [e] at q;exact absurd q (by decide)
   · exact ⟨q2,fun _=>q3⟩
   all_goals (rw [e] at q;exact absurd q (by decide))
theorem map_of (h:KnI n D f s) {i:Nat} (hi:i<11) (hk:f.regs.k i=K 4):s.regs.k i=K 4/\LikeP n D (s.regs.i i) (f.regs.m i):=by
 have hr:=h.regs i hi;have e:(f.regs.at i).k=K 4:=hk;rcases hr with q|⟨q,_⟩|⟨q,_⟩|⟨q,_⟩|⟨_,q2,q3⟩|⟨q,_⟩|⟨q,_⟩
 · rw [e] at q;exact absurd q (by decide)
 · rw [e] at q;exact absurd q (by decide)
 · rw [e] at q;exact absurd q (by decide)
 · rw [e] at q;exact absurd q (by decide)
 · exact ⟨q2,q3⟩
 all_goals (rw [e] at q;exact absurd q (by decide))
theorem bytes_ok (h:KnI n D f s) {r:Nat} (hr:r<11) {m:Nat} (hm:m≤128) (hk:f.regs.k r=K 3) (hz:readR f.g (f.regs.o r) (K m)=K 0):bytesE s.how (s.regs.at r) m=K 0:=by
 obtain ⟨k1,k2⟩:=kind_of h hr (.inr rfl) hk;have k2:=k2 rfl;have ht:thereB (f.regs.o r) (K m)=true:=by
  cases e:thereB (f.regs.o r) (K m)
  · unfold readR at hz;rw [e,cond_false] at hz;exact absurd hz (by decide)
  · rfl
 have hmN:(K (m:Int)).toNat=m:=by
  have h1:=BitVec.toInt_eq_toNat_cond (K (m:Int));have h2:=(K (m:Int)).isLt;rw [KtoInt (by omega)] at h1
  split at h1<;>omega
 have hin:inB (f.regs.o r) m=true:=by
  obtain ⟨b,m',hb,q1,q2⟩:=there_nat ht;have q1:(f.regs.o r).toInt=(b:Int)-128:=by rw [← vof_toInt];exact q1
  have q2:(K (m:Int)).toInt=m':=by rw [← vof_toInt];exact q2
  rw [KtoInt (by omega)] at q2
  have e1:(K (-128)).toInt = -128:=rfl;have e2:(K (-(m:Int))).toInt = -m:=KtoInt (by omega)
  unfold inB;rw [BitVec.sle,BitVec.sle,e1,e2,q1,decide_eq_true (by omega),cond_true,decide_eq_true (by omega)]
 obtain ⟨_,_,t3⟩:=there_of hm hin;have hs:stackE (s.regs.at r) m=K 0:=by unfold stackE;rw [show (s.regs.at r).k=K 3 from k1,show (s.regs.at r).n=f.regs.o r from k2,hin];rfl
 unfold bytesE;rw [hs];show readN s.how (posW (s.regs.n r)) m=K 0;rw [k2];unfold readR at hz;rw [ht,cond_true,hmN,t3] at hz;exact bytes_there h hz
theorem args_ok (h:KnI n D f s) {w:Nat} (hw:w≤4) {m op cpu:U}:∀(L:List Nat) (r:Nat) (key flag:U) (v:Option (Nat×(Nat->U))),(∀x,x∈L->x≤3)->r+L.length≤6->errsF f w L r=K 0->∃k' g' v',argsF s.regs s.how s.flat w m op cpu L r key flag v = .ok m op k' g' cpu v'
 | [],r,key,flag,v,_,_,_=>⟨_,_,_,rfl⟩
 | x::L,r,key,flag,v,hx,hr,he=>by
   have hr':r+1+L.length≤6:=by simp only [List.length_cons] at hr;omega
   unfold errsF at he;have ha:argE f w x r=K 0/\errsF f w L (r+1)=K 0:=by
    cases e:argE f w x r==K 0
    · rw [e,cond_false] at he;rw [he] at e;exact absurd e (by decide)
    · rw [e,cond_true] at he;exact ⟨eq_of_beq e,he⟩
   obtain ⟨ha,he⟩:=ha;have rest:=fun key flag v=>args_ok h hw (m:=m) (op:=op) (cpu:=cpu) L (r+1) key flag v (fun y hy=>hx y (.tail _ hy)) hr' he;have hr11:r<11:=by omega
   unfold argE at ha;have place:∀(q:Nat),(cond (f.regs.k r==K 0) (K 15) (cond (f.regs.k r != K 3) (K 14) (readR f.g (f.regs.o r) (K q)))=K 0)->f.regs.k r=K 3/\readR f.g (f.regs.o r) (K q)=K 0:=fun q h=>by
    cases e0:f.regs.k r==K 0
    · rw [e0,cond_false] at h;cases e3:f.regs.k r != K 3
      · rw [e3,cond_false] at h;exact ⟨by simpa using e3,h⟩
      · rw [e3,cond_true] at h;exact absurd h (by decide)
    · rw [e0,cond_true] at h;exact absurd h (by decide)
   have hx3:=hx x (.head _);have hc:x=0\/x=1\/x=2\/x=3:=by omega
   rcases hc with rfl|rfl|rfl|rfl
   · have ha:cond (f.regs.k r==K 0) (K 15) (cond (f.regs.k r != K 3) (K 14) (readR f.g (f.regs.o r) (K (8:Nat))))=K 0:=ha;obtain ⟨k3,hz⟩:=place 8 ha;have hb:=bytes_ok h hr11 (m:=8) (by decide) k3 hz
     have ks:=(kind_of h hr11 (.inr rfl) k3).1;rw [argsF_0,ks,hb];exact rest _ _ _
   · have ha:cond (f.regs.k r==K 0) (K 15) (cond (f.regs.k r != K 3) (K 14) (readR f.g (f.regs.o r) (K (8*w:Nat))))=K 0:=ha;obtain ⟨k3,hz⟩:=place (8*w) ha;have hb:=bytes_ok h hr11 (m:=8*w) (by omega) k3 hz
     have ks:=(kind_of h hr11 (.inr rfl) k3).1;rw [argsF_1,ks,hb];exact rest _ _ _
   · have ha:cond (f.regs.k r==K 0) (K 15) (cond (f.regs.k r != K 1) (K 14) (K 0))=K 0:=ha;have k1:f.regs.k r=K 1:=by
      cases e0:f.regs.k r==K 0
      · rw [e0,cond_false] at ha;cases e3:f.regs.k r != K 1
        · simpa using e3
        · rw [e3,cond_true] at ha;exact absurd ha (by decide)
      · rw [e0,cond_true] at ha;exact absurd ha (by decide)
     have ks:=(kind_of h hr11 (.inl rfl) k1).1;rw [argsF_2,ks];exact rest _ _ _
   · have ha:cond (f.regs.k r==K 0) (K 15) (cond (f.regs.k r != K 3) (K 14) (cond (!(roomB (f.regs.o r) (8*w))) (K 17) (K 0)))=K 0:=ha;have k3:f.regs.k r=K 3/\roomB (f.regs.o r) (8*w)=true:=by
      cases e0:f.regs.k r==K 0
      · rw [e0,cond_false] at ha;cases e3:f.regs.k r != K 3
        · rw [e3,cond_false] at ha;cases e4:roomB (f.regs.o r) (8*w)
          · rw [e4] at ha;exact absurd ha (by decide)
          · exact ⟨by simpa using e3,rfl⟩
        · rw [e3,cond_true] at ha;exact absurd ha (by decide)
      · rw [e0,cond_true] at ha;exact absurd ha (by decide)
     obtain ⟨ks,kn⟩:=kind_of h hr11 (.inr rfl) k3.1;rw [argsF_3,ks,kn rfl,k3.2];exact rest _ _ _
theorem head_of {regs:VV} {po:PO} (h:(headF n regs po).code=K 0):regs.k 1=K 4/\inM n (regs.i 1)=true/\po.code=K 0:=by
 unfold headF at h;cases e0:regs.k 1==K 0
 · rw [e0,cond_false] at h;cases e4:regs.k 1 != K 4
   · rw [e4,cond_false] at h;cases em:inM n (regs.i 1)
     · rw [em] at h;exact absurd h (by show ¬K 18=K 0;decide)
     · rw [em] at h;exact ⟨by simpa using e4,rfl,h⟩
   · rw [e4,cond_true] at h;exact absurd h (by decide)
 · rw [e0,cond_true] at h;exact absurd h (by decide)
theorem args_all {a j op:Nat} {L:List Nat} (h:argsOf a j=some (op,L)):(∀x,x∈L->x≤3)/\L.length≤3:=by
 rcases argsOf_L h with rfl|rfl|rfl|rfl|rfl|rfl<;>decide
theorem at_eq {a b:Nat} (h:D.at a=D.at b):D.k a=D.k b/\D.w a=D.w b/\D.i a=D.i b:=by
 unfold DF.at at h;simp only [DW.mk.injEq] at h;exact ⟨h.1,h.2.2.1,h.2.2.2.2⟩
theorem right_ok (hn:n≤10) (hD:OKD n D) (h:KnI n D f s) {no cpu:U} (hc:(ckP n D f no).code=K 0):(no=K 7/\planF n D s.regs s.how s.flat no cpu = .ok (K 0) (K 0) (K 0) (K 0) (K 0) none) \/
 (no≠K 7/\s.regs.k 1=K 4/\f.regs.k 1=K 4/\LikeP n D (s.regs.i 1) (f.regs.m 1)/\∃op L m' o' k' g' c' v',argsOf no.toNat (D.k (ixU s.regs)).toNat=some (op,L)/\errsF f (D.w (ixU s.regs)).toNat L 2=K 0/\m'=s.regs.i 1/\planF n D s.regs s.how s.flat no cpu = .ok m' o' k' g' c' v'):=by
 unfold ckP at hc;cases hin:inH no
 · rw [hin] at hc;exact absurd hc (by show ¬K 18=K 0;decide)
 · rw [hin] at hc;simp only [Bool.not_true,cond_false] at hc;have hin':cond (BitVec.sle (K 1) no) (BitVec.sle no (K 8)) false=true:=hin;cases h7:no==K 7
   · rw [h7,cond_false] at hc;obtain ⟨k4,hm,ha⟩:=head_of hc;have k4:f.regs.k 1=K 4:=k4;obtain ⟨ks,hl⟩:=map_of h (by decide) k4
     obtain ⟨l1,l2,l3⟩:=hl;obtain ⟨d1,d2,d3⟩:=at_eq l3;have ei:hdI (s.regs.i 1)=ixU s.regs:=rfl;have ef:hdI (f.regs.m 1)=ixU (vvf f.regs):=rfl;rw [ei,ef] at d1 d2;refine .inr ⟨by simpa using h7,ks,k4,⟨l1,l2,l3⟩,?_⟩
     rw [← d1] at ha;cases hA:argsOf no.toNat (D.k (ixU s.regs)).toNat with
     | none=>
       rw [hA] at ha;exact absurd ha (by show ¬K 18=K 0;decide)
     | some p=>
       obtain ⟨op,L⟩:=p;rw [hA] at ha;have ha:(poC (errsF f (D.w (ixU (vvf f.regs))).toNat L 2)).code=K 0:=ha;rw [← d2] at ha;have hz:errsF f (D.w (ixU s.regs)).toNat L 2=K 0:=by
        unfold poC at ha;cases e:errsF f (D.w (ixU s.regs)).toNat L 2==K 0
        · rw [e,cond_false] at ha;exact ha
        · exact eq_of_beq e
       obtain ⟨m1,m2,_,m4⟩:=inM_nat hn l1;obtain ⟨_,_,dw⟩:=hD (ixU s.regs) (by unfold ixU;rw [m4];omega)
       obtain ⟨a1,a2⟩:=args_all hA;obtain ⟨k',g',v',hp⟩:=args_ok h (by rcases wOK_le dw with e|e|e|e<;>omega) (m:=s.regs.i 1) (op:=K op) (cpu:=bif Nat.beq (D.k (ixU s.regs)).toNat 2 then cpu else K 0) L 2 (K 0) (K 0) none a1 (by omega) hz
       refine ⟨op,L,s.regs.i 1,K op,k',g',(bif Nat.beq (D.k (ixU s.regs)).toNat 2 then cpu else K 0),v',rfl,hz,rfl,?_⟩;unfold planF;rw [hin',h7,ks,l1];show planL s.regs s.how s.flat cpu _ _ (argsOf no.toNat (D.k (ixU s.regs)).toNat)=_;rw [hA];exact hp
   · have e7:=eq_of_beq h7;refine .inl ⟨e7,?_⟩;subst e7;rfl
def PO.good:PO->Prop
 | .err c=>c≠K 0
 | .ok .. => True
theorem ckP_good (no:U):(ckP n D f no).good:=by
 unfold ckP;cases inH no
 · show K 18≠K 0;decide
 · cases no==K 7
   · show (headF n (vvf f.regs) _).good;unfold headF;cases (vvf f.regs).k 1==K 0
     · cases (vvf f.regs).k 1 != K 4
       · cases inM n ((vvf f.regs).i 1)
         · show K 18≠K 0;decide
         · show (ckA f D _).good;cases argsOf no.toNat (D.k (ixU (vvf f.regs))).toNat with
           | none=>show K 18≠K 0;decide
           | some p=>
             show (poC (errsF f (D.w (ixU (vvf f.regs))).toNat p.2 2)).good;unfold poC;cases e:errsF f (D.w (ixU (vvf f.regs))).toNat p.2 2==K 0
             · show errsF f (D.w (ixU (vvf f.regs))).toNat p.2 2≠K 0;simpa using e
             · trivial
       · show K 14≠K 0;decide
     · show K 15≠K 0;decide
   · trivial
theorem ckS_end {laid:List Nat->Nat->FSt->FSt} {no id:U} (hc:(ckP n D f no).code=K 0):ckS laid n D f no id=ckEnd laid D f no id:=by
 have hg:=ckP_good (n:=n) (D:=D) (f:=f) no;unfold ckS;cases hp:ckP n D f no with
 | err c=>
   rw [hp] at hc hg;exact absurd hc hg
 | ok a b c d e g=>rfl
theorem out_regs:∀r:Fin 22,BitVec.sle (K (-21)) (negU (kk r.val))=true/\BitVec.sle (negU (kk r.val)) (K 0)=true:=by decide +kernel
theorem cpu_regs:∀r:Fin 4,BitVec.ule (kk r.val) (K 3)=true/\BitVec.sle (K 0) (kk r.val)=true/\BitVec.sle (kk r.val) (K 3)=true:=by decide +kernel
theorem all_t (x:U):(K 0^^^x) &&& ~~~(K 18446744073709551615)=K 0:=by
 have : ~~~(K 18446744073709551615)=0#64:=by decide
 rw [this];exact BitVec.and_zero
theorem all_u (x:U):BitVec.ule (K 0) x=true/\BitVec.ule x (K 18446744073709551615)=true:=by
 have h:=x.isLt;have e:(K 18446744073709551615).toNat=18446744073709551615:=rfl;have e0:(K 0).toNat=0:=rfl;exact ⟨decide_eq_true (by rw [e0];omega),decide_eq_true (by rw [e];omega)⟩
theorem out_holds {rno:U} (h:rno.toNat<22):HoldsR n D kOut (numW (negU rno)):=by
 obtain ⟨q1,q2⟩:=out_regs ⟨rno.toNat,h⟩;have q1:BitVec.sle (K (-21)) (negU (kk rno.toNat))=true:=q1;have q2:BitVec.sle (negU (kk rno.toNat)) (K 0)=true:=q2;rw [kk_back] at q1 q2;exact .inr (.inl ⟨rfl,rfl,all_t _,(all_u _).1,(all_u _).2,q1,q2⟩)
theorem cpu_holds {cpu:U} (h:cpu.toNat<4):HoldsR n D kCpu (numW cpu):=by
 obtain ⟨q1,q2,q3⟩:=cpu_regs ⟨cpu.toNat,h⟩;have q1:BitVec.ule (kk cpu.toNat) (K 3)=true:=q1;have q2:BitVec.sle (K 0) (kk cpu.toNat)=true:=q2;have q3:BitVec.sle (kk cpu.toNat) (K 3)=true:=q3;rw [kk_back] at q1 q2 q3;refine .inr (.inl ⟨rfl,rfl,?_,(all_u _).1,q1,q2,q3⟩);have e:cpu &&& ~~~(K 3)=K 0:=by have hc:cpu=kk cpu.toNat:=(kk_back cpu).symm;rw [hc];exact (show ∀r:Fin 4,kk r.val &&& ~~~(K 3)=K 0 by decide +kernel) ⟨cpu.toNat,h⟩
 show (K 0^^^cpu) &&& ~~~(K 3)=K 0;rw [show K 0^^^cpu=cpu from BitVec.zero_xor]
 exact e
theorem kni_out6 (h:KnI n D f s) {r:RW} {v:VW} (hr:HoldsR n D r v):KnI n D (out6F f r) (outV6 s v):=
 kni_set (kni_set (kni_set (kni_set (kni_set (kni_set h hr _) (.inl rfl) _) (.inl rfl) _) (.inl rfl) _) (.inl rfl) _) (.inl rfl) _
theorem place_of {r q:Nat} (h:argN f (f.regs.at r) q 3=K 0):f.regs.k r=K 3/\roomB (f.regs.o r) q=true:=by
 have ha:cond (f.regs.k r==K 0) (K 15) (cond (f.regs.k r != K 3) (K 14) (cond (!(roomB (f.regs.o r) q)) (K 17) (K 0)))=K 0:=h;cases e0:f.regs.k r==K 0
 · rw [e0,cond_false] at ha;cases e3:f.regs.k r != K 3
   · rw [e3,cond_false] at ha;cases e4:roomB (f.regs.o r) q
     · rw [e4] at ha;exact absurd ha (by decide)
     · exact ⟨by simpa using e3,rfl⟩
   · rw [e3,cond_true] at ha;exact absurd ha (by decide)
 · rw [e0,cond_true] at ha;exact absurd ha (by decide)
theorem kni_laid (h:KnI n D f s) {w:Nat} (hw:w≤4) {a j op:Nat} {L:List Nat} (hA:argsOf a j=some (op,L)) (hz:errsF f w L 2=K 0) (c:Nat->U):KnI n D (laidF L w f) (laidV L w c s):=by
 have one:∀r,r<11->argE f w 3 r=K 0->KnI n D (layR f (f.regs.o r) (K (8*w:Nat))) (layVR s (s.regs.at r) c (8*w)):=fun r hr ha=>by
  obtain ⟨p1,p2⟩:=place_of (show argN f (f.regs.at r) (8*w) 3=K 0 from ha)
  obtain ⟨k1,k2⟩:=kind_of h hr (.inr rfl) p1;exact kni_lay h (by omega) p2 k1 (k2 rfl) c
 have first:∀{x r:Nat} {L:List Nat},errsF f w (x::L) r=K 0->argE f w x r=K 0/\errsF f w L (r+1)=K 0:=fun {x r L} he=>by
  unfold errsF at he;cases e:argE f w x r==K 0
  · rw [e,cond_false] at he;rw [he] at e;exact absurd e (by decide)
  · rw [e,cond_true] at he;exact ⟨eq_of_beq e,he⟩
 rcases argsOf_L hA with rfl|rfl|rfl|rfl|rfl|rfl
 · exact h
 · exact h
 · exact h
 · exact one 2 (by decide) (first hz).1
 · exact h
 · exact one 3 (by decide) (first (first hz).2).1
theorem after_form (hn:n≤10) (hD:OKD n D) (hI:OKI n D) (h:KnI n D f s) {no cpu rno elem id:U} {val:Option (Nat×(Nat->U))} (hc:(ckP n D f no).code=K 0) (hcpu:cpu.toNat<4) (hrno:rno.toNat<22)
 (hel:no≠K 7->rno=K 0->(D.k (ixU s.regs)).toNat=9\/(D.k (ixU s.regs)).toNat=10->elem=D.i (ixU s.regs)):∃f1 s1 r v,ckS laidF n D f no id=out6F f1 r/\doneVF n D s no cpu rno elem val=outV6 s1 v/\KnI n D f1 s1/\HoldsR n D r v:=by
 rw [ckS_end hc];unfold doneVF;rcases right_ok hn hD h (cpu:=cpu) hc with ⟨rfl,hp⟩|⟨h7,ks,kf,⟨l1,l2,l3⟩,op,L,m',o',k',g',c',v',hA,hz,_,hp⟩
 · rw [hp];exact ⟨f,s,kCpu,numW cpu,rfl,rfl,h,cpu_holds hcpu⟩
 · rw [hp];have b7:(no==K 7)=false:=by simpa using h7
   obtain ⟨d1,d2,d3⟩:=at_eq l3;have ei:hdI (s.regs.i 1)=ixU s.regs:=rfl;have ef:hdI (f.regs.m 1)=ixU (vvf f.regs):=rfl;rw [ei,ef] at d1 d2 d3;have e1:ckEnd laidF D f no id=out6F (laidF L (D.w (ixU s.regs)).toNat f) (outK no.toNat (D.k (ixU s.regs)).toNat D f id):=by unfold ckEnd;rw [b7,cond_false,← d1,← d2,hA]
   have e2:behV D s no cpu rno elem val=outV6 (laidV L (D.w (ixU s.regs)).toNat (resC (D.w (ixU s.regs)).toNat val) s) (outW no.toNat (D.k (ixU s.regs)).toNat (s.regs.i 1) rno elem):=by unfold behV;rw [b7,cond_false,hA]
   obtain ⟨m1,m2,_,m4⟩:=inM_nat hn l1;have hix:ixU s.regs<n:=by unfold ixU;rw [m4];omega
   obtain ⟨_,_,dw⟩:=hD _ hix;refine ⟨_,_,_,_,e1,e2,kni_laid h (by rcases wOK_le dw with e|e|e|e<;>omega) hA hz _,?_⟩
   have null:∀{r:RW},r.k=K 6\/r.k=K 7->inM n r.m=true->HoldsR n D r (numW (K 0)):=fun {r} hk hm=>by
    rcases hk with hk|hk
    · exact .inr (.inr (.inr (.inr (.inr (.inl ⟨hk,hm,.inl ⟨rfl,rfl⟩⟩)))))
    · exact .inr (.inr (.inr (.inr (.inr (.inr ⟨hk,hm,.inl ⟨rfl,rfl⟩⟩)))))
   have einner:D.i (0+(f.regs.m 1-K 1).toNat)=D.i (ixU s.regs):=by rw [Nat.zero_add,d3];rfl
   have inner:((D.k (ixU s.regs)).toNat=9\/(D.k (ixU s.regs)).toNat=10)->HoldsR n D (mapK (D.i (0+(f.regs.m 1-K 1).toNat)) id) (bif rno != K 0 then numW (K 0) else mapW elem):=fun hk=>by
    have hi:=hI _ hix hk;rw [einner];cases er:rno != K 0
    · rw [cond_false,hel h7 (by simpa using er) hk]
      exact .inr (.inr (.inr (.inr (.inr (.inr ⟨rfl,hi,.inr ⟨rfl,hi,hi,rfl⟩⟩)))))
    · exact null (.inr rfl) hi
   have cell:HoldsR n D (cellK (f.regs.m 1) id) (bif rno != K 0 then numW (K 0) else cellW (s.regs.i 1) elem):=by
    cases rno != K 0
    · exact .inr (.inr (.inr (.inr (.inr (.inl ⟨rfl,l2,.inr ⟨rfl,rfl,l1,l2,l3⟩⟩)))))
    · exact null (.inl rfl) l2
   have hne:no.toNat≠1->HoldsR n D (outK no.toNat (D.k (ixU s.regs)).toNat D f id) (outW no.toNat (D.k (ixU s.regs)).toNat (s.regs.i 1) rno elem):=fun h1=>by
    unfold outK outW;split
    · exact absurd (by assumption) h1
    · split
      · exact absurd (by assumption) h1
      · exact out_holds hrno
   by_cases h1:no.toNat=1
   · rw [h1];show HoldsR n D (match (D.k (ixU s.regs)).toNat with|9=>_|10=>_|_=>_) (bif rno != K 0 then numW (K 0) else (match (D.k (ixU s.regs)).toNat with|9=>mapW elem|10=>mapW elem|_=>cellW (s.regs.i 1) elem))
     by_cases h9:(D.k (ixU s.regs)).toNat=9
     · have:=inner (.inl h9);rw [h9];exact this
     · by_cases h10:(D.k (ixU s.regs)).toNat=10
       · have:=inner (.inr h10);rw [h10];exact this
       · generalize (D.k (ixU s.regs)).toNat=q at h9 h10;split
         · exact absurd rfl h9
         · exact absurd rfl h10
         · exact cell
   · exact hne h1
theorem set6 (f:VV) (o z:VW) {i:Nat} (h1:1≤i) (h5:i≤5):((((((f.set 0 o).set 1 z).set 2 z).set 3 z).set 4 z).set 5 z).at i=z:=by
 simp only [set_k];have hc:i=1\/i=2\/i=3\/i=4\/i=5:=by omega
 rcases hc with rfl|rfl|rfl|rfl|rfl<;>rfl
theorem setR6 (f:RF) (o z:RW) {i:Nat} (h1:1≤i) (h5:i≤5):((((((f.setR 0 o).setR 1 z).setR 2 z).setR 3 z).setR 4 z).setR 5 z).at i=z:=by
 simp only [RF.setR_at];have hc:i=1\/i=2\/i=3\/i=4\/i=5:=by omega
 rcases hc with rfl|rfl|rfl|rfl|rfl<;>rfl
theorem after_ok (hn:n≤10) (hD:OKD n D) (hI:OKI n D) (h:KnI n D f s) {no cpu rno elem id:U} {val:Option (Nat×(Nat->U))} (hc:(ckP n D f no).code=K 0) (hcpu:cpu.toNat<4) (hrno:rno.toNat<22)
 (hel:no≠K 7->rno=K 0->(D.k (ixU s.regs)).toNat=9\/(D.k (ixU s.regs)).toNat=10->elem=D.i (ixU s.regs)):KnI n D (ckS laidF n D f no id) (doneVF n D s no cpu rno elem val)/\∀i,1≤i->i≤5->(ckS laidF n D f no id).regs.at i=zeroRW/\(doneVF n D s no cpu rno elem val).regs.at i=zVW:=by
 obtain ⟨f1,s1,r,v,e1,e2,h1,h2⟩:=after_form hn hD hI h (id:=id) (val:=val) hc hcpu hrno hel;rw [e1,e2];exact ⟨kni_out6 h1 h2,fun i a b=>⟨setR6 f1.regs r zeroRW a b,set6 s1.regs v zVW a b⟩⟩
end
def Γ4 (sh sf:Bool):Gam:=anyΓ 19 holdSp (anyΓ 8 pickSp (anyΓ 22 checkSp (anyΓ 7 (stSp (sigK knoX)) (anyΓ 9 (plan9Sp sh) (anyΓ 13 (fitSp sf) (anyΓ 14 done14Sp (anyΓ 16 (ckSp laidF) (anyΓ 6 knownSp noΓ))))))))
theorem Γ4_ok (sh sf:Bool):ΓOK Tryz.prog (Γ4 sh sf):=anyΓ_ok hold19_ok (anyΓ_ok pick8_ok (anyΓ_ok check22_ok (anyΓ_ok (states_ok knox_ok knox_k) (anyΓ_ok (plan9_ok sh) (anyΓ_ok (fit13_ok sf) (anyΓ_ok done14_ok (anyΓ_ok ck16_ok (anyΓ_ok known6_ok noΓ_ok))))))))
def ev4S (ta va:A) (ms:List (Nat×Blk)) (sh sf:Bool) (n:Nat) (no cpu id rno elem key:U):R:=evalF cxK (Γ4 sh sf) 400 20 4 [one (.sl 0 [] 5 (.lit 0) (.sym n) none),one ta,callV no cpu id rno elem va key] (hM ms 4)
section
variable (n:Nat) (D:DF) (oT oS:A) (sv:VF) (f:FSt) (sh sf:Bool) (no cpu rno elem:U) (l:Nat) (g:Nat->U) (ov:Bool)
def s4V:VF:=doneVF n D sv no (pickU cpu (K 4)) (rnoS sf rno) (elemS sf D (p3V n D sv no cpu).m elem) (valS sf D (p3V n D sv no cpu).m l g)
def f4F:FSt:=ckS laidF n D f no (K 77)
def lenB (P:PO):Bool:=match sh with
 | true=>cond (BitVec.slt (K 0) (kk P.len)) (kk P.len != D.w (0+(P.m-K 1).toNat)) false
 | false=>false
def outB (P:PO):Bool:=cond (BitVec.slt P.m (K 1)) true (BitVec.slt (kk n) P.m)
def bad11 (P:PO):Bool:=cond (P.code != K 0) true (cond (no != K 7) (cond (outB n P) true (lenB D sh P)) false)
def zV (s:VF) (i:Nat):Bool := !((s.regs.k i==K 0)&&((s.regs.n i==K 0)&&((s.regs.m i==K 0)&&(s.regs.i i==K 0))))
def zF (s:FSt) (i:Nat):Bool := !((s.regs.k i==K 0)&&((s.regs.o i==K 0)&&((s.regs.m i==K 0)&&((s.regs.i i==K 0)&&((s.regs.tv i==K 0)&&((s.regs.tm i==K 0)&&((s.regs.ul i==K 0)&&((s.regs.uh i==K 0)&&((s.regs.sl i==K 0)&&(s.regs.sh i==K 0))))))))))
def zz (s:VF) (f:FSt):List Nat->Bool
 | []=>true
 | i::L => !(zV s i)&&(!(zF f i)&&zz s f L)
def okA4:A:=andOk (andOk (andOk (andOk (oBig n oT) oS) (.b (okHd n D (Nat.beq n n) f sv))) (.b (okPl n D (Nat.beq n n)&&hsP sh (p3V n D sv no cpu)))) (.b (okPl n D (Nat.beq n n)))
def okB4:A:=andOk (okA4 n D oT oS sv f sh no cpu) (.b (okHd n D (Nat.beq n n) (f4F n D f no) sv))
def ok12 (P:PO):Bool:=(!(!(BitVec.slt P.m (K 1))))||o63 n
def ok11 (P:PO) (a:A):A:=match sh with
 | true=>andOk (andOk (andOk (andOk (andOk a (.b (ok12 n P))) (.b ((!(!(outB n P)))||Nat.blt P.len (2 ^ 63)))) (.b ((!(BitVec.slt (K 0) (kk P.len)))||Nat.blt P.len (2 ^ 63)))) (.b ((!(BitVec.slt (K 0) (kk P.len)))||((!(BitVec.msb (P.m-K 1)))&&Nat.blt (P.m-K 1).toNat n)))) (.b ((!(BitVec.slt (K 0) (kk P.len)))||Nat.blt (0+(P.m-K 1).toNat) n))
 | false=>andOk (andOk (andOk a (.b (ok12 n P))) (.b true)) (.b true)
def okC4:A:=
 let P:=p3V n D sv no cpu
 let p:=okPl n D (Nat.beq n n)
 andOk (andOk (andOk (ok11 n sh P (okA4 n D oT oS sv f sh no cpu)) (.b (p&&fitB sf n P.m rno ov))) (.b (p&&(ovS sf D P.m&&dec (FitOK n D sv.regs no (rnoS sf rno) (valS sf D P.m l g)))))) (.b (okHd n D (Nat.beq n n) (f4F n D f no) (s4V n D sv sf no cpu rno elem l g)))
def cA4 (cT:Option Bool) (x:Bool):Bool := !(cBig n)&&thC cT (!(checkU n D != K 0)&&x)
def cC4 (cT:Option Bool):Bool:=
 let P:=p3V n D sv no cpu
 cA4 n D cT (!((ckP n D f no).code != K 0)&&(!(bad11 n D sh no P)&&(!(P.code != K 0)&&zz (s4V n D sv sf no cpu rno elem l g) (f4F n D f no) [1,2,3,4,5])))
end
structure Ev4 (ta va:A) (ms:List (Nat×Blk)) (n:Nat) (D:DF) (oT:A) (cT:Option Bool) (oS:A) (sv:VF) (f:FSt) (l:Nat) (g:Nat->U) (ov:Bool):Prop where
 w2:∀c,cT=some c->∀no cpu id rno elem key,(ev4S ta va ms false false n no cpu id rno elem key).wayB [false,true]=some (!(cBig n)&&(c&&true),andOk (.b (o63 n)) oT,some true,[])
 w3:∀no cpu id rno elem key,(ev4S ta va ms false false n no cpu id rno elem key).wayB (false::(pT cT++[true]))=some (!(cBig n)&&(thC cT ((checkU n D != K 0)&&true)),oBig n oT,some true,[])
 w4:∀sh no cpu id rno elem key,(ev4S ta va ms sh false n no cpu id rno elem key).wayB (false::(pT cT++[false,true]))=some (cA4 n D cT (((ckP n D f no).code != K 0)&&true),okB4 n D oT oS sv f sh no cpu,some true,[])
 w5:∀sh sf no cpu id rno elem key,(ev4S ta va ms sh sf n no cpu id rno elem key).wayB (false::(pT cT++[false,false,false,false,false,false,false,false,false,false,false,false,false,false]))=some (cC4 n D sv f sh sf no cpu rno elem l g cT,okC4 n D oT oS sv f sh sf no cpu rno elem l g ov,some true,[])
theorem e4_ss (n:Nat) (D:DF) (nt:Nat) (F:TF) (l:Nat) (g:Nat->U):Ev4 (.sl 1 [] 8 (.lit 0) (.sym nt) none) (.sl 3 [] 1 (.lit 0) (.sym l) none) [(0,⟨false,D.arr n⟩),(1,⟨false,F.arr nt⟩),(2,⟨false,.lst 7777 []⟩),(3,⟨false,.arr 1 (.sym l) (.int .u64 g)⟩)] n D (.b (o63 nt)) (some (BitVec.slt (K 60) (kk nt))) (.b (okSt n nt (Nat.beq n n) (Nat.beq nt nt))) (foldV n F nt) (foldF knoX n F nt) l g (Nat.beq l l&&Nat.blt 0 l) where
 w2:=fun c hc no cpu id rno elem key=>by cases hc;kernel_rfl
 w3:=fun no cpu id rno elem key=>by kernel_rfl
 w4:=fun sh no cpu id rno elem key=>by
  cases sh
  · kernel_rfl
  · kernel_rfl
 w5:=fun sh sf no cpu id rno elem key=>by
  cases sh<;>cases sf
  · kernel_rfl
  · kernel_rfl
  · kernel_rfl
  · kernel_rfl
theorem e4_sn (n:Nat) (D:DF) (nt:Nat) (F:TF) (l:Nat) (g:Nat->U):Ev4 (.sl 1 [] 8 (.lit 0) (.sym nt) none) (.nils) [(0,⟨false,D.arr n⟩),(1,⟨false,F.arr nt⟩),(2,⟨false,.lst 7777 []⟩)] n D (.b (o63 nt)) (some (BitVec.slt (K 60) (kk nt))) (.b (okSt n nt (Nat.beq n n) (Nat.beq nt nt))) (foldV n F nt) (foldF knoX n F nt) 0 (fun _=>K 0) true where
 w2:=fun c hc no cpu id rno elem key=>by cases hc;kernel_rfl
 w3:=fun no cpu id rno elem key=>by kernel_rfl
 w4:=fun sh no cpu id rno elem key=>by
  cases sh
  · kernel_rfl
  · kernel_rfl
 w5:=fun sh sf no cpu id rno elem key=>by
  cases sh<;>cases sf
  · kernel_rfl
  · kernel_rfl
  · kernel_rfl
  · kernel_rfl
theorem e4_sz (n:Nat) (D:DF) (nt:Nat) (F:TF) (l:Nat) (g:Nat->U):Ev4 (.sl 1 [] 8 (.lit 0) (.sym nt) none) (.sl 3 [] 1 (.lit 0) (.lit 0) none) [(0,⟨false,D.arr n⟩),(1,⟨false,F.arr nt⟩),(2,⟨false,.lst 7777 []⟩)] n D (.b (o63 nt)) (some (BitVec.slt (K 60) (kk nt))) (.b (okSt n nt (Nat.beq n n) (Nat.beq nt nt))) (foldV n F nt) (foldF knoX n F nt) 0 (fun _=>K 0) true where
 w2:=fun c hc no cpu id rno elem key=>by cases hc;kernel_rfl
 w3:=fun no cpu id rno elem key=>by kernel_rfl
 w4:=fun sh no cpu id rno elem key=>by
  cases sh
  · kernel_rfl
  · kernel_rfl
 w5:=fun sh sf no cpu id rno elem key=>by
  cases sh<;>cases sf
  · kernel_rfl
  · kernel_rfl
  · kernel_rfl
  · kernel_rfl
theorem e4_ns (n:Nat) (D:DF) (nt:Nat) (F:TF) (l:Nat) (g:Nat->U):Ev4 (.nils) (.sl 3 [] 1 (.lit 0) (.sym l) none) [(0,⟨false,D.arr n⟩),(2,⟨false,.lst 7777 []⟩),(3,⟨false,.arr 1 (.sym l) (.int .u64 g)⟩)] n D .tt none .tt newVF newFS l g (Nat.beq l l&&Nat.blt 0 l) where
 w2:=fun c hc=>by cases hc
 w3:=fun no cpu id rno elem key=>by kernel_rfl
 w4:=fun sh no cpu id rno elem key=>by
  cases sh
  · kernel_rfl
  · kernel_rfl
 w5:=fun sh sf no cpu id rno elem key=>by
  cases sh<;>cases sf
  · kernel_rfl
  · kernel_rfl
  · kernel_rfl
  · kernel_rfl
theorem e4_nn (n:Nat) (D:DF) (nt:Nat) (F:TF) (l:Nat) (g:Nat->U):Ev4 (.nils) (.nils) [(0,⟨false,D.arr n⟩),(2,⟨false,.lst 7777 []⟩)] n D .tt none .tt newVF newFS 0 (fun _=>K 0) true where
 w2:=fun c hc=>by cases hc
 w3:=fun no cpu id rno elem key=>by kernel_rfl
 w4:=fun sh no cpu id rno elem key=>by
  cases sh
  · kernel_rfl
  · kernel_rfl
 w5:=fun sh sf no cpu id rno elem key=>by
  cases sh<;>cases sf
  · kernel_rfl
  · kernel_rfl
  · kernel_rfl
  · kernel_rfl
theorem e4_nz (n:Nat) (D:DF) (nt:Nat) (F:TF) (l:Nat) (g:Nat->U):Ev4 (.nils) (.sl 3 [] 1 (.lit 0) (.lit 0) none) [(0,⟨false,D.arr n⟩),(2,⟨false,.lst 7777 []⟩)] n D .tt none .tt newVF newFS 0 (fun _=>K 0) true where
 w2:=fun c hc=>by cases hc
 w3:=fun no cpu id rno elem key=>by kernel_rfl
 w4:=fun sh no cpu id rno elem key=>by
  cases sh
  · kernel_rfl
  · kernel_rfl
 w5:=fun sh sf no cpu id rno elem key=>by
  cases sh<;>cases sf
  · kernel_rfl
  · kernel_rfl
  · kernel_rfl
  · kernel_rfl
theorem e4_zs (n:Nat) (D:DF) (nt:Nat) (F:TF) (l:Nat) (g:Nat->U):Ev4 (.sl 1 [] 8 (.lit 0) (.lit 0) none) (.sl 3 [] 1 (.lit 0) (.sym l) none) [(0,⟨false,D.arr n⟩),(2,⟨false,.lst 7777 []⟩),(3,⟨false,.arr 1 (.sym l) (.int .u64 g)⟩)] n D .tt none .tt newVF newFS l g (Nat.beq l l&&Nat.blt 0 l) where
 w2:=fun c hc=>by cases hc
 w3:=fun no cpu id rno elem key=>by kernel_rfl
 w4:=fun sh no cpu id rno elem key=>by
  cases sh
  · kernel_rfl
  · kernel_rfl
 w5:=fun sh sf no cpu id rno elem key=>by
  cases sh<;>cases sf
  · kernel_rfl
  · kernel_rfl
  · kernel_rfl
  · kernel_rfl
theorem e4_zn (n:Nat) (D:DF) (nt:Nat) (F:TF) (l:Nat) (g:Nat->U):Ev4 (.sl 1 [] 8 (.lit 0) (.lit 0) none) (.nils) [(0,⟨false,D.arr n⟩),(2,⟨false,.lst 7777 []⟩)] n D .tt none .tt newVF newFS 0 (fun _=>K 0) true where
 w2:=fun c hc=>by cases hc
 w3:=fun no cpu id rno elem key=>by kernel_rfl
 w4:=fun sh no cpu id rno elem key=>by
  cases sh
  · kernel_rfl
  · kernel_rfl
 w5:=fun sh sf no cpu id rno elem key=>by
  cases sh<;>cases sf
  · kernel_rfl
  · kernel_rfl
  · kernel_rfl
  · kernel_rfl
theorem e4_zz (n:Nat) (D:DF) (nt:Nat) (F:TF) (l:Nat) (g:Nat->U):Ev4 (.sl 1 [] 8 (.lit 0) (.lit 0) none) (.sl 3 [] 1 (.lit 0) (.lit 0) none) [(0,⟨false,D.arr n⟩),(2,⟨false,.lst 7777 []⟩)] n D .tt none .tt newVF newFS 0 (fun _=>K 0) true where
 w2:=fun c hc=>by cases hc
 w3:=fun no cpu id rno elem key=>by kernel_rfl
 w4:=fun sh no cpu id rno elem key=>by
  cases sh
  · kernel_rfl
  · kernel_rfl
 w5:=fun sh sf no cpu id rno elem key=>by
  cases sh<;>cases sf
  · kernel_rfl
  · kernel_rfl
  · kernel_rfl
  · kernel_rfl
theorem rt4_of {sh sf:Bool} {args:List V} {ms:List (Nat×Blk)} {N:Nat} {p:List Bool} {c:Bool} {ok:A} (h:(evalF cxK (Γ4 sh sf) 400 20 4 args (hM ms N)).wayB p=some (c,ok,some true,[])) (hc:c=true) (ho:okB ok=true) {ν:Nu} {w:World} (hm:Mem (fun _=>True) ν w (hM ms N)) {us:List Value} (ha:relV ν args us):Calls Tryz.prog 4 us.toArray w (RT3 w):=by
 obtain ⟨x,h',hp,hx,hw⟩:=wayB_some h hc;obtain ⟨_,hfn⟩:=evalF_fn (XK (Γ4_ok sh sf)) rfl hp ho;refine (hfn (fun _=>True) ν w us (fun _ _=>trivial) (fun _ _=>trivial) hm ha).mono ?_;rintro e w' ⟨u,ν',rfl,hu,g⟩;have hu:x.rel ν' u:=hu;refine ⟨by rw [truthA_rel hx hu],g.frm.os,g.frm.tape,g.frm.output,g.frm.size,fun r hr=>g.frm.block r hr fun id base hid=>⟨?_,by rw [hw];intro h;cases h⟩⟩
 rw [g.ext.lo];refine Classical.byContradiction fun hge => ?_;have hge:¬id<N:=hge;rw [hm.nums.fresh id (show N≤id by omega)] at hid
 cases hid
theorem okHd_true {n:Nat} {D:DF} {f:FSt} {s:VF} (h0:0<n) (hn:n≤10) (h:KnI n D f s):okB (.b (okHd n D (Nat.beq n n) f s))=true:=by
 show okHd n D (Nat.beq n n) f s=true;unfold okHd;rw [nB h0,nB hn,Nat.beq_refl,dec_true h.holds];rfl
theorem zz_true {s:VF} {f:FSt} (h:∀i,1≤i->i≤5->f.regs.at i=zeroRW/\s.regs.at i=zVW):zz s f [1,2,3,4,5]=true:=by
 have one:∀i,1≤i->i≤5->zV s i=false/\zF f i=false:=fun i a b=>by obtain ⟨q1,q2⟩:=h i a b;unfold RF.at zeroRW at q1;unfold VV.at zVW at q2;simp only [RW.mk.injEq] at q1;simp only [VW.mk.injEq] at q2;obtain ⟨a1,a2,a3,a4,a5,a6,a7,a8,a9,a10⟩:=q1;obtain ⟨b1,b2,b3,b4⟩:=q2;unfold zV zF;rw [a1,a2,a3,a4,a5,a6,a7,a8,a9,a10,b1,b2,b3,b4];exact ⟨rfl,rfl⟩
 unfold zz zz zz zz zz zz;rw [(one 1 (by decide) (by decide)).1,(one 1 (by decide) (by decide)).2,(one 2 (by decide) (by decide)).1,(one 2 (by decide) (by decide)).2,(one 3 (by decide) (by decide)).1,(one 3 (by decide) (by decide)).2,(one 4 (by decide) (by decide)).1,(one 4 (by decide) (by decide)).2,(one 5 (by decide) (by decide)).1,(one 5 (by decide) (by decide)).2]
 rfl
theorem right_more {n:Nat} (hn:n≤10) {D:DF} (hD:OKD n D) {f:FSt} {s:VF} (h:KnI n D f s) {no cpu:U} (hc:(ckP n D f no).code=K 0):(p3V n D s no cpu).code=K 0/\(no=K 7/\(p3V n D s no cpu).val=none \/
 no≠K 7/\inM n (p3V n D s no cpu).m=true/\(p3V n D s no cpu).m=s.regs.i 1/\∀k g,(p3V n D s no cpu).val=some (k,g)->k=(D.w (ixU s.regs)).toNat/\1≤k/\k≤4):=by
 rcases right_ok hn hD h (cpu:=pickU cpu (K 4)) hc with ⟨rfl,hp⟩|⟨h7,ks,kf,⟨l1,l2,l3⟩,op,L,m',o',k',g',c',v',hA,hz,hm,hp⟩
 · unfold p3V;rw [hp];exact ⟨rfl,.inl ⟨rfl,rfl⟩⟩
 · unfold p3V;refine ⟨by rw [hp];rfl,.inr ⟨h7,?_,?_,fun k g hv => ?_⟩⟩
   · rw [hp];show inM n m'=true;rw [hm];exact l1
   · rw [hp];exact hm
   · rw [hp] at hv;have hv:v'=some (k,g):=hv;obtain ⟨w1,w2⟩:=plan_val hn hD hp hv;refine ⟨?_,w1,w2⟩;unfold planF at hp;rw [hv] at hp;cases hin:cond (BitVec.sle (K 1) no) (BitVec.sle no (K 8)) false
     · rw [hin] at hp;cases hp
     · rw [hin,show (no==K 7)=false by simpa using h7,ks,l1] at hp
       have hp:planL s.regs s.how s.flat (pickU cpu (K 4)) (D.k (ixU s.regs)).toNat (D.w (ixU s.regs)).toNat (argsOf no.toNat (D.k (ixU s.regs)).toNat) = .ok m' o' k' g' c' (some (k,g)):=hp;rw [hA] at hp;rcases argsF_vk _ _ _ _ _ hp with e|⟨g2,e⟩
       · cases e
       · simp only [oI,pI] at e;exact e.1
theorem sound_of {ta va:A} {ms:List (Nat×Blk)} {n:Nat} {D:DF} {oT:A} {cT:Option Bool} {oS:A} {sv:VF} {f:FSt} {l:Nat} {g:Nat->U} {ov:Bool} (E:Ev4 ta va ms n D oT cT oS sv f l g ov) (h0:0<n) (h63:n<2 ^ 63) (hoT:okB oT=true) (hoS:n≤10->cT≠some true->okB oS=true) (hI:n≤10->KnI n D f sv) (hov:ov=true)
 {no cpu id rno elem key:U} {ν:Nu} {w:World} (hm:Mem (fun _=>True) ν w (hM ms 4)) {us:List Value} (ha:relV ν [one (.sl 0 [] 5 (.lit 0) (.sym n) none),one ta,callV no cpu id rno elem va key] us):Calls Tryz.prog 4 us.toArray w (RT3 w):=by
 have hb:=cBig_false h0 h63;have h63':o63 n=true:=nB h63;have hbig:okB (oBig n oT)=true:=by
  refine okB_and (okB_and h63' hoT) ?_;show ((Nat.blt 0 n&&o63 n)&&Nat.beq n n)=true;rw [h63',Nat.beq_refl,show Nat.blt 0 n=true from nB h0]
  rfl
 by_cases hT:cT=some true
 · exact rt4_of (E.w2 true hT no cpu id rno elem key) (by rw [hb];rfl) (okB_and h63' hoT) hm ha
 have hth:∀x,x=true->thC cT x=true:=fun x hx=>by
  unfold thC;split
  · rename_i c;cases c
    · rw [hx];rfl
    · exact absurd rfl hT
  · exact hx
 by_cases hck:checkU n D=K 0
 · obtain ⟨hn,hD⟩:=check_good h63 hck;have hInn:=check_inner hck;have hS:=hoS hn hT;have h:=hI hn;have hpl:=okPl_true h0 hn hD;have q1:∀b,b=true->okB (.b (okPl n D (Nat.beq n n)&&b))=true:=fun b hb=>by
    show (okPl n D (Nat.beq n n)&&b)=true;rw [hpl,hb];rfl
   have hs1:hsP (p3V n D sv no cpu).has (p3V n D sv no cpu)=true:=by unfold hsP;cases e:(p3V n D sv no cpu).has<;>simp
   have a4:okB (okA4 n D oT oS sv f (p3V n D sv no cpu).has no cpu)=true:=by unfold okA4;exact okB_and (okB_and (okB_and (okB_and hbig hS) (okHd_true h0 hn h)) (q1 _ hs1)) hpl
   have cA:∀x,x=true->cA4 n D cT x=true:=fun x hx=>by unfold cA4;rw [hb,hck,hx];exact hth _ rfl
   by_cases hcode:(ckP n D f no).code=K 0
   · obtain ⟨pc,hp⟩:=right_more hn hD h (cpu:=cpu) hcode;have hcpu:(pickU cpu (K 4)).toNat<4:=pick_lt 4 (by decide) (by decide) cpu
     have hr22:(pickU rno (K 22)).toNat<22:=pick_lt 22 (by decide) (by decide) rno
     have key:=E.w5 (p3V n D sv no cpu).has (inM n (p3V n D sv no cpu).m&&(pickU rno (K 22)==K 0)) no cpu id rno elem key;have hrno:(rnoS (inM n (p3V n D sv no cpu).m&&(pickU rno (K 22)==K 0)) rno).toNat<22:=by
      unfold rnoS;split
      · decide
      · exact hr22
     have hix:∀{m:U},m=sv.regs.i 1->(m-K 1).toNat=ixU sv.regs:=fun {m} e=>by rw [e];rfl
     have aft:=after_ok hn hD hInn h (id:=K 77) (elem:=elemS (inM n (p3V n D sv no cpu).m&&(pickU rno (K 22)==K 0)) D (p3V n D sv no cpu).m elem) (val:=valS (inM n (p3V n D sv no cpu).m&&(pickU rno (K 22)==K 0)) D (p3V n D sv no cpu).m l g) hcode hcpu hrno (fun hn7 e0 hk=>by
      rcases hp with ⟨e7,hv⟩|⟨h7,hM,hmi,_⟩
      · exact absurd e7 hn7
      · cases esf:(inM n (p3V n D sv no cpu).m&&(pickU rno (K 22)==K 0))
        · rw [hM,Bool.true_and] at esf;exfalso;rw [hM,Bool.true_and,esf] at e0;have e0:pickU rno (K 22)=K 0:=e0;rw [e0] at esf;exact absurd esf (by decide)
        · show fitEl D ((p3V n D sv no cpu).m-K 1).toNat elem=_;rw [hix hmi];unfold fitEl;rcases hk with hk|hk
          · have e9:D.k (ixU sv.regs)=K 9:=by
             rw [← Kof (D.k (ixU sv.regs)),hk];rfl
            rw [e9];rfl
          · have e10:D.k (ixU sv.regs)=K 10:=by
             rw [← Kof (D.k (ixU sv.regs)),hk];rfl
            rw [e10];rfl)
     obtain ⟨aft1,aft2⟩:=aft;have hfit:fitB (inM n (p3V n D sv no cpu).m&&(pickU rno (K 22)==K 0)) n (p3V n D sv no cpu).m rno ov=true:=by
      unfold fitB;rw [hov];split
      · rename_i e;rw [e];rfl
      · rename_i e;rw [bad6_not e];rfl
     have hovs:∀b m,ovS b D m=true:=fun b m=>by
      unfold ovS;cases b
      · rfl
      · exact Nat.beq_refl _
     have hFit:FitOK n D sv.regs no (rnoS (inM n (p3V n D sv no cpu).m&&(pickU rno (K 22)==K 0)) rno) (valS (inM n (p3V n D sv no cpu).m&&(pickU rno (K 22)==K 0)) D (p3V n D sv no cpu).m l g):=by
      unfold valS rnoS;cases e:(inM n (p3V n D sv no cpu).m&&(pickU rno (K 22)==K 0))
      · exact trivial
      · rw [bA] at e;have e2:=plan_m e.1;refine ⟨rfl,?_,?_⟩
        · rw [← e2];exact e.1
        · unfold wdM ixU;rw [show (p3V n D sv no cpu).m=sv.regs.i 1 from e2]
     have d:(ovS (inM n (p3V n D sv no cpu).m&&(pickU rno (K 22)==K 0)) D (p3V n D sv no cpu).m&&dec (FitOK n D sv.regs no (rnoS (inM n (p3V n D sv no cpu).m&&(pickU rno (K 22)==K 0)) rno) (valS (inM n (p3V n D sv no cpu).m&&(pickU rno (K 22)==K 0)) D (p3V n D sv no cpu).m l g)))=true:=by rw [hovs,dec_true hFit];rfl
     have okHd2:=okHd_true h0 hn aft1;have hz:=zz_true aft2;have hlen:lenB D (p3V n D sv no cpu).has (p3V n D sv no cpu)=false/\∀a,okB a=true->okB (ok11 n (p3V n D sv no cpu).has (p3V n D sv no cpu) a)=true:=by
      have h12:okB (.b (ok12 n (p3V n D sv no cpu)))=true:=by show ok12 n (p3V n D sv no cpu)=true;unfold ok12;rw [h63',Bool.or_true]
      cases hh:(p3V n D sv no cpu).has
      · exact ⟨rfl,fun a ha=>okB_and (okB_and (okB_and ha h12) rfl) rfl⟩
      · obtain ⟨k,g2,hval⟩:∃k g2,(p3V n D sv no cpu).val=some (k,g2):=by
         unfold PO.has at hh;cases e:(p3V n D sv no cpu).val with
         | none=>rw [e] at hh;cases hh
         | some p=>exact ⟨p.1,p.2,rfl⟩
        have hln:(p3V n D sv no cpu).len=k:=by unfold PO.len;rw [hval]
        rcases hp with ⟨_,hv⟩|⟨h7,hM,hmi,hw⟩
        · rw [hv] at hval;cases hval
        · obtain ⟨w1,w2,w3⟩:=hw k g2 hval;obtain ⟨m1,m2,m3,m4⟩:=inM_nat hn hM;have hl63:Nat.blt (p3V n D sv no cpu).len (2 ^ 63)=true:=by rw [hln];exact nB (by omega)
          have hb2:∀b:Bool,okB (.b (b||Nat.blt (p3V n D sv no cpu).len (2 ^ 63)))=true:=fun b=>by show (b||_)=true;rw [hl63,Bool.or_true]
          have hix1:Nat.blt ((p3V n D sv no cpu).m-K 1).toNat n=true:=nB (by omega)
          have hix2:Nat.blt (0+((p3V n D sv no cpu).m-K 1).toNat) n=true:=by rw [Nat.zero_add];exact hix1
          refine ⟨?_,fun a ha=>okB_and (okB_and (okB_and (okB_and (okB_and ha h12) (hb2 _)) (hb2 _)) ?_) ?_⟩
          · show cond (BitVec.slt (K 0) (kk (p3V n D sv no cpu).len)) (kk (p3V n D sv no cpu).len != D.w (0+((p3V n D sv no cpu).m-K 1).toNat)) false=false;have:kk (p3V n D sv no cpu).len=D.w (0+((p3V n D sv no cpu).m-K 1).toNat):=by
             rw [Nat.zero_add,hix hmi,hln,w1,kk_back]
            rw [this,bne_self_eq_false];cases BitVec.slt (K 0) _<;>rfl
          · show (_||((!(BitVec.msb ((p3V n D sv no cpu).m-K 1)))&&Nat.blt ((p3V n D sv no cpu).m-K 1).toNat n))=true;rw [m3,hix1];exact Bool.or_true _
          · show (_||Nat.blt (0+((p3V n D sv no cpu).m-K 1).toNat) n)=true;rw [hix2,Bool.or_true]
     have hbad:bad11 n D (p3V n D sv no cpu).has no (p3V n D sv no cpu)=false:=by
      unfold bad11;rw [pc,hlen.1];rcases hp with ⟨rfl,_⟩|⟨h7,hM,_⟩
      · rfl
      · have ho:outB n (p3V n D sv no cpu)=false:=(oM_false hM).1;rw [ho];cases no != K 7<;>rfl
     refine rt4_of key ?_ ?_ hm ha
     · unfold cC4;refine cA _ ?_;rw [hcode,hbad,pc];show (!(K 0 != K 0)&&(!false&&(!(K 0 != K 0)&&zz (s4V n D sv _ no cpu rno elem l g) (f4F n D f no) [1,2,3,4,5])))=true;rw [show zz (s4V n D sv _ no cpu rno elem l g) (f4F n D f no) [1,2,3,4,5]=true from hz]
       rfl
     · unfold okC4;exact okB_and (okB_and (okB_and (hlen.2 _ a4) (q1 _ hfit)) (q1 _ d)) okHd2
   · refine rt4_of (E.w4 (p3V n D sv no cpu).has no cpu id rno elem key) (cA _ ?_) ?_ hm ha
     · rw [bne_iff_ne.2 hcode];rfl
     · unfold okB4;refine okB_and a4 ?_;have e:f4F n D f no=f:=by
        unfold f4F ckS;cases hp:ckP n D f no with
        | err c=>rfl
        | ok a b c d e g=>rw [hp] at hcode;exact absurd rfl hcode
       rw [e];exact okHd_true h0 hn h
 · refine rt4_of (E.w3 no cpu id rno elem key) ?_ hbig hm ha;rw [hb];have e:(checkU n D != K 0)=true:=bne_iff_ne.2 hck;rw [e];show thC cT true=true;exact hth _ rfl
theorem arr_holds {W:World} {b off n s:Nat} {sh:Sh} {g:Nat->List Value} (h0:0<n) (hs:0<s) (hl:∀i,i<n->(g i).length=s)
 (hc:∀i,i<n->∀j,j<s->W.cell? ⟨b,off+s*i+j,none⟩=(g i)[j]?) (hr:∀i,i<n->sh.rel i (g i)):HoldsAt W b off (.arr s (.sym n) sh):=by
 have hrow:∃cs ty fr,W.heap[b]? = some (.cells cs ty fr)/\∀i,i<n->∀j,j<s->cs[off+s*i+j]? = (g i)[j]? := by
  have h:=hc 0 h0 0 hs;rw [List.getElem?_eq_getElem (by rw [hl 0 h0];exact hs)] at h
  unfold World.cell? at h;cases hh:W.heap[b]? with
  | none=>simp [hh] at h
  | some o=>
    cases o with
    | cells cs ty fr=>
      refine ⟨cs,ty,fr,rfl,fun i hi j hj => ?_⟩;have:=hc i hi j hj;simpa [World.cell?,hh] using this
    | _=>simp [hh] at h
 obtain ⟨cs,ty,fr,hh,hcs⟩:=hrow;have hlt:off+s*(n-1)+(s-1)<cs.size:=by
  have:=hcs (n-1) (by omega) (s-1) (by omega)
  rw [List.getElem?_eq_getElem (by rw [hl (n-1) (by omega)];omega)] at this
  exact (Array.getElem?_eq_some_iff.1 this).1
 have hsz:off+s*n≤cs.size:=by
  obtain ⟨m,rfl⟩:∃m,n=m+1:=⟨n-1,by omega⟩
  rw [Nat.add_sub_cancel] at hlt;rw [Nat.mul_succ];omega
 refine ⟨cs,ty,fr,cs.toList.take off,(cs.toList.drop off).take (s*n),(cs.toList.drop off).drop (s*n),hh,?_,by simp;omega,?_⟩
 · rw [List.append_assoc,List.take_append_drop,List.take_append_drop]
 · simp only [T.rel];refine ⟨by simp [Ix.val];omega,fun i hi => ?_⟩
   have hi:i<n:=hi;have hle:s*i+s≤s*n:=by rw [← Nat.mul_succ];exact Nat.mul_le_mul_left s hi
   have e:(((cs.toList.drop off).take (s*n)).drop (s*i)).take s=g i:=by
    apply List.ext_getElem?;intro j;by_cases hj:j<s
    · rw [List.getElem?_take_of_lt hj,List.getElem?_drop,List.getElem?_take_of_lt (by omega),List.getElem?_drop,Array.getElem?_toList,← hcs i hi j hj]
      congr 1;omega
    · rw [List.getElem?_eq_none (by simp;omega),List.getElem?_eq_none (by rw [hl i hi];omega)]
   rw [e];exact hr i hi
theorem mem_ro {W:World} {ν:Nu} {ms:List (Nat×Blk)} {N:Nat} (hro:∀i x,(i,x)∈ms->x.rw=false/\i<N/\∃b off,ν i=some (b,off)/\HoldsAt W b off x.t) (hf:∀i,N≤i->ν i=none) (hb:∀i r b,ν i=some (r,b)->r<W.heap.size)
 (hfr:(ms.all fun p=>p.2.t.free)=true):Mem (fun _=>True) ν W (hM ms N):=by
 refine ⟨⟨hb,fun i x e hrw => ?_,hf,fun i x e=>(hro i x (get_memT ms i x e)).2.1,Nat.le_refl _,fun g hg=>by cases hg⟩,fun i x e _ => ?_⟩
 · have:=(hro i x (get_memT ms i x e)).1;rw [hrw] at this;cases this
 · have hm:=get_memT ms i x e;obtain ⟨h1,h2,b,off,h3,cs,ty,fr,pre,vs,post,q1,q2,q3,q4⟩:=hro i x hm;exact .inl ⟨b,off,cs,ty,fr,pre,vs,post,h3,q1,q2,q3,T.rel_free (List.all_eq_true.1 hfr _ hm) q4,fun h=>by rw [h1] at h;cases h⟩
def nuA (p:Nat×Nat) (p1 p3:Option (Nat×Nat)):Nu:=fun i=>if i=0\/i=2 then some p else if i=1 then p1 else if i=3 then p3 else none
theorem nuA_lt {W:World} {p:Nat×Nat} {p1 p3:Option (Nat×Nat)} (h0:p.1<W.heap.size) (h1:∀q,p1=some q->q.1<W.heap.size) (h3:∀q,p3=some q->q.1<W.heap.size):∀i r b,nuA p p1 p3 i=some (r,b)->r<W.heap.size:=by
 intro i r b h;unfold nuA at h;split at h
 · cases h;exact h0
 · split at h
   · exact h1 _ h
   · split at h
     · exact h3 _ h
     · cases h
theorem nuA_fresh (p:Nat×Nat) (p1 p3:Option (Nat×Nat)):∀i,4≤i->nuA p p1 p3 i=none:=fun i hi=>by
 unfold nuA;rw [if_neg (by omega),if_neg (by omega),if_neg (by omega)]
theorem mark_at {W:World} {b off:Nat} {t:T} (h:HoldsAt W b off t):HoldsAt W b off (.lst 7777 []):=by
 obtain ⟨cs,ty,fr,pre,vs,post,q1,q2,q3,q4⟩:=h;refine ⟨cs,ty,fr,pre,[],vs++post,q1,by rw [q2];simp,q3,?_⟩
 simp only [T.rel,relLst]
def DW.vs (d:DW):List Value:=[.int .i64 (vof .i64 d.k),.int .i64 (vof .i64 d.e),.int .i64 (vof .i64 d.w),.int .i64 (vof .i64 d.b),.int .i64 (vof .i64 d.i)]
def TW.vs (t:TW):List Value:=[.int .i64 (vof .i64 t.k),.int .i64 (vof .i64 t.o),.int .i64 (vof .i64 t.m),.int .i64 (vof .i64 t.w),.int .i64 (vof .i64 t.b),.int .u64 (vof .u64 t.v),.int .u64 (vof .u64 t.l),.int .u64 (vof .u64 t.r)]
def DF.of (g:Nat->DW):DF:=⟨fun i=>(g i).k,fun i=>(g i).e,fun i=>(g i).w,fun i=>(g i).b,fun i=>(g i).i⟩
def TF.of (g:Nat->TW):TF:=⟨fun i=>(g i).k,fun i=>(g i).o,fun i=>(g i).m,fun i=>(g i).w,fun i=>(g i).b,fun i=>(g i).v,fun i=>(g i).l,fun i=>(g i).r⟩
def noDW:DW:=⟨0,0,0,0,0⟩
def noTW:TW:=⟨0,0,0,0,0,0,0,0⟩
theorem df_rel (g:Nat->DW) (i:Nat):(DF.of g).s.rel i (g i).vs:=by
 simp only [DF.s,DF.of,Sh.rel,relShs];exact ⟨[_],_,rfl,rfl,[_],_,rfl,rfl,[_],_,rfl,rfl,[_],_,rfl,rfl,[_],_,rfl,rfl,rfl⟩
theorem tf_rel (g:Nat->TW) (i:Nat):(TF.of g).s.rel i (g i).vs:=by
 simp only [TF.s,TF.of,Sh.rel,relShs];exact ⟨[_],_,rfl,rfl,[_],_,rfl,rfl,[_],_,rfl,rfl,[_],_,rfl,rfl,[_],_,rfl,rfl,[_],_,rfl,rfl,[_],_,rfl,rfl,[_],_,rfl,rfl,rfl⟩
theorem atomsD {cs:List Value} (h:Atoms [some .i64,some .i64,some .i64,some .i64,some .i64] cs):∃x:DW,cs=x.vs:=by
 obtain ⟨x0,_,rfl,x1,_,rfl,x2,_,rfl,x3,_,rfl,x4,_,rfl,rfl⟩:=h;exact ⟨⟨x0,x1,x2,x3,x4⟩,rfl⟩
theorem atomsT {cs:List Value} (h:Atoms [some .i64,some .i64,some .i64,some .i64,some .i64,some .u64,some .u64,some .u64] cs):∃x:TW,cs=x.vs:=by
 obtain ⟨x0,_,rfl,x1,_,rfl,x2,_,rfl,x3,_,rfl,x4,_,rfl,x5,_,rfl,x6,_,rfl,x7,_,rfl,rfl⟩:=h;exact ⟨⟨x0,x1,x2,x3,x4,x5,x6,x7⟩,rfl⟩
def SlIs {α:Type} (W:World) (tr:α->Nat->T) (u:Value):Prop:=(∃(x:α) (n b o c:Nat),0<n/\n<2 ^ 63/\n≤c/\HoldsAt W b o (tr x n)/\u = .slice (some ⟨b,o,none⟩) n c)\/u = .slice none 0 0\/∃b o c,b<W.heap.size/\u = .slice (some ⟨b,o,none⟩) 0 c
theorem atoms_length:∀{ks:List (Option IntKind)} {cs:List Value},Atoms ks cs->cs.length=ks.length
 | [],_,h=>by simp only [Atoms] at h;rw [h];rfl
 | some k::ks,_,h=>by obtain ⟨x,cs',rfl,h⟩:=h;simp [atoms_length h]
 | none::ks,_,h=>by obtain ⟨x,cs',rfl,h⟩:=h;simp [atoms_length h]
theorem sl_is {α H:Type} {enc:TypeId×Value->H} {P:Program} {W:World} {spare:Nat->Bool} {held:Bool} {b0 fuel:Nat} {y:DataW H×List MemPlace} {sh:α->Sh} {t e:TypeId} {s:Nat} {ks:List (Option IntKind)} {v:Value}
 (ht:P.underlying t=some (.slice e)) (hk:kindsOf P 10 e=some ks) (hs:P.cellsOf e=s) (hl:ks.length=s) (h0:0<s)
 (mk:∀(n:Nat) (g:Nat->List Value),(∀i,i<n->Atoms ks (g i))->∃x:α,∀i,i<n->(sh x).rel i (g i))
 {base:Nat} (hok:Cell.okWide P W .any base t v) (hf:DataW.trod enc P W b0 spare held fuel t v.cells.toList=some y):SlIs W (fun (x:α) n =>.arr s (.sym n) (sh x)) v:=by
 obtain ⟨a0,len,cap,rfl⟩:∃a len cap,v = .slice a len cap:=by simp only [Cell.okWide,ht] at hok;cases v<;>simp_all [Cell.ok]
 rcases DataW.trod_slice ht hf with ⟨hcs,hx⟩|⟨a,len',cap',elems,rest,n,_,hcs,hx,hb,hle,hm,hlen,hel,_,_⟩
 · simp [Value.cells] at hcs;obtain ⟨rfl,rfl,rfl⟩:=hcs;exact .inr (.inl rfl)
 · simp [Value.cells] at hcs;obtain ⟨rfl,rfl,rfl⟩:=hcs;rw [hs] at hel;simp only [ht,Cell.okWide,Cell.ok] at hok;obtain ⟨_,_,_,hspot,row,cells,hshape,_⟩:=hok;obtain ⟨b,off,spot⟩:=a;have hspot:spot=none:=hspot;subst hspot;have hbW:b<W.heap.size:=by
    refine Classical.byContradiction fun hge => ?_;have hnone:W.heap[b]? = none:=Array.getElem?_eq_none (by omega)
    simp [World.shape?,hnone] at hshape
   rcases Nat.eq_zero_or_pos len with h1|h1
   · subst h1;exact .inr (.inr ⟨b,off,cap,hbW,rfl⟩)
   · have key:∀i,i<len->∃cs,Atoms ks cs/\∀j,j<s->W.cell? ⟨b,off+s*i+j,none⟩=cs[j]? := fun i hi=>by
      have hi':i<elems.length:=by omega
      have h:=(hel i hi).trans (List.getElem?_eq_getElem hi');rw [Option.bind_eq_some_iff] at h;obtain ⟨cs,hcs,hy⟩:=h;refine ⟨cs,open_kinds 10 hk hy,fun j hj => ?_⟩;obtain ⟨_,_,hc⟩:=World.cells?_some hcs;rw [← hc j hj,Go.WideShapes.add_plain,Go.WideShapes.add_plain,Nat.mul_comm i s]
     let g:Nat->List Value:=fun i=>if h:i<len then (key i h).choose else []
     have hg:∀i,(hi:i<len)->Atoms ks (g i)/\∀j,j<s->W.cell? ⟨b,off+s*i+j,none⟩=(g i)[j]? := fun i hi=>by have e:g i=(key i hi).choose:=dif_pos hi;rw [e];exact (key i hi).choose_spec
     obtain ⟨x,hx⟩:=mk len g fun i hi=>(hg i hi).1;exact .inl ⟨x,len,b,off,cap,h1,Nat.lt_of_le_of_lt (Nat.le_trans hle hm) (by decide),hle,arr_holds h1 h0 (fun i hi=>(atoms_length (hg i hi).1).trans hl) (fun i hi=>(hg i hi).2) hx,rfl⟩
theorem mkD (n:Nat) (g:Nat->List Value) (h:∀i,i<n->Atoms [some .i64,some .i64,some .i64,some .i64,some .i64] (g i)):∃x:DF,∀i,i<n->x.s.rel i (g i):=by
 have key:∀i,i<n->∃d:DW,g i=d.vs:=fun i hi=>atomsD (h i hi);refine ⟨DF.of fun i=>if hi:i<n then (key i hi).choose else noDW,fun i hi => ?_⟩
 have e:g i=(if hi:i<n then (key i hi).choose else noDW:DW).vs:=by rw [dif_pos hi];exact (key i hi).choose_spec
 rw [e];exact df_rel _ i
theorem mkT (n:Nat) (g:Nat->List Value) (h:∀i,i<n->Atoms [some .i64,some .i64,some .i64,some .i64,some .i64,some .u64,some .u64,some .u64] (g i)):∃x:TF,∀i,i<n->x.s.rel i (g i):=by
 have key:∀i,i<n->∃d:TW,g i=d.vs:=fun i hi=>atomsT (h i hi);refine ⟨TF.of fun i=>if hi:i<n then (key i hi).choose else noTW,fun i hi => ?_⟩
 have e:g i=(if hi:i<n then (key i hi).choose else noTW:TW).vs:=by rw [dif_pos hi];exact (key i hi).choose_spec
 rw [e];exact tf_rel _ i
theorem mkW (n:Nat) (g:Nat->List Value) (h:∀i,i<n->Atoms [some .u64] (g i)):∃x:Nat->U,∀i,i<n->(Sh.int .u64 x).rel i (g i):=by
 have key:∀i,i<n->∃d:U,g i=[.int .u64 (vof .u64 d)]:=fun i hi=>by obtain ⟨x,_,e,rfl⟩:=h i hi;exact ⟨x,e⟩
 refine ⟨fun i=>if hi:i<n then (key i hi).choose else 0,fun i hi => ?_⟩
 show g i=[.int .u64 (vof .u64 (if hi:i<n then (key i hi).choose else 0))]
 rw [dif_pos hi];exact (key i hi).choose_spec
theorem slA_rel {ν:Nu} {id s b o c:Nat} {len:Ix} (h:ν id=some (b,o)) (hc:len.val≤c):(A.sl id [] s (.lit 0) len none).rel ν (.slice (some ⟨b,o,none⟩) len.val c):=by
 simp only [A.rel];exact ⟨b,o,o,c,h,rfl,fun _=>by simp [pathOff,Ix.val],hc,fun _ e=>by cases e⟩
theorem oneK {ν:Nu} {k:IntKind} {x:U}:(T.a (.i k x)).rel ν [.int k (vof k x)]:=by
 simp only [T.rel,A.rel];exact ⟨_,rfl,rfl,trivial⟩
def WF (g:Nat->U) (n:Nat):T :=.arr 1 (.sym n) (.int .u64 g)
def callC (no cpu id rno elem:U) (u:Value) (key:U):Value :=.agg #[.int .i64 (vof .i64 no),.int .i64 (vof .i64 cpu),.int .i64 (vof .i64 id),.int .i64 (vof .i64 rno),u,.int .u64 (vof .u64 key),.int .i64 (vof .i64 elem)]
theorem callV_rel {ν:Nu} {no cpu id rno elem key:U} {va:A} {u:Value} (h:va.rel ν u) (hc:Cell u):(callV no cpu id rno elem va key).rel ν (callC no cpu id rno elem u key):=by
 refine ⟨_,rfl,?_⟩;simp only [T.rel,relTs];exact ⟨[_],_,rfl,oneK,[_],_,rfl,oneK,[_],_,rfl,oneK,[_,_,_,_],_,rfl,⟨[_],_,rfl,oneK,[_],_,rfl,⟨u,rfl,h,hc⟩,[_],_,rfl,oneK,[_],_,rfl,oneK,rfl⟩,rfl⟩
theorem e4_lnil (no cpu id rno elem key:U):(evalF cxK (Γ4 false false) 400 20 4 [one .nils,one .poison,callV no cpu id rno elem .poison key] (hM [] 4)).wayB []=some (true,.tt,some true,[]):=by kernel_rfl
theorem e4_lzero (no cpu id rno elem key:U):(evalF cxK (Γ4 false false) 400 20 4 [one (.sl 0 [] 5 (.lit 0) (.lit 0) none),one .poison,callV no cpu id rno elem .poison key] (hM [] 4)).wayB []=some (true,.tt,some true,[]):=by kernel_rfl
theorem nt604 {nt:Nat} (h63:nt<2 ^ 63) (h:some (BitVec.slt (K 60) (kk nt))≠some true):nt≤60:=by
 have e:BitVec.slt (K 60) (kk nt)=BitVec.slt (kk 60) (kk nt):=rfl;rw [e,slt_kk (by decide) h63] at h
 simp only [ne_eq,oI,decide_eq_true_eq] at h;omega
theorem okSt_ok4 {n nt:Nat} (h0:0<n) (hn:n≤10) (h1:0<nt) (h2:nt≤60):okB (.b (okSt n nt (Nat.beq n n) (Nat.beq nt nt)))=true:=by
 show okSt n nt (Nat.beq n n) (Nat.beq nt nt)=true;unfold okSt;rw [Nat.beq_refl,Nat.beq_refl,nB h0,nB hn,nB h1,nB h2];rfl
theorem ovl4 {l:Nat} (h:0<l):(Nat.beq l l&&Nat.blt 0 l)=true:=by
 rw [Nat.beq_refl,show Nat.blt 0 l=true from nB h]
 rfl
def noTF4:TF:=TF.of fun _=>noTW
theorem nilA_rel4 (ν:Nu):A.nils.rel ν (.slice none 0 0):=by simp only [A.rel]
theorem poiA_rel4 (ν:Nu) (u:Value):A.poison.rel ν u:=by simp only [A.rel]
theorem sl_cell4 {α:Type} {W:World} {tr:α->Nat->T} {u:Value} (h:SlIs W tr u):Cell u:=by
 rcases h with ⟨x,n,b,o,c,_,_,_,_,rfl⟩|rfl|⟨b,o,c,_,rfl⟩<;>trivial
theorem sound4 {W:World} {u0 u1 u2:Value} (hl:SlIs W DF.arr u0) (ht:SlIs W TF.arr u1) (hv:SlIs W WF u2) (no cpu id rno elem key:U):Calls Tryz.prog 4 #[u0,u1,callC no cpu id rno elem u2 key] W (RT3 W):=by
 rcases hl with ⟨D,n,b0,o0,c0,h0,h63,hc0,H0,rfl⟩|rfl|⟨b0,o0,c0,hb0,rfl⟩
 · have M0:=mark_at H0;rcases ht with ⟨F,nt,b1,o1,c1,g0,g63,hc1,H1,rfl⟩|rfl|⟨b1,o1,c1,hb1,rfl⟩ <;>
    rcases hv with ⟨g,l,b3,o3,c3,l0,l63,hc3,H3,rfl⟩|rfl|⟨b3,o3,c3,hb3,rfl⟩
   · have hm:Mem (fun _=>True) (nuA (b0,o0) (some (b1,o1)) (some (b3,o3))) W (hM [(0,⟨false,D.arr n⟩),(1,⟨false,F.arr nt⟩),(2,⟨false,.lst 7777 []⟩),(3,⟨false,.arr 1 (.sym l) (.int .u64 g)⟩)] 4):=mem_ro (fun i x hx=>by
      simp only [List.mem_cons,pI,List.not_mem_nil,or_false] at hx;rcases hx with ⟨rfl,rfl⟩|⟨rfl,rfl⟩|⟨rfl,rfl⟩|⟨rfl,rfl⟩
      · exact ⟨rfl,by decide,_,_,rfl,H0⟩
      · exact ⟨rfl,by decide,_,_,rfl,H1⟩
      · exact ⟨rfl,by decide,_,_,rfl,M0⟩
      · exact ⟨rfl,by decide,_,_,rfl,H3⟩) (nuA_fresh _ _ _) (nuA_lt H0.lt (fun q e=>by cases e;exact H1.lt) (fun q e=>by cases e;exact H3.lt)) rfl
     exact sound_of (e4_ss n D nt F l g) h0 h63 (nB g63) (fun hn hT=>okSt_ok4 h0 hn g0 (nt604 g63 hT)) (fun hn=>kni_fold h0 hn F nt) (ovl4 l0) hm (us:=[_,_,_]) ⟨slA_rel (len :=.sym n) rfl hc0,slA_rel (len :=.sym nt) rfl hc1,callV_rel (slA_rel (len :=.sym l) rfl hc3) trivial,trivial⟩
   · have hm:Mem (fun _=>True) (nuA (b0,o0) (some (b1,o1)) none) W (hM [(0,⟨false,D.arr n⟩),(1,⟨false,F.arr nt⟩),(2,⟨false,.lst 7777 []⟩)] 4):=mem_ro (fun i x hx=>by
      simp only [List.mem_cons,pI,List.not_mem_nil,or_false] at hx;rcases hx with ⟨rfl,rfl⟩|⟨rfl,rfl⟩|⟨rfl,rfl⟩
      · exact ⟨rfl,by decide,_,_,rfl,H0⟩
      · exact ⟨rfl,by decide,_,_,rfl,H1⟩
      · exact ⟨rfl,by decide,_,_,rfl,M0⟩) (nuA_fresh _ _ _) (nuA_lt H0.lt (fun q e=>by cases e;exact H1.lt) (fun q e=>by cases e)) rfl
     exact sound_of (e4_sn n D nt F 0 (fun _=>K 0)) h0 h63 (nB g63) (fun hn hT=>okSt_ok4 h0 hn g0 (nt604 g63 hT)) (fun hn=>kni_fold h0 hn F nt) rfl hm (us:=[_,_,_]) ⟨slA_rel (len :=.sym n) rfl hc0,slA_rel (len :=.sym nt) rfl hc1,callV_rel (nilA_rel4 (nuA (b0,o0) (some (b1,o1)) none)) trivial,trivial⟩
   · have hm:Mem (fun _=>True) (nuA (b0,o0) (some (b1,o1)) (some (b3,o3))) W (hM [(0,⟨false,D.arr n⟩),(1,⟨false,F.arr nt⟩),(2,⟨false,.lst 7777 []⟩)] 4):=mem_ro (fun i x hx=>by
      simp only [List.mem_cons,pI,List.not_mem_nil,or_false] at hx;rcases hx with ⟨rfl,rfl⟩|⟨rfl,rfl⟩|⟨rfl,rfl⟩
      · exact ⟨rfl,by decide,_,_,rfl,H0⟩
      · exact ⟨rfl,by decide,_,_,rfl,H1⟩
      · exact ⟨rfl,by decide,_,_,rfl,M0⟩) (nuA_fresh _ _ _) (nuA_lt H0.lt (fun q e=>by cases e;exact H1.lt) (fun q e=>by cases e;exact hb3)) rfl
     exact sound_of (e4_sz n D nt F 0 (fun _=>K 0)) h0 h63 (nB g63) (fun hn hT=>okSt_ok4 h0 hn g0 (nt604 g63 hT)) (fun hn=>kni_fold h0 hn F nt) rfl hm (us:=[_,_,_]) ⟨slA_rel (len :=.sym n) rfl hc0,slA_rel (len :=.sym nt) rfl hc1,callV_rel (slA_rel (len :=.lit 0) rfl (Nat.zero_le _)) trivial,trivial⟩
   · have hm:Mem (fun _=>True) (nuA (b0,o0) none (some (b3,o3))) W (hM [(0,⟨false,D.arr n⟩),(2,⟨false,.lst 7777 []⟩),(3,⟨false,.arr 1 (.sym l) (.int .u64 g)⟩)] 4):=mem_ro (fun i x hx=>by
      simp only [List.mem_cons,pI,List.not_mem_nil,or_false] at hx;rcases hx with ⟨rfl,rfl⟩|⟨rfl,rfl⟩|⟨rfl,rfl⟩
      · exact ⟨rfl,by decide,_,_,rfl,H0⟩
      · exact ⟨rfl,by decide,_,_,rfl,M0⟩
      · exact ⟨rfl,by decide,_,_,rfl,H3⟩) (nuA_fresh _ _ _) (nuA_lt H0.lt (fun q e=>by cases e) (fun q e=>by cases e;exact H3.lt)) rfl
     exact sound_of (e4_ns n D 0 noTF4 l g) h0 h63 rfl (fun _ _=>rfl) (fun _=>kni_new) (ovl4 l0) hm (us:=[_,_,_]) ⟨slA_rel (len :=.sym n) rfl hc0,nilA_rel4 (nuA (b0,o0) none (some (b3,o3))),callV_rel (slA_rel (len :=.sym l) rfl hc3) trivial,trivial⟩
   · have hm:Mem (fun _=>True) (nuA (b0,o0) none none) W (hM [(0,⟨false,D.arr n⟩),(2,⟨false,.lst 7777 []⟩)] 4):=mem_ro (fun i x hx=>by
      simp only [List.mem_cons,pI,List.not_mem_nil,or_false] at hx;rcases hx with ⟨rfl,rfl⟩|⟨rfl,rfl⟩
      · exact ⟨rfl,by decide,_,_,rfl,H0⟩
      · exact ⟨rfl,by decide,_,_,rfl,M0⟩) (nuA_fresh _ _ _) (nuA_lt H0.lt (fun q e=>by cases e) (fun q e=>by cases e)) rfl
     exact sound_of (e4_nn n D 0 noTF4 0 (fun _=>K 0)) h0 h63 rfl (fun _ _=>rfl) (fun _=>kni_new) rfl hm (us:=[_,_,_]) ⟨slA_rel (len :=.sym n) rfl hc0,nilA_rel4 (nuA (b0,o0) none none),callV_rel (nilA_rel4 (nuA (b0,o0) none none)) trivial,trivial⟩
   · have hm:Mem (fun _=>True) (nuA (b0,o0) none (some (b3,o3))) W (hM [(0,⟨false,D.arr n⟩),(2,⟨false,.lst 7777 []⟩)] 4):=mem_ro (fun i x hx=>by
      simp only [List.mem_cons,pI,List.not_mem_nil,or_false] at hx;rcases hx with ⟨rfl,rfl⟩|⟨rfl,rfl⟩
      · exact ⟨rfl,by decide,_,_,rfl,H0⟩
      · exact ⟨rfl,by decide,_,_,rfl,M0⟩) (nuA_fresh _ _ _) (nuA_lt H0.lt (fun q e=>by cases e) (fun q e=>by cases e;exact hb3)) rfl
     exact sound_of (e4_nz n D 0 noTF4 0 (fun _=>K 0)) h0 h63 rfl (fun _ _=>rfl) (fun _=>kni_new) rfl hm (us:=[_,_,_]) ⟨slA_rel (len :=.sym n) rfl hc0,nilA_rel4 (nuA (b0,o0) none (some (b3,o3))),callV_rel (slA_rel (len :=.lit 0) rfl (Nat.zero_le _)) trivial,trivial⟩
   · have hm:Mem (fun _=>True) (nuA (b0,o0) (some (b1,o1)) (some (b3,o3))) W (hM [(0,⟨false,D.arr n⟩),(2,⟨false,.lst 7777 []⟩),(3,⟨false,.arr 1 (.sym l) (.int .u64 g)⟩)] 4):=mem_ro (fun i x hx=>by
      simp only [List.mem_cons,pI,List.not_mem_nil,or_false] at hx;rcases hx with ⟨rfl,rfl⟩|⟨rfl,rfl⟩|⟨rfl,rfl⟩
      · exact ⟨rfl,by decide,_,_,rfl,H0⟩
      · exact ⟨rfl,by decide,_,_,rfl,M0⟩
      · exact ⟨rfl,by decide,_,_,rfl,H3⟩) (nuA_fresh _ _ _) (nuA_lt H0.lt (fun q e=>by cases e;exact hb1) (fun q e=>by cases e;exact H3.lt)) rfl
     exact sound_of (e4_zs n D 0 noTF4 l g) h0 h63 rfl (fun _ _=>rfl) (fun _=>kni_new) (ovl4 l0) hm (us:=[_,_,_]) ⟨slA_rel (len :=.sym n) rfl hc0,slA_rel (len :=.lit 0) rfl (Nat.zero_le _),callV_rel (slA_rel (len :=.sym l) rfl hc3) trivial,trivial⟩
   · have hm:Mem (fun _=>True) (nuA (b0,o0) (some (b1,o1)) none) W (hM [(0,⟨false,D.arr n⟩),(2,⟨false,.lst 7777 []⟩)] 4):=mem_ro (fun i x hx=>by
      simp only [List.mem_cons,pI,List.not_mem_nil,or_false] at hx;rcases hx with ⟨rfl,rfl⟩|⟨rfl,rfl⟩
      · exact ⟨rfl,by decide,_,_,rfl,H0⟩
      · exact ⟨rfl,by decide,_,_,rfl,M0⟩) (nuA_fresh _ _ _) (nuA_lt H0.lt (fun q e=>by cases e;exact hb1) (fun q e=>by cases e)) rfl
     exact sound_of (e4_zn n D 0 noTF4 0 (fun _=>K 0)) h0 h63 rfl (fun _ _=>rfl) (fun _=>kni_new) rfl hm (us:=[_,_,_]) ⟨slA_rel (len :=.sym n) rfl hc0,slA_rel (len :=.lit 0) rfl (Nat.zero_le _),callV_rel (nilA_rel4 (nuA (b0,o0) (some (b1,o1)) none)) trivial,trivial⟩
   · have hm:Mem (fun _=>True) (nuA (b0,o0) (some (b1,o1)) (some (b3,o3))) W (hM [(0,⟨false,D.arr n⟩),(2,⟨false,.lst 7777 []⟩)] 4):=mem_ro (fun i x hx=>by
      simp only [List.mem_cons,pI,List.not_mem_nil,or_false] at hx;rcases hx with ⟨rfl,rfl⟩|⟨rfl,rfl⟩
      · exact ⟨rfl,by decide,_,_,rfl,H0⟩
      · exact ⟨rfl,by decide,_,_,rfl,M0⟩) (nuA_fresh _ _ _) (nuA_lt H0.lt (fun q e=>by cases e;exact hb1) (fun q e=>by cases e;exact hb3)) rfl
     exact sound_of (e4_zz n D 0 noTF4 0 (fun _=>K 0)) h0 h63 rfl (fun _ _=>rfl) (fun _=>kni_new) rfl hm (us:=[_,_,_]) ⟨slA_rel (len :=.sym n) rfl hc0,slA_rel (len :=.lit 0) rfl (Nat.zero_le _),callV_rel (slA_rel (len :=.lit 0) rfl (Nat.zero_le _)) trivial,trivial⟩
 · exact rt4_of (e4_lnil no cpu id rno elem key) rfl rfl (mem_ro (ν:=fun _=>none) (fun i x hx=>by cases hx) (fun _ _=>rfl) (fun i r b h=>by cases h) rfl) (us:=[_,_,_]) ⟨nilA_rel4 (fun _=>none),poiA_rel4 (fun _=>none) u1,callV_rel (poiA_rel4 (fun _=>none) u2) (sl_cell4 hv),trivial⟩
 · exact rt4_of (e4_lzero no cpu id rno elem key) rfl rfl (mem_ro (ν:=nuA (b0,o0) none none) (fun i x hx=>by cases hx) (nuA_fresh _ _ _) (nuA_lt hb0 (fun q e=>by cases e) (fun q e=>by cases e)) rfl) (us:=[_,_,_]) ⟨slA_rel (len :=.lit 0) rfl (Nat.zero_le _),poiA_rel4 (nuA (b0,o0) none none) u1,callV_rel (poiA_rel4 (nuA (b0,o0) none none) u2) (sl_cell4 hv),trivial⟩
end Go.WE
end
