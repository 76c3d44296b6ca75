/- A part of a proof of the helpers' law; no condition of its own. -/
import Derived.Test.YtoeealkcacgcgaaGreatDoorK25
import Derived.Test.YtoeealkcacgcgaaGreatDoorK31
set_option linter.unusedVariables false
set_option maxRecDepth 100000
noncomputable section
namespace Go.WE
open Go Go.Proofs Go.RowKit
def nu4 (r b off b3 o3:Nat):Nu:=fun i=>if i=3 then some (b3,o3) else nu3 r b off i
theorem nu4_some {r b off b3 o3 i B o:Nat} (h:nu4 r b off b3 o3 i=some (B,o)):(i=0/\B=r/\o=0)\/((i=1\/i=2)/\B=b/\o=off)\/(i=3/\B=b3/\o=o3):=by
 unfold nu4 at h;split at h
 · simp at h;exact .inr (.inr ⟨by assumption,h.1.symm,h.2.symm⟩)
 · rcases nu3_some h with h|h
   · exact .inl h
   · exact .inr (.inl h)
theorem get_mR {t:T} {n:Nat} {D:DF} {k:Nat} {g:Nat->U} {i:Nat} {x:Blk} (e:(hM (mR t n D k g) 4).m.get i=some x):(i=0/\x=⟨true,t⟩)\/(i=1/\x=⟨false,D.arr n⟩)\/(i=2/\x=⟨false,.lst 7777 []⟩)\/(i=3/\x=⟨false,.arr 1 (.lit k) (.int .u64 g)⟩):=by
 have:=get_memT _ i x e;unfold mR mP at this;simp only [List.mem_append,List.mem_cons,List.not_mem_nil,or_false,pI] at this;rcases this with (h|h|h)|h
 · exact .inl h
 · exact .inr (.inl h)
 · exact .inr (.inr (.inl h))
 · exact .inr (.inr (.inr h))
theorem mem_r4 {w:World} {r b off b3 o3 n k:Nat} {t:T} {D:DF} {g:Nat->U} (hne:r≠b) (hne3:r≠b3) (h0:Holds w r t) (h1:HoldsAt w b off (D.arr n)) (h3:HoldsAt w b3 o3 (.arr 1 (.lit k) (.int .u64 g))):Mem (fun _=>True) (nu4 r b off b3 o3) w (hM (mR t n D k g) 4):=by
 have m:=mem_p3 hne h0 h1;have hmono:Nu.le (nu3 r b off) (nu4 r b off b3 o3):=fun i p hp=>by unfold nu4;rw [if_neg,hp];rintro rfl;unfold nu3 at hp;simp at hp
 refine ⟨⟨fun i r' b' e => ?_,fun i x e hrw i' r' b1 b2 e1 e2 => ?_,fun i hi => ?_,fun i x e => ?_,Nat.le_refl _,fun g hg=>(by cases hg)⟩,fun i x e _ => ?_⟩
 · rcases nu4_some e with ⟨_,rfl,_⟩|⟨_,rfl,_⟩|⟨_,rfl,_⟩
   · exact h0.lt
   · exact h1.lt
   · exact h3.lt
 · rcases get_mR e with ⟨rfl,rfl⟩|⟨_,rfl⟩|⟨_,rfl⟩|⟨_,rfl⟩
   · rcases nu4_some e1 with ⟨_,rfl,_⟩|⟨h,_⟩|⟨h,_⟩
     · rcases nu4_some e2 with ⟨h,_⟩|⟨_,h,_⟩|⟨_,h,_⟩
       · exact h
       · exact absurd h hne
       · exact absurd h hne3
     · omega
     · omega
   · cases hrw
   · cases hrw
   · cases hrw
 · have hi:4≤i:=hi;unfold nu4 nu3;rw [if_neg (by omega),if_neg (by omega),if_neg (by omega)]
 · rcases get_mR e with ⟨rfl,_⟩|⟨rfl,_⟩|⟨rfl,_⟩|⟨rfl,_⟩<;>(show _<4;decide)
 · rcases get_mR e with ⟨rfl,rfl⟩|⟨rfl,rfl⟩|⟨rfl,rfl⟩|⟨rfl,rfl⟩
   · exact (m.seen 0 _ rfl (.inl trivial)).mono hmono fun _ _ _=>rfl
   · exact (m.seen 1 _ rfl (.inl trivial)).mono hmono fun _ _ _=>rfl
   · exact (m.seen 2 _ rfl (.inl trivial)).mono hmono fun _ _ _=>rfl
   · obtain ⟨cs,ty,fr,pre,vs,post,q1,q2,q3,q4⟩:=h3;exact .inl ⟨b3,o3,cs,ty,fr,pre,vs,post,by simp [nu4],q1,q2,q3,T.rel_mono (fun i p e=>by cases e) q4,fun h=>by cases h⟩
def resVal (rno elem:U) (vv vk:Value):Value :=.agg #[.int .i64 (vof .i64 rno),vv,vk,.int .i64 (vof .i64 elem)]
theorem resT_rel {ν:Nu} {no elem val:A} {rno el:U} {vv vk:Value} (h1:no.rel ν (.int .i64 (vof .i64 rno))) (h2:val.rel ν vv) (h3:elem.rel ν (.int .i64 (vof .i64 el))) (c2:Cell vv) (c3:Cell vk):(resT no val elem).rel ν (resVal rno el vv vk):=by
 refine ⟨_,rfl,?_⟩;simp only [T.rel,relTs];exact ⟨_,_,rfl,⟨_,rfl,h1,trivial⟩,_,_,rfl,⟨_,rfl,h2,c2⟩,_,_,rfl,⟨_,rfl,by simp only [A.rel],c3⟩,_,_,rfl,⟨_,rfl,h3,trivial⟩,rfl⟩
theorem relV_snoc {ν:Nu}:∀{xs:List V} {us:List Value} {x:V} {u:Value},relV ν xs us->x.rel ν u->relV ν (xs++[x]) (us++[u])
 | [],[],_,_,_,h=>⟨h,trivial⟩
 | _::_,_::_,_,_,⟨a,b⟩,h=>⟨a,relV_snoc b h⟩
theorem relArgs4 {r b off b3 o3 n c:Nat} {no cpu:U} (hc:n≤c) {x:A} (hx:x.rel (nu4 r b off b3 o3) (.int .i64 (vof .i64 no))):relV (nu4 r b off b3 o3) [slDP n,pt 0,one x,i64 cpu] [.slice (some ⟨b,off,none⟩) n c,.pointer (some ⟨r,0,none⟩),.int .i64 (vof .i64 no),.int .i64 (vof .i64 cpu)]:=by
 refine ⟨?_,?_,hx,?_,trivial⟩
 · show (A.sl 1 [] 5 (.lit 0) (.sym n) none).rel _ _;simp only [A.rel];exact ⟨b,off,off,c,by simp [nu4,nu3],rfl,fun _=>by simp [pathOff,Ix.val],hc,fun _ e=>by cases e⟩
 · show (A.ptr 0 []).rel _ _;simp only [A.rel];exact ⟨r,0,rfl,rfl⟩
 · show (A.i .i64 cpu).rel (nu4 r b off b3 o3) (.int .i64 (vof .i64 cpu));simp only [A.rel]
def ResOK (w:World) (r:Nat) (val:Option (Nat×(Nat->U))) (vv:Value):Prop:=match val with
 | none=>vv = .slice none 0 0
 | some (k,g)=>∃b3 o3 c3,r≠b3/\k≤c3/\vv = .slice (some ⟨b3,o3,none⟩) k c3/\HoldsAt w b3 o3 (.arr 1 (.lit k) (.int .u64 g))
theorem ResOK.cell {w:World} {r:Nat} {val:Option (Nat×(Nat->U))} {vv:Value} (h:ResOK w r val vv):Cell vv:=by
 unfold ResOK at h;split at h
 · subst h;trivial
 · obtain ⟨_,_,_,_,_,rfl,_⟩:=h;trivial
section
variable {w:World} {r b off n c:Nat} {D:DF} {no cpu rno elem:U} {val:Option (Nat×(Nat->U))} {vv vk:Value}
def FitOK (n:Nat) (D:DF) (regs:VV) (no rno:U) (val:Option (Nat×(Nat->U))):Prop:=match val with
 | none=>True
 | some (k,_)=>rno=K 0/\inM n (regs.i 1)=true/\k=(D.w (ixU regs)).toNat
theorem done14 {s:VF} (hn:n≤10) (hD:OKD n D) (hc:n≤c) (hne:r≠b) (h0:Holds w r s.t) (h1:HoldsAt w b off (D.arr n)) (hv:ResOK w r val vv) (hf:FitOK n D s.regs no rno val) (hk:Cell vk) :
 Calls Tryz.prog 14 #[.slice (some ⟨b,off,none⟩) n c,.pointer (some ⟨r,0,none⟩),.int .i64 (vof .i64 no),.int .i64 (vof .i64 cpu),resVal rno elem vv vk] w (DoneP w r (planF n D s.regs s.how s.flat no cpu).code (doneVF n D s no cpu rno elem val).t):=by
 have pois:∀{x:A} {no':U},x.rel (nu3 r b off) (.int .i64 (vof .i64 no'))->relV (nu3 r b off) ([slDP n,pt 0,one x,i64 cpu]++[resT (.i .i64 rno) .poison (.i .i64 elem)]) ([.slice (some ⟨b,off,none⟩) n c,.pointer (some ⟨r,0,none⟩),.int .i64 (vof .i64 no'),.int .i64 (vof .i64 cpu)]++[resVal rno elem vv vk]):=fun hx=>
  relV_snoc (relArgs hc hx) (resT_rel (by simp only [A.rel]) (by simp only [A.rel]) (by simp only [A.rel]) hv.cell hk)
 cases hin:inH no
 · have e:=planF_no (n:=n) (D:=D) (regs:=s.regs) (how:=s.how) (flat:=s.flat) (cpu:=cpu) hin;have e2:doneVF n D s no cpu rno elem val=s:=by unfold doneVF;rw [e]
   rw [e,e2];refine done_of (R0:=ev14n s n D no cpu rno elem) (by rw [d_no];exact pkd_err (by show (!(inH no))=true;rw [hin];rfl) rfl) (fun ok v h' hp hok=>(evalF_fn (XP 1 1 (help_ok (Γ14_ok true 1000))) rfl hp hok).2) rfl rfl (mem_p3 hne h0 h1) rfl (us:=[_,_,_,_,_]) (pois (by simp only [A.rel]))
 · cases h7:no==K 7
   · obtain ⟨a,ha,hK,hcs⟩:=in_cases hin h7;have e:=planF_in (n:=n) (D:=D) (regs:=s.regs) (how:=s.how) (flat:=s.flat) (cpu:=cpu) hin h7;rw [doneVF_eq,e,ha];have small:∀(hval:∀op L,inM n (s.regs.i 1)=true->argsOf a (D.k (ixU s.regs)).toNat=some (op,L)->plc L≠none->val=none),Calls Tryz.prog 14 #[.slice (some ⟨b,off,none⟩) n c,.pointer (some ⟨r,0,none⟩),.int .i64 (vof .i64 no),.int .i64 (vof .i64 cpu),resVal rno elem vv vk] w (DoneP w r (headF n s.regs (planL s.regs s.how s.flat cpu (D.k (ixU s.regs)).toNat (D.w (ixU s.regs)).toNat (argsOf a (D.k (ixU s.regs)).toNat))).code ((headF n s.regs (planL s.regs s.how s.flat cpu (D.k (ixU s.regs)).toNat (D.w (ixU s.regs)).toNat (argsOf a (D.k (ixU s.regs)).toNat))).pickT s.t (behV D s no cpu rno elem val).t)):=fun hval=>by
      obtain ⟨bb,T,j,w',v,hvv,hpk⟩:=exDn hn hD (allDV hcs) ha h7 s cpu rno elem val hval;refine done_of hpk (fun ok v h' hp hok=>(evalF_fn (XP j w' (Γ14_ok bb T)) rfl hp hok).2) ?_ ?_ (mem_p3 hne h0 h1) rfl (us:=[_,_,_,_,_]) ?_
      · unfold PO.pickT;split<;>rfl
      · unfold PO.pickT;split<;>rfl
      · rcases hvv with rfl|⟨rfl,op,L,hM,hargs,hpl⟩
        · exact pois (lit_no hK (by omega))
        · have hvn:=hval op L hM hargs hpl;subst hvn;have hvv:vv = .slice none 0 0:=hv;subst hvv;exact relV_snoc (relArgs hc (lit_no hK (by omega))) (resT_rel (by simp only [A.rel]) (by simp only [A.rel]) (by simp only [A.rel]) trivial hk)
     cases hvs:val with
     | none=>
       rw [hvs] at small;exact small fun _ _ _ _ _=>rfl
     | some p=>
       obtain ⟨k,g⟩:=p;by_cases hw:∃op L,inM n (s.regs.i 1)=true/\argsOf a (D.k (ixU s.regs)).toNat=some (op,L)/\plc L≠none
       · obtain ⟨op,L,hM,hargs,hpl⟩:=hw;rw [hvs] at hf hv;obtain ⟨f1,f2,f3⟩:=hf;subst f1;subst f3;obtain ⟨b3,o3,c3,hne3,hc3,rfl,h3⟩:=hv;obtain ⟨bb,T,hpk⟩:=exDw hn hD (allDV hcs) ha h7 s cpu elem g hM hargs hpl;rw [hargs];refine done_of hpk (fun ok v h' hp hok=>(evalF_fn (XP _ _ (Γ14_ok bb T)) rfl hp hok).2) ?_ ?_ (mem_r4 hne hne3 h0 h1 h3) rfl (us:=[_,_,_,_,_]) ?_
         · unfold PO.pickT;split<;>rfl
         · unfold PO.pickT;split<;>rfl
         · refine relV_snoc (relArgs4 hc (lit_no hK (by omega))) (resT_rel ?_ ?_ (by simp only [A.rel]) trivial hk)
           · unfold z64;simp only [A.rel];exact ⟨rfl,rfl⟩
           · simp only [A.rel];exact ⟨b3,o3,o3,c3,by simp [nu4],rfl,fun _=>by simp [pathOff,Ix.val],hc3,fun _ e=>by cases e⟩
       · rw [hvs] at small;exact small fun op L hM hargs hpl=>absurd ⟨op,L,hM,hargs,hpl⟩ hw
   · have h7:=eq_of_beq h7;subst h7;have e2:doneVF n D s (K 7) cpu rno elem val=outV6 s (numW cpu):=rfl;rw [e2];refine done_of (R0:=ev14 true 1000 1 1 7 s n D cpu rno elem .poison) (code:=K 0) (by rw [d_7];exact ⟨.tt,[0],z64,rfl,rfl,rfl,.inl rfl⟩) (fun ok v h' hp hok=>(evalF_fn (XP 1 1 (Γ14_ok true 1000)) rfl hp hok).2) rfl rfl (mem_p3 hne h0 h1) rfl (us:=[_,_,_,_,_]) (pois (lit_no (a:=7) rfl (by decide)))
theorem okPl_true (h1:1≤n) (hn:n≤10) (hD:OKD n D):okPl n D (Nat.beq n n)=true:=by
 unfold okPl;have a1:Nat.ble 1 n=true:=nB h1;have a2:Nat.ble n 10=true:=nB hn;have a3:Nat.beq n n=true:=Nat.beq_refl n;rw [a1,a2,a3,dec_true hD];rfl
end
theorem argsF_ok {regs:VV} {how flat:Nat->U} {w:Nat} {m op cpu m' o' k' f' c':U} {v':Option (Nat×(Nat->U))}:∀(L:List Nat) (r:Nat) (key flag:U) (v:Option (Nat×(Nat->U))),argsF regs how flat w m op cpu L r key flag v = .ok m' o' k' f' c' v'->m'=m/\v'.isSome=(v.isSome||L.any fun x=>Nat.beq x 1)
 | [],r,key,flag,v,h=>by cases h;exact ⟨rfl,by simp⟩
 | 0::L,r,key,flag,v,h=>by
   unfold argsF at h;cases h0:regs.k r==K 0<;>simp only [h0,cond_true,cond_false] at h
   · cases h1:bytesE how (regs.at r) 8 != K 0<;>simp only [h1,cond_true,cond_false] at h
     · obtain ⟨a,b⟩:=argsF_ok L _ _ _ _ h;exact ⟨a,b.trans (by rw [List.any_cons];rfl)⟩
     · cases h
   · cases h
 | 1::L,r,key,flag,v,h=>by
   unfold argsF at h;cases h0:regs.k r==K 0<;>simp only [h0,cond_true,cond_false] at h
   · cases h1:bytesE how (regs.at r) (8*w) != K 0<;>simp only [h1,cond_true,cond_false] at h
     · obtain ⟨a,b⟩:=argsF_ok L _ _ _ _ h;exact ⟨a,b.trans (by rw [List.any_cons];cases v.isSome<;>cases (L.any fun x=>Nat.beq x 1)<;>rfl)⟩
     · cases h
   · cases h
 | 2::L,r,key,flag,v,h=>by
   unfold argsF at h;cases h0:regs.k r==K 0<;>simp only [h0,cond_true,cond_false] at h
   · cases h1:regs.k r != K 1<;>simp only [h1,cond_true,cond_false] at h
     · obtain ⟨a,b⟩:=argsF_ok L _ _ _ _ h;exact ⟨a,b.trans (by rw [List.any_cons];rfl)⟩
     · cases h
   · cases h
 | (n+3)::L,r,key,flag,v,h=>by
   unfold argsF at h;cases h0:regs.k r==K 0<;>simp only [h0,cond_true,cond_false] at h
   · cases h1:regs.k r != K 3<;>simp only [h1,cond_true,cond_false] at h
     · cases h2:roomB (regs.n r) (8*w)<;>simp only [h2,Bool.not_true,Bool.not_false,cond_true,cond_false] at h
       · cases h
       · obtain ⟨a,b⟩:=argsF_ok L _ _ _ _ h;exact ⟨a,b.trans (by rw [List.any_cons];rfl)⟩
     · cases h
   · cases h
theorem hasV_any {L:List Nat} (hL:L=[0]\/L=[0,1,2]\/L=[1,2]\/L=[3]\/L=[1]\/L=[0,3]):hasV L=L.any fun x=>Nat.beq x 1:=by
 rcases hL with rfl|rfl|rfl|rfl|rfl|rfl<;>rfl
theorem plan_facts {n:Nat} {D:DF} {regs:VV} {how flat:Nat->U} {no cpu m' o' k' f' c':U} {v':Option (Nat×(Nat->U))} (h:planF n D regs how flat no cpu = .ok m' o' k' f' c' v') (h7:(no==K 7)=false):inH no=true/\inM n (regs.i 1)=true/\m'=regs.i 1/\∃op L,argsOf no.toNat (D.k (ixU regs)).toNat=some (op,L)/\v'.isSome=hasV L:=by
 unfold planF at h;cases h0:cond (BitVec.sle (K 1) no) (BitVec.sle no (K 8)) false<;>simp only [h0,Bool.not_true,Bool.not_false,cond_true,cond_false] at h
 · cases h
 · simp only [h7,cond_false] at h;cases h2:regs.k 1==K 0<;>simp only [h2,cond_true,cond_false] at h
   · cases h3:regs.k 1 != K 4<;>simp only [h3,cond_true,cond_false] at h
     · cases h4:inM n (regs.i 1)<;>simp only [h4,Bool.not_true,Bool.not_false,cond_true,cond_false] at h
       · cases h
       · unfold planL at h;split at h
         · cases h
         · rename_i op L hargs;obtain ⟨e1,e2⟩:=argsF_ok L _ _ _ _ h;exact ⟨h0,rfl,e1,op,L,hargs,by rw [e2,hasV_any (argsOf_L hargs)];rfl⟩
     · cases h
   · cases h
theorem pkd_head {sh:Bool} {n:Nat} {D:DF} {q:QF} {no cpu:U} {rest:PQ} {t:T} (h0:(poQ n D q no cpu).code=K 0) (h:PkD rest (K 0) t):PkD (headD sh n D q no cpu rest) (K 0) t:=by
 unfold headD;exact pkd_f (by rw [h0];rfl) h
section
variable {w:World} {r b off n c:Nat} {D:DF} {no cpu rno elem:U} {val:Option (Nat×(Nat->U))} {vv vk:Value}
theorem ok15_true {q:QF} {sh:Bool} (h1:1≤n) (hn:n≤10) (hD:OKD n D) (hM:inM n (q.regs.i 1)=true) (hm:(poQ n D q no cpu).m=q.regs.i 1) (hs:(poQ n D q no cpu).has=sh):ok15 sh D n (poQ n D q no cpu) (D.k (ixU q.regs)).toNat (D.w (ixU q.regs)).toNat=true:=by
 obtain ⟨m1,m2,m3,m4⟩:=inM_nat hn hM;have a1:=okPl_true h1 hn hD;have a2:(bif sh then (poQ n D q no cpu).has else !(poQ n D q no cpu).has)=true:=by rw [hs];cases sh<;>rfl
 have a3:Nat.blt (q.regs.i 1-K 1).toNat n=true:=by rw [m4];exact nB (by omega)
 have a4:(D.k (ixU q.regs)==K ((D.k (ixU q.regs)).toNat:Int))=true:=by rw [Kof];exact beq_self_eq_true _
 have a5:(D.w (ixU q.regs)==K ((D.w (ixU q.regs)).toNat:Int))=true:=by rw [Kof];exact beq_self_eq_true _
 have e0:0+(q.regs.i 1-K 1).toNat=ixU q.regs:=Nat.zero_add _;have a6:Nat.blt (ixU q.regs) n=true:=a3;unfold ok15;rw [hm,e0,a1,a2,m3,a3,a4,a5,a6];rfl
theorem done15 {s:QF} (hn1:1≤n) (hn:n≤10) (hD:OKD n D) (hc:n≤c) (hne:r≠b) (h0:Holds w r s.t) (h1:HoldsAt w b off (D.arr n)) (hv:ResOK w r val vv) (hf:FitOK n D s.regs no rno val) (hk:Cell vk) :
 Calls Tryz.prog 15 #[.slice (some ⟨b,off,none⟩) n c,.pointer (some ⟨r,0,none⟩),.int .i64 (vof .i64 no),.int .i64 (vof .i64 cpu),resVal rno elem vv vk] w (DoneP w r (planF n D s.regs s.how s.b no cpu).code (doneQF n D s no cpu rno elem val).t):=by
 have pois:∀{x:A} {no':U},x.rel (nu3 r b off) (.int .i64 (vof .i64 no'))->relV (nu3 r b off) ([slDP n,pt 0,one x,i64 cpu]++[resT (.i .i64 rno) .poison (.i .i64 elem)]) ([.slice (some ⟨b,off,none⟩) n c,.pointer (some ⟨r,0,none⟩),.int .i64 (vof .i64 no'),.int .i64 (vof .i64 cpu)]++[resVal rno elem vv vk]):=fun hx=>
  relV_snoc (relArgs hc hx) (resT_rel (by simp only [A.rel]) (by simp only [A.rel]) (by simp only [A.rel]) hv.cell hk)
 cases hp:planF n D s.regs s.how s.b no cpu with
 | err x=>
   have e2:doneQF n D s no cpu rno elem val=s:=by unfold doneQF;rw [hp]
   rw [e2];have okp:∀cc:Nat,x=K cc->okEr cc s n D no cpu=true:=fun cc hx=>by
    unfold okEr;rw [okPl_true hn1 hn hD,dec_true (by rw [hp,hx])]
    rfl
   rcases planF_err hp with rfl|rfl|rfl|rfl
   · exact done_of (R0:=ev15e 14 s n D no cpu rno elem) (by rw [e14];exact pkd_err (okp 14 rfl) rfl) (fun ok v h' hp hok=>(evalF_fn (XP 1 1 (Γ15e_ok (by simp))) rfl hp hok).2) rfl rfl (mem_p3 hne h0 h1) rfl (us:=[_,_,_,_,_]) (pois (by simp only [A.rel]))
   · exact done_of (R0:=ev15e 15 s n D no cpu rno elem) (by rw [e15];exact pkd_err (okp 15 rfl) rfl) (fun ok v h' hp hok=>(evalF_fn (XP 1 1 (Γ15e_ok (by simp))) rfl hp hok).2) rfl rfl (mem_p3 hne h0 h1) rfl (us:=[_,_,_,_,_]) (pois (by simp only [A.rel]))
   · exact done_of (R0:=ev15e 17 s n D no cpu rno elem) (by rw [e17];exact pkd_err (okp 17 rfl) rfl) (fun ok v h' hp hok=>(evalF_fn (XP 1 1 (Γ15e_ok (by simp))) rfl hp hok).2) rfl rfl (mem_p3 hne h0 h1) rfl (us:=[_,_,_,_,_]) (pois (by simp only [A.rel]))
   · exact done_of (R0:=ev15e 18 s n D no cpu rno elem) (by rw [e18];exact pkd_err (okp 18 rfl) rfl) (fun ok v h' hp hok=>(evalF_fn (XP 1 1 (Γ15e_ok (by simp))) rfl hp hok).2) rfl rfl (mem_p3 hne h0 h1) rfl (us:=[_,_,_,_,_]) (pois (by simp only [A.rel]))
 | ok m' o' k' f' c' v'=>
   have hcode:(poQ n D s no cpu).code=K 0:=by unfold poQ;rw [hp];rfl
   have e2:doneQF n D s no cpu rno elem val=behQ D s no cpu rno elem val:=by unfold doneQF;rw [hp]
   rw [e2];show Calls _ _ _ _ (DoneP w r (K 0) _);cases h7:no==K 7
   · obtain ⟨hin,hM,hm,op,L,hargs,hhas⟩:=plan_facts hp h7;obtain ⟨a,ha,hK,hcs⟩:=in_cases hin h7;rw [ha] at hargs;obtain ⟨m1,m2,_,m4⟩:=inM_nat hn hM;have hix:ixU s.regs<n:=by unfold ixU;rw [m4];omega
     obtain ⟨d1,d2,d3⟩:=hD _ hix;have hA:=allDQ hcs;have hm2:(poQ n D s no cpu).m=s.regs.i 1:=by unfold poQ;rw [hp];exact hm
     have hs2:(poQ n D s no cpu).has=hasV L:=by unfold poQ PO.has PO.val;rw [hp,← hhas];cases v'<;>rfl
     have o15:=ok15_true (no:=no) (cpu:=cpu) hn1 hn hD hM hm2 hs2;have hno:(K a:U)=no:=hK.symm;have small:(plc L≠none->val=none)->Calls Tryz.prog 15 #[.slice (some ⟨b,off,none⟩) n c,.pointer (some ⟨r,0,none⟩),.int .i64 (vof .i64 no),.int .i64 (vof .i64 cpu),resVal rno elem vv vk] w (DoneP w r (K 0) (behQ D s no cpu rno elem val).t):=fun hval=>by
      have E:=hA.n hargs d3;have ebeh:behQ D s no cpu rno elem val=outQ6 (laidQ L (D.w (ixU s.regs)).toNat (bytZ (D.w (ixU s.regs)).toNat) s) (outW a (D.k (ixU s.regs)).toNat (s.regs.i 1) rno elem):=by
       unfold behQ;rw [h7,ha,hargs];simp only [cond_false];cases hpc:plc L with
       | none=>
         have q1:∀c,laidQ L (D.w (ixU s.regs)).toNat c s=s:=fun c=>by unfold laidQ;rw [hpc]
         rw [q1,q1]
       | some r=>
         rw [hval (by rw [hpc];intro h;cases h)]
         rfl
      have hpk:PkD (ev15 (hasV L) (D.k (ixU s.regs)).toNat (D.w (ixU s.regs)).toNat a s n D cpu rno elem (nilA L)).dq (K 0) (behQ D s no cpu rno elem val).t:=by
       rw [ebeh];obtain ⟨ok,wr,cc,q1,q2⟩:PkD (headD (hasV L) n D s (K a) cpu (restDQ (hasV L) (D.k (ixU s.regs)).toNat (D.w (ixU s.regs)).toNat a L s n D cpu rno elem)) (K 0) (outQ6 (laidQ L (D.w (ixU s.regs)).toNat (bytZ (D.w (ixU s.regs)).toNat) s) (outW a (D.k (ixU s.regs)).toNat (s.regs.i 1) rno elem)).t:=by
        refine pkd_head (by rw [hno];exact hcode) ?_
        unfold restDQ;rw [hno,hm2];exact doneQ_pick o15
       exact ⟨ok,wr,cc,E.pick s n D cpu rno elem _ q1,q2⟩
      refine done_of hpk (fun ok v h' hp hok=>(evalF_fn (XP _ _ (Γ15_ok (hasV L))) rfl hp hok).2) rfl rfl (mem_p3 hne h0 h1) rfl (us:=[_,_,_,_,_]) ?_;unfold nilA;cases hpc:plc L with
      | none=>exact pois (lit_no hK (by omega))
      | some rr=>
        have hvn:=hval (by rw [hpc];intro h;cases h)
        subst hvn;have hvv:vv = .slice none 0 0:=hv;subst hvv;exact relV_snoc (relArgs hc (lit_no hK (by omega))) (resT_rel (by simp only [A.rel]) (by simp only [A.rel]) (by simp only [A.rel]) trivial hk)
     cases hvs:val with
     | none=>
       rw [hvs] at small;exact small fun _=>rfl
     | some p=>
       obtain ⟨k,g⟩:=p;by_cases hpl:plc L=none
       · rw [hvs] at small;exact small fun h=>absurd hpl h
       · rw [hvs] at hf hv;obtain ⟨f1,f2,f3⟩:=hf;subst f1;subst f3;obtain ⟨b3,o3,c3,hne3,hc3,rfl,h3⟩:=hv;have E:=hA.w hargs d3 hpl;have ebeh:behQ D s no cpu (K 0) elem (some ((D.w (ixU s.regs)).toNat,g))=outQ6 (laidQ L (D.w (ixU s.regs)).toNat (putN8 g (D.w (ixU s.regs)).toNat (D.w (ixU s.regs)).toNat) s) (outW a (D.k (ixU s.regs)).toNat (s.regs.i 1) (K 0) elem):=by
          unfold behQ;rw [h7,ha,hargs];rfl
         have hpk:PkD (ev15w (hasV L) (D.k (ixU s.regs)).toNat (D.w (ixU s.regs)).toNat a s n D cpu elem g).dq (K 0) (behQ D s no cpu (K 0) elem (some ((D.w (ixU s.regs)).toNat,g))).t:=by
          rw [ebeh];obtain ⟨ok,wr,cc,q1,q2⟩:PkD (headD (hasV L) n D s (K a) cpu (restDX (hasV L) (D.k (ixU s.regs)).toNat (D.w (ixU s.regs)).toNat a L s n D cpu elem g)) (K 0) (outQ6 (laidQ L (D.w (ixU s.regs)).toNat (putN8 g (D.w (ixU s.regs)).toNat (D.w (ixU s.regs)).toNat) s) (outW a (D.k (ixU s.regs)).toNat (s.regs.i 1) (K 0) elem)).t:=by
           refine pkd_head (by rw [hno];exact hcode) ?_
           unfold restDX;rw [hno,hm2];exact doneQ_pick o15
          exact ⟨ok,wr,cc,E.pick s n D cpu elem g _ q1,q2⟩
         refine done_of hpk (fun ok v h' hp hok=>(evalF_fn (XP _ _ (Γ15_ok (hasV L))) rfl hp hok).2) rfl rfl (mem_r4 hne hne3 h0 h1 h3) rfl (us:=[_,_,_,_,_]) ?_;refine relV_snoc (relArgs4 hc (lit_no hK (by omega))) (resT_rel ?_ ?_ (by simp only [A.rel]) trivial hk)
         · unfold z64;simp only [A.rel];exact ⟨rfl,rfl⟩
         · simp only [A.rel];exact ⟨b3,o3,o3,c3,by simp [nu4],rfl,fun _=>by simp [pathOff,Ix.val],hc3,fun _ e=>by cases e⟩
   · have h7:=eq_of_beq h7;subst h7;have e3:behQ D s (K 7) cpu rno elem val=outQ6 s (numW cpu):=rfl;rw [e3];have hz:(poQ n D s (K 7) cpu).has=false:=rfl;refine done_of (R0:=ev15 false 1 1 7 s n D cpu rno elem .poison) (code:=K 0) (by
      rw [d_7q];exact pkd_head hcode (pkd_fin (by rw [okPl_true hn1 hn hD,hz];rfl))) (fun ok v h' hp hok=>(evalF_fn (XP 1 1 (Γ15_ok false)) rfl hp hok).2) rfl rfl (mem_p3 hne h0 h1) rfl (us:=[_,_,_,_,_]) (pois (lit_no (a:=7) rfl (by decide)))
end
theorem fn_turnG {P:Program} {f:FuncId} {args:List V} {v:V} {h:H} {id:Nat} {t t':T} (hget:h.m.get id=some ⟨true,t⟩) (ids:List Nat)
 (HH:∀S ν w us,Mem S ν w h->(∀i,i∈ids->S i\/h.lo≤i)->relV ν args us->∃r,ν id=some (r,0)/\Calls P f us.toArray w fun e w'=>∃u,e = .returned u/\v.rel ν u/\But r w.heap.size w w'/\Holds w' r t') :
 FnOK P f args h v ((h.sees ids).put id ⟨true,t'⟩):=by
 intro S ν w us hrd _ hm hv;have hrd':∀i,i∈(h.sees ids).rd->S i:=hrd;obtain ⟨r,e1,hc⟩:=HH S ν w us hm (sees_seen hrd') hv;refine hc.mono ?_;rintro e w' ⟨u,rfl,hu,hbut,hh'⟩;have g1:=hm.sees ids;exact ⟨u,ν,rfl,hu,g1.trans (goes_turned (h:=h.sees ids) g1.mem (by rw [sees_m];exact hget) rfl e1 hbut hh')⟩
def wordsOf (h:H):A->Option (List Nat×Option (Nat×(Nat->U))×Bool)
 | .nils=>some ([],none,true)
 | .sl id [] 1 (.lit 0) (.sym k) _=>match h.m.get id with
   | some ⟨_,.arr 1 (.sym m) (.int .u64 g)⟩=>some ([id],some (k,g),Nat.beq m k)
   | _=>none
 | _=>none
theorem words_here {S:Nat->Prop} {ν:Nu} {w:World} {h:H} {x:A} {l:List Nat} {val:Option (Nat×(Nat->U))} {o:Bool} (e:wordsOf h x=some (l,val,o)) (ho:o=true) {id:Nat} {t:T} {r:Nat} (hget:h.m.get id=some ⟨true,t⟩) (hr:ν id=some (r,0)) (hne:∀i,i∈l->id≠i) (hS:∀i,i∈l->S i\/h.lo≤i) (hm:Mem S ν w h) (h0:∀k g,val=some (k,g)->0<k) {u:Value} (hu:x.rel ν u):ResOK w r val u:=by
 unfold wordsOf at e;split at e
 · cases e;simp only [A.rel] at hu;exact hu
 · rename_i id3 k c;split at e
   · rename_i rw m g hg;cases e;have hmk:=Nat.eq_of_beq_eq_true ho;subst hmk;obtain ⟨B,off,cc,hid,hH,rfl,hc⟩:=sl_here hm hg (hS id3 (.head _)) rfl rfl (len :=.sym m) (h0 m g rfl) hu;refine ⟨B,off,cc,?_,hc,rfl,?_⟩
     · rintro rfl;exact hne id3 (.head _) (hm.nums.inj id _ hget rfl id3 r 0 off hr hid).symm
     · refine hH.less fun vs hv => ?_;simp only [T.rel] at hv ⊢;exact hv
   · cases e
 · cases e
theorem st4_rel {ν:Nu} {a b c d:A} {u:Value} (h:(V.t (.st [.a a,.a b,.a c,.a d])).rel ν u):∃x1 x2 x3 x4,u = .agg #[x1,x2,x3,x4]/\a.rel ν x1/\b.rel ν x2/\Cell x3/\d.rel ν x4:=by
 obtain ⟨vs,rfl,hr⟩:=h;simp only [T.rel,relTs] at hr;obtain ⟨u1,w1,e1,⟨x1,f1,r1,c1⟩,u2,w2,e2,⟨x2,f2,r2,c2⟩,u3,w3,e3,⟨x3,f3,r3,c3⟩,u4,w4,e4,⟨x4,f4,r4,c4⟩,e5⟩:=hr;subst f1 f2 f3 f4 e5 e4 e3 e2;refine ⟨x1,x2,x3,x4,?_,r1,r2,c3,r4⟩
 match vs,e1 with
 | ⟨_⟩,rfl=>rfl
def doneSp {σ:Type} (of:H->Nat->Option σ) (t:σ->T) (regs:σ->VV) (how flat:σ->Nat->U) (done:Nat->DF->σ->U->U->U->U->Option (Nat×(Nat->U))->σ):List V->H->Option R
 | [.t (.a la),.t (.a (.ptr id [])),.t (.a an),.t (.a ac),.t (.st [.a ano,.a av,.a ak,.a ae])],h=>match dfOf h la,of h id,i64Of an,i64Of ac,i64Of ano,wordsOf h av,i64Of ae with
   | some (idl,n,D,o),some s,some no,some cpu,some rno,some (l3,val,o3),some elem=>match (id::idl::l3).tail.any (Nat.beq id) with
     | false=>some (.leaf (.b (okPl n D o&&(o3&&dec (FitOK n D (regs s) no rno val)))) (.t (.a (.i .i64 (planF n D (regs s) (how s) (flat s) no cpu).code))) ((h.sees (id::idl::l3)).put id ⟨true,t (done n D s no cpu rno elem val)⟩))
     | true=>none
   | _,_,_,_,_,_,_=>none
 | _,_=>none
theorem doneSp_inv {σ:Type} {of:H->Nat->Option σ} {t:σ->T} {regs:σ->VV} {how flat:σ->Nat->U} {done:Nat->DF->σ->U->U->U->U->Option (Nat×(Nat->U))->σ} {args:List V} {h:H} {r:R} (e:doneSp of t regs how flat done args h=some r) :
 ∃la id an ac ano av ak ae idl n D o s no cpu rno l3 val o3 elem,args=[.t (.a la),.t (.a (.ptr id [])),.t (.a an),.t (.a ac),.t (.st [.a ano,.a av,.a ak,.a ae])]/\dfOf h la=some (idl,n,D,o)/\of h id=some s/\i64Of an=some no/\i64Of ac=some cpu/\i64Of ano=some rno/\wordsOf h av=some (l3,val,o3)/\i64Of ae=some elem/\(∀i,i∈idl::l3->id≠i) /\
  r = .leaf (.b (okPl n D o&&(o3&&dec (FitOK n D (regs s) no rno val)))) (.t (.a (.i .i64 (planF n D (regs s) (how s) (flat s) no cpu).code))) ((h.sees (id::idl::l3)).put id ⟨true,t (done n D s no cpu rno elem val)⟩):=by
 unfold doneSp at e;split at e
 · split at e
   · rename_i h1 h2 h3 h4 h5 h6 h7;split at e
     · rename_i hb;cases e;refine ⟨_,_,_,_,_,_,_,_,_,_,_,_,_,_,_,_,_,_,_,_,rfl,h1,h2,h3,h4,h5,h6,h7,fun i hi e => ?_,rfl⟩;subst e;have hb:=List.any_eq_false.1 hb _ hi;exact hb (Nat.beq_refl _)
     · cases e
   · cases e
 · cases e
theorem FitOK.pos {n:Nat} {D:DF} {regs:VV} {no rno:U} {val:Option (Nat×(Nat->U))} (h:FitOK n D regs no rno val) (hn:n≤10) (hD:OKD n D):∀k g,val=some (k,g)->0<k:=by
 rintro k g rfl;obtain ⟨_,hM,rfl⟩:=h;obtain ⟨m1,m2,_,m4⟩:=inM_nat hn hM;obtain ⟨_,_,d3⟩:=hD (ixU regs) (by unfold ixU;rw [m4];omega)
 unfold wOK at d3;refine Nat.pos_of_ne_zero fun h => ?_;rw [h] at d3;split at d3<;>revert d3<;>decide
theorem done_fn {σ:Type} {of:H->Nat->Option σ} {t:σ->T} {regs:σ->VV} {how flat:σ->Nat->U} {done:Nat->DF->σ->U->U->U->U->Option (Nat×(Nat->U))->σ} {f:Nat} (hof:∀{h id s},of h id=some s->h.m.get id=some ⟨true,t s⟩) (hn:∀s,notMp (t s)=true) (hf:∀s,(t s).free=true) (hent:Enters Tryz.prog f)
 (hc:∀{w:World} {r b off n c:Nat} {D:DF} {no cpu rno elem:U} {val:Option (Nat×(Nat->U))} {vv vk:Value} {s:σ},1≤n->n≤10->OKD n D->n≤c->r≠b->Holds w r (t s)->HoldsAt w b off (D.arr n)->ResOK w r val vv->FitOK n D (regs s) no rno val->Cell vk ->
   Calls Tryz.prog f #[.slice (some ⟨b,off,none⟩) n c,.pointer (some ⟨r,0,none⟩),.int .i64 (vof .i64 no),.int .i64 (vof .i64 cpu),resVal rno elem vv vk] w (DoneP w r (planF n D (regs s) (how s) (flat s) no cpu).code (t (done n D s no cpu rno elem val)))):AnyOK Tryz.prog f (doneSp of t regs how flat done) where
 ent:=hent
 ok:=by
  intro args h r ok v h' he hp hok;obtain ⟨la,id,an,ac,ano,av,ak,ae,idl,n,D,o,s,no,cpu,rno,l3,val,o3,elem,rfl,hd,hs,hno,hcpu,hrno,hval,helem,hne,rfl⟩:=doneSp_inv he;simp only [R.pick,oI,pI] at hp;obtain ⟨rfl,rfl,rfl⟩:=hp;have hok:(okPl n D o&&(o3&&dec (FitOK n D (regs s) no rno val)))=true:=hok;simp only [bA] at hok;obtain ⟨ho,ho3,hF⟩:=hok;have hF:=of_dec hF;unfold okPl at ho;simp only [bA] at ho;obtain ⟨⟨p1,p2⟩,p3,p4⟩:=ho;have p1:=nL p1;have p2:=nL p2;have p4:=of_dec p4;refine fn_turnG (hof hs) (id::idl::l3) fun S ν w us hm hS hus => ?_
  match us,hus with
  | [u0,u1,u2,u3,u4],⟨r0,r1,r2,r3,r4,_⟩=>
    obtain ⟨B,off,c,hH,rfl,hcc,hνl⟩:=df_here hm hd p3 (hS idl (.tail _ (.head _))) (by omega) r0
    obtain ⟨rr,e1,hh,rfl⟩:=ptr_here hm (hof hs) (hS id (.head _)) (hn s) (hf s) r1;obtain rfl:=i64Of_rel hno r2;obtain rfl:=i64Of_rel hcpu r3;obtain ⟨x1,x2,x3,x4,rfl,q1,q2,q3,q4⟩:=st4_rel r4;obtain rfl:=i64Of_rel hrno q1;obtain rfl:=i64Of_rel helem q4;have hrB:rr≠B:=by rintro rfl;exact hne idl (.head _) (hm.nums.inj id _ (hof hs) rfl idl rr 0 off e1 hνl).symm
    have hres:=words_here hval ho3 (hof hs) e1 (fun i hi=>hne i (.tail _ hi)) (fun i hi=>hS i (.tail _ (.tail _ hi))) hm (hF.pos p2 p4) q2;refine ⟨rr,e1,(hc p1 p2 p4 hcc hrB hh hH hres hF q3).mono ?_⟩;rintro e w' ⟨rfl,hb,hh'⟩;refine ⟨_,rfl,?_,hb,hh'⟩;show (A.i .i64 _).rel ν _;simp only [A.rel]
 pan:=by intro args h r ok v h' he hp hok;obtain ⟨la,id,an,ac,ano,av,ak,ae,idl,n,D,o,s,no,cpu,rno,l3,val,o3,elem,rfl,hd,hs,hno,hcpu,hrno,hval,helem,hne,rfl⟩:=doneSp_inv he;simp [R.pickP] at hp
 ext:=by intro args h r he hlo;obtain ⟨la,id,an,ac,ano,av,ak,ae,idl,n,D,o,s,no,cpu,rno,l3,val,o3,elem,rfl,hd,hs,hno,hcpu,hrno,hval,helem,hne,rfl⟩:=doneSp_inv he;exact (sees_ext _ h).trans (put_ext (h:=h.sees _) (by rw [sees_m];exact hof hs) rfl rfl)
def done14Sp:List V->H->Option R:=doneSp vfOf VF.t VF.regs VF.how VF.flat doneVF
def done15Sp:List V->H->Option R:=doneSp qfOf QF.t QF.regs QF.how QF.b doneQF
theorem done14_ok:AnyOK Tryz.prog 14 done14Sp:=done_fn (t:=VF.t) vfOf_some (fun _=>rfl) (fun _=>rfl) (enters_of entK 14 _ Tryz.func14 (by simp [Tryz.f14])) fun _ h2 h3 h4 h5 h6 h7 h8 h9 h10=>done14 h2 h3 h4 h5 h6 h7 h8 h9 h10
theorem done15_ok:AnyOK Tryz.prog 15 done15Sp:=done_fn (t:=QF.t) qfOf_some (fun _=>rfl) (fun _=>rfl) (enters_of entK 15 _ Tryz.func15 (by simp [Tryz.f15])) fun h1 h2 h3 h4 h5 h6 h7 h8 h9 h10=>done15 h1 h2 h3 h4 h5 h6 h7 h8 h9 h10
theorem putN8_1 (g:Nat->U):∀j,j<8->putN8 g 1 1 j=bytD g 1 j
 | 0,_=>rfl
 | 1,_=>rfl
 | 2,_=>rfl
 | 3,_=>rfl
 | 4,_=>rfl
 | 5,_=>rfl
 | 6,_=>rfl
 | 7,_=>rfl
 | j+8,h=>by omega
theorem putN8_2 (g:Nat->U):∀j,j<16->putN8 g 2 2 j=bytD g 2 j
 | 0,_=>rfl
 | 1,_=>rfl
 | 2,_=>rfl
 | 3,_=>rfl
 | 4,_=>rfl
 | 5,_=>rfl
 | 6,_=>rfl
 | 7,_=>rfl
 | 8,_=>rfl
 | 9,_=>rfl
 | 10,_=>rfl
 | 11,_=>rfl
 | 12,_=>rfl
 | 13,_=>rfl
 | 14,_=>rfl
 | 15,_=>rfl
 | j+16,h=>by omega
theorem putN8_3 (g:Nat->U):∀j,j<24->putN8 g 3 3 j=bytD g 3 j
 | 0,_=>rfl
 | 1,_=>rfl
 | 2,_=>rfl
 | 3,_=>rfl
 | 4,_=>rfl
 | 5,_=>rfl
 | 6,_=>rfl
 | 7,_=>rfl
 | 8,_=>rfl
 | 9,_=>rfl
 | 10,_=>rfl
 | 11,_=>rfl
 | 12,_=>rfl
 | 13,_=>rfl
 | 14,_=>rfl
 | 15,_=>rfl
 | 16,_=>rfl
 | 17,_=>rfl
 | 18,_=>rfl
 | 19,_=>rfl
 | 20,_=>rfl
 | 21,_=>rfl
 | 22,_=>rfl
 | 23,_=>rfl
 | j+24,h=>by omega
theorem putN8_4 (g:Nat->U):∀j,j<32->putN8 g 4 4 j=bytD g 4 j
 | 0,_=>rfl
 | 1,_=>rfl
 | 2,_=>rfl
 | 3,_=>rfl
 | 4,_=>rfl
 | 5,_=>rfl
 | 6,_=>rfl
 | 7,_=>rfl
 | 8,_=>rfl
 | 9,_=>rfl
 | 10,_=>rfl
 | 11,_=>rfl
 | 12,_=>rfl
 | 13,_=>rfl
 | 14,_=>rfl
 | 15,_=>rfl
 | 16,_=>rfl
 | 17,_=>rfl
 | 18,_=>rfl
 | 19,_=>rfl
 | 20,_=>rfl
 | 21,_=>rfl
 | 22,_=>rfl
 | 23,_=>rfl
 | 24,_=>rfl
 | 25,_=>rfl
 | 26,_=>rfl
 | 27,_=>rfl
 | 28,_=>rfl
 | 29,_=>rfl
 | 30,_=>rfl
 | 31,_=>rfl
 | j+32,h=>by omega
theorem wOK_le {j w:Nat} (h:wOK j w=true):w=1\/w=2\/w=3\/w=4:=by
 unfold wOK at h;split at h
 all_goals first
  | (simp only [bA] at h
     have h1:=nL h.1;have h2:=nL h.2;omega)
  | exact .inl (w_one h)
theorem isLn_w {w:Nat} (h:w=1\/w=2\/w=3\/w=4):isLn (8*w)=true:=by
 rcases h with rfl|rfl|rfl|rfl<;>rfl
theorem putN8_at (g:Nat->U) {w:Nat} (h:w=1\/w=2\/w=3\/w=4):∀j,j<8*w->putN8 g w w j=bytD g w j:=by
 rcases h with rfl|rfl|rfl|rfl
 · exact putN8_1 g
 · exact putN8_2 g
 · exact putN8_3 g
 · exact putN8_4 g
theorem rel_laid {s:VF} {q:QF} (h:Rel23 s q) (L:List Nat) {w:Nat} (hw:w=1\/w=2\/w=3\/w=4) {c c':Nat->U} (hc:∀j,j<8*w->c' j=c j):Rel23 (laidV L w c s) (laidQ L w c' q):=by
 unfold laidV laidQ;split
 · rename_i r hp;have e:layQR q (q.regs.at r) c' (8*w)=layQR q (s.regs.at r) c (8*w):=by
    unfold layQR;rw [h.regs,layQN_congr _ hc]
   rw [e];exact rel_layR h _ _ (isLn_w hw)
 · exact h
theorem rel_out6 {s:VF} {q:QF} (h:Rel23 s q) (o:VW):Rel23 (outV6 s o) (outQ6 q o):=by
 unfold outV6 outQ6;exact rel_set (rel_set (rel_set (rel_set (rel_set (rel_set h _ _) _ _) _ _) _ _) _ _) _ _
theorem rel_done {s:VF} {q:QF} (h:Rel23 s q) {n:Nat} (hn:n≤10) {D:DF} (hD:OKD n D) (no cpu rno elem:U) (val:Option (Nat×(Nat->U))):Rel23 (doneVF n D s no cpu rno elem val) (doneQF n D q no cpu rno elem val):=by
 have e:planF n D q.regs q.how q.b no cpu=planF n D s.regs s.how s.flat no cpu:=by rw [h.regs,rel_how h,rel_flat h]
 unfold doneVF doneQF;rw [e];cases hp:planF n D s.regs s.how s.flat no cpu with
 | err x=>exact h
 | ok m' o' k' f' c' v'=>
   show Rel23 (behV D s no cpu rno elem val) (behQ D q no cpu rno elem val);unfold behV behQ;cases h7:no==K 7
   · obtain ⟨hin,hM,hm,op,L,hargs,hhas⟩:=plan_facts hp h7;rw [h.regs,hargs];simp only [cond_false];obtain ⟨m1,m2,_,m4⟩:=inM_nat hn hM;obtain ⟨_,_,d3⟩:=hD (ixU s.regs) (by unfold ixU;rw [m4];omega)
     have hw:=wOK_le d3;refine rel_out6 (rel_laid h L hw ?_) _;intro j hj;cases val with
     | none=>rfl
     | some p=>exact putN8_at p.2 hw j hj
   · exact rel_out6 h _
theorem blk1 {P:Program} {x:Code} {id:Nat} {R:Act->World->Prop} {a:Act} {w:World} (h:x.wp P (fun e a' w'=>(e = .exit id\/e = .normal)/\R a' w') a w):(Code.block id x).wp P (fun e a' w'=>e = .normal/\R a' w') a w:=by
 refine wp_block (wp_mono h ?_);rintro e a' w' ⟨rfl|rfl,h⟩
 · show if id=id then _ else _
   rw [if_pos rfl];exact ⟨rfl,h⟩
 · exact ⟨rfl,h⟩
section
variable {kn:TW->Nat->RW} {n:Nat} {D:DF} {nt:Nat} {F:TF} {s:VF} {q:QF} {f:FSt} {W:World} {a:Act} {w:World}
theorem round7 (hK:AnyOK Tryz.prog 30 (knoSp kn)) (hk:∀t n,(kn t n).k=kdU t.k) (h1:1≤n) (h2:n≤10) {m:Nat} (hm:m<nt) (hnt:nt≤60) (hS:StI s q f) (hI:OwnL fp7 6 (mS n D nt F s q f f) W (vI n nt (.i .i64 (kk m))) a w) :
 (Code.block 1 yB).wp Tryz.prog (fun e a' w'=>e = .normal/\OwnL fp7 6 (mS n D nt F (stepV n (F.at m) s) (stepQ n (F.at m) q) (stepF kn n (F.at m) f) (stepF kn n (F.at m) f)) W (vI n nt (.i .i64 (kk m))) a' w') a w:=by
 have X:=XK (ΓS0_ok hK (j:=0) (by decide))
 have em:(kk m).toNat=m:=kk_nat (by omega)
 refine blk1 ?_;rw [yB_eq];have ok8:(vB (kk m) nt&&Nat.blt (0+(kk m).toNat) nt)=true:=by
  unfold vB;rw [em,Nat.zero_add,msb_kk (by omega)]
  have:Nat.blt m nt=true:=nB hm;rw [this];rfl
 refine wp_two (OwnL.go X rfl (y8_ev kn n D nt F s q f f (kk m)) ok8 rfl rfl (by kernel_rfl) (LessA.refl _) (LessM.refl _) hI) fun a w1 hI => ?_
 rw [em,Nat.zero_add] at hI;generalize F.at m=t at hI ⊢;have okt:=okT_true t h1 h2;refine wp_two (OwnL.go X rfl (y9_ev kn n D nt F s q f f (kk m) t) okt rfl rfl (by kernel_rfl) (LessA.refl _) (LessM.refl _) hI) fun a w1 hI => ?_
 refine wp_two (OwnL.go X rfl (y10_ev kn n D nt F s q f f (kk m) t (valW t n)) okt rfl rfl (by kernel_rfl) (LessA.refl _) (LessM.refl _) hI) fun a w1 hI => ?_
 unfold stepV stepQ stepF;cases hw:BitVec.slt t.w (K 10)
 · refine wp_two (OwnL.goB X rfl ((y11_c kn n D nt F s q f f (kk m) t _ _).trans (by rw [hw])) (y11_f kn n D nt F s q f f (kk m) t _ _) rfl rfl rfl (by kernel_rfl) (LessA.refl _) (LessM.refl _) hI) fun a w1 hI => ?_
   have hj:(pickU t.b (K 9)).toNat<9:=pick_lt 9 (by omega) (by omega) _
   have ej:(pickU t.b (K 9)==kk (pickU t.b (K 9)).toNat)=true:=by rw [kk_back];exact beq_self_eq_true _
   cases e:(pickU t.b (K 9)).toNat with
   | zero=>
     rw [e] at ej;refine wp_two (OwnL.go X rfl (y16_ev kn n D nt F s q f f (kk m) t _ _ 0) ej rfl rfl (by kernel_rfl) (LessA.refl _) (LessM.refl _) hI) fun a w1 hI => ?_
     refine wp_two (OwnL.go X rfl (y17_0 kn n D nt F s q f f (kk m) t _ _) rfl rfl rfl (by kernel_rfl) (LessA.refl _) (LessM.refl _) hI) fun a w1 hI => ?_
     cases hv:(valW t n).k==K 0
     · refine wp_two (OwnL.goB X rfl ((y28_c kn n D nt F s q f f (kk m) t _ _).trans (by rw [hv])) (y28_f kn n D nt F s q f f (kk m) t _ _) rfl rfl rfl (by kernel_rfl) (LessA.refl _) (LessM.refl _) hI) fun a w1 hI => ?_
       have hv':(valW t n).k≠K 0:=by simpa using hv
       have hq10:r10B (q.regs.at 10)=true:=by rw [hS.rel.regs];exact hS.r10
       have ok29:((((isSlot (placeU t.w)&&okDo (dvA s t.w (valW t n)) (slotN (placeU t.w)))&&okQ (dqA q t.w (valW t n)) (placeU t.w))&&isSlot (placeU t.w))&&isSlot (placeU t.w))=true:=by rw [place_ok,okB_do hS.r10 hv',okB_dq hq10 hv'];rfl
       refine wp_mono (OwnL.go X rfl (y29_ev kn n D nt F s q f f (kk m) t _ _) ok29 rfl rfl (by kernel_rfl) (LessA.refl _) (LessM.refl _) hI) ?_
       rintro x a' w' ⟨rfl,h⟩;exact ⟨.inr rfl,h⟩
     · refine wp_seq (wp_mono (OwnL.outB X rfl ((y28_c kn n D nt F s q f f (kk m) t _ _).trans (by rw [hv])) (y28_t kn n D nt F s q f f (kk m) t _ _) rfl rfl rfl (by kernel_rfl) (LessA.refl _) (LessM.refl _) hI) ?_)
       rintro x a' w' ⟨rfl,h⟩;exact ⟨.inl rfl,h⟩
   | succ j=>
     rw [e] at hj ej;have Xj:=XK (ΓS0_ok hK hj);refine wp_two (OwnL.go Xj rfl (y16_ev kn n D nt F s q f f (kk m) t _ _ (j+1)) ej rfl rfl (by kernel_rfl) (LessA.refl _) (LessM.refl _) hI) fun a w1 hI => ?_
     have y17:=y17_j kn n D nt F s q f f (kk m) t (valW t n) (kn t n) (j+1) (Nat.succ_pos _) hj;rw [lay22R_eq hS.inv] at y17;refine wp_seq (wp_mono (OwnL.out Xj rfl y17 rfl rfl rfl (by kernel_rfl) (LessA.refl _) (LessM.refl _) hI) ?_)
     rintro x a' w' ⟨rfl,h⟩;exact ⟨.inl rfl,h⟩
 · refine wp_seq (wp_mono (OwnL.outB X rfl ((y11_c kn n D nt F s q f f (kk m) t _ _).trans (by rw [hw])) (y11_t kn n D nt F s q f f (kk m) t _ _) rfl rfl rfl (by kernel_rfl) (LessA.refl _) (LessM.refl _) hI) ?_)
   rintro x a' w' ⟨rfl,h⟩;exact ⟨.inl rfl,h⟩
end
theorem goes_add {S:Nat->Prop} {ν ν1:Nu} {w w':World} {h h1:H} {b:Nat} {t:T} (hf:t.free=true) (g:Goes S ν w h ν1 w' h1) (hge:w.heap.size≤b) (hh:Holds w' b t) (hfree:∀id base,ν1 id≠some (b,base)):Goes S ν w h (upd ν1 h1.next (b,0)) w' (h1.new ⟨true,t⟩):=by
 obtain ⟨cs,ty,vs,post,hcell,hcs,ht⟩:=hh;have hm:=g.mem;have hlt:b<w'.heap.size:=(Array.getElem?_eq_some_iff.1 hcell).1;have hn:ν1 h1.next=none:=hm.nums.fresh _ (Nat.le_refl _);have hle:=le_upd (p:=(b,0)) hn;have hget:∀id,(h1.new ⟨true,t⟩).m.get id=if h1.next=id then some ⟨true,t⟩ else h1.m.get id:=fun id=>Tr.get_set _ _ _ _
 have hnx:h.next≤h1.next:=g.ext.next;refine ⟨fun id p hi=>hle _ _ (g.le id p hi),⟨⟨?_,?_,?_,?_,?_,fun g' hg=>hle _ _ (hm.nums.glob g' hg)⟩,?_⟩,⟨g.frm.os,g.frm.tape,g.frm.output,g.frm.size,fun r hr hx=>g.frm.block r hr fun id base hi=>hx id base hi⟩,?_,g.ext.trans (new_ext hm.nums.lo _),?_⟩
 · intro id r base hi;unfold upd at hi;split at hi
   · simp at hi;omega
   · exact hm.nums.lt id r base hi
 · intro id b' hb' hrw id' r base base' h1' h2';rw [hget] at hb';unfold upd at h1' h2';split at h1'<;>split at h2'
   · omega
   · simp at h1';obtain ⟨rfl,rfl⟩:=h1';exact absurd h2' (hfree _ _)
   · simp at h2';obtain ⟨rfl,rfl⟩:=h2';exact absurd h1' (hfree _ _)
   · rename_i e1 e2;rw [if_neg (fun e=>e1 e.symm)] at hb';exact hm.nums.inj id b' hb' hrw id' r base base' h1' h2'
 · intro id hi;have hi:h1.next+1≤id:=hi;unfold upd;rw [if_neg (by omega)]
   exact hm.nums.fresh id (by omega)
 · intro id b hb;show id<h1.next+1;rw [hget] at hb;split at hb
   · omega
   · have:=hm.nums.bound id b hb;omega
 · have:=hm.nums.lo;show h1.lo≤h1.next+1;omega
 · intro id b' hb' hS;rw [hget] at hb';split at hb'
   · rename_i e;subst e;simp at hb';subst hb';exact .inl ⟨b,0,cs,ty,(0,0),[],vs,post,by simp [upd],hcell,by simpa using hcs,rfl,T.rel_free hf ht,fun _=>⟨rfl,rfl⟩⟩
   · exact (hm.seen id b' hb' hS).mono hle fun r base hi=>rfl
 · intro id r base hn' hi;unfold upd at hi;split at hi
   · simp at hi;omega
   · exact g.new id r base hn' hi
 · intro id hi;unfold upd;rw [if_neg (by omega)]
   exact g.old id hi
theorem fn_made4 {P:Program} {f:Nat} {args:List V} {h:H} {t1 t2 t3 t4:T} (f1:t1.free=true) (f2:t2.free=true) (f3:t3.free=true) (f4:t4.free=true) (ids:List Nat)
 (H:∀S ν w us,Mem S ν w h->(∀i,i∈ids->S i\/h.lo≤i)->relV ν args us->Calls P f us.toArray w fun e w'=>∃B1 B2 B3 B4,e = .returned (.tuple #[.pointer (some ⟨B1,0,none⟩),.pointer (some ⟨B2,0,none⟩),.pointer (some ⟨B3,0,none⟩),.pointer (some ⟨B4,0,none⟩)])/\Below w.heap.size w w' /\
   (w.heap.size≤B1/\w.heap.size≤B2/\w.heap.size≤B3/\w.heap.size≤B4)/\(B1≠B2/\B1≠B3/\B1≠B4/\B2≠B3/\B2≠B4/\B3≠B4)/\Holds w' B1 t1/\Holds w' B2 t2/\Holds w' B3 t3/\Holds w' B4 t4) :
 FnOK P f args h (.tup [.a (.ptr h.next []),.a (.ptr (h.next+1) []),.a (.ptr (h.next+2) []),.a (.ptr (h.next+3) [])]) (((((h.sees ids).new ⟨true,t1⟩).new ⟨true,t2⟩).new ⟨true,t3⟩).new ⟨true,t4⟩):=by
 intro S ν w us hrd _ hm hv;have hrd':∀i,i∈(h.sees ids).rd->S i:=hrd;refine (H S ν w us hm (sees_seen hrd') hv).mono ?_;rintro e w' ⟨B1,B2,B3,B4,rfl,hb,⟨l1,l2,l3,l4⟩,⟨n12,n13,n14,n23,n24,n34⟩,H1,H2,H3,H4⟩;have g0:=(goes_calm hm hb).trans ((goes_calm hm hb).mem.sees ids);have hx:=sees_next ids h;have nb:∀id base B,w.heap.size≤B->ν id≠some (B,base):=fun id base B hB e=>by have:=hm.nums.lt id B base e;omega
 have g1:=goes_add f1 g0 l1 H1 (fun id base=>nb id base B1 l1);have g2:=goes_add f2 g1 l2 H2 (fun id base=>by
  unfold upd;split
  · simp;intro e;exact absurd e n12
  · exact nb id base B2 l2)
 have g3:=goes_add f3 g2 l3 H3 (fun id base=>by
  unfold upd;split
  · simp;intro e;exact absurd e n23
  · split
    · simp;intro e;exact absurd e n13
    · exact nb id base B3 l3)
 have g4:=goes_add f4 g3 l4 H4 (fun id base=>by
  unfold upd;split
  · simp;intro e;exact absurd e n34
  · split
    · simp;intro e;exact absurd e n24
    · split
      · simp;intro e;exact absurd e n14
      · exact nb id base B4 l4)
 have e1:((h.sees ids).new ⟨true,t1⟩).next=h.next+1:=by show (h.sees ids).next+1=_;rw [hx]
 have e2:(((h.sees ids).new ⟨true,t1⟩).new ⟨true,t2⟩).next=h.next+2:=by show ((h.sees ids).new ⟨true,t1⟩).next+1=_;rw [e1]
 have e3:((((h.sees ids).new ⟨true,t1⟩).new ⟨true,t2⟩).new ⟨true,t3⟩).next=h.next+3:=by show (((h.sees ids).new ⟨true,t1⟩).new ⟨true,t2⟩).next+1=_;rw [e2]
 refine ⟨_,_,rfl,?_,g4⟩;rw [e1,e2,e3,hx];refine ⟨_,rfl,?_,?_,?_,?_,trivial⟩
 · show (A.ptr h.next []).rel _ _;simp only [A.rel];exact ⟨B1,0,by simp [upd],by simp [pathOff]⟩
 · show (A.ptr (h.next+1) []).rel _ _;simp only [A.rel];exact ⟨B2,0,by simp [upd],by simp [pathOff]⟩
 · show (A.ptr (h.next+2) []).rel _ _;simp only [A.rel];exact ⟨B3,0,by simp [upd],by simp [pathOff]⟩
 · show (A.ptr (h.next+3) []).rel _ _;simp only [A.rel];exact ⟨B4,0,by simp [upd],by simp [pathOff]⟩
theorem y39_ev (kn:TW->Nat->RW) (n:Nat) (D:DF) (nt:Nat) (F:TF) (s:VF) (q:QF) (f g:FSt):endM fp7.km [4,5,6,7] [0,1,2,3,4,5] 6 (ev7 kn 0 y39 (vS n nt) (mS n D nt F s q f g) 6).pick=some ⟨.ret,.tt,[(4,pt 2),(5,pt 3),(6,pt 4),(7,pt 5)],mS n D nt F s q f g⟩:=by kernel_rfl
theorem body7:Tryz.f7.body=some c7:=by kernel_rfl
theorem OwnL.block {fp:Fp} {n:Nat} {ms:List (Nat×Blk)} {W:World} {ν:Nu} {l:List (Nat×V)} {a:Act} {w:World} (hs:Stand fp ν (hM ms n) l a w) (hn:∀id r base,ν id=some (r,base)->W.heap.size≤r\/∀b,(hM ms n).m.get id=some b->b.rw=false) {id:Nat} {t:T} (hg:(hM ms n).m.get id=some ⟨true,t⟩) (hmp:notMp t=true) (hf:t.free=true) {u:Value} (hu:(pt id).rel ν u) :
 ∃r,u = .pointer (some ⟨r,0,none⟩)/\W.heap.size≤r/\Holds w r t/\ν id=some (r,0):=by
 have hu:(A.ptr id []).rel ν u:=hu;simp only [A.rel] at hu;obtain ⟨r,base,e1,rfl⟩:=hu;have hsn:=hs.mem.seen id _ hg (.inl trivial);obtain ⟨r',base',cs,ty,fr,pre,vs,post,q1,q2,q3,q4,q5,q6⟩:=hsn.cells hmp;rw [e1] at q1;cases q1;obtain ⟨rfl,rfl⟩:=q6 rfl;refine ⟨r,rfl,?_,seen_holds hsn hmp hf e1,e1⟩;rcases hn id r _ e1 with h|h
 · exact h
 · have:=h _ hg;cases this
theorem OwnL.left4 {P:Program} {fn:Func} {fp:Fp} {n:Nat} {ms:List (Nat×Blk)} {W:World} {i1 i2 i3 i4:Nat} {t1 t2 t3 t4:T} {a:Act} {w:World} {R:Ending->World->Prop} (h:OwnL fp n ms W [(4,pt i1),(5,pt i2),(6,pt i3),(7,pt i4)] a w) (hr:fn.results = #[.tmp 4,.tmp 5,.tmp 6,.tmp 7])
 (g1:(hM ms n).m.get i1=some ⟨true,t1⟩) (g2:(hM ms n).m.get i2=some ⟨true,t2⟩) (g3:(hM ms n).m.get i3=some ⟨true,t3⟩) (g4:(hM ms n).m.get i4=some ⟨true,t4⟩) (m1:notMp t1=true) (m2:notMp t2=true) (m3:notMp t3=true) (m4:notMp t4=true) (f1:t1.free=true) (f2:t2.free=true) (f3:t3.free=true) (f4:t4.free=true)
 (hd:i1≠i2/\i1≠i3/\i1≠i4/\i2≠i3/\i2≠i4/\i3≠i4)
 (hR:∀B1 B2 B3 B4,Below W.heap.size W w->(W.heap.size≤B1/\W.heap.size≤B2/\W.heap.size≤B3/\W.heap.size≤B4)->(B1≠B2/\B1≠B3/\B1≠B4/\B2≠B3/\B2≠B4/\B3≠B4)->Holds w B1 t1->Holds w B2 t2->Holds w B3 t3->Holds w B4 t4 ->
   R (.returned (.tuple #[.pointer (some ⟨B1,0,none⟩),.pointer (some ⟨B2,0,none⟩),.pointer (some ⟨B3,0,none⟩),.pointer (some ⟨B4,0,none⟩)])) w):bodyPostD P fn R .ret a w:=by
 obtain ⟨ν,hs,hb,hn⟩:=h;obtain ⟨B1,e1,l1,H1,v1⟩:=OwnL.block hs hn g1 m1 f1 (hs.slots 4 _ (.head _));obtain ⟨B2,e2,l2,H2,v2⟩:=OwnL.block hs hn g2 m2 f2 (hs.slots 5 _ (.tail _ (.head _)));obtain ⟨B3,e3,l3,H3,v3⟩:=OwnL.block hs hn g3 m3 f3 (hs.slots 6 _ (.tail _ (.tail _ (.head _))));obtain ⟨B4,e4,l4,H4,v4⟩:=OwnL.block hs hn g4 m4 f4 (hs.slots 7 _ (.tail _ (.tail _ (.tail _ (.head _)))));have ne:∀{i j r r':Nat} {t:T},(hM ms n).m.get i=some ⟨true,t⟩->i≠j->ν i=some (r,0)->ν j=some (r',0)->r≠r':=fun {i j r r' t} hg hij h1 h2 e=>by subst e;exact hij (hs.mem.nums.inj i _ hg rfl j r 0 0 h1 h2).symm
 have hl:Leaves P fn a.tmps R a.defers .returning w:=by rw [hs.defers];refine ⟨_,?_,hR B1 B2 B3 B4 hb ⟨l1,l2,l3,l4⟩ ⟨ne g1 hd.1 v1 v2,ne g1 hd.2.1 v1 v3,ne g1 hd.2.2.1 v1 v4,ne g2 hd.2.2.2.1 v2 v3,ne g2 hd.2.2.2.2.1 v2 v4,ne g3 hd.2.2.2.2.2 v3 v4⟩ H1 H2 H3 H4⟩;rw [← e1,← e2,← e3,← e4];simp [results,hr]
 exact hl
def nuL2 (b0 o0 b1 o1:Nat):Nu:=fun i=>if i=0 then some (b0,o0) else if i=1 then some (b1,o1) else none
theorem nuL2_some {b0 o0 b1 o1 i r base:Nat} (h:nuL2 b0 o0 b1 o1 i=some (r,base)):(i=0/\r=b0/\base=o0)\/(i=1/\r=b1/\base=o1):=by
 unfold nuL2 at h;split at h
 · simp at h;exact .inl ⟨by assumption,h.1.symm,h.2.symm⟩
 · split at h
   · simp at h;exact .inr ⟨by assumption,h.1.symm,h.2.symm⟩
   · cases h
theorem mem_l2 {w:World} {b0 o0 b1 o1:Nat} {t0 t1:T} (h0:HoldsAt w b0 o0 t0) (h1:HoldsAt w b1 o1 t1):Mem (fun _=>True) (nuL2 b0 o0 b1 o1) w (hM [(0,⟨false,t0⟩),(1,⟨false,t1⟩)] 2):=by
 have hget:∀i x,(hM [(0,⟨false,t0⟩),(1,⟨false,t1⟩)] 2).m.get i=some x->(i=0/\x=⟨false,t0⟩)\/(i=1/\x=⟨false,t1⟩):=fun i x e=>by have:=get_memT _ i x e;simp only [List.mem_cons,List.not_mem_nil,or_false,pI] at this;exact this
 refine ⟨⟨fun i r' b' e => ?_,fun i x e hrw => ?_,fun i hi => ?_,fun i x e => ?_,Nat.le_refl _,fun g hg=>(by cases hg)⟩,fun i x e _ => ?_⟩
 · rcases nuL2_some e with ⟨_,rfl,_⟩|⟨_,rfl,_⟩
   · exact h0.lt
   · exact h1.lt
 · rcases hget i x e with ⟨_,rfl⟩|⟨_,rfl⟩<;>cases hrw
 · have hi:2≤i:=hi;unfold nuL2;rw [if_neg (by omega),if_neg (by omega)]
 · rcases hget i x e with ⟨rfl,_⟩|⟨rfl,_⟩<;>(show _<2;decide)
 · rcases hget i x e with ⟨rfl,rfl⟩|⟨rfl,rfl⟩
   · obtain ⟨cs,ty,fr,pre,vs,post,q1,q2,q3,q4⟩:=h0;exact .inl ⟨b0,o0,cs,ty,fr,pre,vs,post,by simp [nuL2],q1,q2,q3,T.rel_mono (fun i p e=>by cases e) q4,fun h=>by cases h⟩
   · obtain ⟨cs,ty,fr,pre,vs,post,q1,q2,q3,q4⟩:=h1;exact .inl ⟨b1,o1,cs,ty,fr,pre,vs,post,by simp [nuL2],q1,q2,q3,T.rel_mono (fun i p e=>by cases e) q4,fun h=>by cases h⟩
theorem mem_mD {n:Nat} {D:DF} {nt:Nat} {F:TF} (id:Nat) (b:Blk) (h:(hM (mD n D nt F) 2).m.get id=some b):b.rw=false:=by
 have:=get_memT _ id b h;unfold mD at this;simp only [List.mem_cons,List.not_mem_nil,or_false,pI] at this;rcases this with ⟨_,rfl⟩|⟨_,rfl⟩<;>rfl
section
variable {kn:TW->Nat->RW}
theorem states7 (hK:AnyOK Tryz.prog 30 (knoSp kn)) (hk:∀t n,(kn t n).k=kdU t.k) {n nt:Nat} {D:DF} {F:TF} (h1:1≤n) (h2:n≤10) (hnt:nt≤60) {w:World} {b0 o0 c0 b1 o1 c1:Nat} (hc0:n≤c0) (hc1:nt≤c1) (H0:HoldsAt w b0 o0 (D.arr n)) (H1:HoldsAt w b1 o1 (F.arr nt)) :
 Calls Tryz.prog 7 #[.slice (some ⟨b0,o0,none⟩) n c0,.slice (some ⟨b1,o1,none⟩) nt c1] w fun e w'=>∃B1 B2 B3 B4,e = .returned (.tuple #[.pointer (some ⟨B1,0,none⟩),.pointer (some ⟨B2,0,none⟩),.pointer (some ⟨B3,0,none⟩),.pointer (some ⟨B4,0,none⟩)])/\Below w.heap.size w w' /\
  (w.heap.size≤B1/\w.heap.size≤B2/\w.heap.size≤B3/\w.heap.size≤B4)/\(B1≠B2/\B1≠B3/\B1≠B4/\B2≠B3/\B2≠B4/\B3≠B4)/\Holds w' B1 (foldV n F nt).t/\Holds w' B2 (foldQ n F nt).t/\Holds w' B3 (foldF kn n F nt).t/\Holds w' B4 (foldF kn n F nt).t:=by
 have X:=XK (ΓS0_ok hK (j:=0) (by decide))
 have st:OwnL fp7 2 (mD n D nt F) w (vA n nt) { tmps := #[.slice (some ⟨b0,o0,none⟩) n c0,.slice (some ⟨b1,o1,none⟩) nt c1]++Array.replicate (Tryz.f7.ntmps-2) undef,defers:=[] } w:=
  OwnL.enterA (fp:=fp7) (args:=[slD n,slT nt]) (vs:=[.slice (some ⟨b0,o0,none⟩) n c0,.slice (some ⟨b1,o1,none⟩) nt c1]) (mem_l2 H0 H1) (fun id q base h b hb=>mem_mD (n:=n) (D:=D) (nt:=nt) (F:=F) id b hb) ⟨by
   show (A.sl 0 [] 5 (.lit 0) (.sym n) none).rel _ _;simp only [A.rel];exact ⟨b0,o0,o0,c0,by simp [nuL2],rfl,fun _=>by simp [pathOff,Ix.val],hc0,fun _ e=>by cases e⟩,by
   show (A.sl 1 [] 8 (.lit 0) (.sym nt) none).rel _ _;simp only [A.rel];exact ⟨b1,o1,o1,c1,by simp [nuL2],rfl,fun _=>by simp [pathOff,Ix.val],hc1,fun _ e=>by cases e⟩,trivial⟩ (by show 2≤158;decide)
 refine calls_phases Tryz.func7 body7 ?_;rw [c7_eq];refine wp_two (OwnL.go X rfl (y0_ev kn n D nt F) rfl rfl rfl (by kernel_rfl) (LessA.refl _) (LessM.refl _) st) fun a w1 hI => ?_
 refine wp_two (OwnL.go X rfl (y1_ev kn n D nt F) rfl rfl rfl (by kernel_rfl) (LessA.refl _) (LessM.refl _) hI) fun a w1 hI => ?_
 refine wp_two (OwnL.go X rfl (y2_ev kn n D nt F) rfl rfl rfl (by kernel_rfl) (LessA.refl _) (LessM.refl _) hI) fun a w1 hI => ?_
 refine wp_two (OwnL.go X rfl (y3_ev kn n D nt F) rfl rfl rfl (by kernel_rfl) (LessA.refl _) (LessM.refl _) hI) fun a w1 hI => ?_
 refine wp_two (OwnL.go X rfl (y4_ev kn n D nt F) rfl rfl rfl (by kernel_rfl) (LessA.refl _) (LessM.refl _) hI) fun a w1 hI => ?_
 have lI:LessA (vI n nt (.lit .i64 0)) (vI n nt (.i .i64 (kk 0))):=fun ν=>⟨rfl,same_rel,rfl,same_rel,rfl,same_rel,rfl,same_rel,rfl,same_rel,rfl,same_rel,rfl,lit_less rfl,trivial⟩;have ont:okB (.b (Nat.blt nt (2 ^ 63)))=true:=nB (by omega)
 refine wp_then (K:=fun a w1=>OwnL fp7 6 (mS n D nt F (foldV n F nt) (foldQ n F nt) (foldF kn n F nt) (foldF kn n F nt)) w (vS n nt) a w1) ?_ fun a w1 hI => ?_
 · refine wp_two (OwnL.go X rfl (y5_ev kn n D nt F _ _ _ _) rfl rfl rfl (by kernel_rfl) lI (LessM.refl _) hI) fun a w1 hI => ?_
   refine for_any (fun k a w1=>OwnL fp7 6 (mS n D nt F (foldV n F k) (foldQ n F k) (foldF kn n F k) (foldF kn n F k)) w (vI n nt (.i .i64 (kk k))) a w1) nt ?_ hI;intro k hkn a w1 hI;rw [yL_eq];by_cases hlt:k<nt
   · refine wp_two (OwnL.goB X rfl ((yh_c kn n D nt F _ _ _ _ (kk k)).trans (by rw [slt_kk (by omega) (by omega),decide_eq_true hlt])) (yh_t kn n D nt F _ _ _ _ _) ont rfl rfl (by kernel_rfl) (LessA.refl _) (LessM.refl _) hI) fun a w1 hI => ?_
     refine wp_two (round7 hK hk h1 h2 hlt hnt (fold_I hk n F k) hI) fun a w1 hI => ?_;refine wp_mono (OwnL.go X rfl (yi_ev kn n D nt F _ _ _ _ _) rfl rfl rfl (by kernel_rfl) (LessA.refl _) (LessM.refl _) hI) ?_
     rintro x' a' w' ⟨rfl,hI⟩;refine ⟨hlt,?_⟩;rw [← kk_one];exact hI
   · obtain rfl:k=nt:=by omega
     refine wp_seq (wp_mono (OwnL.outB X rfl ((yh_c kn n D _ F _ _ _ _ _).trans (by rw [slt_kk (by omega) (by omega),decide_eq_false (by omega)])) (yh_f kn n D _ F _ _ _ _ _) ont rfl rfl (by kernel_rfl) (LessA.refl _) (LessM.refl _) hI) ?_)
     rintro x' a' w' ⟨rfl,hI⟩;exact hI
 · refine OwnL.phase (r:=⟨.ret,.tt,[(4,pt 2),(5,pt 3),(6,pt 4),(7,pt 5)],_⟩) X rfl (y39_ev kn n D nt F _ _ _ _) rfl rfl rfl (by kernel_rfl) (LessA.refl _) (LessM.refl _) hI fun ν' a' w' x' hx' h => ?_
   have hx':x' = .ret:=hx';subst hx';refine OwnL.left4 h rfl (t1:=(foldV n F nt).t) (t2:=(foldQ n F nt).t) (t3:=(foldF kn n F nt).t) (t4:=(foldF kn n F nt).t) rfl rfl rfl rfl rfl rfl rfl rfl rfl rfl rfl rfl (by decide) fun B1 B2 B3 B4 hb hl hd G1 G2 G3 G4 => ?_
   exact ⟨B1,B2,B3,B4,rfl,hb,hl,hd,G1,G2,G3,G4⟩
end
def Made4 (w:World) (t1 t2 t3 t4:T) (e:Ending) (w':World):Prop:=∃B1 B2 B3 B4,e = .returned (.tuple #[.pointer (some ⟨B1,0,none⟩),.pointer (some ⟨B2,0,none⟩),.pointer (some ⟨B3,0,none⟩),.pointer (some ⟨B4,0,none⟩)])/\Below w.heap.size w w' /\
 (w.heap.size≤B1/\w.heap.size≤B2/\w.heap.size≤B3/\w.heap.size≤B4)/\(B1≠B2/\B1≠B3/\B1≠B4/\B2≠B3/\B2≠B4/\B3≠B4)/\Holds w' B1 t1/\Holds w' B2 t2/\Holds w' B3 t3/\Holds w' B4 t4
def get4 (m:Nat) (r:R):Option (A×V×List Nat×List (Option Blk)):=match r.pick with
 | some (ok,v,h)=>some (ok,v,h.wr,[h.m.get m,h.m.get (m+1),h.m.get (m+2),h.m.get (m+3)])
 | none=>none
theorem get4_some {m:Nat} {r:R} {ok:A} {v:V} {wr:List Nat} {l:List (Option Blk)} (h:get4 m r=some (ok,v,wr,l)):∃h',r.pick=some (ok,v,h')/\h'.wr=wr/\[h'.m.get m,h'.m.get (m+1),h'.m.get (m+2),h'.m.get (m+3)]=l:=by
 unfold get4 at h;split at h
 · rename_i ok v h' hp;simp only [oI,pI] at h;obtain ⟨rfl,rfl,rfl,rfl⟩:=h;exact ⟨h',hp,rfl,rfl⟩
 · cases h
theorem calls_made4 {P:Program} {f m:Nat} {args:List V} {h':H} {t1 t2 t3 t4:T} (hf:FnOK P f args (hM [] m) (.tup [.a (.ptr m []),.a (.ptr (m+1) []),.a (.ptr (m+2) []),.a (.ptr (m+3) [])]) h')
 (g1:h'.m.get m=some ⟨true,t1⟩) (g2:h'.m.get (m+1)=some ⟨true,t2⟩) (g3:h'.m.get (m+2)=some ⟨true,t3⟩) (g4:h'.m.get (m+3)=some ⟨true,t4⟩) (n1:notMp t1=true) (n2:notMp t2=true) (n3:notMp t3=true) (n4:notMp t4=true) (f1:t1.free=true) (f2:t2.free=true) (f3:t3.free=true) (f4:t4.free=true)
 {ν:Nu} {w:World} (hm:Mem (fun _=>True) ν w (hM [] m)) (hw:h'.wr=[]) {us:List Value} (ha:relV ν args us):Calls P f us.toArray w (Made4 w t1 t2 t3 t4):=by
 refine (hf (fun _=>True) ν w us (fun _ _=>trivial) (fun _ _=>trivial) hm ha).mono ?_;rintro e w' ⟨u,ν',rfl,hu,g⟩;obtain ⟨xs,rfl,hx⟩:=hu
 match xs,hx with
 | ⟨[u1,u2,u3,u4]⟩,hx=>
   obtain ⟨r1,r2,r3,r4,_⟩:=hx;have key:∀{i:Nat} {t:T} {u:Value},h'.m.get i=some ⟨true,t⟩->notMp t=true->t.free=true->m≤i->(V.t (.a (.ptr i []))).rel ν' u->∃B,u = .pointer (some ⟨B,0,none⟩)/\w.heap.size≤B/\Holds w' B t/\ν' i=some (B,0):=fun {i t u} hg hn hf hi hr=>by have hr:(A.ptr i []).rel ν' u:=hr;simp only [A.rel] at hr;obtain ⟨r,base,e1,rfl⟩:=hr;have hsn:=g.mem.seen i _ hg (.inl trivial);obtain ⟨r',base',cs,ty,fr,pre,vs,post,q1,q2,q3,q4,q5,q6⟩:=hsn.cells hn;rw [e1] at q1;cases q1;obtain ⟨rfl,rfl⟩:=q6 rfl;exact ⟨r,rfl,g.new i r 0 (hm.nums.fresh i hi) e1,seen_holds hsn hn hf e1,e1⟩
   obtain ⟨B1,e1,l1,H1,v1⟩:=key g1 n1 f1 (by omega) r1
   obtain ⟨B2,e2,l2,H2,v2⟩:=key g2 n2 f2 (by omega) r2
   obtain ⟨B3,e3,l3,H3,v3⟩:=key g3 n3 f3 (by omega) r3
   obtain ⟨B4,e4,l4,H4,v4⟩:=key g4 n4 f4 (by omega) r4
   have ne:∀{i j r r':Nat} {t:T},h'.m.get i=some ⟨true,t⟩->i≠j->ν' i=some (r,0)->ν' j=some (r',0)->r≠r':=fun {i j r r' t} hg hij h1 h2 e=>by subst e;exact hij (g.mem.nums.inj i _ hg rfl j r 0 0 h1 h2).symm
   subst e1 e2 e3 e4;refine ⟨B1,B2,B3,B4,rfl,⟨g.frm.os,g.frm.tape,g.frm.output,g.frm.size,fun r hr=>g.frm.block r hr fun id base hid=>⟨?_,by rw [hw];intro h;cases h⟩⟩,⟨l1,l2,l3,l4⟩,⟨ne g1 (by omega) v1 v2,ne g1 (by omega) v1 v3,ne g1 (by omega) v1 v4,ne g2 (by omega) v2 v3,ne g2 (by omega) v2 v4,ne g3 (by omega) v3 v4⟩,H1,H2,H3,H4⟩
   rw [g.ext.lo];refine Classical.byContradiction fun hge => ?_;have hge:¬id<m:=hge;rw [hm.nums.fresh id (show m≤id by omega)] at hid
   cases hid
def ΓS1:Gam:=newΓ 25 (newS1 newVF.t) (newΓ 26 (newS1 newQF.t) (newΓ 27 newS (newΓ 28 newS ΓL)))
theorem ΓS1_ok:ΓOK Tryz.prog ΓS1:=new25_ok (new26_ok (new_ok (new22_ok ΓL_ok)))
abbrev slZ:V:=one (.sl 0 [] 8 (.lit 0) (.lit 0) none)
theorem st_nil:get4 0 (evalF cxK ΓS1 400 20 7 [one .poison,one .nils] (hM [] 0))=some (.tt,.tup [.a (.ptr 0 []),.a (.ptr 1 []),.a (.ptr 2 []),.a (.ptr 3 [])],[],[some ⟨true,newVF.t⟩,some ⟨true,newQF.t⟩,some ⟨true,newFS.t⟩,some ⟨true,newFS.t⟩]):=by kernel_rfl
theorem st_zero:get4 1 (evalF cxK ΓS1 400 20 7 [one .poison,slZ] (hM [] 1))=some (.tt,.tup [.a (.ptr 1 []),.a (.ptr 2 []),.a (.ptr 3 []),.a (.ptr 4 [])],[],[some ⟨true,newVF.t⟩,some ⟨true,newQF.t⟩,some ⟨true,newFS.t⟩,some ⟨true,newFS.t⟩]):=by kernel_rfl
def nuE:Nu:=fun _=>none
theorem mem_z0 (w:World):Mem (fun _=>True) nuE w (hM [] 0):=by
 have hget:∀i x,(hM [] 0).m.get i=some x->False:=fun i x e=>by have:=get_memT [] i x e;cases this
 refine ⟨⟨fun i r b e=>(by cases e),fun i x e=>(hget i x e).elim,fun i hi=>rfl,fun i x e=>(hget i x e).elim,Nat.le_refl _,fun g hg=>(by cases hg)⟩,fun i x e=>(hget i x e).elim⟩
theorem mem_z1 {w:World} {b o:Nat} (hb:b<w.heap.size):Mem (fun _=>True) (nuAt b o) w (hM [] 1):=by
 have hget:∀i x,(hM [] 1).m.get i=some x->False:=fun i x e=>by have:=get_memT [] i x e;cases this
 refine ⟨⟨fun i r b e=>by obtain ⟨_,rfl,_⟩:=nuAt_some e;exact hb,fun i x e=>(hget i x e).elim,fun i hi => ?_,fun i x e=>(hget i x e).elim,Nat.le_refl _,fun g hg=>by cases hg⟩,fun i x e=>(hget i x e).elim⟩
 have hi:1≤i:=hi;unfold nuAt;rw [if_neg (by omega)]
def zeroSl:A->Bool
 | .nils=>true
 | .sl _ [] 8 (.lit 0) (.lit 0) _=>true
 | _=>false
theorem states_zero {S:Nat->Prop} {ν:Nu} {w:World} {h:H} {ta:A} (hz:zeroSl ta=true) (hm:Mem S ν w h) {u0 u1:Value} (hr:ta.rel ν u1):Calls Tryz.prog 7 #[u0,u1] w (Made4 w newVF.t newQF.t newFS.t newFS.t):=by
 unfold zeroSl at hz;split at hz
 · simp only [A.rel] at hr;subst hr;obtain ⟨h',hp,hw,hl⟩:=get4_some st_nil;simp only [List.cons.injEq] at hl;obtain ⟨_,hfn⟩:=evalF_fn (XK ΓS1_ok) rfl hp rfl;refine calls_made4 hfn hl.1 hl.2.1 hl.2.2.1 hl.2.2.2.1 rfl rfl rfl rfl rfl rfl rfl rfl (mem_z0 w) hw (us:=[u0,.slice none 0 0]) ⟨?_,?_,trivial⟩
   · show A.poison.rel nuE u0;simp only [A.rel]
   · show A.nils.rel nuE (.slice none 0 0);simp only [A.rel]
 · simp only [A.rel] at hr;obtain ⟨b,base,o,c,h1,rfl,h3,h4,h5⟩:=hr;obtain ⟨h',hp,hw,hl⟩:=get4_some st_zero;simp only [List.cons.injEq] at hl;obtain ⟨_,hfn⟩:=evalF_fn (XK ΓS1_ok) rfl hp rfl;refine calls_made4 hfn hl.1 hl.2.1 hl.2.2.1 hl.2.2.2.1 rfl rfl rfl rfl rfl rfl rfl rfl (mem_z1 (b:=b) (o:=o) (hm.nums.lt _ _ _ h1)) hw (us:=[u0,.slice (some ⟨b,o,none⟩) 0 c]) ⟨?_,?_,trivial⟩
   · show A.poison.rel (nuAt b o) u0;simp only [A.rel]
   · show (A.sl 0 [] 8 (.lit 0) (.lit 0) none).rel (nuAt b o) (.slice (some ⟨b,o,none⟩) 0 c);simp only [A.rel];exact ⟨b,o,o,c,by simp [nuAt],rfl,fun _=>by simp [pathOff,Ix.val],Nat.zero_le _,fun _ e=>by cases e⟩
 · cases hz
def shTF:Sh->Option TF
 | .st [.int .i64 k,.int .i64 o,.int .i64 m,.int .i64 w,.int .i64 b,.int .u64 v,.int .u64 l,.int .u64 r]=>some ⟨k,o,m,w,b,v,l,r⟩
 | _=>none
theorem shTF_some {s:Sh} {f:TF} (h:shTF s=some f):s=f.s:=by
 unfold shTF at h;split at h
 · cases h;rfl
 · cases h
def tfOf (h:H):A->Option (Nat×Nat×TF×Bool)
 | .sl id [] 8 (.lit 0) (.sym n) _=>match h.m.get id with
   | some ⟨_,.arr 8 (.sym m) s⟩=>match shTF s with
     | some f=>some (id,n,f,Nat.beq m n)
     | none=>none
   | _=>none
 | _=>none
theorem tfOf_some {h:H} {la:A} {id n:Nat} {F:TF} {o:Bool} (e:tfOf h la=some (id,n,F,o)) (ho:o=true):∃c rw,la = .sl id [] 8 (.lit 0) (.sym n) c/\h.m.get id=some ⟨rw,F.arr n⟩:=by
 unfold tfOf at e;split at e
 · rename_i id' n' c;split at e
   · rename_i rw m s hg;split at e
     · rename_i f ht;cases e;have hb:=Nat.eq_of_beq_eq_true ho;subst hb;exact ⟨c,rw,rfl,by rw [hg,shTF_some ht]⟩
     · cases e
   · cases e
 · cases e
structure Sig where
 v:Nat->TF->Nat->VF
 q:Nat->TF->Nat->QF
 f:Nat->TF->Nat->FSt
def new4 (h:H) (a b c d:T):H:=((((h.new ⟨true,a⟩).new ⟨true,b⟩).new ⟨true,c⟩).new ⟨true,d⟩)
def tup4 (n:Nat):V :=.tup [.a (.ptr n []),.a (.ptr (n+1) []),.a (.ptr (n+2) []),.a (.ptr (n+3) [])]
def okSt (n nt:Nat) (o p:Bool):Bool:=(Nat.ble 1 n&&Nat.ble n 10)&&((Nat.ble 1 nt&&Nat.ble nt 60)&&(o&&p))
def stSp (σ:Sig):List V->H->Option R
 | [.t (.a la),.t (.a ta)],h=>match zeroSl ta with
   | true=>some (.leaf .tt (tup4 h.next) (new4 (h.sees []) newVF.t newQF.t newFS.t newFS.t))
   | false=>match dfOf h la,tfOf h ta with
     | some (id,n,_,o),some (id2,nt,F,p)=>some (.leaf (.b (okSt n nt o p)) (tup4 h.next) (new4 (h.sees [id,id2]) (σ.v n F nt).t (σ.q n F nt).t (σ.f n F nt).t (σ.f n F nt).t))
     | _,_=>none
 | _,_=>none
def sigK (kn:TW->Nat->RW):Sig:=⟨foldV,foldQ,foldF kn⟩
theorem new4_ext {h:H} {a b c d:T} (hlo:h.lo≤h.next):Ext h (new4 h a b c d):=by
 have e1:=new_ext hlo ⟨true,a⟩;have e2:=new_ext (h:=h.new ⟨true,a⟩) (by show h.lo≤h.next+1;omega) ⟨true,b⟩
 have e3:=new_ext (h:=(h.new ⟨true,a⟩).new ⟨true,b⟩) (by show h.lo≤h.next+1+1;omega) ⟨true,c⟩
 have e4:=new_ext (h:=((h.new ⟨true,a⟩).new ⟨true,b⟩).new ⟨true,c⟩) (by show h.lo≤h.next+1+1+1;omega) ⟨true,d⟩
 exact ((e1.trans e2).trans e3).trans e4
theorem states_ok {kn:TW->Nat->RW} (hK:AnyOK Tryz.prog 30 (knoSp kn)) (hk:∀t n,(kn t n).k=kdU t.k):AnyOK Tryz.prog 7 (stSp (sigK kn)) where
 ent:=enters_of entK 7 _ Tryz.func7 (by simp [Tryz.f7])
 ok:=by
  intro args h r ok v h' he hp hok;unfold stSp at he;split at he
  · rename_i la ta;split at he
    · rename_i hz;cases he;simp only [R.pick,oI,pI] at hp;obtain ⟨rfl,rfl,rfl⟩:=hp;refine fn_made4 rfl rfl rfl rfl [] fun S ν w us hm hS hus => ?_
      match us,hus with
      | [u0,u1],⟨r0,r1,_⟩=>exact states_zero hz hm r1
    · split at he
      · rename_i id n D o id2 nt F p h1 h2;cases he;simp only [R.pick,oI,pI] at hp;obtain ⟨rfl,rfl,rfl⟩:=hp;have hok:okSt n nt o p=true:=hok;unfold okSt at hok;simp only [bA] at hok;obtain ⟨⟨a1,a2⟩,⟨a3,a4⟩,a5,a6⟩:=hok;have a1:=nL a1;have a2:=nL a2;have a3:=nL a3;have a4:=nL a4;refine fn_made4 rfl rfl rfl rfl [id,id2] fun S ν w us hm hS hus => ?_
        match us,hus with
        | [u0,u1],⟨r0,r1,_⟩=>
          obtain ⟨B0,o0,c0,H0,rfl,hc0,_⟩:=df_here hm h1 a5 (hS id (.head _)) (by omega) r0
          obtain ⟨c,rw,rfl,hg⟩:=tfOf_some h2 a6;obtain ⟨B1,o1,c1,hid,H1,rfl,hc1⟩:=sl_here hm hg (hS id2 (.tail _ (.head _))) rfl rfl (len :=.sym nt) (by show 0<nt;omega) r1
          exact states7 hK hk a1 a2 a4 hc0 hc1 H0 H1
      · cases he
  · cases he
 pan:=by
  intro args h r ok v h' he hp hok;unfold stSp at he;split at he
  · split at he
    · cases he;simp [R.pickP] at hp
    · split at he
      · cases he;simp [R.pickP] at hp
      · cases he
  · cases he
 ext:=by
  intro args h r he hlo;unfold stSp at he;split at he
  · split at he
    · cases he;exact new4_ext hlo
    · split at he
      · cases he;exact (sees_ext _ h).trans (new4_ext (by rw [sees_lo,sees_next];exact hlo))
      · cases he
  · cases he
end Go.WE
end
