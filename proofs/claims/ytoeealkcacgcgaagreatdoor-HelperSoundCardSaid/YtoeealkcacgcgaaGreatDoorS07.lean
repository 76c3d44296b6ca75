/- A part of a proof of the helpers' law; no condition of its own. -/
import Derived.Test.YtoeealkcacgcgaaGreatDoorS06
set_option linter.unusedVariables false
set_option maxRecDepth 100000
noncomputable section
namespace Go.WE
open Go
theorem all_exits {p:St->Prop} {id:Nat}:∀{o:Out},o.All p->(o.exits id).All p
 | .fail,_=>trivial
 | .leaf e s,h=>by
   cases e<;>simp only [Out.exits]
   case exit id'=>split<;>exact h
   all_goals exact h
 | .node x a b,h=>⟨all_exits h.1,all_exits h.2⟩
theorem pick_exits (id:Nat):∀(o:Out),(o.exits id).pick=match o.pick with|some (.exit id',s)=>if id'=id then some (.nrm,s) else some (.exit id',s)|r=>r
 | .fail=>rfl
 | .leaf e s=>by
   cases e<;>simp only [Out.exits,Out.pick]
   case exit id'=>
    cases hb:Nat.beq id' id
    · simp only;rw [if_neg (beq_false hb)];rfl
    · simp only;rw [if_pos (beq_true hb)];rfl
 | .node x a b=>by
   simp only [Out.exits,Out.pick];cases x
   · exact pick_exits id b
   · exact pick_exits id a
theorem mem_touched {x:Nat}:∀{n:Nat} {l acc:List Nat},x∈touched n l acc↔x∈l.take n\/x∈acc
 | 0,l,acc=>by simp [touched]
 | n+1,[],acc=>by simp [touched]
 | n+1,s::r,acc=>by
   rw [touched,mem_touched,mem_addN,List.take_succ_cons,List.mem_cons];constructor
   · rintro (h|rfl|h)<;>simp [*]
   · rintro ((rfl|h)|h)<;>simp [*]
def mergeEnt (x:Bool) (e1 e2:Ent):Ent:=⟨none,match e1.c,e2.c with
 | none,none=>mergeV x e1.v e2.v
 | _,_ =>.t (.a .poison)⟩
theorem get_mergeVars (x:Bool) (v1 v2:Tr Ent):∀(l:List Nat) (v:Tr Ent) (vd:List Nat),(∀s,varsGet (mergeVars x v1 v2 l v vd).1 s=if s∈l then mergeEnt x (varsGet v1 s) (varsGet v2 s) else varsGet v s) /\
 ∃q,(mergeVars x v1 v2 l v vd).2=q++vd/\∀s,s∈q↔s∈l
 | [],v,vd=>⟨fun s=>by simp [mergeVars],[],rfl,fun _=>Iff.rfl⟩
 | t::r,v,vd=>by
   obtain ⟨h1,q,h2,h3⟩:=get_mergeVars x v1 v2 r (v.set t (mergeEnt x (varsGet v1 t) (varsGet v2 t))) (t::vd);refine ⟨fun s => ?_,q++[t],?_,fun s => ?_⟩
   · rw [mergeVars];refine (h1 s).trans ?_;by_cases hr:s∈r
     · rw [if_pos hr,if_pos (by simp [hr])]
     · rw [if_neg hr];unfold varsGet;rw [Tr.get_set];by_cases ht:t=s
       · subst ht;rw [if_pos rfl,if_pos (by simp)]
       · rw [if_neg ht,if_neg (by simp [hr];exact fun h=>ht h.symm)]
   · rw [mergeVars];exact h2.trans (by simp)
   · simp [h3];exact or_comm
theorem mergeOk_true {x:Bool} {p q:A} (h:okB (mergeOk x p q)=true):okB (bif x then p else q)=true:=by
 unfold mergeOk at h;split at h
 · cases x<;>rfl
 · cases x<;>first|rfl|exact h
 · cases x<;>first|rfl|exact h
 · cases x<;>exact h
 · cases x<;>exact h
theorem mem_touchedSt {base s1 s2:St} {q1 q2:List Nat} (h1:s1.vd=q1++base.vd) (h2:s2.vd=q2++base.vd) {s:Nat}:s∈touchedSt base s1 s2↔s∈q1\/s∈q2:=by
 unfold touchedSt;have e1:s1.vd.length-base.vd.length=q1.length:=by rw [h1];simp
 have e2:s2.vd.length-base.vd.length=q2.length:=by rw [h2];simp
 rw [e1,e2,h1,h2,mem_touched,mem_touched];simp
structure Weak (P:Program) (base s s':St):Prop where
 rel:∀fp S ν0 w0 ν a w,Mem S ν0 w0 base.h->CRel P fp S s ν a w->Goes S ν0 w0 base.h ν w s.h->CRel P fp S s' ν a w/\Goes S ν0 w0 base.h ν w s'.h
 ok:okB s'.ok=true->okB s.ok=true
 rd:∀id,id∈s.h.rd->id∈s'.h.rd
 wr:∀id,id∈s.h.wr->id∈s'.h.wr
theorem Weak.refl (P:Program) (base s:St):Weak P base s s:=⟨fun _ _ _ _ _ _ _ _ h h'=>⟨h,h'⟩,fun h=>h,fun _ h=>h,fun _ h=>h⟩
theorem Weak.trans {P:Program} {base s s1 s2:St} (h:Weak P base s s1) (h':Weak P base s1 s2):Weak P base s s2:=
 ⟨fun fp S ν0 w0 ν a w hm hr hg=>by obtain ⟨h1,h2⟩:=h.rel fp S ν0 w0 ν a w hm hr hg;exact h'.rel fp S ν0 w0 ν a w hm h1 h2,fun ho=>h.ok (h'.ok ho),fun id hi=>h'.rd id (h.rd id hi),fun id hi=>h'.wr id (h.wr id hi)⟩
section
variable {P:Program} {x:Bool} {base s1 s2:St}
theorem merged_eq:∃v vd,mergeVars x s1.vars s2.vars (touchedSt base s1 s2) base.vars base.vd=(v,vd) /\
 mergeSt x base s1 s2={ vars:=v,vd:=vd,tmps:=[],ok:=mergeOk x s1.ok s2.ok,h:=mergeH x base.h s1.h s2.h,defs:=base.defs }:=by
 unfold mergeSt;generalize mergeVars x s1.vars s2.vars (touchedSt base s1 s2) base.vars base.vd=p;obtain ⟨v,vd⟩:=p;exact ⟨v,vd,rfl,rfl⟩
theorem merged_vars (h1:ExtS base s1) (h2:ExtS base s2):∃q,(mergeSt x base s1 s2).vd=q++base.vd/\(∀s,s∈q->varsGet (mergeSt x base s1 s2).vars s=mergeEnt x (varsGet s1.vars s) (varsGet s2.vars s)) /\
 ∀s,s ∉ q->varsGet (mergeSt x base s1 s2).vars s=varsGet base.vars s/\varsGet s1.vars s=varsGet base.vars s/\varsGet s2.vars s=varsGet base.vars s:=by
 obtain ⟨q1,e1,f1⟩:=h1.vars;obtain ⟨q2,e2,f2⟩:=h2.vars;obtain ⟨v,vd,hv,hm⟩:=merged_eq (x:=x) (base:=base) (s1:=s1) (s2:=s2);obtain ⟨g1,q,g2,g3⟩:=get_mergeVars x s1.vars s2.vars (touchedSt base s1 s2) base.vars base.vd;rw [hv] at g1 g2;rw [hm];refine ⟨q,g2,fun s hs => ?_,fun s hs => ?_⟩
 · have:=g1 s;rw [if_pos ((g3 s).1 hs)] at this;exact this
 · have hn:s ∉ touchedSt base s1 s2:=fun h=>hs ((g3 s).2 h);have:=g1 s;rw [if_neg hn] at this;rw [mem_touchedSt e1 e2,not_or] at hn;exact ⟨this,f1 s hn.1,f2 s hn.2⟩
theorem mergeSt_ext (h1:ExtS base s1) (h2:ExtS base s2):ExtS base (mergeSt x base s1 s2):=by
 obtain ⟨v,vd,hv,hm⟩:=merged_eq (x:=x) (base:=base) (s1:=s1) (s2:=s2);obtain ⟨q,g1,g2,g3⟩:=merged_vars (x:=x) h1 h2;refine ⟨?_,⟨q,g1,fun s hs=>(g3 s hs).1⟩,fun hc s => ?_,⟨[],by rw [hm];rfl⟩,fun ho => ?_⟩
 · rw [hm];exact mergeH_ext h1.h h2.h
 · by_cases hs:s∈q
   · rw [g2 s hs];rfl
   · rw [(g3 s hs).1];exact hc s
 · rw [hm] at ho;have:=mergeOk_true ho;cases x
   · exact h2.ok this
   · exact h1.ok this
theorem mergeSt_weak (h1:ExtS base s1) (h2:ExtS base s2) (hl:base.h.lo=base.h.next) (hd1:s1.defs.length=base.defs.length) (hd2:s2.defs.length=base.defs.length) :
 Weak P base (bif x then s1 else s2) (mergeSt x base s1 s2):=by
 obtain ⟨v,vd,hv,hm⟩:=merged_eq (x:=x) (base:=base) (s1:=s1) (s2:=s2);obtain ⟨q,g1,g2,g3⟩:=merged_vars (x:=x) h1 h2;have hdef:∀{s:St},ExtS base s->s.defs.length=base.defs.length->s.defs=base.defs:=by
  intro s hs hlen;obtain ⟨l,hl⟩:=hs.defs;rw [hl] at hlen;have:l=[]:=by
   cases l with
   | nil=>rfl
   | cons y r=>simp at hlen;omega
  rw [hl,this];rfl
 have hh:(mergeSt x base s1 s2).h=mergeH x base.h s1.h s2.h:=by rw [hm]
 have ho:(mergeSt x base s1 s2).ok=mergeOk x s1.ok s2.ok:=by rw [hm]
 have ht:(mergeSt x base s1 s2).tmps=[]:=by rw [hm]
 have hds:(mergeSt x base s1 s2).defs=base.defs:=by rw [hm]
 have hb:∀{α:Type} (f:St->α),f (bif x then s1 else s2)=bif x then f s1 else f s2:=fun f=>by cases x<;>rfl
 refine ⟨fun fp S ν0 w0 ν a w hmem hr hg => ?_,fun h => ?_,fun id hi => ?_,fun id hi => ?_⟩
 · have hg':Goes S ν0 w0 base.h ν w (mergeH x base.h s1.h s2.h):=by
    refine mergeH_goes h1.h h2.h hmem hl ?_;rw [hb (fun s=>s.h)] at hg;exact hg
   rw [hh];refine ⟨⟨by rw [hh];exact hg'.mem,fun s => ?_,fun s => ?_,hr.size,?_⟩,hg'⟩
   · cases hk:bitB fp.km s
     · rw [get_false hk,ht];exact ⟨fun _=>by simp [getT,V.rel,T.relV,A.rel],fun hno=>absurd (by simp [getT,holds]) hno⟩
     · rw [get_true hk];have hs:=hr.slots s;rw [get_true hk] at hs;have hc:=hr.vconds s;by_cases hq:s∈q
       · rw [g2 s hq];refine ⟨fun _ => ?_,fun hno=>absurd trivial hno⟩;unfold mergeEnt;simp only;split
         · refine mergeV_rel ?_;have:=hs.1 (by rw [hc];trivial)
           rw [hb (fun s'=>varsGet s'.vars s)] at this;cases x<;>exact this
         · simp [V.rel,T.relV,A.rel]
       · obtain ⟨e0,e1,e2⟩:=g3 s hq;rw [e0];cases x
         · rwa [show varsGet (bif false then s1 else s2).vars s=varsGet s2.vars s from rfl,e2] at hs
         · rwa [show varsGet (bif true then s1 else s2).vars s=varsGet s1.vars s from rfl,e1] at hs
   · by_cases hq:s∈q
     · rw [g2 s hq];rfl
     · obtain ⟨e0,e1,e2⟩:=g3 s hq;rw [e0];have hc:=hr.vconds s;cases x
       · rwa [show varsGet (bif false then s1 else s2).vars s=varsGet s2.vars s from rfl,e2] at hc
       · rwa [show varsGet (bif true then s1 else s2).vars s=varsGet s1.vars s from rfl,e1] at hc
   · rw [hds];have:=hr.defers;cases x
     · rw [show (bif false then s1 else s2).defs=s2.defs from rfl,hdef h2 hd2] at this;exact this
     · rw [show (bif true then s1 else s2).defs=s1.defs from rfl,hdef h1 hd1] at this;exact this
 · rw [ho] at h;have:=mergeOk_true h;cases x<;>exact this
 · rw [hh];cases x
   · exact mem_unionN.2 (.inr hi)
   · exact mem_unionN.2 (.inl hi)
 · rw [hh];cases x
   · exact mem_unionN.2 (.inr hi)
   · exact mem_unionN.2 (.inl hi)
end
theorem noNrm_rest:∀{o:Out},o.noNrm=true->∃r,o.rest=some r/\r.pick=o.pick
 | .fail,_=>⟨.fail,rfl,rfl⟩
 | .leaf .nrm _,h=>by simp [Out.noNrm] at h
 | .leaf (.exit _) _,_=>⟨_,rfl,rfl⟩
 | .leaf .ret _,_=>⟨_,rfl,rfl⟩
 | .leaf (.pan _) _,_=>⟨_,rfl,rfl⟩
 | .node x a b,h=>by simp only [Out.noNrm,bA] at h;obtain ⟨ra,ha,pa⟩:=noNrm_rest h.1;obtain ⟨rb,hb,pb⟩:=noNrm_rest h.2;exact ⟨.node x ra rb,by simp [Out.rest,ha,hb],by simp only [Out.pick];rw [pa,pb]⟩
theorem nrm_spec:∀{o:Out} {g:Bool} {s:St},o.nrm? = some (g,s)->(g=true->o.pick=some (.nrm,s))/\(g=false->∃r,o.rest=some r/\r.pick=o.pick)
 | .fail,_,_,h=>by simp [Out.nrm?] at h
 | .leaf .nrm s',g,s,h=>by simp [Out.nrm?] at h;obtain ⟨rfl,rfl⟩:=h;exact ⟨fun _=>rfl,fun h=>by cases h⟩
 | .leaf (.exit _) _,_,_,h=>by simp [Out.nrm?] at h
 | .leaf .ret _,_,_,h=>by simp [Out.nrm?] at h
 | .leaf (.pan _) _,_,_,h=>by simp [Out.nrm?] at h
 | .node x a b,g,s,h=>by
   simp only [Out.nrm?] at h;split at h
   · rename_i hb;split at h
     · rename_i g0 s0 ha;simp at h;obtain ⟨rfl,rfl⟩:=h;obtain ⟨i1,i2⟩:=nrm_spec ha;obtain ⟨rb,hrb,prb⟩:=noNrm_rest hb;constructor
       · intro hg;simp only [bA] at hg;rw [Out.pick,hg.1];exact i1 hg.2
       · intro hg;cases x
         · cases har:a.rest with
           | none=>exact ⟨rb,by simp [Out.rest,har,hrb],by rw [prb];rfl⟩
           | some ra=>exact ⟨.node false ra rb,by simp [Out.rest,har,hrb],by simp only [Out.pick,cond_false];exact prb⟩
         · simp only [Bool.true_and] at hg;obtain ⟨ra,hra,pra⟩:=i2 hg;exact ⟨.node true ra rb,by simp [Out.rest,hra,hrb],by simp only [Out.pick,cond_true];exact pra⟩
     · cases h
   · split at h
     · rename_i ha;split at h
       · rename_i g0 s0 hb';simp at h;obtain ⟨rfl,rfl⟩:=h;obtain ⟨i1,i2⟩:=nrm_spec hb';obtain ⟨ra,hra,pra⟩:=noNrm_rest ha;constructor
         · intro hg;simp only [bA,Bool.not_eq_true'] at hg;rw [Out.pick,hg.1];exact i1 hg.2
         · intro hg;cases x
           · simp only [Bool.not_false,Bool.true_and] at hg;obtain ⟨rb,hrb,prb⟩:=i2 hg;exact ⟨.node false ra rb,by simp [Out.rest,hra,hrb],by simp only [Out.pick,cond_false];exact prb⟩
           · cases hbr:b.rest with
             | none=>exact ⟨ra,by simp [Out.rest,hra,hbr],by rw [pra];rfl⟩
             | some rb=>exact ⟨.node true ra rb,by simp [Out.rest,hra,hbr],by simp only [Out.pick,cond_true];exact pra⟩
       · cases h
     · cases h
theorem rest_all {p:St->Prop}:∀{o r:Out},o.rest=some r->o.All p->r.All p
 | .fail,r,h,_=>by simp [Out.rest] at h;subst h;trivial
 | .leaf .nrm _,_,h,_=>by simp [Out.rest] at h
 | .leaf (.exit _) _,r,h,ha=>by simp [Out.rest] at h;subst h;exact ha
 | .leaf .ret _,r,h,ha=>by simp [Out.rest] at h;subst h;exact ha
 | .leaf (.pan _) _,r,h,ha=>by simp [Out.rest] at h;subst h;exact ha
 | .node x a b,r,h,ha=>by
   simp only [Out.rest] at h;split at h
   · rename_i h1 h2;simp at h;subst h;exact ⟨rest_all h1 ha.1,rest_all h2 ha.2⟩
   · rename_i h1 h2;simp at h;subst h;exact rest_all h1 ha.1
   · rename_i h1 h2;simp at h;subst h;exact rest_all h2 ha.2
   · cases h
theorem nrm_all {p:St->Prop}:∀{o:Out} {g:Bool} {s:St},o.nrm? = some (g,s)->o.All p->p s
 | .fail,_,_,h,_=>by simp [Out.nrm?] at h
 | .leaf .nrm s',g,s,h,ha=>by simp [Out.nrm?] at h;rw [← h.2];exact ha
 | .leaf (.exit _) _,_,_,h,_=>by simp [Out.nrm?] at h
 | .leaf .ret _,_,_,h,_=>by simp [Out.nrm?] at h
 | .leaf (.pan _) _,_,_,h,_=>by simp [Out.nrm?] at h
 | .node x a b,g,s,h,ha=>by
   simp only [Out.nrm?] at h;split at h
   · split at h
     · rename_i hx;simp at h;rw [← h.2];exact nrm_all hx ha.1
     · cases h
   · split at h
     · split at h
       · rename_i hx;simp at h;rw [← h.2];exact nrm_all hx ha.2
       · cases h
     · cases h
theorem join_all {x:Bool} {base:St} {a b:Out} (ha:a.All (ExtS base)) (hb:b.All (ExtS base)):(join x base a b).All (ExtS base):=by
 unfold join;split
 · rename_i g1 s1 g2 s2 h1 h2;have hm:ExtS base (mergeSt x base s1 s2):=mergeSt_ext (nrm_all h1 ha) (nrm_all h2 hb);split
   · exact ⟨ha,hb⟩
   · split
     · exact hm
     · rename_i r hr _;exact ⟨hm,rest_all hr ha⟩
     · rename_i r _ hr;exact ⟨hm,rest_all hr hb⟩
     · rename_i r1 r2 hr1 hr2;exact ⟨hm,rest_all hr1 ha,rest_all hr2 hb⟩
 · exact ⟨ha,hb⟩
def Comes' (P:Program) (base:St) (p p':Option (Ex×St)):Prop:=∀e s',p'=some (e,s')->∃s,p=some (e,s)/\Weak P base s s'
theorem Comes'.refl (P:Program) (base:St) (p:Option (Ex×St)):Comes' P base p p:=fun _ s h=>⟨s,h,Weak.refl P base s⟩
theorem Comes'.trans {P:Program} {base:St} {p q r:Option (Ex×St)} (h:Comes' P base p q) (h':Comes' P base q r):Comes' P base p r:=fun e s' hr=>by
 obtain ⟨s1,h1,w1⟩:=h' e s' hr;obtain ⟨s2,h2,w2⟩:=h e s1 h1;exact ⟨s2,h2,w2.trans w1⟩
theorem join_pick {P:Program} {x:Bool} {base:St} {a b:Out} (ha:a.All (ExtS base)) (hb:b.All (ExtS base)) (hl:base.h.lo=base.h.next) :
 Comes' P base (Out.node x a b).pick (join x base a b).pick:=by
 unfold join;split
 · rename_i g1 s1 g2 s2 h1 h2;split
   · exact Comes'.refl _ _ _
   rename_i hmay;unfold mayMeet at hmay;simp only [bA] at hmay;have hw:=mergeSt_weak (P:=P) (x:=x) (nrm_all h1 ha) (nrm_all h2 hb) hl (beq_true hmay.2.1.1.1) (beq_true hmay.2.1.1.2);obtain ⟨i1,i2⟩:=nrm_spec h1;obtain ⟨j1,j2⟩:=nrm_spec h2;have hmerge:(bif x then g1 else g2)=true->Comes' P base (Out.node x a b).pick (some (.nrm,mergeSt x base s1 s2)):=by
    intro hg e s' hs;simp at hs;obtain ⟨rfl,rfl⟩:=hs;refine ⟨bif x then s1 else s2,?_,hw⟩;cases x
    · exact j1 hg
    · exact i1 hg
   split
   · rename_i hr1 hr2;refine hmerge ?_;cases x
     · cases g2 with
       | true=>rfl
       | false=>obtain ⟨r,hr,_⟩:=j2 rfl;rw [hr2] at hr;cases hr
     · cases g1 with
       | true=>rfl
       | false=>obtain ⟨r,hr,_⟩:=i2 rfl;rw [hr1] at hr;cases hr
   · rename_i r hr1 hr2;cases x
     · simp only [Out.pick,cond_false,cond_true];refine hmerge ?_;cases g2 with
       | true=>rfl
       | false=>obtain ⟨r,hr,_⟩:=j2 rfl;rw [hr2] at hr;cases hr
     · cases g1 with
       | true=>exact hmerge rfl
       | false=>
         obtain ⟨r',hr,pr⟩:=i2 rfl;rw [hr1] at hr;simp at hr;subst hr;simp only [Out.pick,cond_false,cond_true];rw [pr];exact Comes'.refl _ _ _
   · rename_i r hr1 hr2;cases x
     · cases g2 with
       | true=>exact hmerge rfl
       | false=>
         obtain ⟨r',hr,pr⟩:=j2 rfl;rw [hr2] at hr;simp at hr;subst hr;simp only [Out.pick,cond_false];rw [pr];exact Comes'.refl _ _ _
     · simp only [Out.pick,cond_true];refine hmerge ?_;cases g1 with
       | true=>rfl
       | false=>obtain ⟨r,hr,_⟩:=i2 rfl;rw [hr1] at hr;cases hr
   · rename_i r1 r2 hr1 hr2;cases x
     · cases g2 with
       | true=>exact hmerge rfl
       | false=>
         obtain ⟨r',hr,pr⟩:=j2 rfl;rw [hr2] at hr;simp at hr;subst hr;simp only [Out.pick,cond_false];rw [pr];exact Comes'.refl _ _ _
     · cases g1 with
       | true=>exact hmerge rfl
       | false=>
         obtain ⟨r',hr,pr⟩:=i2 rfl;rw [hr1] at hr;simp at hr;subst hr;simp only [Out.pick,cond_false,cond_true];rw [pr];exact Comes'.refl _ _ _
 · exact Comes'.refl _ _ _
theorem norm_all {base:St}:∀{o:Out},o.All (ExtS base)->(o.norm base).All (ExtS base)
 | .fail,_=>trivial
 | .leaf _ _,h=>h
 | .node _ _ _,h=>join_all (norm_all h.1) (norm_all h.2)
theorem norm_pick {P:Program} {base:St} (hl:base.h.lo=base.h.next):∀{o:Out},o.All (ExtS base)->Comes' P base o.pick (o.norm base).pick
 | .fail,_=>Comes'.refl _ _ _
 | .leaf _ _,_=>Comes'.refl _ _ _
 | .node x a b,h=>by
   have hj:=join_pick (P:=P) (x:=x) (norm_all h.1) (norm_all h.2) hl;refine Comes'.trans ?_ hj;simp only [Out.pick];cases x
   · exact norm_pick hl h.2
   · exact norm_pick hl h.1
theorem pick_back (h0:H):∀(o:Out),(o.back h0).pick=match o.pick with|some (e,s)=>some (e,{ s with h:=h0.back s.h })|none=>none
 | .fail=>rfl
 | .leaf e s=>rfl
 | .node x a b=>by
   simp only [Out.back,Out.pick];cases x
   · exact pick_back h0 b
   · exact pick_back h0 a
theorem back_exts {s s':St} (hlo:LoOK s) (h:ExtS s.mark s'):ExtS s { s' with h:=s.h.back s'.h }:=
 ⟨back_ext hlo h.h,h.vars,h.vconds,h.defs,h.ok⟩
theorem all_back {s:St} (hlo:LoOK s):∀{o:Out},o.All (ExtS s.mark)->(o.back s.h).All (ExtS s)
 | .fail,_=>trivial
 | .leaf _ _,h=>back_exts hlo h
 | .node _ _ _,h=>⟨all_back hlo h.1,all_back hlo h.2⟩
theorem CRel.mark {P:Program} {fp:Fp} {S:Nat->Prop} {st:St} {ν:Nu} {a:Act} {w:World} (h:CRel P fp S st ν a w):CRel P fp (markS S st.h) st.mark ν a w:=
 ⟨h.mem.mark,h.slots,h.vconds,h.size,h.defers⟩
theorem CRel.back {P:Program} {fp:Fp} {S:Nat->Prop} {s s':St} {ν ν':Nu} {a':Act} {w w':World} (hlo:LoOK s) (h:CRel P fp (markS S s.h) s' ν' a' w') (g:Goes (markS S s.h) ν w s.mark.h ν' w' s'.h) :
 CRel P fp S { s' with h:=s.h.back s'.h } ν' a' w'/\Goes S ν w s.h ν' w' (s.h.back s'.h):=by
 have g':=back_goes hlo g;exact ⟨⟨g'.mem,h.slots,h.vconds,h.size,h.defers⟩,g'⟩
theorem allBelow_spec {n:Nat} {p:Nat->Bool} (h:allBelow n p=true) {i:Nat} (hi:i<n):p i=true:=by
 unfold allBelow at h;rw [List.all_eq_true] at h;exact h i (List.mem_range.2 hi)
section
variable {ops:List Oper} {D:Array Nat}
theorem edge_lt (h:chkEdges ops D=true) {i:Nat} {o:Oper} (ho:ops[i]? = some o) {e:Edge} (he:e∈o.after) (hb:Region.binds .any e=true):e.on<i:=by
 have hi:i<ops.length:=(List.getElem?_eq_some_iff.1 ho).1;have h1:=allBelow_spec h hi;simp only [ho,bA] at h1;have h2:=List.all_eq_true.1 h1.1 e (by simpa using he)
 rw [hb] at h2;exact blt_lt (by simpa using h2)
theorem D_edge (h:chkEdges ops D=true) {i k:Nat} {o:Oper} (ho:ops[i]? = some o) (hk:k<ops.length) (hd:bitD D i k=true) :
 ∃e∈o.after,Region.binds .any e=true/\(e.on=k\/bitD D e.on k=true):=by
 have hi:i<ops.length:=(List.getElem?_eq_some_iff.1 ho).1;have h1:=allBelow_spec h hi;simp only [ho,bA] at h1;have h2:=allBelow_spec h1.2 hk;rw [hd] at h2;simp only [Bool.not_true,Bool.false_or,List.any_eq_true,bA,Bool.or_eq_true] at h2;obtain ⟨e,he,hb,h3⟩:=h2;exact ⟨e,by simpa using he,hb,h3.imp beq_true id⟩
theorem mem_looks_op {i s:Nat} {o:Oper} (ho:ops[i]? = some o) (h : .tmp s∈o.op.operands.toList):s∈looks ops i:=by
 unfold looks;simp only [ho];exact List.mem_append_left _ (List.mem_filterMap.2 ⟨.tmp s,h,rfl⟩)
theorem mem_looks_guard {i s:Nat} {o:Oper} (ho:ops[i]? = some o) {j:Nat} {want:Bool} (hg:o.guard=some (j,want)) (hd:dstOf ops j=some s):s∈looks ops i:=by
 unfold looks;simp only [ho,hg,hd];simp
theorem chkTmp_spec (h:chkTmp ops D=true) {i j x:Nat} (hi:i<ops.length) (hj:dstOf ops j=some x) (hx:x∈looks ops i) (hne:i≠j) :
 (j<i->bitD D i j=true)/\(i<j->bitD D j i=true):=by
 have h1:=allBelow_spec h hi;simp only at h1;have h2:=allBelow_spec h1 (dstOf_lt hj);rw [hj] at h2;simp only [Bool.or_eq_true] at h2;rcases h2 with (h2|h2)|h2
 · exact absurd (beq_true h2) hne
 · simp only [memB,Bool.not_eq_true',List.any_eq_false] at h2;have:=h2 x hx;simp at this
 · split at h2
   · rename_i hb;have:=blt_lt hb;exact ⟨fun _=>h2,fun h=>by omega⟩
   · rename_i hb;have:¬j<i:=by
      intro hl;have h3:Nat.blt j i=true:=by simp [Nat.blt];omega
      rw [h3] at hb;cases hb
     exact ⟨fun h=>by omega,fun _=>h2⟩
end
theorem chkFrom_spec {D:Array Nat} {i:Nat} {a:Ft}:∀{l:List Ft} {j:Nat},chkFts.chkFrom D i j a l=true->∀{k:Nat} {b:Ft},l[k]? = some b->bitD D (j+k) i=true\/chkPair a b=true
 | [],_,_,_,_,hb=>by simp at hb
 | c::l,j,h,k,b,hb=>by
   simp only [chkFts.chkFrom,bA,Bool.or_eq_true] at h;cases k with
   | zero=>simp at hb;subst hb;exact h.1
   | succ k=>
     simp at hb;have:=chkFrom_spec (l:=l) h.2 hb
     rwa [show j+(k+1)=j+1+k by omega]
theorem chkFts_spec {D:Array Nat}:∀{l:List Ft} {i:Nat},chkFts D i l=true->∀{k m:Nat} {a b:Ft},k<m->l[k]? = some a->l[m]? = some b->bitD D (i+m) (i+k)=true\/chkPair a b=true
 | [],_,_,_,_,_,_,_,ha,_=>by simp at ha
 | c::l,i,h,k,m,a,b,hkm,ha,hb=>by
   simp only [chkFts,bA] at h;obtain ⟨m,rfl⟩:∃m',m=m'+1:=⟨m-1,by omega⟩
   simp at hb;cases k with
   | zero=>
     simp at ha;subst ha;have:=chkFrom_spec h.1 hb
     rwa [show i+(m+1)=i+1+m by omega]
   | succ k=>
     simp at ha;have:=chkFts_spec (l:=l) h.2 (k:=k) (m:=m) (by omega) ha hb
     rwa [show i+(m+1)=i+1+m by omega,show i+(k+1)=i+1+k by omega]
def InOwn (f:Ft) (id:Nat):Prop:=f.lo≤id/\id<f.hi
theorem not_memB {x:Nat} {l:List Nat} (h:(!memB x l)=true):x ∉ l:=fun hm=>by rw [memB_iff.2 hm] at h;cases h
theorem chkPair_spec {a b:Ft} (h:chkPair a b=true):(∀id,id∈a.wr->id ∉ b.rd/\id ∉ b.wr)/\(∀id,id∈b.wr->id ∉ a.rd/\¬InOwn a id)/\(∀id,id∈b.rd->¬InOwn a id):=by
 simp only [chkPair,bA,List.all_eq_true] at h;have own:∀id,(!(Nat.ble a.lo id&&Nat.blt id a.hi))=true->¬InOwn a id:=by rintro id hn ⟨h1,h2⟩;have e1:Nat.ble a.lo id=true:=nB h1;have e2:Nat.blt id a.hi=true:=nB h2;rw [e1,e2] at hn;cases hn
 refine ⟨fun id hi => ?_,fun id hi => ?_,fun id hi=>own id (h.2 id hi)⟩
 · have:=h.1.1 id hi;exact ⟨not_memB this.1,not_memB this.2⟩
 · have:=h.1.2 id hi;exact ⟨not_memB this.1,own id this.2⟩
structure Reg (cx:Cx) (call:CallE) (fp:Fp) (ops:List Oper) (D:Array Nat) (σ τ:Nat->St):Prop where
 stat0:∀j o,ops[j]? = some o->Stat fp ops j (σ j).mark (τ j) o
 nxt:∀j,j<ops.length->σ (j+1)={ τ j with h:=(σ j).h.back (τ j).h }
 edges:chkEdges ops D=true
 tmp:chkTmp ops D=true
 dst:chkDst ops=true
 pairs:∀{k m:Nat},k<m->m<ops.length->bitD D m k=true\/chkPair ⟨(τ k).h.rd,(τ k).h.wr,(σ k).h.next,(τ k).h.next⟩ ⟨(τ m).h.rd,(τ m).h.wr,(σ m).h.next,(τ m).h.next⟩=true
 lo:LoOK (σ 0)
 bnd:∀id b,(σ 0).h.m.get id=some b->id<(σ 0).h.next
theorem evalOpsD_states {cx:Cx} {call:CallE} {fp:Fp} {ops:List Oper}:∀(l:List Oper) (i:Nat) (st st':St) (fs:List Ft),evalOpsD cx call fp ops i l st=some (st',fs) ->
 ∃σ τ:Nat->St,σ i=st/\σ (i+l.length)=st'/\(∀j o,l[j]? = some o->stepOp cx call fp (i+j) ops (σ (i+j)).mark o=some (τ (i+j))/\σ (i+j+1)={ τ (i+j) with h:=(σ (i+j)).h.back (τ (i+j)).h }) /\
  fs.length=l.length/\∀j,j<l.length->fs[j]? = some ⟨(τ (i+j)).h.rd,(τ (i+j)).h.wr,(σ (i+j)).h.next,(τ (i+j)).h.next⟩
 | [],i,st,st',fs,h=>by simp only [evalOpsD,oI,pI] at h;obtain ⟨rfl,rfl⟩:=h;exact ⟨fun _=>st,fun _=>st,rfl,rfl,fun j o hj=>by simp at hj,rfl,fun j hj=>by simp at hj⟩
 | o::l,i,st,st',fs,h=>by
   simp only [evalOpsD] at h;split at h
   · cases h
   · rename_i t1 h1;split at h
     · cases h
     · rename_i s l' h2;simp only [oI,pI] at h;obtain ⟨rfl,rfl⟩:=h;obtain ⟨σ,τ,e1,e2,e3,e4,e5⟩:=evalOpsD_states l (i+1) _ _ _ h2;refine ⟨fun k=>if k=i then st else σ k,fun k=>if k=i then t1 else τ k,by simp,?_,?_,by simp [e4],?_⟩
       · simp only [List.length_cons];rw [if_neg (by omega),show i+(l.length+1)=i+1+l.length by omega,e2]
       · intro j o' hj;cases j with
         | zero=>
           simp at hj;subst hj;simp only [Nat.add_zero,if_true];rw [if_neg (by omega),e1]
           exact ⟨h1,rfl⟩
         | succ j=>
           simp at hj;have:=e3 j o' hj;rw [show i+(j+1)=i+1+j by omega]
           simp only;rw [if_neg (by omega),if_neg (by omega),if_neg (by omega)]
           exact this
       · intro j hj;cases j with
         | zero=>simp
         | succ j=>
           simp only [List.getElem?_cons_succ];rw [e5 j (by simpa using hj),show i+(j+1)=i+1+j by omega]
           rw [if_neg (by omega),if_neg (by omega)]
section
variable {cx:Cx} {call:CallE} {fp:Fp} {S:Nat->Prop} {ops:List Oper} {D:Array Nat} {σ τ:Nat->St} {Q:Exit->Act->World->Prop}
theorem mk_lo (s:St):LoOK s.mark:=Nat.le_refl _
theorem Reg.stat (R:Reg cx call fp ops D σ τ) (hC:CallOK cx.P call) {j:Nat} {o:Oper} (ho:ops[j]? = some o):Stat fp ops j (σ j).mark (τ j) o:=R.stat0 j o ho
theorem Reg.extT (R:Reg cx call fp ops D σ τ) (hC:CallOK cx.P call) {j:Nat} (hj:j<ops.length):Ext (σ j).h.mark (τ j).h:=
 (R.stat hC (List.getElem?_eq_getElem hj)).ext (Nat.le_refl _)
theorem Reg.next (R:Reg cx call fp ops D σ τ) {j:Nat} (hj:j<ops.length):σ (j+1)={ τ j with h:=(σ j).h.back (τ j).h }:=R.nxt j hj
theorem Reg.m (R:Reg cx call fp ops D σ τ) {j:Nat} (hj:j<ops.length):(σ (j+1)).h.m=(τ j).h.m:=by rw [R.next hj];rfl
theorem Reg.nx (R:Reg cx call fp ops D σ τ) {j:Nat} (hj:j<ops.length):(σ (j+1)).h.next=(τ j).h.next:=by rw [R.next hj];rfl
theorem Reg.lok (R:Reg cx call fp ops D σ τ) (hC:CallOK cx.P call):∀{k:Nat},k≤ops.length->LoOK (σ k)/\ExtS (σ 0) (σ k)
 | 0,_=>⟨R.lo,ExtS.refl _⟩
 | k+1,hk=>by
   obtain ⟨h1,h2⟩:=R.lok hC (k:=k) (by omega)
   have hkl:k<ops.length:=by omega
   have ho:=List.getElem?_eq_getElem hkl;have hx:ExtS (σ k).mark (τ k):=(R.stat hC ho).exts (mk_lo _);have hb:ExtS (σ k) (σ (k+1)):=by rw [R.next hkl];exact ⟨back_ext h1 hx.h,hx.vars,hx.vconds,hx.defs,hx.ok⟩
   exact ⟨hb.lo h1,h2.trans hb⟩
theorem Reg.ext (R:Reg cx call fp ops D σ τ) (hC:CallOK cx.P call):∀{k i:Nat},i≤k->k≤ops.length->Ext (σ i).h (σ k).h
 | 0,i,hik,_=>by rw [show i=0 by omega];exact Ext.refl _
 | k+1,i,hik,hk=>by
   by_cases e:i=k+1
   · rw [e];exact Ext.refl _
   · have h1:=R.ext hC (k:=k) (i:=i) (by omega) (by omega)
     refine h1.trans ?_;have hkl:k<ops.length:=by omega
     rw [R.next hkl];exact back_ext (R.lok hC (by omega)).1 (R.extT hC hkl)
theorem Reg.nle (R:Reg cx call fp ops D σ τ) (hC:CallOK cx.P call) {i k:Nat} (hik:i≤k) (hk:k≤ops.length):(σ i).h.next≤(σ k).h.next:=(R.ext hC hik hk).next
theorem Reg.bound (R:Reg cx call fp ops D σ τ) (hC:CallOK cx.P call) {k:Nat} (hk:k≤ops.length):∀id b,(σ k).h.m.get id=some b->id<(σ k).h.next:=
 (R.ext hC (Nat.zero_le k) hk).bnd R.bnd
theorem Reg.get (R:Reg cx call fp ops D σ τ) (hC:CallOK cx.P call) {i:Nat}:∀{k:Nat},i≤k->k≤ops.length->∀{s},(∀j,i≤j->j<k->dstOf ops j≠some s)->(σ k).get fp.km s=(σ i).get fp.km s
 | 0,hik,_,s,_=>by rw [show i=0 by omega]
 | k+1,hik,hk,s,hn=>by
   by_cases e:i=k+1
   · rw [e]
   · have hkl:k<ops.length:=by omega
     have ho:ops[k]? = some ops[k]:=List.getElem?_eq_getElem hkl;have h1:=(R.stat hC ho).get s (by
      have:=hn k (by omega) (by omega)
      unfold dstOf at this;rw [ho] at this;exact this)
     rw [R.next hkl];exact (show _=_ from h1).trans (R.get hC (by omega) (by omega) (fun j h1 h2=>hn j h1 (by omega)))
theorem Reg.blk (R:Reg cx call fp ops D σ τ) (hC:CallOK cx.P call) {i:Nat}:∀{k:Nat},i≤k->k≤ops.length->∀{id},id<(σ i).h.next->(∀j,i≤j->j<k->id ∉ (τ j).h.wr)->(σ k).h.m.get id=(σ i).h.m.get id
 | 0,hik,_,_,_,_=>by rw [show i=0 by omega]
 | k+1,hik,hk,id,hid,hn=>by
   by_cases e:i=k+1
   · rw [e]
   · have hkl:k<ops.length:=by omega
     rw [R.m hkl,(R.extT hC hkl).same id (Nat.lt_of_lt_of_le hid (R.nle hC (by omega) (by omega))) (hn k (by omega) (by omega))]
     exact R.blk hC (by omega) (by omega) hid (fun j h1 h2=>hn j h1 (by omega))
theorem Reg.wrF (R:Reg cx call fp ops D σ τ) (hC:CallOK cx.P call) {i:Nat} (hi:i<ops.length) {id:Nat} (hl:id<(σ 0).h.lo):(id∈(τ i).h.wr->id∈(σ ops.length).h.wr)/\(id∈(τ i).h.rd->id∈(σ ops.length).h.rd):=by
 have e:=R.ext hC (i:=i+1) (k:=ops.length) (by omega) (Nat.le_refl _)
 have hlo:(σ i).h.lo=(σ 0).h.lo:=(R.ext hC (Nat.zero_le i) (by omega)).lo
 refine ⟨fun hw=>e.wr id ?_,fun hr=>e.rd id ?_⟩
 · rw [R.next hi];exact mem_noteAll.2 (.inl ⟨hw,by rw [hlo];exact hl⟩)
 · rw [R.next hi];exact mem_noteAll.2 (.inl ⟨hr,by rw [hlo];exact hl⟩)
def cut (N:Nat) (ν:Nu):Nu:=fun id=>if id<N then ν id else none
theorem cut_le (N:Nat) (ν:Nu):(cut N ν).le ν:=fun id b h=>by unfold cut at h;split at h;exact h;cases h
theorem cut_mono {N M:Nat} {ν ν':Nu} (h:N≤M) (hl:ν.le ν'):(cut N ν).le (cut M ν'):=fun id b e=>by
 unfold cut at *;split at e
 · rw [if_pos (by omega)];exact hl id b e
 · cases e
theorem cut_some {N:Nat} {ν:Nu} {id:Nat} {b:Nat×Nat} (h:cut N ν id=some b):id<N/\ν id=some b:=by
 unfold cut at h;split at h
 · exact ⟨by assumption,h⟩
 · cases h
def Touches (σ τ:Nat->St) (j id:Nat):Prop:=id∈(τ j).h.wr\/((σ j).h.next≤id/\id<(τ j).h.next)
structure Inv (cx:Cx) (fp:Fp) (S:Nat->Prop) (ops:List Oper) (D:Array Nat) (σ τ:Nat->St) (a0:Act) (ν0:Nu) (w0:World) (listed:Array Bool) (ν:Nu) (a:Act) (w:World):Prop where
 closed:∀i,listed.getD i false=true->∀k,k<ops.length->bitD D i k=true->listed.getD k false=true
 lsize:listed.size=ops.length
 keep:∀s,(∀j,listed.getD j false=true->dstOf ops j≠some s)->a.tmps.getD s undef=a0.tmps.getD s undef
 ent:∀j d,listed.getD j false=true->dstOf ops j=some d->EntOK (cut (τ j).h.next ν) a.tmps d ((σ ops.length).get fp.km d)
 old:∀id,id<(σ 0).h.next->ν id=ν0 id
 dom:∀id b,ν id=some b->id<(σ 0).h.next\/∃j,listed.getD j false=true/\(σ j).h.next≤id/\id<(τ j).h.next
 lt:∀id r base,ν id=some (r,base)->r<w.heap.size
 inj:∀k,k≤ops.length->∀id b,(σ k).h.m.get id=some b->b.rw=true->∀id' r base base',ν id=some (r,base)->ν id'=some (r,base')->id'=id
 seen:∀id k b,k≤ops.length->(S id\/(σ 0).h.lo≤id)->(∀j,j<ops.length->Touches σ τ j id->(listed.getD j false=true↔j<k))->(σ k).h.m.get id=some b->Seen (cut (σ k).h.next ν) w id b
 new:∀id r base,ν0 id=none->ν id=some (r,base)->w0.heap.size≤r
 os:w.os=w0.os
 tape:w.tape=w0.tape
 output:w.output=w0.output
 wsize:w0.heap.size≤w.heap.size
 block:∀r,r<w0.heap.size->(∀id base,ν0 id=some (r,base)->id<(σ 0).h.lo/\id ∉ (σ ops.length).h.wr)->w.heap[r]? = w0.heap[r]?
 size:a.tmps.size=fp.nt
 defers:a.defers=a0.defers
variable {a0:Act} {ν0 ν:Nu} {listed:Array Bool} {a:Act} {w w0:World}
theorem listed_lt {listed:Array Bool} {j:Nat} (h:listed.getD j false=true):j<listed.size:=by
 by_cases hl:j<listed.size
 · exact hl
 · simp [Array.getD_eq_getD_getElem?,hl] at h
theorem getD_true_false {listed:Array Bool} {j:Nat} (h:listed.getD j true=false):listed.getD j false=false/\j<listed.size:=by
 by_cases hl:j<listed.size
 · simp [Array.getD_eq_getD_getElem?,hl] at h ⊢;exact h
 · simp [Array.getD_eq_getD_getElem?,hl] at h
theorem getD_set {listed:Array Bool} {i j:Nat} (hi:i<listed.size):(listed.setIfInBounds i true).getD j false=if j=i then true else listed.getD j false:=by
 by_cases e:j=i
 · subst e;simp [Array.getD_eq_getD_getElem?,hi]
 · rw [if_neg e];simp [Array.getD_eq_getD_getElem?,Array.getElem?_setIfInBounds_ne (Ne.symm e)]
theorem Inv.deps (R:Reg cx call fp ops D σ τ) (v:Inv cx fp S ops D σ τ a0 ν0 w0 listed ν a w) {i:Nat} (hr:i∈Region.ready .any ops.toArray listed) {k:Nat} (hk:k<ops.length)
 (hd:bitD D i k=true):listed.getD k false=true:=by
 obtain ⟨_,o,ho,hall⟩:=mem_ready.1 hr;have ho:ops[i]? = some o:=by simpa using ho
 obtain ⟨e,he,hb,h1⟩:=D_edge R.edges ho hk hd;have hl:=hall e he hb;rcases h1 with rfl|h1
 · exact hl
 · exact v.closed e.on hl k hk h1
theorem EntOK.mono {ν ν':Nu} {tmps:Array Value} {s:Nat} {e:Ent} (hl:ν.le ν') (h:EntOK ν tmps s e):EntOK ν' tmps s e:=⟨fun hh=>V.rel_mono hl (h.1 hh),h.2⟩
theorem Inv.need (hC:CallOK cx.P call) (R:Reg cx call fp ops D σ τ)
 (hrd:∀i,i∈(σ ops.length).h.rd->S i) (hwr:∀i,i∈(σ ops.length).h.wr->S i) (hgl:∀o,o∈ops->OpGl o (σ 0).h)
 (h0:Rel cx.P fp S ops 0 (σ 0) ν0 a0 w0) (v:Inv cx fp S ops D σ τ a0 ν0 w0 listed ν a w)
 {i:Nat} {o:Oper} (hr:i∈Region.ready .any ops.toArray listed) (ho:ops[i]? = some o) :
 Need fp (fun id=>id∈(τ i).h.rd\/id∈(τ i).h.wr) ops (σ i).mark o (cut (σ i).h.next ν) a w:=by
 have hun:=getD_true_false (mem_ready.1 hr).1;have hil:i<ops.length:=by rw [← v.lsize];exact hun.2
 have hmem:o∈ops:=List.mem_of_getElem? ho;have hdeps:=fun {k} hk hd=>v.deps R hr (k:=k) hk hd;have hdi:dstOf ops i=o.dst:=by unfold dstOf;rw [ho]
 have hlA:∀j,listed.getD j false=true->j≠i:=fun j hj e=>by rw [e] at hj;rw [hun.1] at hj;cases hj
 have hextT:=R.extT hC hil;have hN0:(σ 0).h.next≤(σ i).h.next:=R.nle hC (Nat.zero_le i) (Nat.le_of_lt hil);have hNi:(σ i).h.next≤(τ i).h.next:=hextT.next;have hlo0:(σ 0).h.lo≤(σ 0).h.next:=R.lo;have hslot:∀s,s∈looks ops i->EntOK (cut (σ i).h.next ν) a.tmps s ((σ i).get fp.km s):=by
  intro s hs;by_cases hex:∃j,j<i/\dstOf ops j=some s
  · obtain ⟨j,hj,hdj⟩:=hex;have hD:=(chkTmp_spec R.tmp hil hdj hs (by omega)).1 hj
    have hl:=hdeps (by omega) hD
    have e:(σ ops.length).get fp.km s=(σ i).get fp.km s:=R.get hC (Nat.le_of_lt hil) (Nat.le_refl _) (fun k h1 h2 hdk=>by have:=chkDst_inj R.dst hdk hdj;omega)
    rw [← e];refine (v.ent j s hl hdj).mono (cut_mono ?_ (Nu.le_refl _));rw [← R.nx (by omega)]
    exact R.nle hC (by omega) (Nat.le_of_lt hil)
  · have hno:∀j,j<i->dstOf ops j≠some s:=fun j hj hdj=>hex ⟨j,hj,hdj⟩;have e:(σ i).get fp.km s=(σ 0).get fp.km s:=R.get hC (Nat.zero_le _) (Nat.le_of_lt hil) (fun j _ h2=>hno j h2);have hk:a.tmps.getD s undef=a0.tmps.getD s undef:=v.keep s (fun j hj hdj=>by
     rcases Nat.lt_trichotomy j i with h|h|h
     · exact hno j h hdj
     · exact hlA j hj h
     · have hD:=(chkTmp_spec R.tmp hil hdj hs (by omega)).2 h
       have:=v.closed j hj i hil hD;rw [hun.1] at this;cases this)
    have hc:((σ 0).get fp.km s).c=none:=by
     cases hc:((σ 0).get fp.km s).c with
     | none=>rfl
     | some p=>obtain ⟨sj,x⟩:=p;obtain ⟨j,hj,_⟩:=h0.conds s sj x hc;omega
    have hs0:=(h0.c.slots s).1 (by rw [hc];trivial)
    rw [e];refine ⟨fun _ => ?_,fun hno=>absurd (by rw [hc];trivial) hno⟩
    rw [hk];refine V.rel_mono ?_ hs0;intro id b hb;have hid:id<(σ 0).h.next:=by refine Classical.byContradiction fun hge => ?_;rw [h0.c.mem.nums.fresh id (by omega)] at hb;cases hb
    unfold cut;rw [if_pos (by omega),v.old id hid];exact hb
 have htouch:∀id,(id∈(τ i).h.rd\/id∈(τ i).h.wr)->id<(σ i).h.next->∀j,j<ops.length->Touches σ τ j id->(listed.getD j false=true↔j<i):=by
  intro id hid hlt j hj ht;rcases Nat.lt_trichotomy j i with h|h|h
  · refine ⟨fun _=>h,fun _ => ?_⟩;rcases R.pairs h hil with hD|hp
    · exact hdeps hj hD
    · obtain ⟨p1,p2,p3⟩:=chkPair_spec hp;rcases ht with ht|ht
      · have:=p1 id ht;rcases hid with hid|hid
        · exact absurd hid this.1
        · exact absurd hid this.2
      · rcases hid with hid|hid
        · exact absurd ht (p3 id hid)
        · exact absurd ht (p2 id hid).2
  · subst h;rw [hun.1];refine ⟨(fun h=>by cases h),fun h=>by omega⟩
  · refine ⟨fun hl => ?_,fun hl=>by omega⟩
    exfalso;rcases R.pairs h hj with hD|hp
    · have:=v.closed j hl i hil hD;rw [hun.1] at this;cases this
    · obtain ⟨p1,p2,p3⟩:=chkPair_spec hp;rcases ht with ht|ht
      · rcases hid with hid|hid
        · exact (p2 id ht).1 hid
        · exact (p1 id hid).2 ht
      · have:=R.nle hC (i:=i) (k:=j) (by omega) (by omega)
        omega
 have hgi:OpGl o (σ i).mark.h:=by intro g hg;have:=hgl o hmem g hg;show g∈(σ i).h.gl;rw [(R.ext hC (Nat.zero_le i) (Nat.le_of_lt hil)).gl];exact this
 let S':Nat->Prop:=fun id=>id∈(τ i).h.rd\/id∈(τ i).h.wr
 have hS':∀id,S' id->S id\/(σ 0).h.lo≤id:=by
  intro id hs;by_cases hl:id<(σ 0).h.lo
  · have:=R.wrF hC hil hl;rcases hs with hs|hs
    · exact .inl (hrd id (this.2 hs))
    · exact .inl (hwr id (this.1 hs))
  · exact .inr (by omega)
 have hmem':Mem S' (cut (σ i).h.next ν) w (σ i).mark.h:=by
  refine ⟨⟨fun id r base h=>v.lt id r base (cut_some h).2,?_,?_,R.bound hC (Nat.le_of_lt hil),Nat.le_refl _,?_⟩,?_⟩
  · intro id b hb hrw id' r base base' h1 h2;exact v.inj i (Nat.le_of_lt hil) id b hb hrw id' r base base' (cut_some h1).2 (cut_some h2).2
  · intro id hid;unfold cut;rw [if_neg (by have:(σ i).h.next≤id:=hid;omega)]
  · intro g hg;have hg:g∈(σ i).h.gl:=hg;rw [(R.ext hC (Nat.zero_le i) (Nat.le_of_lt hil)).gl] at hg;have h1:=h0.c.mem.nums.glob g hg;have hlt:g<(σ 0).h.next:=by
     refine Classical.byContradiction fun hge => ?_;rw [h0.c.mem.nums.fresh g (by omega)] at h1;cases h1
    unfold cut;rw [if_pos (by omega),v.old g hlt];exact h1
  · intro id b hb hs;have hb:(σ i).h.m.get id=some b:=hb;have hlt:=R.bound hC (Nat.le_of_lt hil) id b hb;rcases hs with hs|hs
    · exact v.seen id i b (Nat.le_of_lt hil) (hS' id hs) (htouch id hs hlt) hb
    · have hs:(σ i).h.next≤id:=hs;omega
 · refine ⟨hmem',fun s hs=>hslot s ?_,fun g hg=>hmem'.nums.glob g (hgi g hg),v.size⟩;rcases hs with hs|⟨j,want,hg,hdj⟩
   · exact mem_looks_op ho hs
   · exact mem_looks_guard ho hg hdj
theorem Inv.step (hE:EqOK cx) (hC:CallOK cx.P call) (R:Reg cx call fp ops D σ τ)
 (hrd:∀i,i∈(σ ops.length).h.rd->S i) (hwr:∀i,i∈(σ ops.length).h.wr->S i) (hgl:∀o,o∈ops->OpGl o (σ 0).h)
 (h0:Rel cx.P fp S ops 0 (σ 0) ν0 a0 w0) (v:Inv cx fp S ops D σ τ a0 ν0 w0 listed ν a w)
 {i:Nat} {o:Oper} (hr:i∈Region.ready .any ops.toArray listed) (ho:ops[i]? = some o) (hst:stepOp cx call fp i ops (σ i).mark o=some (τ i)) (hoki:okB (τ i).ok=true) {K:Act->World->Prop}
 (hK:∀ν' a' w',Inv cx fp S ops D σ τ a0 ν0 w0 (listed.setIfInBounds i true) ν' a' w'->K a' w'):wpOp cx.P ops.toArray Q i K a w:=by
 have hun:=getD_true_false (mem_ready.1 hr).1;have hil:i<ops.length:=by rw [← v.lsize];exact hun.2
 have hdeps:=fun {k} hk hd=>v.deps R hr (k:=k) hk hd;have hdi:dstOf ops i=o.dst:=by unfold dstOf;rw [ho]
 have hlA:∀j,listed.getD j false=true->j≠i:=fun j hj e=>by rw [e] at hj;rw [hun.1] at hj;cases hj
 have hextT:=R.extT hC hil;have hN0:(σ 0).h.next≤(σ i).h.next:=R.nle hC (Nat.zero_le i) (Nat.le_of_lt hil);have hNi:(σ i).h.next≤(τ i).h.next:=hextT.next;have hlo0:(σ 0).h.lo≤(σ 0).h.next:=R.lo;have hneed:=v.need hC R hrd hwr hgl h0 hr ho;have hmain:=stepOp_sound (Q:=Q) (K:=K) hE hC hst hoki hneed R.dst ho (fun _ h =>.inl h) (fun _ h =>.inr h) ?_
 · unfold wpOp;rw [show ops.toArray[i]? = some o by simpa using ho]
   simp only;split
   · rename_i hw;rw [if_pos hw] at hmain;exact .inl hmain
   · rename_i hw;rw [if_neg hw] at hmain;exact hmain
 · intro ν' a' w' L;obtain ⟨val,hput⟩:=L.put;have g:=L.goes;have hset:=fun j=>getD_set (listed:=listed) (i:=i) (j:=j) hun.2;let ν2:Nu:=fun id=>if (σ i).h.next≤id/\id<(τ i).h.next then ν' id else ν id
   have hν2:∀id,¬((σ i).h.next≤id/\id<(τ i).h.next)->ν2 id=ν id:=fun id h=>if_neg h;have hν2o:∀id,((σ i).h.next≤id/\id<(τ i).h.next)->ν2 id=ν' id:=fun id h=>if_pos h;have hun0:∀id,((σ i).h.next≤id/\id<(τ i).h.next)->ν id=none:=by
    intro id h;cases hx:ν id with
    | none=>rfl
    | some b=>
      exfalso;rcases v.dom id b hx with h1|⟨j,hj,h1,h2⟩
      · omega
      · have hjl:j<ops.length:=by rw [← v.lsize];exact listed_lt hj
        rcases Nat.lt_trichotomy j i with hji|hji|hji
        · have:=R.nle hC (i:=j+1) (k:=i) (by omega) (Nat.le_of_lt hil)
          rw [R.nx hjl] at this;omega
        · exact hlA j hj hji
        · have:=R.nle hC (i:=i+1) (k:=j) (by omega) (Nat.le_of_lt hjl)
          rw [R.nx hil] at this;omega
   have hle:ν.le ν2:=by
    intro id b hb;by_cases h:(σ i).h.next≤id/\id<(τ i).h.next
    · rw [hun0 id h] at hb;cases hb
    · rw [hν2 id h];exact hb
   have hcut:cut (τ i).h.next ν2=ν':=by
    funext id;unfold cut;split
    · rename_i hlt;by_cases h:(σ i).h.next≤id
      · exact hν2o id ⟨h,hlt⟩
      · rw [hν2 id (fun h'=>h h'.1)];have:=g.old id (by show id<(σ i).h.next;omega)
        rw [this];unfold cut;rw [if_pos (by omega)]
    · rename_i hge;exact (g.mem.nums.fresh id (by omega)).symm
   have hown:∀id r base,((σ i).h.next≤id/\id<(τ i).h.next)->ν2 id=some (r,base)->w.heap.size≤r/\r<w'.heap.size:=by intro id r base h hb;rw [hν2o id h] at hb;refine ⟨g.new id r base ?_ hb,g.mem.nums.lt id r base hb⟩;unfold cut;rw [if_neg (by omega)]
   have hne:∀j d,listed.getD j false=true->dstOf ops j=some d->o.dst≠some d:=by intro j d hj hdj hds;exact hlA j hj (chkDst_inj R.dst hdj (hdi.trans hds))
   have hcs:∀j,listed.getD j false=true->∀k sj want oj,k<j->dstOf ops k=some sj->ops[j]? = some oj->oj.guard=some (k,want)->o.dst≠some sj:=by
    intro j hj k sj want oj hk hdk hoj hg;have hjl:=listed_lt hj;rw [v.lsize] at hjl;have hD:=(chkTmp_spec R.tmp hjl hdk (mem_looks_guard hoj hg hdk) (by omega)).1 hk
    exact hne k sj (v.closed j hj k (by omega) hD) hdk
   have hcalm:∀r,r<w.heap.size->(∀id base,ν id=some (r,base)->id<(σ i).h.next->id ∉ (τ i).h.wr)->w'.heap[r]? = w.heap[r]? := by intro r hr hn;refine g.frm.block r hr fun id base hid => ?_;obtain ⟨h1,h2⟩:=cut_some hid;refine ⟨?_,hn id base h2 h1⟩;rw [hextT.lo];exact h1
   refine hK ν2 a' w' ?_;constructor
   case closed=>
    intro j hj k hk hD;rw [hset] at hj ⊢;by_cases e:k=i
    · rw [if_pos e]
    · rw [if_neg e];by_cases e':j=i
      · subst e';exact hdeps hk hD
      · rw [if_neg e'] at hj;exact v.closed j hj k hk hD
   case lsize=>simp [v.lsize]
   case keep=>
    intro s hs;have h1:o.dst≠some s:=fun hds=>hs i (by rw [hset,if_pos rfl]) (hdi.trans hds)
    rw [hput,getD_put_ne h1];exact v.keep s (fun j hj=>hs j (by rw [hset];split<;>first|rfl|exact hj))
   case ent=>
    intro j d hj hdj;rw [hset] at hj;by_cases e:j=i
    · subst e;have e1:(σ ops.length).get fp.km d=(σ (j+1)).get fp.km d:=R.get hC (by omega) (Nat.le_refl _) (fun k h1 h2 hdk=>by have:=chkDst_inj R.dst hdk hdj;omega)
      rw [e1,hcut,R.next hil];exact L.own d (hdi.symm.trans hdj)
    · rw [if_neg e] at hj;have h1:=hne j d hj hdj;obtain ⟨g1,g2⟩:=v.ent j d hj hdj;have hjl:=listed_lt hj;rw [v.lsize] at hjl;have hoj:ops[j]? = some ops[j]:=List.getElem?_eq_getElem hjl;have e1:(σ ops.length).get fp.km d=(σ (j+1)).get fp.km d:=R.get hC (by omega) (Nat.le_refl _) (fun k h1 h2 hdk=>by have:=chkDst_inj R.dst hdk hdj;omega)
      have hh:holds (a.put o.dst val).tmps ((σ ops.length).get fp.km d).c↔holds a.tmps ((σ ops.length).get fp.km d).c:=holds_put (fun sj x hc=>by
       rw [e1,R.next hjl] at hc;have hds:ops[j].dst=some d:=by unfold dstOf at hdj;rw [hoj] at hdj;exact hdj
       obtain ⟨k,hk,hdk,want,hg⟩:=(R.stat hC hoj).conds d sj x hds hc;exact hcs j hj k sj want _ hk hdk hoj hg)
      unfold EntOK;rw [hput,hh,getD_put_ne h1];exact ⟨fun h=>V.rel_mono (cut_mono (Nat.le_refl _) hle) (g1 h),g2⟩
   case old=>
    intro id hid;rw [hν2 id (by omega)]
    exact v.old id hid
   case dom=>
    intro id b hb;by_cases h:(σ i).h.next≤id/\id<(τ i).h.next
    · exact .inr ⟨i,by rw [hset,if_pos rfl],h⟩
    · rw [hν2 id h] at hb;rcases v.dom id b hb with h1|⟨j,hj,h1⟩
      · exact .inl h1
      · exact .inr ⟨j,by rw [hset];split<;>first|rfl|exact hj,h1⟩
   case lt=>
    intro id r base hb;by_cases h:(σ i).h.next≤id/\id<(τ i).h.next
    · exact (hown id r base h hb).2
    · rw [hν2 id h] at hb;exact Nat.lt_of_lt_of_le (v.lt id r base hb) g.frm.size
   case inj=>
    intro k hk id b hb hrw id' r base base' h1 h2;by_cases h:(σ i).h.next≤id/\id<(τ i).h.next
    · by_cases h':(σ i).h.next≤id'/\id'<(τ i).h.next
      · rw [hν2o id h] at h1;rw [hν2o id' h'] at h2;have hki:i+1≤k:=by
         refine Classical.byContradiction fun hlt => ?_;have h3:=R.bound hC hk id b hb;have h4:=R.nle hC (i:=k) (k:=i) (by omega) (Nat.le_of_lt hil)
         omega
        obtain ⟨b1,q1,q2⟩:=(R.ext hC hki hk).rw id b (by rw [R.nx hil];exact h.2) hb
        rw [R.m hil] at q1;exact g.mem.nums.inj id b1 q1 (q2.trans hrw) id' r base base' h1 h2
      · have h3:=(hown id r base h h1).1;rw [hν2 id' h'] at h2;have h4:=v.lt id' r base' h2;omega
    · by_cases h':(σ i).h.next≤id'/\id'<(τ i).h.next
      · have h3:=(hown id' r base' h' h2).1;rw [hν2 id h] at h1;have h4:=v.lt id r base h1;omega
      · rw [hν2 id h] at h1;rw [hν2 id' h'] at h2;exact v.inj k hk id b hb hrw id' r base base' h1 h2
   case seen=>
    intro id k b hk hS hcons hb;by_cases hti:Touches σ τ i id
    · have hik:i<k:=(hcons i hil hti).1 (by rw [hset,if_pos rfl])
      have hlt1:id<(σ (i+1)).h.next:=by
       rw [R.nx hil];rcases hti with h1|h1
       · have h2:id<(σ i).h.next:=hextT.wlo (fun _ h=>by cases h) id h1
         omega
       · exact h1.2
      have hnow:∀j,i+1≤j->j<k->id ∉ (τ j).h.wr:=by
       intro j h1 h2 hw;have hl:=(hcons j (by omega) (.inl hw)).2 h2
       rw [hset,if_neg (by omega)] at hl
       rcases R.pairs (k:=i) (m:=j) (by omega) (by omega) with hD|hp
       · have:=v.closed j hl i hil hD;rw [hun.1] at this;cases this
       · obtain ⟨p1,p2,_⟩:=chkPair_spec hp;rcases hti with ht|ht
         · exact (p1 id ht).2 hw
         · exact (p2 id hw).2 ht
      have e:=R.blk hC (i:=i+1) (by omega) hk hlt1 hnow
      rw [e,R.m hil] at hb;have hs:=g.mem.seen id b hb (by
       rcases hti with ht|ht
       · exact .inl (.inr ht)
       · refine .inr ?_;rw [hextT.lo];exact ht.1)
      rw [← hcut] at hs;refine hs.mono (cut_mono ?_ (Nu.le_refl _)) (fun _ _ _=>rfl);rw [← R.nx hil];exact R.nle hC (by omega) hk
    · have hs:=v.seen id k b hk hS (fun j hj ht=>by
       have:=hcons j hj ht;rw [hset] at this
       rwa [if_neg (fun e=>hti (by rw [← e];exact ht))] at this) hb
      refine hs.mono (cut_mono (Nat.le_refl _) hle) (fun r base hb' => ?_);have hb':=(cut_some hb').2;refine hcalm r (v.lt id r base hb') fun id' base' hb2 hlt hw => ?_;rcases hextT.wrw id' hw with h4|⟨b0,h4,h5⟩|h4
      · cases h4
      · have:=v.inj i (Nat.le_of_lt hil) id' b0 h4 h5 id r base' base hb2 hb';exact hti (.inl (by rw [this];exact hw))
      · have h4:(σ i).h.next≤id':=h4;omega
   case new=>
    intro id r base hn hb;by_cases h:(σ i).h.next≤id/\id<(τ i).h.next
    · exact Nat.le_trans v.wsize (hown id r base h hb).1
    · rw [hν2 id h] at hb;exact v.new id r base hn hb
   case os=>rw [g.frm.os];exact v.os
   case tape=>rw [g.frm.tape];exact v.tape
   case output=>rw [g.frm.output];exact v.output
   case wsize=>exact Nat.le_trans v.wsize g.frm.size
   case block=>
    intro r hr hn;rw [hcalm r (Nat.lt_of_lt_of_le hr v.wsize) ?_]
    · exact v.block r hr hn
    · intro id base hb hlt hw;have h1:ν0 id=some (r,base):=by
       cases hx:ν0 id with
       | none=>have:=v.new id r base hx hb;omega
       | some p=>
         have hlt0:id<(σ 0).h.next:=by refine Classical.byContradiction fun hge => ?_;rw [h0.c.mem.nums.fresh id (by omega)] at hx;cases hx
         rw [v.old id hlt0,hx] at hb;exact hb
      obtain ⟨h2,h3⟩:=hn id base h1;exact h3 ((R.wrF hC hil h2).1 hw)
   case size=>rw [hput,size_put];exact v.size
   case defers=>rw [hput,put_defers];exact v.defers
end
end Go.WE
end
