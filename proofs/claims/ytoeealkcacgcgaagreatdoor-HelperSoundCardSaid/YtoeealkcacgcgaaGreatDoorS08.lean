/- A part of a proof of the helpers' law; no condition of its own. -/
import Derived.LoopN
import Derived.Test.YtoeealkcacgcgaaGreatDoorS07
set_option linter.unusedVariables false
set_option maxRecDepth 100000
noncomputable section
namespace Go.WE
open Go
section
variable {cx:Cx} {call:CallE} {fp:Fp} {S:Nat->Prop} {ops:List Oper} {D:Array Nat} {σ τ:Nat->St} {Q:Exit->Act->World->Prop}
variable {a0:Act} {ν0 ν:Nu} {listed:Array Bool} {a:Act} {w w0:World}
theorem count_set_false:∀(l:List Bool) (i:Nat),l[i]? = some false->(l.set i true).count false+1=l.count false
 | [],i,h=>by simp at h
 | b::l,0,h=>by simp at h;subst h;simp
 | b::l,i+1,h=>by simp at h;have:=count_set_false l i h;simp only [List.set_cons_succ,List.count_cons];omega
theorem ready_nil {listed:Array Bool} (h:∀j,j<listed.size->listed.getD j false=true):Region.ready .any ops.toArray listed=[]:=by
 refine List.eq_nil_iff_forall_not_mem.2 (fun j hj => ?_);have:=getD_true_false (mem_ready.1 hj).1;have h2:=h j this.2;rw [this.1] at h2;cases h2
theorem ready_least (hc:chkEdges ops D=true) {listed:Array Bool} (hs:listed.size=ops.length) {j:Nat} (hj:j<ops.length) (hu:listed.getD j false=false)
 (hl:∀k,k<j->listed.getD k false=true):j∈Region.ready .any ops.toArray listed:=by
 refine mem_ready.2 ⟨?_,ops[j],by simp [hj],fun e he hb=>hl _ (edge_lt hc (List.getElem?_eq_getElem hj) he hb)⟩
 have:j<listed.size:=by omega
 simp [Array.getD_eq_getD_getElem?,this] at hu ⊢;exact hu
theorem Inv.rel (hC:CallOK cx.P call) (R:Reg cx call fp ops D σ τ) (h0:Rel cx.P fp S ops 0 (σ 0) ν0 a0 w0) (v:Inv cx fp S ops D σ τ a0 ν0 w0 listed ν a w)
 (hall:∀j,j<ops.length->listed.getD j false=true):CRel cx.P fp S (σ ops.length) ν a w/\Goes S ν0 w0 (σ 0).h ν w (σ ops.length).h:=by
 have hx:=R.ext hC (Nat.zero_le _) (Nat.le_refl ops.length);have hxs:=(R.lok hC (Nat.le_refl ops.length)).2;have hle:ν0.le ν:=by
  intro id b hb;have hid:id<(σ 0).h.next:=by refine Classical.byContradiction fun hge => ?_;rw [h0.c.mem.nums.fresh id (by omega)] at hb;cases hb
  rw [v.old id hid];exact hb
 have hm:Mem S ν w (σ ops.length).h:=by
  refine ⟨⟨v.lt,v.inj ops.length (Nat.le_refl _),?_,R.bound hC (Nat.le_refl _),(R.lok hC (Nat.le_refl _)).1,?_⟩,?_⟩
  · intro id hid;cases hb:ν id with
    | none=>rfl
    | some b=>
      exfalso;rcases v.dom id b hb with h1|⟨j,hj,h1,h2⟩
      · have:=hx.next;omega
      · have hjl:j<ops.length:=by rw [← v.lsize];exact listed_lt hj
        have:=R.nle hC (i:=j+1) (k:=ops.length) (by omega) (Nat.le_refl _)
        rw [R.nx hjl] at this;omega
  · intro g hg;rw [hx.gl] at hg;exact hle g _ (h0.c.mem.nums.glob g hg)
  · intro id b hb hs;have hs:S id\/(σ 0).h.lo≤id:=by rw [← hx.lo];exact hs
    exact (v.seen id ops.length b (Nat.le_refl _) hs (fun j hj _=>⟨fun _=>hj,fun _=>hall j hj⟩) hb).mono (cut_le _ _) (fun _ _ _=>rfl)
 have hc0:∀s,((σ 0).get fp.km s).c=none:=by
  intro s;cases hc:((σ 0).get fp.km s).c with
  | none=>rfl
  | some p=>obtain ⟨sj,x⟩:=p;obtain ⟨j,hj,_⟩:=h0.conds s sj x hc;omega
 have hdefs:∀k,k≤ops.length->(σ k).defs=(σ 0).defs:=by
  intro k
  induction k with
  | zero=>intro _;rfl
  | succ k ih=>
    intro hk;have hkl:k<ops.length:=by omega
    rw [R.next hkl];exact ((R.stat hC (List.getElem?_eq_getElem hkl)).defs).trans (ih (by omega))
 refine ⟨⟨hm,?_,hxs.vconds h0.c.vconds,v.size,?_⟩,⟨hle,hm,⟨v.os,v.tape,v.output,v.wsize,fun r hr hn=>v.block r hr fun id base hb => ?_⟩,v.new,hx,v.old⟩⟩
 · intro s;by_cases hex:∃j,j<ops.length/\dstOf ops j=some s
   · obtain ⟨j,hj,hdj⟩:=hex;exact (v.ent j s (hall j hj) hdj).mono (cut_le _ _)
   · have hno:∀j,j<ops.length->dstOf ops j≠some s:=fun j hj hdj=>hex ⟨j,hj,hdj⟩;have e:=R.get hC (i:=0) (k:=ops.length) (Nat.zero_le _) (Nat.le_refl _) (s:=s) (fun j _ h2=>hno j h2);have hk:a.tmps.getD s undef=a0.tmps.getD s undef:=v.keep s (fun j hj=>hno j (by rw [← v.lsize];exact listed_lt hj))
     have hs0:=(h0.c.slots s).1 (by rw [hc0];trivial)
     rw [e];refine ⟨fun _ => ?_,fun hno=>absurd (by rw [hc0];trivial) hno⟩
     rw [hk];exact V.rel_mono hle hs0
 · rw [hdefs _ (Nat.le_refl _),v.defers];exact h0.c.defers.mono hle
 · have:=hn id base hb;rw [hx.lo] at this;exact this
theorem anyAll (hE:EqOK cx) (hC:CallOK cx.P call) (R:Reg cx call fp ops D σ τ) (hst:∀j o,ops[j]? = some o->stepOp cx call fp j ops (σ j).mark o=some (τ j)) (hokj:∀j,j<ops.length->okB (τ j).ok=true)
 (hrd:∀i,i∈(σ ops.length).h.rd->S i) (hwr:∀i,i∈(σ ops.length).h.wr->S i) (hgl:∀o,o∈ops->OpGl o (σ 0).h)
 (h0:Rel cx.P fp S ops 0 (σ 0) ν0 a0 w0) (hQ:∀ν a w,CRel cx.P fp S (σ ops.length) ν a w->Goes S ν0 w0 (σ 0).h ν w (σ ops.length).h->Q .normal a w) :
 ∀(f:Nat) (listed:Array Bool) (ν:Nu) (a:Act) (w:World),listed.toList.count false=f->Inv cx fp S ops D σ τ a0 ν0 w0 listed ν a w->wpAny cx.P .any ops.toArray Q f listed a w:=by
 intro f
 induction f with
 | zero=>
   intro listed ν a w hf v;have hall:∀j,j<ops.length->listed.getD j false=true:=by
    intro j hj;have h1:=List.count_eq_zero.1 hf;have:j<listed.size:=by rw [v.lsize];exact hj
    cases hx:listed.getD j false with
    | true=>rfl
    | false=>
      refine absurd ?_ h1;simp [Array.getD_eq_getD_getElem?,this] at hx;rw [← hx];simp
   obtain ⟨h1,h2⟩:=v.rel hC R h0 hall;exact ⟨ready_nil (fun j hj=>hall j (by rw [← v.lsize];exact hj)),hQ ν a w h1 h2⟩
 | succ f ih=>
   intro listed ν a w hf v;have hex:∃j,j<ops.length/\listed.getD j false=false:=by
    refine Classical.byContradiction fun hno => ?_;have:listed.toList.count false=0:=List.count_eq_zero.2 fun hm=>by
     obtain ⟨j,hj,he⟩:=List.getElem_of_mem hm;refine hno ⟨j,by rw [← v.lsize];simpa using hj,?_⟩
     have hj':j<listed.size:=by simpa using hj
     simp [Array.getD_eq_getD_getElem?,hj'];simpa using he
    omega
   have hleast:∃j,j<ops.length/\listed.getD j false=false/\∀k,k<j->listed.getD k false=true:=by
    obtain ⟨j,hj⟩:=hex
    induction j using Nat.strongRecOn with
    | _ j ihj=>
      by_cases hk:∃k,k<j/\listed.getD k false=false
      · obtain ⟨k,hkj,hku⟩:=hk;exact ihj k hkj ⟨by omega,hku⟩
      · refine ⟨j,hj.1,hj.2,fun k hkj => ?_⟩;cases hx:listed.getD k false with
        | true=>rfl
        | false=>exact absurd ⟨k,hkj,hx⟩ hk
   obtain ⟨j,hjm,hju,hjl⟩:=hleast;refine ⟨fun h0' => ?_,fun i hi => ?_⟩
   · have:=ready_least (D:=D) R.edges v.lsize hjm hju hjl;rw [h0'] at this;cases this
   · have hiu:=getD_true_false (mem_ready.1 hi).1;have hil:i<ops.length:=by rw [← v.lsize];exact hiu.2
     have hio:ops[i]? = some ops[i]:=List.getElem?_eq_getElem hil;refine v.step hE hC R hrd hwr hgl h0 hi hio (hst i _ hio) (hokj i hil) (fun ν' a' w' v'=>ih _ ν' a' w' ?_ v');have h1:listed.toList[i]? = some false:=by have:=hiu.1;simp [Array.getD_eq_getD_getElem?,hiu.2] at this;simp [hiu.2,this]
     have:=count_set_false listed.toList i h1;rw [Array.toList_setIfInBounds];omega
theorem CRel.start {st:St} (h:CRel cx.P fp S st ν a w) (ops:List Oper):Rel cx.P fp S ops 0 { st with tmps:=[] } ν a w:=by
 refine ⟨⟨h.mem,fun s => ?_,h.vconds,h.size,h.defers⟩,fun s sj x hc => ?_⟩
 · cases hd:bitB fp.km s
   · rw [get_false hd];exact ⟨fun _=>by simp [getT,V.rel,T.relV,A.rel],fun hno=>absurd (by simp [getT,holds]) hno⟩
   · have:=h.slots s;rw [get_true hd] at this;rw [get_true hd];exact this
 · cases hd:bitB fp.km s
   · rw [get_false hd] at hc;simp [getT] at hc
   · rw [get_true hd] at hc;have:=h.vconds s;rw [show varsGet ({ st with tmps:=[] }:St).vars s=varsGet st.vars s from rfl,this] at hc
     cases hc
theorem Mem.drew {st:St} (h:Mem S ν w st.h):Mem S ν { w with drawn:=w.drawn+1 } st.h:=⟨⟨h.nums.lt,h.nums.inj,h.nums.fresh,h.nums.bound,h.nums.lo,h.nums.glob⟩,h.seen⟩
theorem CRel.drew {st:St} (h:CRel cx.P fp S st ν a w):CRel cx.P fp S st ν a { w with drawn:=w.drawn+1 }:=⟨h.mem.drew,h.slots,h.vconds,h.size,h.defers⟩
theorem Goes.undrew {h h':H} {w':World} {ν':Nu} (g:Goes S ν { w with drawn:=w.drawn+1 } h ν' w' h'):Goes S ν w h ν' w' h':=
 ⟨g.le,g.mem,⟨g.frm.os,g.frm.tape,g.frm.output,g.frm.size,g.frm.block⟩,g.new,g.ext,g.old⟩
theorem notmps_exts {st st':St} (h:ExtS { st with tmps:=[] } st'):ExtS st st':=⟨h.h,h.vars,h.vconds,h.defs,h.ok⟩
theorem stall_stat {st:St} {o:Oper} {ok:A} {rd:List Nat} {j:Nat}:Stat fp ops j st.mark (st.stall fp.km o ok rd) o:=by
 unfold St.stall;refine ⟨fun s hs => ?_,fun d sj x hds hc => ?_,fun hlo => ?_,fun hok => ?_,put_defs,put_vars.1,fun hv=>put_vars.2 hv⟩
 · rw [get_put_ne hs];exact get_of_eq rfl rfl s
 · rw [hds,get_put_eq] at hc;have:=entPut_c hc;cases this
 · rw [put_h];exact ⟨rfl,Nat.le_refl _,fun _ h=>(by cases h),fun _ h=>h,fun _ _ _=>rfl,fun _ b _ hb=>⟨b,hb,rfl⟩,fun _ h =>.inl h,rfl,fun h=>h,fun h=>h⟩
 · rw [put_ok] at hok;exact (andOk_true hok).1
theorem stall_h {km:Nat} {st:St} {o:Oper} {ok:A} {rd:List Nat}:(st.stall km o ok rd).h={ st.h.mark with rd:=rd }:=by
 unfold St.stall;rw [put_h]
theorem stall_ok {km:Nat} {st:St} {o:Oper} {ok:A} {rd:List Nat}:(st.stall km o ok rd).ok=andOk st.ok ok:=by
 unfold St.stall;rw [put_ok]
def PStep (cx:Cx) (call:CallE) (fp:Fp) (ops:List Oper) (D:Array Nat) (p:Nat) (v:A) (k:Nat) (o:Oper) (s t:St):Prop:=
 (k=p/\∃ok hp,evalPanOp cx call fp s o=some (ok,v,hp)/\hp.wr=[]/\plainP v=true/\t=s.stall fp.km o ok hp.rd) \/
   (k≠p/\(stepOp cx call fp k ops s.mark o=some t\/(bitD D k p=true/\t=s.stall fp.km o .tt [])))
theorem evalOpsP_states:∀(l:List Oper) (i:Nat) (q:Option (Nat×A)) (st st':St) (fs:List Ft) (p:Nat) (v:A),evalOpsP cx call fp ops D i l q st=some (st',fs,p,v)->(∀p' v',q=some (p',v')->p'<i) ->
 ∃σ τ:Nat->St,σ i=st/\σ (i+l.length)=st'/\(∀j o,l[j]? = some o->PStep cx call fp ops D p v (i+j) o (σ (i+j)) (τ (i+j))/\σ (i+j+1)={ τ (i+j) with h:=(σ (i+j)).h.back (τ (i+j)).h }/\(τ (i+j)).h.wr=[]) /\
  fs.length=l.length/\(∀j,j<l.length->fs[j]? = some ⟨(τ (i+j)).h.rd,(τ (i+j)).h.wr,(σ (i+j)).h.next,(τ (i+j)).h.next⟩)/\(q=some (p,v)\/(q=none/\i≤p/\p<i+l.length))
 | [],i,q,st,st',fs,p,v,h,hq=>by
   simp only [evalOpsP] at h;split at h
   · cases h
   · simp only [oI,pI] at h;obtain ⟨rfl,rfl,rfl,rfl⟩:=h;exact ⟨fun _=>st,fun _=>st,rfl,rfl,fun j o hj=>by simp at hj,rfl,fun j hj=>by simp at hj,.inl rfl⟩
 | o::l,i,q,st,st',fs,p,v,h,hq=>by
   simp only [evalOpsP] at h;split at h
   · cases h
   · rename_i q1 t1 h1;split at h
     · rename_i hwr;split at h
       · cases h
       · rename_i s l' r h2;simp only [oI,pI] at h;obtain ⟨rfl,rfl,rfl⟩:=h;have hkey:(∀p' v',q1=some (p',v')->p'<i+1)/\((q1=some (p,v)\/(q1=none/\i+1≤p/\p<i+1+l.length))->PStep cx call fp ops D p v i o st t1/\(q=some (p,v)\/(q=none/\i≤p/\p<i+(l.length+1)))):=by
          unfold stepP at h1;split at h1
          · rename_i hw;simp only [oI,pI] at h1;obtain ⟨rfl,rfl⟩:=h1;refine ⟨fun p' v' e=>Nat.lt_succ_of_lt (hq p' v' e),fun hh => ?_⟩;unfold waitsP at hw;split at hw
            · rename_i p0 v0;rcases hh with hh|⟨hh,_⟩
              · cases hh;have:=hq p v rfl;exact ⟨.inr ⟨by omega,.inr ⟨hw,rfl⟩⟩,.inl rfl⟩
              · cases hh
            · cases hw
          · split at h1
            · rename_i t2 hst;simp only [oI,pI] at h1;obtain ⟨rfl,rfl⟩:=h1;refine ⟨fun p' v' e=>Nat.lt_succ_of_lt (hq p' v' e),fun hh => ?_⟩;rcases hh with hh|⟨hh,h3,h4⟩
              · have:=hq p v hh;exact ⟨.inr ⟨by omega,.inl hst⟩,.inl hh⟩
              · exact ⟨.inr ⟨by omega,.inl hst⟩,.inr ⟨hh,by omega,by omega⟩⟩
            · split at h1
              · cases h1
              · split at h1
                · rename_i ok v0 hp hpan;split at h1
                  · rename_i hw0 hpl;simp only [oI,pI] at h1;obtain ⟨rfl,rfl⟩:=h1;refine ⟨fun p' v' e=>by cases e;omega,fun hh => ?_⟩
                    rcases hh with hh|⟨hh,_⟩
                    · cases hh;exact ⟨.inl ⟨rfl,ok,hp,hpan,hw0,hpl,rfl⟩,.inr ⟨rfl,Nat.le_refl _,by omega⟩⟩
                    · cases hh
                  · cases h1
                · cases h1
         obtain ⟨σ,τ,e1,e2,e3,e4,e5,e6⟩:=evalOpsP_states l (i+1) _ _ _ _ _ _ h2 hkey.1;obtain ⟨k1,k2⟩:=hkey.2 e6;refine ⟨fun k=>if k=i then st else σ k,fun k=>if k=i then t1 else τ k,by simp,?_,?_,by simp [e4],?_,k2⟩
         · simp only [List.length_cons];rw [if_neg (by omega),show i+(l.length+1)=i+1+l.length by omega,e2]
         · intro j o' hj;cases j with
           | zero=>
             simp at hj;subst hj;simp only [Nat.add_zero,if_true];rw [if_neg (by omega),e1]
             exact ⟨k1,rfl,hwr⟩
           | succ j=>
             simp at hj;have:=e3 j o' hj;rw [show i+(j+1)=i+1+j by omega]
             simp only;rw [if_neg (by omega),if_neg (by omega),if_neg (by omega)]
             exact this
         · intro j hj;cases j with
           | zero=>simp
           | succ j=>
             simp only [List.getElem?_cons_succ];rw [e5 j (by simpa using hj),show i+(j+1)=i+1+j by omega]
             rw [if_neg (by omega),if_neg (by omega)]
     · cases h
theorem plainP_rel {v:A} {u:Value} {ν':Nu} (hp:plainP v=true) (h:v.rel ν u):v.rel ν' u:=by
 unfold plainP at hp;split at hp
 · simp only [A.rel] at h ⊢;exact h
 · simp only [A.rel] at h ⊢;exact h
 · cases hp
structure Calm (w w':World):Prop where
 os:w'.os=w.os
 tape:w'.tape=w.tape
 output:w'.output=w.output
 size:w.heap.size≤w'.heap.size
 block:∀r,r<w.heap.size->w'.heap[r]? = w.heap[r]?
theorem Inv.panics (hC:CallOK cx.P call) (R:Reg cx call fp ops D σ τ)
 (hrd:∀i,i∈(σ ops.length).h.rd->S i) (hwr:∀i,i∈(σ ops.length).h.wr->S i) (hgl:∀o,o∈ops->OpGl o (σ 0).h)
 (h0:Rel cx.P fp S ops 0 (σ 0) ν0 a0 w0) (v:Inv cx fp S ops D σ τ a0 ν0 w0 listed ν a w)
 {i:Nat} {o:Oper} (hr:i∈Region.ready .any ops.toArray listed) (ho:ops[i]? = some o) {ok pv:A} {hp:H} (he:evalPanOp cx call fp (σ i) o=some (ok,pv,hp)) (hok:okB ok=true) (hw0:hp.wr=[]) (hpl:plainP pv=true) (hτ:(τ i).h.rd=hp.rd)
 {K:Act->World->Prop} (hQ:∀u w',pv.rel ν0 u->Calm w w'->Q (.panic [{ v:=u,recovered:=false }]) a w'):wpOp cx.P ops.toArray Q i K a w:=by
 have hneed:=v.need hC R hrd hwr hgl h0 hr ho;unfold evalPanOp at he;split at he
 · rename_i c hgd hop;split at he
   · rename_i ok' pv' hp' hcall;simp only [oI,pI] at he;obtain ⟨rfl,rfl,rfl⟩:=he;unfold wpOp;rw [show ops.toArray[i]? = some o by simpa using ho]
     simp only;rw [if_pos (by simp [Region.wanted,hgd])]
     left;have hslots:Slots (cut (σ i).h.next ν) a.tmps ((σ i).get fp.km) o.op.operands.toList:=fun s hm hc=>(hneed.slots s (.inl hm)).1 hc;have hglob:Glob (cut (σ i).h.next ν) o.op.operands.toList:=hneed.glob;rw [hop] at hslots hglob;unfold evalCallR at hcall;split at hcall
     · cases hcall
     · rename_i vs hvs;split at hcall
       · rename_i f hcal;split at hcall
         · rename_i f' caps hf;obtain ⟨us,hus,d,hres,_,hinv⟩:=call_run (P:=cx.P) (a:=a) hvs hcal hf hslots hglob o.type;have hpk:(call f' (vs++caps.map fun x =>.t (.a x)) (σ i).h.mark).pickP=some (ok',pv',hp'):=by rw [hcall];rfl
           obtain ⟨hent,hfn⟩:=hC.pan _ _ _ _ _ _ hpk hok;have hsem:execOp a.eval o=(do let d ← resolve a.eval c o.type;invoke d.target d.args):=by unfold execOp;rw [hop]
           refine wp_of_enterP (f:=f') (args:=us.toArray) (by rw [hsem,Sem.run_bind,hres w];simp only [Result.andThen_ok];rw [hinv w];exact hent _ w) ?_
           refine (hfn _ _ w us (fun i hi =>.inl (by rw [hτ];exact hi)) (fun i hi=>by rw [hw0] at hi;cases hi) hneed.mem hus).mono ?_
           rintro e' w' ⟨u,ν',rfl,hu,hg⟩;refine ⟨u,rfl,hQ u w' (plainP_rel hpl hu) ⟨hg.frm.os,hg.frm.tape,hg.frm.output,hg.frm.size,fun r hr=>hg.frm.block r hr fun id base hid => ?_⟩⟩;refine ⟨?_,by rw [hw0];simp⟩
           rw [hg.ext.lo];exact (cut_some hid).1
         · cases hcall
       · exact (pickP_ofOpt (y:=(ok',pv',hp')) (by rw [hcall];rfl)).elim
       · cases hcall
   · cases he
 · cases he
theorem anyPan (hE:EqOK cx) (hC:CallOK cx.P call) (R:Reg cx call fp ops D σ τ) {p:Nat} {pv:A} (hps:∀j o,ops[j]? = some o->PStep cx call fp ops D p pv j o (σ j) (τ j)) (hpl:p<ops.length) (hokj:∀j,j<ops.length->okB (τ j).ok=true)
 (hrd:∀i,i∈(σ ops.length).h.rd->S i) (hwr:∀i,i∈(σ ops.length).h.wr->S i) (hgl:∀o,o∈ops->OpGl o (σ 0).h)
 (h0:Rel cx.P fp S ops 0 (σ 0) ν0 a0 w0) (hQ:∀listed ν a w u w',Inv cx fp S ops D σ τ a0 ν0 w0 listed ν a w->pv.rel ν0 u->Calm w w'->Q (.panic [{ v:=u,recovered:=false }]) a w') :
 ∀(f:Nat) (listed:Array Bool) (ν:Nu) (a:Act) (w:World),listed.toList.count false=f->Inv cx fp S ops D σ τ a0 ν0 w0 listed ν a w->listed.getD p false=false->wpAny cx.P .any ops.toArray Q f listed a w:=by
 intro f
 induction f with
 | zero=>
   intro listed ν a w hf v hp;exfalso;have h1:=List.count_eq_zero.1 hf;have hlt:p<listed.size:=by rw [v.lsize];exact hpl
   refine h1 ?_;simp [Array.getD_eq_getD_getElem?,hlt] at hp;rw [← hp];simp
 | succ f ih=>
   intro listed ν a w hf v hp;have hleast:∃j,j<ops.length/\listed.getD j false=false/\∀k,k<j->listed.getD k false=true:=by
    have hex:∃j,j<ops.length/\listed.getD j false=false:=⟨p,hpl,hp⟩;obtain ⟨j,hj⟩:=hex
    induction j using Nat.strongRecOn with
    | _ j ihj=>
      by_cases hk:∃k,k<j/\listed.getD k false=false
      · obtain ⟨k,hkj,hku⟩:=hk;exact ihj k hkj ⟨by omega,hku⟩
      · refine ⟨j,hj.1,hj.2,fun k hkj => ?_⟩;cases hx:listed.getD k false with
        | true=>rfl
        | false=>exact absurd ⟨k,hkj,hx⟩ hk
   obtain ⟨j,hjm,hju,hjl⟩:=hleast;refine ⟨fun h0' => ?_,fun i hi => ?_⟩
   · have:=ready_least (D:=D) R.edges v.lsize hjm hju hjl;rw [h0'] at this;cases this
   · have hiu:=getD_true_false (mem_ready.1 hi).1;have hil:i<ops.length:=by rw [← v.lsize];exact hiu.2
     have hio:ops[i]? = some ops[i]:=List.getElem?_eq_getElem hil;rcases hps i _ hio with ⟨rfl,ok,hp',he,hw0,hpp,hτ⟩|⟨hne,hst|⟨hD,_⟩⟩
     · refine v.panics hC R hrd hwr hgl h0 hi hio he ?_ hw0 hpp (by rw [hτ,stall_h]) (fun u w' hu hc=>hQ listed ν a w u w' v hu hc)
       have:=hokj i hil;rw [hτ,stall_ok] at this;exact (andOk_true this).2
     · refine v.step hE hC R hrd hwr hgl h0 hi hio hst (hokj i hil) (fun ν' a' w' v'=>ih _ ν' a' w' ?_ v' ?_)
       · have h1:listed.toList[i]? = some false:=by
          have:=hiu.1;simp [Array.getD_eq_getD_getElem?,hiu.2] at this;simp [hiu.2,this]
         have:=count_set_false listed.toList i h1;rw [Array.toList_setIfInBounds];omega
       · rw [getD_set hiu.2,if_neg (fun e=>hne e.symm)];exact hp
     · have:=v.deps R hi hpl hD;rw [hp] at this;cases this
theorem unset_get {km:Nat} {s:Nat}:∀{l:List Oper} {st:St},((∃o,o∈l/\o.dst=some s)->(St.unset km l st).get km s=⟨none,.t (.a .poison)⟩)/\((∀o,o∈l->o.dst≠some s)->(St.unset km l st).get km s=st.get km s)
 | [],st=>⟨fun ⟨_,h,_⟩=>(by cases h),fun _=>rfl⟩
 | o::l,st=>by
   obtain ⟨h1,h2⟩:=unset_get (km:=km) (s:=s) (l:=l) (st:=st.put km o.dst ⟨none,.t (.a .poison)⟩);simp only [St.unset];constructor
   · rintro ⟨o',hm,hd⟩;by_cases hex:∃o,o∈l/\o.dst=some s
     · exact h1 hex
     · rw [h2 (fun o'' h'' hd''=>hex ⟨o'',h'',hd''⟩)];rcases List.mem_cons.1 hm with rfl|hm
       · rw [hd,get_put_eq];unfold entPut keepEnt;split<;>rfl
       · exact absurd ⟨o',hm,hd⟩ hex
   · intro hno;rw [h2 (fun o' h'=>hno o' (List.mem_cons_of_mem _ h')),get_put_ne (hno o (by simp))]
theorem unset_same {km:Nat}:∀{l:List Oper} {st:St},(St.unset km l st).h=st.h/\(St.unset km l st).ok=st.ok/\(St.unset km l st).defs=st.defs /\
 (∃q,(St.unset km l st).vd=q++st.vd/\∀s,s ∉ q->varsGet (St.unset km l st).vars s=varsGet st.vars s)/\((∀s,(varsGet st.vars s).c=none)->∀s,(varsGet (St.unset km l st).vars s).c=none)
 | [],st=>⟨rfl,rfl,rfl,⟨[],rfl,fun _ _=>rfl⟩,fun h=>h⟩
 | o::l,st=>by
   obtain ⟨h1,h2,h3,⟨q,h4,h5⟩,h6⟩:=unset_same (km:=km) (l:=l) (st:=st.put km o.dst ⟨none,.t (.a .poison)⟩);obtain ⟨⟨q0,g1,g2⟩,g3⟩:=put_vars (km:=km) (st:=st) (d:=o.dst) (e:=⟨none,.t (.a .poison)⟩);simp only [St.unset];refine ⟨by rw [h1,put_h],by rw [h2,put_ok],by rw [h3,put_defs],⟨q++q0,by rw [h4,g1];simp,fun s hs => ?_⟩,fun h=>h6 (g3 h)⟩
   simp only [List.mem_append,not_or] at hs;rw [h5 s hs.1,g2 s hs.2]
theorem evalRegionP_ext (hC:CallOK cx.P call) {st:St} (hlo:LoOK st):(evalRegionP cx call fp ops st).All (ExtS st):=by
 unfold evalRegionP;split
 · trivial
 · rename_i s l p v hs;split
   · trivial
   · obtain ⟨h1,h2,h3,h4,h6⟩:=unset_same (km:=fp.km) (l:=ops) (st:={ st with tmps:=[],ok:=s.ok,h:={ st.h with rd:=s.h.rd } })
     obtain ⟨σ,τ,e1,e2,e3,e4,e5,e6⟩:=evalOpsP_states ops 0 none _ _ _ _ _ hs (fun _ _ e=>by cases e)
     simp only [Nat.zero_add] at e1 e2 e3;have hstat:∀j,(hj:j<ops.length)->Stat fp ops j (σ j).mark (τ j) ops[j]:=by
      intro j hj;rcases (e3 j _ (List.getElem?_eq_getElem hj)).1 with ⟨_,ok,hp,_,_,_,hτ⟩|⟨_,hst|⟨_,hτ⟩⟩
      · rw [hτ];exact stall_stat
      · exact stepOp_stat hC hst
      · rw [hτ];exact stall_stat
     have key:∀k,k≤ops.length->LoOK (σ k)/\ExtS (σ 0) (σ k):=by
      intro k
      induction k with
      | zero=>intro _;rw [e1];exact ⟨hlo,ExtS.refl _⟩
      | succ k ih=>
        intro hk;obtain ⟨h1,h2⟩:=ih (by omega)
        have hkl:k<ops.length:=by omega
        obtain ⟨q1,q2,_⟩:=e3 k _ (List.getElem?_eq_getElem hkl);have hx:ExtS (σ k).mark (τ k):=(hstat k hkl).exts (mk_lo _);have hb:ExtS (σ k) (σ (k+1)):=by rw [q2];exact ⟨back_ext h1 hx.h,hx.vars,hx.vconds,hx.defs,hx.ok⟩
        exact ⟨hb.lo h1,h2.trans hb⟩
     have hx:=(key ops.length (Nat.le_refl _)).2;rw [e2,e1] at hx;refine ⟨?_,h4,h6,⟨[],by rw [h3];rfl⟩,fun ho=>hx.ok (by rw [h2] at ho;exact ho)⟩
     rw [h1];exact ⟨rfl,Nat.le_refl _,fun id hi=>hx.h.rd id hi,fun _ h=>h,fun _ _ _=>rfl,fun _ b _ hb=>⟨b,hb,rfl⟩,fun _ h =>.inl h,rfl,fun h=>h,fun h=>h⟩
theorem evalRegion_ext (hC:CallOK cx.P call) {draw:Bool} {st:St} (hlo:LoOK st):(evalRegion cx call fp ops draw st).All (ExtS st):=by
 unfold evalRegion;split
 · trivial
 · split
   · split
     · have h1:((evalOps cx call fp ops 0 ops { st.mark with tmps:=[] }).norm { st.mark with tmps:=[] }).All (ExtS { st.mark with tmps:=[] }):=
        norm_all (evalOps_ext hC (show LoOK { st.mark with tmps:=[] } from Nat.le_refl _))
       exact all_back hlo (Out.All.mono (fun s h=>notmps_exts h) h1)
     · exact Out.All.mono (fun s h=>notmps_exts h) (evalOps_ext hC (st:={ st with tmps:=[] }) hlo)
   · split
     · trivial
     · split
       · exact evalRegionP_ext hC hlo
       · split
         · trivial
         · rename_i s l hs _ _;obtain ⟨σ,τ,e1,e2,e3,e4,e5⟩:=evalOpsD_states ops 0 _ _ _ hs;simp only [Nat.zero_add] at e1 e2 e3;have key:∀k,k≤ops.length->LoOK (σ k)/\ExtS (σ 0) (σ k):=by
            intro k
            induction k with
            | zero=>intro _;rw [e1];exact ⟨hlo,ExtS.refl _⟩
            | succ k ih=>
              intro hk;obtain ⟨h1,h2⟩:=ih (by omega)
              have hkl:k<ops.length:=by omega
              obtain ⟨q1,q2⟩:=e3 k _ (List.getElem?_eq_getElem hkl);have hx:ExtS (σ k).mark (τ k):=(stepOp_stat hC q1).exts (mk_lo _);have hb:ExtS (σ k) (σ (k+1)):=by rw [q2];exact ⟨back_ext h1 hx.h,hx.vars,hx.vconds,hx.defs,hx.ok⟩
              exact ⟨hb.lo h1,h2.trans hb⟩
           have:=(key ops.length (Nat.le_refl _)).2;rw [e2,e1] at this;exact notmps_exts this
theorem Inv.start (hC:CallOK cx.P call) {ops:Array Oper} (R:Reg cx call fp ops.toList D σ τ) {w:World} (hst:Rel cx.P fp S ops.toList 0 (σ 0) ν a w) (hnx:∀id b,ν id=some b->id<(σ 0).h.next) :
 Inv cx fp S ops.toList D σ τ a ν w (Array.replicate ops.size false) ν a w:=by
  have hrep:∀j,(Array.replicate ops.size false).getD j false=false:=fun j=>by by_cases hl:j<ops.size<;>simp [Array.getD_eq_getD_getElem?,hl]
  have hno:∀j,(Array.replicate ops.size false).getD j false=true->False:=fun j hj=>by rw [hrep] at hj;cases hj
  have hm:=hst.c.mem;refine ⟨fun i hi=>(hno i hi).elim,by simp,fun _ _=>rfl,fun j _ hj=>(hno j hj).elim,fun _ _=>rfl,fun id b hb =>.inl (hnx id b hb),hm.nums.lt,?_,?_,fun id r base h h'=>(by rw [h] at h';cases h'),
   rfl,rfl,rfl,Nat.le_refl _,fun _ _ _=>rfl,hst.c.size,rfl⟩
  · intro k hk id b hb hrw id' r base base' h1 h2;have hid:=hnx id _ h1;obtain ⟨b0,q1,q2⟩:=(R.ext hC (Nat.zero_le k) hk).rw id b hid hb;exact hm.nums.inj id b0 q1 (q2.trans hrw) id' r base base' h1 h2
  · intro id k b hk hS hcons hb;have hnt:∀j,j<k->¬Touches σ τ j id:=fun j hj ht=>by
     have:=(hcons j (by omega) ht).2 hj
     exact hno j this
    have hid:id<(σ 0).h.next:=by
     refine Classical.byContradiction fun hge => ?_;have h3:=R.bound hC hk id b hb;have key:∀m,m≤k->(σ m).h.next≤id:=by
      intro m
      induction m with
      | zero=>intro _;omega
      | succ m ih=>
        intro hm;refine Classical.byContradiction fun hlt=>hnt m (by omega) (.inr ⟨ih (by omega),?_⟩)
        rw [R.nx (by omega)] at hlt
        omega
     have:=key k (Nat.le_refl _);omega
    have e:=R.blk hC (i:=0) (k:=k) (Nat.zero_le _) hk hid (fun j _ h2 hw=>hnt j h2 (.inl hw));rw [e] at hb;refine (hm.seen id b hb hS).mono ?_ (fun _ _ _=>rfl);intro id' b' hb';have h4:=hnx id' b' hb';have h5:=R.nle hC (Nat.zero_le k) hk;unfold cut;rw [if_pos (by omega)];exact hb'
theorem evalRegionP_sound (hE:EqOK cx) (hC:CallOK cx.P call) {ops:Array Oper} {id:Nat} {e:Ex} {st st':St} (hd:chkDst ops.toList=true) (c1:chkEdges ops.toList (Region.before ops.toList.toArray)=true) (c2:chkTmp ops.toList (Region.before ops.toList.toArray)=true) (c3:cx.P.follows .mixedOrders=true)
 (he:(evalRegionP cx call fp ops.toList st).pick=some (e,st')) (hok:okB st'.ok=true)
 (hrd:∀i,i∈st'.h.rd->S i) (hwr:∀i,i∈st'.h.wr->S i) (hgl:∀o,o∈ops.toList->OpGl o st.h)
 (hr:CRel cx.P fp S st ν a w) (hQ:∀ν' a' w' x,CRel cx.P fp S st' ν' a' w'->Goes S ν w st.h ν' w' st'.h->e.rel ν' x->Q x a' w'):(Code.region id ops true).wp cx.P Q a w:=by
 have hlo:LoOK st:=hr.mem.nums.lo;unfold evalRegionP at he;split at he
 · simp [Out.pick] at he
 · rename_i s l p pv hs;split at he
   · simp [Out.pick] at he
   · rename_i hfts;simp only [Out.pick,oI,pI] at he;obtain ⟨rfl,rfl⟩:=he;generalize hD:Region.before ops.toList.toArray=D at *;obtain ⟨u1,u2,u3,u4,u6⟩:=unset_same (km:=fp.km) (l:=ops.toList) (st:={ st with tmps:=[],ok:=s.ok,h:={ st.h with rd:=s.h.rd } })
     obtain ⟨σ,τ,e1,e2,e3,e4,e5,e6⟩:=evalOpsP_states ops.toList 0 none _ _ _ _ _ hs (fun _ _ e=>by cases e)
     simp only [Nat.zero_add] at e1 e2 e3 e5 e6;have hpl:p<ops.toList.length:=by
      rcases e6 with e6|⟨_,_,h⟩
      · cases e6
      · exact h
     have hstat:∀j o,ops.toList[j]? = some o->Stat fp ops.toList j (σ j).mark (τ j) o:=by
      intro j o hj;rcases (e3 j o hj).1 with ⟨_,ok,hp,_,_,_,hτ⟩|⟨_,hst|⟨_,hτ⟩⟩
      · rw [hτ];exact stall_stat
      · exact stepOp_stat hC hst
      · rw [hτ];exact stall_stat
     have R:Reg cx call fp ops.toList D σ τ:=by
      refine ⟨hstat,fun j hj=>(e3 j _ (List.getElem?_eq_getElem hj)).2.1,c1,c2,hd,?_,?_,?_⟩
      · intro k m hkm hm;have:=chkFts_spec hfts hkm (e5 k (by omega)) (e5 m hm)
        simpa using this
      · rw [e1];exact hlo
      · rw [e1];exact hr.mem.nums.bound
     refine wp_region_any c3 ?_;have hst:=hr.drew.start ops.toList;rw [← e1] at hst;rw [u2] at hok;have hok:okB s.ok=true:=hok;have hokj:∀j,j<ops.toList.length->okB (τ j).ok=true:=by
      intro j hj;have hdown:∀k,j+1+k≤ops.toList.length->okB (σ (j+1+k)).ok=true->okB (σ (j+1)).ok=true:=by
       intro k
       induction k with
       | zero=>intro _ h;exact h
       | succ k ih=>
         intro hk h;have hkl:j+1+k<ops.toList.length:=by omega
         rw [show j+1+(k+1)=j+1+k+1 by omega,R.next hkl] at h
         exact ih (by omega) ((hstat _ _ (List.getElem?_eq_getElem hkl)).ok h)
      have h1:=hdown (ops.toList.length-(j+1)) (by omega) (by rw [show j+1+(ops.toList.length-(j+1))=ops.toList.length by omega,e2];exact hok)
      rw [R.next hj] at h1;exact h1
     have hgl':∀o,o∈ops.toList->OpGl o (σ 0).h:=by rw [e1];exact hgl
     have hwn:∀k,k≤ops.toList.length->∀id,id∈(σ k).h.wr->id∈(σ 0).h.wr:=by
      intro k
      induction k with
      | zero=>intro _ id hi;exact hi
      | succ k ih=>
        intro hk id hi;have hkl:k<ops.toList.length:=by omega
        rw [R.next hkl] at hi;rcases mem_noteAll.1 hi with ⟨h1,_⟩|h1
        · rw [(e3 k _ (List.getElem?_eq_getElem hkl)).2.2] at h1;cases h1
        · exact ih (by omega) id h1
     rw [u1] at hrd hwr;have hrd':∀i,i∈(σ ops.toList.length).h.rd->S i:=by rw [e2];exact hrd
     have hwr':∀i,i∈(σ ops.toList.length).h.wr->S i:=fun i hi=>by have:=hwn _ (Nat.le_refl _) i hi;rw [e1] at this;exact hwr i this
     have hm:=hst.c.mem;have hnx:∀id b,ν id=some b->id<(σ 0).h.next:=fun id b hb=>by refine Classical.byContradiction fun hge => ?_;rw [hm.nums.fresh id (by omega)] at hb;cases hb
     have:=anyPan (Q:=Q) (S:=S) hE hC R (fun j o ho=>(e3 j o ho).1) hpl hokj hrd' hwr' hgl' hst
      (fun listed ν1 a1 w1 u w' v hu hc => ?_) ops.size (Array.replicate ops.size false) ν a { w with drawn:=w.drawn+1 } (by simp) ?_ (by
        by_cases hl:p<ops.size<;>simp [Array.getD_eq_getD_getElem?,hl])
     · simpa using this
     ·
      have hcut0:cut (σ 0).h.next ν1=ν:=by
       funext id;unfold cut;split
       · rename_i hlt;exact v.old id hlt
       · rename_i hge;exact (hm.nums.fresh id (by omega)).symm
      have hmem:Mem S ν w' { st.h with rd:=s.h.rd }:=by
       have hh:(σ 0).h=st.h:=by rw [e1]
       refine ⟨⟨fun id r base hid => ?_,hr.mem.nums.inj,hr.mem.nums.fresh,hr.mem.nums.bound,hr.mem.nums.lo,hr.mem.nums.glob⟩,fun id b hb hS => ?_⟩
       · have h1:=hr.mem.nums.lt id r base hid;have h2:=v.wsize;have h3:=hc.size;exact Nat.lt_of_lt_of_le h1 (Nat.le_trans h2 h3)
       · have hid:id<(σ 0).h.next:=by rw [hh];exact hr.mem.nums.bound id b hb
         have hsn:=v.seen id 0 b (Nat.zero_le _) (by rw [hh];exact hS) (fun j hj ht=>by
          exfalso;rcases ht with ht|ht
          · rw [(e3 j _ (List.getElem?_eq_getElem hj)).2.2] at ht;cases ht
          · have:=R.nle hC (Nat.zero_le j) (Nat.le_of_lt hj);omega) (by rw [hh];exact hb)
         rw [hcut0] at hsn;refine hsn.mono (Nu.le_refl _) (fun r base hid'=>hc.block r ?_);exact Nat.lt_of_lt_of_le (hr.mem.nums.lt id r base hid') v.wsize
      refine hQ ν a1 w' _ ⟨?_,fun s' => ?_,u6 hr.vconds,v.size,?_⟩ ?_ ⟨u,rfl,hu⟩
      · rw [u1];exact hmem
      · by_cases hex:∃o,o∈ops.toList/\o.dst=some s'
        · rw [unset_get.1 hex];exact ⟨fun _=>by simp [V.rel,T.relV,A.rel],fun hno=>absurd trivial hno⟩
        · have hno:∀o,o∈ops.toList->o.dst≠some s':=fun o ho hd'=>hex ⟨o,ho,hd'⟩;rw [unset_get.2 hno];have hk:a1.tmps.getD s' undef=a.tmps.getD s' undef:=v.keep s' (fun j hj hdj=>by
           have hjl:=listed_lt hj;rw [v.lsize] at hjl;unfold dstOf at hdj;rw [List.getElem?_eq_getElem hjl] at hdj;exact hno _ (List.getElem_mem hjl) hdj)
          have hs0:=hst.c.slots s';rw [e1] at hs0;have hs0:EntOK ν a.tmps s' (({ st with tmps:=[] }:St).get fp.km s'):=hs0
          have hg:({ st with tmps:=[],ok:=s.ok,h:={ st.h with rd:=s.h.rd } }:St).get fp.km s'=({ st with tmps:=[] }:St).get fp.km s':=get_of_eq rfl rfl s'
          rw [hg];have hc0:(({ st with tmps:=[] }:St).get fp.km s').c=none:=by
           cases hcx:(({ st with tmps:=[] }:St).get fp.km s').c with
           | none=>rfl
           | some pp=>obtain ⟨sj,x⟩:=pp;obtain ⟨j,hj,_⟩:=hst.conds s' sj x (by rw [e1];exact hcx);omega
          unfold EntOK at hs0 ⊢;rw [hc0] at hs0 ⊢;rw [hk];exact hs0
      · rw [u3];have:=hst.c.defers;rw [e1] at this;rw [v.defers];exact this
      · rw [u1];have hx:=R.ext hC (Nat.zero_le _) (Nat.le_refl ops.toList.length);rw [e2,e1] at hx;refine ⟨Nu.le_refl _,hmem,⟨?_,?_,?_,?_,fun r hr' hn => ?_⟩,fun _ _ _ h h'=>(by rw [h] at h';cases h'),⟨rfl,Nat.le_refl _,fun id hi=>hx.rd id hi,fun _ h=>h,fun _ _ _=>rfl,fun _ b _ hb=>⟨b,hb,rfl⟩,fun _ h =>.inl h,rfl,fun h=>h,fun h=>h⟩,fun _ _=>rfl⟩
        · rw [hc.os];exact v.os
        · rw [hc.tape];exact v.tape
        · rw [hc.output];exact v.output
        · exact Nat.le_trans v.wsize hc.size
        · rw [hc.block r (Nat.lt_of_lt_of_le hr' v.wsize)];refine v.block r hr' (fun id base hid => ?_);obtain ⟨h1,h2⟩:=hn id base hid;refine ⟨by rw [e1];exact h1,fun hw=>h2 ?_⟩
          have:=hwn _ (Nat.le_refl _) id hw;rw [e1] at this;exact this
     · exact Inv.start hC R hst hnx
theorem evalRegion_sound (hE:EqOK cx) (hC:CallOK cx.P call) {ops:Array Oper} {draw:Bool} {id:Nat} {e:Ex} {st st':St} (he:(evalRegion cx call fp ops.toList draw st).pick=some (e,st')) (hok:okB st'.ok=true)
 (hrd:∀i,i∈st'.h.rd->S i) (hwr:∀i,i∈st'.h.wr->S i) (hgl:∀o,o∈ops.toList->OpGl o st.h)
 (hr:CRel cx.P fp S st ν a w) (hQ:∀ν' a' w' x,CRel cx.P fp S st' ν' a' w'->Goes S ν w st.h ν' w' st'.h->e.rel ν' x->Q x a' w'):(Code.region id ops draw).wp cx.P Q a w:=by
 have hlo:LoOK st:=hr.mem.nums.lo;unfold evalRegion at he;split at he
 · simp [Out.pick] at he
 · rename_i hd;split at he
   · split at he
     · rw [pick_back] at he;split at he
       · rename_i e1 s1 hp;simp only [oI,pI] at he;obtain ⟨rfl,rfl⟩:=he;have hb0:LoOK ({ st.mark with tmps:=[] }:St):=Nat.le_refl _
         obtain ⟨s2,hp2,hweak⟩:=norm_pick (P:=cx.P) (base:={ st.mark with tmps:=[] }) rfl (evalOps_ext hC hb0) e1 s1 hp
         refine wp_region_list ?_;have hrs:∀i,i∈s1.h.rd->markS S st.h i:=back_rd hrd;have hws:∀i,i∈s1.h.wr->markS S st.h i:=back_wr hwr;have:=evalOps_seq (Q:=Q) (S:=markS S st.h) hE hC hd ops.toList 0 _ ν a w (by simp) (by exact hgl) hp2 (hweak.ok hok) (fun i hi=>hrs i (hweak.rd i hi)) (fun i hi=>hws i (hweak.wr i hi)) (hr.mark.start _)
          (fun ν' a' w' x hr' hg' hx=>by obtain ⟨h1,h2⟩:=hweak.rel fp (markS S st.h) ν w ν' a' w' hr.mark.mem hr' hg';obtain ⟨h3,h4⟩:=h1.back hlo h2;exact hQ ν' a' w' x h3 h4 hx)
         simpa using this
       · cases he
     · refine wp_region_list ?_;have:=evalOps_seq (Q:=Q) hE hC hd ops.toList 0 ({ st with tmps:=[] }:St) ν a w (by simp) (by exact hgl) he hok hrd hwr (hr.start _) (fun ν' a' w' x hr' hg' hx=>hQ ν' a' w' x hr' hg' hx)
       simpa using this
   · split at he
     · simp [Out.pick] at he
     · rename_i hc;simp only [bA] at hc;obtain ⟨⟨c1,c2⟩,c3⟩:=hc;split at he
       · exact evalRegionP_sound hE hC hd c1 c2 c3 he hok hrd hwr hgl hr hQ
       · rename_i s l hs;split at he
         · simp [Out.pick] at he
         · rename_i hfts;simp only [Out.pick,oI,pI] at he;obtain ⟨rfl,rfl⟩:=he;generalize hD:Region.before ops.toList.toArray=D at *;obtain ⟨σ,τ,e1,e2,e3,e4,e5⟩:=evalOpsD_states ops.toList 0 _ _ _ hs;simp only [Nat.zero_add] at e1 e2 e3 e5;have R:Reg cx call fp ops.toList D σ τ:=by
            refine ⟨fun j o ho=>stepOp_stat hC (e3 j o ho).1,fun j hj=>(e3 j _ (List.getElem?_eq_getElem hj)).2,c1,c2,hd,?_,?_,?_⟩
            · intro k m hkm hm;have:=chkFts_spec hfts hkm (e5 k (by omega)) (e5 m hm)
              simpa using this
            · rw [e1];exact hlo
            · rw [e1];exact hr.mem.nums.bound
           refine wp_region_any c3 ?_;have hst:=hr.drew.start ops.toList;rw [← e1] at hst;have hokj:∀j,j<ops.toList.length->okB (τ j).ok=true:=by
            intro j hj;have hdown:∀k,j+1+k≤ops.toList.length->okB (σ (j+1+k)).ok=true->okB (σ (j+1)).ok=true:=by
             intro k
             induction k with
             | zero=>intro _ h;exact h
             | succ k ih=>
               intro hk h;have hkl:j+1+k<ops.toList.length:=by omega
               obtain ⟨q1,q2⟩:=e3 (j+1+k) _ (List.getElem?_eq_getElem hkl);rw [show j+1+(k+1)=j+1+k+1 by omega,q2] at h
               exact ih (by omega) ((stepOp_stat hC q1).ok h)
            have h1:=hdown (ops.toList.length-(j+1)) (by omega) (by rw [show j+1+(ops.toList.length-(j+1))=ops.toList.length by omega,e2];exact hok)
            obtain ⟨q1,q2⟩:=e3 j _ (List.getElem?_eq_getElem hj);rw [q2] at h1;exact h1
           have hgl':∀o,o∈ops.toList->OpGl o (σ 0).h:=by rw [e1];exact hgl
           have:=anyAll (Q:=Q) (S:=S) hE hC R (fun j o ho=>(e3 j o ho).1) hokj (by rw [e2];exact hrd) (by rw [e2];exact hwr) hgl' hst
            (fun ν' a' w' hr' hg'=>hQ ν' a' w' .normal (by rw [e2] at hr';exact hr') (by rw [e1,e2] at hg';exact hg'.undrew) rfl) ops.size (Array.replicate ops.size false) ν a { w with drawn:=w.drawn+1 } (by simp) ?_
           · simpa using this
           · have hm:=hst.c.mem;have hnx:∀id b,ν id=some b->id<(σ 0).h.next:=fun id b hb=>by
              refine Classical.byContradiction fun hge => ?_;rw [hm.nums.fresh id (by omega)] at hb;cases hb
             exact Inv.start hC R hst hnx
end
def CodeGl (p:Nat->Prop):Code->Prop
 | .region _ ops _=>∀o,o∈ops.toList->∀g,.global g∈o.op.operands.toList->p g
 | .seq a b=>CodeGl p a/\CodeGl p b
 | .cond c a b=>(∀g,c = .global g->p g)/\CodeGl p a/\CodeGl p b
 | .block _ c=>CodeGl p c
 | .loop c=>CodeGl p c
 | _=>True
def Occ (id:Nat) (d:Code):Code->Prop
 | .seq a b=>Occ id d a\/Occ id d b
 | .cond _ a b=>Occ id d a\/Occ id d b
 | .block i c=>(i=id/\c=d)\/Occ id d c
 | .loop c=>Occ id d c
 | _=>False
def Way (P:Program) (fp:Fp) (S:Nat->Prop) (Q:Exit->Act->World->Prop) (e:Ex) (s s':St) (ν:Nu) (w:World):Prop:=
 ∀ν' a' w' x,CRel P fp S s' ν' a' w'->Goes S ν w s.h ν' w' s'.h->e.rel ν' x->Q x a' w'
structure CodeOK (P:Program) (fp:Fp) (c:Code) (s:St) (o:Out):Prop where
 ext:LoOK s->o.All (ExtS s)
 run:∀e s',o.pick=some (e,s')->okB s'.ok=true->∀(S:Nat->Prop) ν a w Q,(∀i,i∈s'.h.rd->S i)->(∀i,i∈s'.h.wr->S i)->CodeGl (· ∈ s.h.gl) c->CRel P fp S s ν a w ->
  Way P fp S Q e s s' ν w->c.wp P Q a w
def LamOK (P:Program) (fp:Fp) (c0:Code):Prop:=∀id d s o,fp.lam id s=some o->Occ id d c0->CodeOK P fp (.block id d) s o
section
variable {cx:Cx} {call:CallE} {fp:Fp}
theorem CodeGl.mono {p q:Nat->Prop} (h:∀g,p g->q g):∀{c:Code},CodeGl p c->CodeGl q c
 | .region _ _ _,hc=>fun o ho g hg=>h g (hc o ho g hg)
 | .seq _ _,hc=>⟨CodeGl.mono h hc.1,CodeGl.mono h hc.2⟩
 | .cond _ _ _,hc=>⟨fun g hg=>h g (hc.1 g hg),CodeGl.mono h hc.2.1,CodeGl.mono h hc.2.2⟩
 | .block _ c,hc=>CodeGl.mono (c:=c) h hc
 | .loop c,hc=>CodeGl.mono (c:=c) h hc
 | .skip,_=>trivial
 | .rangeFunc _ _ _ _,_=>trivial
 | .exit _,_=>trivial
 | .scope _,_=>trivial
 | .label _,_=>trivial
 | .goto _,_=>trivial
 | .ret,_=>trivial
 | .refuse _,_=>trivial
theorem Goes.glC {S:Nat->Prop} {ν ν':Nu} {w w':World} {h h':H} (g:Goes S ν w h ν' w' h') {c:Code} (hc:CodeGl (· ∈ h.gl) c):CodeGl (· ∈ h'.gl) c:=
 CodeGl.mono (fun x hx=>by show x∈h'.gl;rw [g.ext.gl];exact hx) hc
theorem cond_val {S:Nat->Prop} {s:St} {ν:Nu} {a:Act} {w:World} {c:Operand} {v:V} (h:opV none none (s.get fp.km) c=some v) (hgl:∀g,c = .global g->g∈s.h.gl) (hr:CRel cx.P fp S s ν a w):v.rel ν (a.eval c):=
 opV_sound (a:=a) h trivial trivial (fun t _ ht=>(hr.slots t).1 ht) (fun g hg=>hr.mem.nums.glob g (hgl g (by simp at hg;exact hg.symm)))
theorem CodeOK.seq {P:Program} {x y:Code} {s:St} {o:Out} {f:St->Out} (hx:CodeOK P fp x s o) (hy:∀s1,CodeOK P fp y s1 (f s1)):CodeOK P fp (.seq x y) s (o.bind f) where
 ext:=fun hlo=>all_bind (hx.ext hlo) (fun s1 h1=>Out.All.mono (fun s2 h2=>h1.trans h2) ((hy s1).ext (h1.lo hlo)))
 run:=by
  intro e s' h hok S ν a w Q hrd hwr hgl hr hw;have hlo:LoOK s:=hr.mem.nums.lo;rw [pick_bind] at h;split at h
  · rename_i s1 h1;have hx1:=Out.All.pick (hx.ext hlo) h1;have hx2:=Out.All.pick ((hy s1).ext (hx1.lo hlo)) h;refine wp_seq (hx.run .nrm s1 h1 (hx2.ok hok) S ν a w _ (fun i hi=>hrd i (hx2.h.rd i hi)) (fun i hi=>hwr i (hx2.h.wr i hi)) hgl.1 hr ?_);intro ν' a' w' ex hr' hg' hex;simp only [Ex.rel] at hex;subst hex;exact (hy s1).run e s' h hok S ν' a' w' Q hrd hwr (hg'.glC hgl.2) hr' (fun ν'' a'' w'' ex' hr'' hg'' he=>hw ν'' a'' w'' ex' hr'' (hg'.trans hg'') he)
  · rename_i hne;refine wp_seq (hx.run e s' h hok S ν a w _ hrd hwr hgl.1 hr ?_);intro ν' a' w' ex hr' hg' hex;have:=hw ν' a' w' ex hr' hg' hex;cases e with
    | nrm=>exact absurd h (hne _)
    | exit id=>simp only [Ex.rel] at hex;subst hex;exact this
    | ret=>simp only [Ex.rel] at hex;subst hex;exact this
    | pan v=>simp only [Ex.rel] at hex;obtain ⟨u,rfl,_⟩:=hex;exact this
theorem loopE_ext {f:St->Out} {c:Code} {P:Program} (hf:∀s,CodeOK P fp c s (f s)):∀(k:Nat) (s:St),LoOK s->(loopE f k s).All (ExtS s)
 | 0,s,_=>show ExtS s { s with ok :=.b false } from ⟨Ext.refl _,⟨[],rfl,fun _ _=>rfl⟩,fun h=>h,⟨[],rfl⟩,fun h=>Bool.noConfusion (show false=true from h)⟩
 | k+1,s,hlo=>all_bind ((hf s).ext hlo) (fun s1 h1=>Out.All.mono (fun s2 h2=>h1.trans h2) (loopE_ext hf k s1 (h1.lo hlo)))
theorem loopE_rounds {f:St->Out} {c:Code} {P:Program} (hf:∀s,CodeOK P fp c s (f s)) {S:Nat->Prop}:∀(k:Nat) (s s':St) (e:Ex) (ν:Nu) (a:Act) (w:World) (Q:Exit->Act->World->Prop),(loopE f k s).pick=some (e,s')->okB s'.ok=true ->
 (∀i,i∈s'.h.rd->S i)->(∀i,i∈s'.h.wr->S i)->CodeGl (· ∈ s.h.gl) c->CRel P fp S s ν a w->Way P fp S Q e s s' ν w->Code.rounds P c Q k a w
 | 0,s,s',e,ν,a,w,Q,h,hok,_,_,_,_,_=>by simp only [loopE,Out.pick,oI,pI] at h;obtain ⟨_,rfl⟩:=h;simp [okB] at hok
 | k+1,s,s',e,ν,a,w,Q,h,hok,hrd,hwr,hgl,hr,hw=>by
   have hlo:LoOK s:=hr.mem.nums.lo;rw [loopE,pick_bind] at h;rw [rounds_succ];split at h
   · rename_i s1 h1;have hx1:=Out.All.pick ((hf s).ext hlo) h1;have hx2:=Out.All.pick (loopE_ext hf k s1 (hx1.lo hlo)) h;refine (hf s).run .nrm s1 h1 (hx2.ok hok) S ν a w _ (fun i hi=>hrd i (hx2.h.rd i hi)) (fun i hi=>hwr i (hx2.h.wr i hi)) hgl hr ?_;intro ν' a' w' ex hr' hg' hex;simp only [Ex.rel] at hex;subst hex;exact loopE_rounds hf k s1 s' e ν' a' w' Q h hok hrd hwr (hg'.glC hgl) hr' (fun ν'' a'' w'' ex' hr'' hg'' he=>hw ν'' a'' w'' ex' hr'' (hg'.trans hg'') he)
   · rename_i hne;refine (hf s).run e s' h hok S ν a w _ hrd hwr hgl hr ?_;intro ν' a' w' ex hr' hg' hex;have:=hw ν' a' w' ex hr' hg' hex;cases e with
     | nrm=>exact absurd h (hne _)
     | exit id=>simp only [Ex.rel] at hex;subst hex;exact this
     | ret=>simp only [Ex.rel] at hex;subst hex;exact this
     | pan v=>simp only [Ex.rel] at hex;obtain ⟨u,rfl,_⟩:=hex;exact this
theorem CodeOK.loop {P:Program} {c:Code} {f:St->Out} (hf:∀s,CodeOK P fp c s (f s)) (k:Nat) (s:St):CodeOK P fp (.loop c) s (loopE f k s):=
 ⟨loopE_ext hf k s,fun e s' h hok _ ν a w Q hrd hwr hgl hr hw=>wp_loop_rounds k (loopE_rounds hf k s s' e ν a w Q h hok hrd hwr hgl hr hw)⟩
theorem Way.back {P:Program} {S:Nat->Prop} {Q:Exit->Act->World->Prop} {e:Ex} {s s1 s2:St} {ν:Nu} {w:World} (hlo:LoOK s) (hm:Mem (markS S s.h) ν w s.mark.h) (hweak:Weak P s.mark s2 s1)
 (hw:Way P fp S Q e s { s1 with h:=s.h.back s1.h } ν w):Way P fp (markS S s.h) Q e s.mark s2 ν w:=by
 intro ν' a' w' x hr' hg' hx;obtain ⟨h1,h2⟩:=hweak.rel fp (markS S s.h) ν w ν' a' w' hm hr' hg';obtain ⟨h3,h4⟩:=h1.back hlo h2;exact hw ν' a' w' x h3 h4 hx
theorem CodeOK.block {P:Program} {c:Code} {s:St} {o:Out} {id:Nat} (hc:CodeOK P fp c s.mark o):CodeOK P fp (.block id c) s (((o.exits id).norm s.mark).back s.h) where
 ext:=fun hlo=>all_back hlo (norm_all (all_exits (hc.ext (show LoOK s.mark from Nat.le_refl _))))
 run:=by
  intro e s' h hok S ν a w Q hrd hwr hgl hr hw;have hlo:LoOK s:=hr.mem.nums.lo;have hlm:LoOK s.mark:=Nat.le_refl _;rw [pick_back] at h;split at h
  · rename_i e1 s1 hp1;simp only [oI,pI] at h;obtain ⟨rfl,rfl⟩:=h;obtain ⟨s2,hp,hweak⟩:=norm_pick (P:=P) (base:=s.mark) rfl (all_exits (id:=id) (hc.ext hlm)) e1 s1 hp1;have hway:=hw.back hlo hr.mark.mem hweak;have hrs:∀i,i∈s2.h.rd->markS S s.h i:=fun i hi=>back_rd hrd i (hweak.rd i hi);have hws:∀i,i∈s2.h.wr->markS S s.h i:=fun i hi=>back_wr hwr i (hweak.wr i hi);rw [pick_exits] at hp;split at hp
    · rename_i id' s3 h2;split at hp
      · rename_i hid;simp only [oI,pI] at hp;obtain ⟨rfl,rfl⟩:=hp;refine wp_block (hc.run (.exit id') s3 h2 (hweak.ok hok) _ ν a w _ hrs hws hgl hr.mark ?_);intro ν' a' w' x hr' hg' hx;simp only [Ex.rel] at hx;subst hx;simp only [Exit.inBlock,hid,if_true];exact hway ν' a' w' .normal hr' hg' rfl
      · rename_i hid;simp only [oI,pI] at hp;obtain ⟨rfl,rfl⟩:=hp;refine wp_block (hc.run (.exit id') s3 h2 (hweak.ok hok) _ ν a w _ hrs hws hgl hr.mark ?_);intro ν' a' w' x hr' hg' hx;simp only [Ex.rel] at hx;subst hx;simp only [Exit.inBlock,hid,if_false];exact hway ν' a' w' (.exit id') hr' hg' rfl
    · rename_i hne;refine wp_block (hc.run e1 s2 hp (hweak.ok hok) _ ν a w _ hrs hws hgl hr.mark ?_);intro ν' a' w' x hr' hg' hx;have:=hway ν' a' w' x hr' hg' hx;cases e1 with
      | nrm=>simp only [Ex.rel] at hx;subst hx;exact this
      | exit id'=>exact absurd hp (hne _ _)
      | ret=>simp only [Ex.rel] at hx;subst hx;exact this
      | pan v=>simp only [Ex.rel] at hx;obtain ⟨u,rfl,_⟩:=hx;exact this
  · cases h
theorem evalC_sound (hE:EqOK cx) (hC:CallOK cx.P call) {c0:Code} (hL:LamOK cx.P fp c0):∀(n:Nat) (c:Code) (s:St),(∀id d,Occ id d c->Occ id d c0)->CodeOK cx.P fp c s (evalC cx call fp n c s):=by
 intro n
 induction n with
 | zero=>intro c s _;exact ⟨fun _=>trivial,fun e s' h=>by simp [evalC,Out.pick] at h⟩
 | succ n ih=>
   intro c s hocc;cases c<;>simp only [evalC]
   case skip=>
    refine ⟨fun _=>ExtS.refl s,fun e s' h hok S ν a w Q hrd hwr hgl hr hw => ?_⟩;simp only [Out.pick,oI,pI] at h;obtain ⟨rfl,rfl⟩:=h;exact wp_skip (hw ν a w .normal hr (Goes.refl hr.mem) rfl)
   case region id ops draw=>
    exact ⟨fun hlo=>evalRegion_ext hC hlo,fun e s' h hok S ν a w Q hrd hwr hgl hr hw=>evalRegion_sound hE hC h hok hrd hwr hgl hr (fun ν' a' w' x hr' hg' hx=>hw ν' a' w' x hr' hg' hx)⟩
   case seq x y=>exact CodeOK.seq (ih x s (fun id d h=>hocc id d (.inl h))) (fun s1=>ih y s1 (fun id d h=>hocc id d (.inr h)))
   case cond c x y=>
    have hx:=fun s=>ih x s (fun id d h=>hocc id d (.inl h));have hy:=fun s=>ih y s (fun id d h=>hocc id d (.inr h));split
    · rename_i hc;exact ⟨(hx s).ext,fun e s' h hok S ν a w Q hrd hwr hgl hr hw=>wp_cond_true (cond_val (cx:=cx) hc hgl.1 hr) ((hx s).run e s' h hok S ν a w Q hrd hwr hgl.2.1 hr hw)⟩
    · rename_i hc;exact ⟨(hy s).ext,fun e s' h hok S ν a w Q hrd hwr hgl hr hw=>wp_cond_false (cond_val (cx:=cx) hc hgl.1 hr) ((hy s).run e s' h hok S ν a w Q hrd hwr hgl.2.2 hr hw)⟩
    · rename_i v hc;have hlm:LoOK s.mark:=Nat.le_refl _;refine ⟨fun hlo=>all_back hlo (join_all ((hx s.mark).ext hlm) ((hy s.mark).ext hlm)),fun e s' h hok S ν a w Q hrd hwr hgl hr hw => ?_⟩;have hlo:LoOK s:=hr.mem.nums.lo;rw [pick_back] at h;split at h
      · rename_i e1 s1 hp1;simp only [oI,pI] at h;obtain ⟨rfl,rfl⟩:=h;obtain ⟨s2,hp,hweak⟩:=join_pick (P:=cx.P) (base:=s.mark) ((hx s.mark).ext hlm) ((hy s.mark).ext hlm) rfl e1 s1 hp1;have hway:=hw.back hlo hr.mark.mem hweak;have hrs:∀i,i∈s2.h.rd->markS S s.h i:=fun i hi=>back_rd hrd i (hweak.rd i hi);have hws:∀i,i∈s2.h.wr->markS S s.h i:=fun i hi=>back_wr hwr i (hweak.wr i hi);simp only [Out.pick] at hp;cases v
        · exact wp_cond_false (cond_val (cx:=cx) hc hgl.1 hr) ((hy s.mark).run e1 s2 (by simpa using hp) (hweak.ok hok) _ ν a w Q hrs hws hgl.2.2 hr.mark hway)
        · exact wp_cond_true (cond_val (cx:=cx) hc hgl.1 hr) ((hx s.mark).run e1 s2 (by simpa using hp) (hweak.ok hok) _ ν a w Q hrs hws hgl.2.1 hr.mark hway)
      · cases h
    · exact ⟨fun _=>trivial,fun e s' h=>by simp [Out.pick] at h⟩
   case block id c=>
    split
    · rename_i o ho;exact hL id c s o ho (hocc id c (.inl ⟨rfl,rfl⟩))
    · exact CodeOK.block (ih c s.mark (fun id' d h=>hocc id' d (.inr h)))
   case loop c=>exact CodeOK.loop (fun s=>ih c s (fun id d h=>hocc id d h)) fp.it s
   case exit id=>
    refine ⟨fun _=>ExtS.refl s,fun e s' h hok S ν a w Q hrd hwr hgl hr hw => ?_⟩;simp only [Out.pick,oI,pI] at h;obtain ⟨rfl,rfl⟩:=h;exact wp_exit (hw ν a w (.exit id) hr (Goes.refl hr.mem) rfl)
   case ret=>
    refine ⟨fun _=>ExtS.refl s,fun e s' h hok S ν a w Q hrd hwr hgl hr hw => ?_⟩;simp only [Out.pick,oI,pI] at h;obtain ⟨rfl,rfl⟩:=h;exact wp_ret (hw ν a w .ret hr (Goes.refl hr.mem) rfl)
   all_goals exact ⟨fun _=>trivial,fun e s' h=>by simp [Out.pick] at h⟩
end
end Go.WE
end
