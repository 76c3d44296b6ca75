/- A part of a proof of the helpers' law; no condition of its own. -/
import Derived.Test.YtoeealkcacgcgaaGreatDoorS05
set_option linter.unusedVariables false
set_option maxRecDepth 100000
noncomputable section
namespace Go.WE
open Go
theorem mergeT_mp {ν:Nu} {x:Bool} {t u:T} {es:List MapEntry} (h:mpRel ν (bif x then t else u) es):mpRel ν (mergeT x t u) es:=by
 cases x
 · replace h:mpRel ν u es:=h
   cases u with
   | bad=>cases t<;>first|(simp only [mergeT];trivial)|(simp [mergeT,mpRel])
   | mp k ks ts=>cases t<;>first|(simp only [mergeT];trivial)|(simp [mergeT,mpRel])
   | _=>exact h.elim
 · replace h:mpRel ν t es:=h
   cases t with
   | bad=>simp only [mergeT];trivial
   | mp k ks ts=>simp only [mergeT];trivial
   | _=>exact h.elim
theorem memB_iff {x:Nat} {l:List Nat}:memB x l=true↔x∈l:=by
 simp only [memB,List.any_eq_true];constructor
 · rintro ⟨y,hy,hb⟩;rw [beq_true hb];exact hy
 · intro h;exact ⟨x,h,by simp⟩
theorem mem_noteAll {lo y:Nat}:∀{l l0:List Nat},y∈noteAll lo l l0↔(y∈l/\y<lo)\/y∈l0
 | [],l0=>by simp [noteAll]
 | x::r,l0=>by
   rw [noteAll,mem_noteAll,mem_noteB,List.mem_cons];constructor
   · rintro (⟨h1,h2⟩|⟨rfl,h⟩|h)
     · exact .inl ⟨.inr h1,h2⟩
     · exact .inl ⟨.inl rfl,h⟩
     · exact .inr h
   · rintro (⟨rfl|h1,h2⟩|h)
     · exact .inr (.inl ⟨rfl,h2⟩)
     · exact .inl ⟨h1,h2⟩
     · exact .inr (.inr h)
theorem mem_unionN {x:Nat}:∀{l l':List Nat},x∈unionN l l'↔x∈l\/x∈l'
 | [],l'=>by simp [unionN]
 | y::r,l'=>by
   rw [unionN,mem_unionN,mem_addN,List.mem_cons];constructor
   · rintro (h|rfl|h)<;>simp [*]
   · rintro ((rfl|h)|h)<;>simp [*]
def markS (S:Nat->Prop) (h:H):Nat->Prop:=fun i=>S i\/h.lo≤i
theorem Mem.mark {S:Nat->Prop} {ν:Nu} {w:World} {h:H} (m:Mem S ν w h):Mem (markS S h) ν w h.mark:=
 ⟨⟨m.nums.lt,m.nums.inj,m.nums.fresh,m.nums.bound,Nat.le_refl _,m.nums.glob⟩,fun id b hb hs=>m.seen id b hb (by
  rcases hs with hs|hs
  · exact hs
  · exact .inr (Nat.le_trans m.nums.lo hs))⟩
theorem back_ext {h h':H} (hlo:h.lo≤h.next) (e:Ext h.mark h'):Ext h (h.back h') where
 lo:=rfl
 next:=e.next
 rd:=fun _ hi=>mem_noteAll.2 (.inr hi)
 wr:=fun _ hi=>mem_noteAll.2 (.inr hi)
 same:=fun id hi hn=>e.same id (Nat.lt_of_lt_of_le hi hlo) (fun hw=>hn (mem_noteAll.2 (.inl ⟨hw,hi⟩)))
 rw:=e.rw
 wrw:=fun id hi=>by
  rcases mem_noteAll.1 hi with ⟨h1,_⟩|h1
  · rcases e.wrw id h1 with h2|h2
    · cases h2
    · exact .inr h2
  · exact .inl h1
 gl:=e.gl
 bnd:=e.bnd
 wlo:=fun h id hi=>by
  rcases mem_noteAll.1 hi with ⟨_,h1⟩|h1
  · exact h1
  · exact h id h1
theorem back_goes {S:Nat->Prop} {ν ν':Nu} {w w':World} {h h':H} (hlo:h.lo≤h.next) (g:Goes (markS S h) ν w h.mark ν' w' h'):Goes S ν w h ν' w' (h.back h') where
 le:=g.le
 mem:=by
  have m:=g.mem;refine ⟨⟨m.nums.lt,m.nums.inj,m.nums.fresh,m.nums.bound,?_,m.nums.glob⟩,fun id b hb hs=>m.seen id b hb ?_⟩
  · exact Nat.le_trans hlo g.ext.next
  · exact .inl hs
 frm:=⟨g.frm.os,g.frm.tape,g.frm.output,g.frm.size,fun r hr hn=>g.frm.block r hr fun id base hi=>by obtain ⟨h1,h2⟩:=hn id base hi;have h1:id<h.lo:=h1;exact ⟨by rw [g.ext.lo];exact Nat.lt_of_lt_of_le h1 hlo,fun hw=>h2 (mem_noteAll.2 (.inl ⟨hw,h1⟩))⟩⟩
 new:=g.new
 ext:=back_ext hlo g.ext
 old:=g.old
theorem back_rd {S:Nat->Prop} {h h':H} (hS:∀i,i∈(h.back h').rd->S i):∀i,i∈h'.rd->markS S h i:=fun i hi=>by
 by_cases hl:i<h.lo
 · exact .inl (hS i (mem_noteAll.2 (.inl ⟨hi,hl⟩)))
 · exact .inr (by omega)
theorem back_wr {S:Nat->Prop} {h h':H} (hS:∀i,i∈(h.back h').wr->S i):∀i,i∈h'.wr->markS S h i:=fun i hi=>by
 by_cases hl:i<h.lo
 · exact .inl (hS i (mem_noteAll.2 (.inl ⟨hi,hl⟩)))
 · exact .inr (by omega)
theorem get_mergeBlks (x:Bool) (m1 m2:Tr Blk):∀(l:List Nat) (m:Tr Blk) (id:Nat),
 (mergeBlks x m1 m2 l m).get id=if id∈l then (match m1.get id,m2.get id with
   | some b1,some b2=>some ⟨b1.rw&&b2.rw,mergeT x b1.t b2.t⟩
   | _,_=>none) else m.get id
 | [],m,id=>by simp [mergeBlks]
 | j::r,m,id=>by
   rw [mergeBlks,get_mergeBlks x m1 m2 r];by_cases hr:id∈r
   · rw [if_pos hr,if_pos (by simp [hr])]
   · rw [if_neg hr];by_cases hj:j=id
     · subst hj;rw [if_pos (by simp)]
       cases m1.get j<;>cases m2.get j<;>simp only [Tr.get_set,Tr.get_del,if_true]
     · rw [if_neg (by simp [hr];exact fun h=>hj h.symm)]
       split
       · rw [Tr.get_set,if_neg hj]
       · rw [Tr.get_del,if_neg hj]
theorem mergeH_ext {x:Bool} {h h1 h2:H} (e1:Ext h h1) (e2:Ext h h2):Ext h (mergeH x h h1 h2) where
 lo:=rfl
 next:=Nat.le_trans e1.next (Nat.le_max_left _ _)
 rd:=fun id hi=>mem_unionN.2 (.inl (e1.rd id hi))
 wr:=fun id hi=>mem_unionN.2 (.inl (e1.wr id hi))
 same:=fun id _ hn=>by
  show (mergeBlks _ _ _ _ _).get id=_
  replace hn:id ∉ unionN h1.wr h2.wr:=hn
  rw [get_mergeBlks,if_neg hn]
 rw:=fun id b' hi hb=>by
  replace hb:(mergeBlks _ _ _ _ _).get id=some b':=hb
  rw [get_mergeBlks] at hb;split at hb
  · split at hb
    · rename_i b1 b2 g1 g2;cases hb;obtain ⟨b,q1,q2⟩:=e1.rw id b1 hi g1;obtain ⟨b0,q3,q4⟩:=e2.rw id b2 hi g2;rw [q1] at q3;cases q3;exact ⟨b,q1,by simp [← q2,← q4]⟩
    · cases hb
  · exact ⟨b',hb,rfl⟩
 wrw:=fun id hi=>by
  rcases mem_unionN.1 hi with h3|h3
  · exact e1.wrw id h3
  · exact e2.wrw id h3
 gl:=rfl
 bnd:=fun hb id b hg=>by
  replace hg:(mergeBlks _ _ _ _ _).get id=some b:=hg
  rw [get_mergeBlks] at hg;split at hg
  · split at hg
    · rename_i b1 b2 g1 g2;exact Nat.lt_of_lt_of_le (e1.bnd hb id b1 g1) (Nat.le_max_left _ _)
    · cases hg
  · exact Nat.lt_of_lt_of_le (hb id b hg) (Nat.le_trans e1.next (Nat.le_max_left _ _))
 wlo:=fun h id hi=>by
  rcases mem_unionN.1 hi with h3|h3
  · exact e1.wlo h id h3
  · exact e2.wlo h id h3
theorem mergeH_goes {S:Nat->Prop} {x:Bool} {h h1 h2:H} (e1:Ext h h1) (e2:Ext h h2) {ν ν':Nu} {w w':World} (hm:Mem S ν w h)
 (hl:h.lo=h.next) (g:Goes S ν w h ν' w' (bif x then h1 else h2)):Goes S ν w h ν' w' (mergeH x h h1 h2):=by
 have hnext:(bif x then h1 else h2).next≤(mergeH x h h1 h2).next:=by
  cases x
  · exact Nat.le_max_right _ _
  · exact Nat.le_max_left _ _
 have hwr:∀id,id ∉ (mergeH x h h1 h2).wr->id ∉ (bif x then h1 else h2).wr:=fun id hn hw=>hn (by
  cases x
  · exact mem_unionN.2 (.inr hw)
  · exact mem_unionN.2 (.inl hw))
 have hblk:∀id b,(mergeH x h h1 h2).m.get id=some b->∃b',(bif x then h1 else h2).m.get id=some b'/\(b.rw=true->b'.rw=true)/\(∀vs,b'.t.rel ν' vs->b.t.rel ν' vs)/\(∀es,mpRel ν' b'.t es->mpRel ν' b.t es):=by
  intro id b hb
  replace hb:(mergeBlks _ _ _ _ _).get id=some b:=hb
  rw [get_mergeBlks] at hb;split at hb
  · split at hb
    · rename_i b1 b2 g1 g2;cases hb;cases x
      · exact ⟨b2,g2,fun hr=>by simp at hr;exact hr.2,fun vs hv=>mergeT_rel (x:=false) hv,fun es he=>mergeT_mp (x:=false) he⟩
      · exact ⟨b1,g1,fun hr=>by simp at hr;exact hr.1,fun vs hv=>mergeT_rel (x:=true) hv,fun es he=>mergeT_mp (x:=true) he⟩
    · cases hb
  · rename_i hn;have hlt:=hm.nums.bound id b hb;refine ⟨b,?_,fun h=>h,fun _ h=>h,fun _ h=>h⟩;rw [← hb];exact g.ext.same id (by omega) (hwr id hn)
 have m:=g.mem;constructor
 case le=>exact g.le
 case mem=>
  refine ⟨⟨m.nums.lt,?_,?_,?_,?_,?_⟩,?_⟩
  · intro id b hb hrw;obtain ⟨b',h3,h4,_⟩:=hblk id b hb;exact m.nums.inj id b' h3 (h4 hrw)
  · exact fun id hi=>m.nums.fresh id (Nat.le_trans hnext hi)
  · intro id b hb;obtain ⟨b',h3,_⟩:=hblk id b hb;exact Nat.lt_of_lt_of_le (m.nums.bound id b' h3) hnext
  · show h.lo≤_;exact Nat.le_trans hm.nums.lo (mergeH_ext (x:=x) e1 e2).next
  · intro gb hg;refine m.nums.glob gb ?_;rw [g.ext.gl];exact hg
  · intro id b hb hs;obtain ⟨b',h3,h4,h5⟩:=hblk id b hb;have hs:S id\/h.lo≤id:=hs;rcases m.seen id b' h3 (by rw [g.ext.lo];exact hs) with ⟨r,base,cs,ty,fr,pre,vs,post,q1,q2,q3,q4,q5,q6⟩|⟨r,es,c,q1,q2,q3⟩
    · exact .inl ⟨r,base,cs,ty,fr,pre,vs,post,q1,q2,q3,q4,h5.1 vs q5,fun hr=>q6 (h4 hr)⟩
    · exact .inr ⟨r,es,c,q1,q2,h5.2 _ q3⟩
 case frm=>
  refine ⟨g.frm.os,g.frm.tape,g.frm.output,g.frm.size,fun r hr hn=>g.frm.block r hr fun id base hi => ?_⟩;obtain ⟨h3,h4⟩:=hn id base hi;exact ⟨by rw [g.ext.lo];exact h3,hwr id h4⟩
 case new=>exact g.new
 case ext=>exact mergeH_ext e1 e2
 case old=>exact g.old
theorem under_goes {S:Nat->Prop} {ν ν':Nu} {w w':World} {h h':H} (m:Mem S ν w h) (hw:h'.wr=[]) (g:Goes (markS S h) ν w h.mark ν' w' h') :
 Goes S ν w h ν' w' { h with rd:=noteAll h.lo h'.rd h.rd,next:=h'.next }:=by
 have hlo:=m.nums.lo;have hnx:h.next≤h'.next:=g.ext.next;have hsame:∀id b,h.m.get id=some b->h'.m.get id=some b:=fun id b hb=>by rw [← hb];exact g.ext.same id (m.nums.bound id b hb) (by rw [hw];exact List.not_mem_nil)
 constructor
 case le=>exact g.le
 case mem=>
  refine ⟨⟨g.mem.nums.lt,?_,g.mem.nums.fresh,?_,?_,?_⟩,?_⟩
  · exact fun id b hb hrw=>g.mem.nums.inj id b (hsame id b hb) hrw
  · intro id b hb;exact Nat.lt_of_lt_of_le (m.nums.bound id b hb) hnx
  · exact Nat.le_trans hlo hnx
  · exact fun gb hg=>g.le _ _ (m.nums.glob gb hg)
  · exact fun id b hb hs=>g.mem.seen id b (hsame id b hb) (.inl hs)
 case frm=>
  refine ⟨g.frm.os,g.frm.tape,g.frm.output,g.frm.size,fun r hr hn=>g.frm.block r hr fun id base hi => ?_⟩;obtain ⟨h1,_⟩:=hn id base hi;have h1:id<h.lo:=h1;exact ⟨by rw [g.ext.lo];exact Nat.lt_of_lt_of_le h1 hlo,by rw [hw];exact List.not_mem_nil⟩
 case new=>exact g.new
 case ext=>exact ⟨rfl,hnx,fun _ hi=>mem_noteAll.2 (.inr hi),fun _ hi=>hi,fun _ _ _=>rfl,fun _ b _ hb=>⟨b,hb,rfl⟩,fun _ hi =>.inl hi,rfl,fun hb id b hg=>Nat.lt_of_lt_of_le (hb id b hg) hnx,fun h=>h⟩
 case old=>exact g.old
theorem under_ext {h h':H} (e:Ext h.mark h'):Ext h { h with rd:=noteAll h.lo h'.rd h.rd,next:=h'.next }:=
 ⟨rfl,e.next,fun _ hi=>mem_noteAll.2 (.inr hi),fun _ hi=>hi,fun _ _ _=>rfl,fun _ b _ hb=>⟨b,hb,rfl⟩,fun _ hi =>.inl hi,rfl,fun hb id b hg=>Nat.lt_of_lt_of_le (hb id b hg) e.next,fun h=>h⟩
theorem andOk_true {x y:A} (h:okB (andOk x y)=true):okB x=true/\okB y=true:=⟨andOk_left h,andOk_right h⟩
theorem entPut_c {km d:Nat} {G:Cond} {v:V} {c:Nat×Bool} (h:(entPut km d ⟨G,v⟩).c=some c):G=some c:=by
 unfold entPut keepEnt at h;split at h
 · split at h
   · rename_i h1 h2;rw [h2] at h;cases h
   · cases h
 · exact h
structure Need (fp:Fp) (S:Nat->Prop) (ops:List Oper) (st:St) (o:Oper) (ν:Nu) (a:Act) (w:World):Prop where
 mem:Mem S ν w st.h
 slots:∀s,(.tmp s∈o.op.operands.toList\/∃j want,o.guard=some (j,want)/\dstOf ops j=some s)->EntOK ν a.tmps s (st.get fp.km s)
 glob:∀g,.global g∈o.op.operands.toList->ν g=some (g,0)
 size:a.tmps.size=fp.nt
structure Stat (fp:Fp) (ops:List Oper) (i:Nat) (st st':St) (o:Oper):Prop where
 get:∀s,o.dst≠some s->st'.get fp.km s=st.get fp.km s
 conds:∀d sj x,o.dst=some d->(st'.get fp.km d).c=some (sj,x)->∃j,j<i/\dstOf ops j=some sj/\∃want,o.guard=some (j,want)
 ext:st.h.lo≤st.h.next->Ext st.h st'.h
 ok:okB st'.ok=true->okB st.ok=true
 defs:st'.defs=st.defs
 vars:∃q,st'.vd=q++st.vd/\∀s,s ∉ q->varsGet st'.vars s=varsGet st.vars s
 vconds:(∀s,(varsGet st.vars s).c=none)->∀s,(varsGet st'.vars s).c=none
structure Left (fp:Fp) (S:Nat->Prop) (st st':St) (o:Oper) (ν ν':Nu) (a a':Act) (w w':World):Prop where
 goes:Goes S ν w st.h ν' w' st'.h
 put:∃v,a'=a.put o.dst v
 own:∀d,o.dst=some d->EntOK ν' a'.tmps d (st'.get fp.km d)
theorem keepEnt_c (e:Ent):(keepEnt e).c=none:=by
 unfold keepEnt;cases h:e.c with
 | none=>exact h
 | some _=>rfl
theorem put_defs {km:Nat} {st:St} {d:Option Nat} {e:Ent}:(st.put km d e).defs=st.defs:=by
 cases d with
 | none=>rfl
 | some d=>cases hd:bitB km d<;>first|rw [put_false hd]|rw [put_true hd]
theorem put_vars {km:Nat} {st:St} {d:Option Nat} {e:Ent}:(∃q,(st.put km d e).vd=q++st.vd/\∀s,s ∉ q->varsGet (st.put km d e).vars s=varsGet st.vars s) /\
 ((∀s,(varsGet st.vars s).c=none)->∀s,(varsGet (st.put km d e).vars s).c=none):=by
 cases d with
 | none=>exact ⟨⟨[],rfl,fun _ _=>rfl⟩,fun h=>h⟩
 | some d=>
   cases hd:bitB km d
   · rw [put_false hd];exact ⟨⟨[],rfl,fun _ _=>rfl⟩,fun h=>h⟩
   · rw [put_true hd];refine ⟨⟨[d],rfl,fun s hs => ?_⟩,fun h s => ?_⟩
     · simp only [varsGet,Tr.get_set];rw [if_neg (fun e=>hs (by simp [e]))]
     · simp only [varsGet,Tr.get_set];by_cases e:d=s
       · rw [if_pos e];exact keepEnt_c _
       · rw [if_neg e];exact h s
section
variable {cx:Cx} {call:CallE} {fp:Fp} {S:Nat->Prop} {ops:List Oper} {i:Nat} {st st':St} {o:Oper} {ν:Nu} {w:World} {a:Act} {K:Act->World->Prop} {Q:Exit->Act->World->Prop}
theorem preC_lo {G:Cond} {h:H} (hlo:h.lo≤h.next):(preC G h).lo≤(preC G h).next:=by
 cases G with
 | none=>exact hlo
 | some _=>exact Nat.le_refl _
theorem runOp_stat (hC:CallOK cx.P call) {G:Cond} {gb:Bool} (he:runOp cx call fp G gb st o=some st')
 (hGj:∀sj x,G=some (sj,x)->∃j,j<i/\dstOf ops j=some sj/\∃want,o.guard=some (j,want)):Stat fp ops i st st' o:=by
 unfold runOp at he;split at he
 · cases he
 · rename_i r hr;split at he
   · cases he
   · rename_i h hu;simp only [oI] at he;subst he;refine ⟨fun s hs => ?_,fun d sj x hds hc => ?_,fun hlo => ?_,fun hok => ?_,put_defs,put_vars.1,fun hv=>put_vars.2 hv⟩
     · rw [get_put_ne hs];exact get_of_eq rfl rfl s
     · rw [hds,get_put_eq] at hc;exact hGj sj x (entPut_c hc)
     · rw [put_h];have e:=evalOp_ext hC (preC_lo (G:=G) hlo) hr;cases G with
       | none=>
         simp only [underC,oI] at hu;rw [← hu];exact e
       | some c=>
         simp only [underC] at hu;split at hu
         · split at hu
           · simp only [oI] at hu;rw [← hu];exact under_ext e
           · cases hu
         · cases hu
     · rw [put_ok] at hok;exact (andOk_true hok).1
theorem runOp_sound (hE:EqOK cx) (hC:CallOK cx.P call) {G:Cond} {gb:Bool} (he:runOp cx call fp G gb st o=some st') (hok:okB st'.ok=true)
 (hn:Need fp S ops st o ν a w) (hdst:dstFine fp.nt o.dst=true) (hG:holds a.tmps G) (hgb:G≠none->gb=true)
 (hne:∀sj x,G=some (sj,x)->o.dst≠some sj) (hops:∀s,.tmp s∈o.op.operands.toList->EntOK ν a.tmps s (st.get fp.km s))
 (hrd:∀i,i∈st'.h.rd->S i) (hwr:∀i,i∈st'.h.wr->S i)
 (hK:∀ν' a' w',Left fp S st st' o ν ν' a a' w w'->K a' w'):o.wp cx.P a w K Q:=by
 unfold runOp at he;split at he
 · cases he
 · rename_i r hr;split at he
   · cases he
   · rename_i h hu;simp only [oI] at he;subst he;rw [put_ok] at hok;rw [put_h] at hrd hwr;have hok2:=(andOk_true hok).2;have hrok:okB r.ok=true:=by
      unfold condOk at hok2;split at hok2
      · exact hok2
      · have:=hgb (by simp)
        subst this;split at hok2
        · rename_i e;rw [e];rfl
        · rename_i e;rw [e];simp [okB] at hok2;exact hok2
        · simp [okB] at hok2
     have hslots:Slots ν a.tmps (st.get fp.km) o.op.operands.toList:=fun s hs hc=>(hops s hs).1 hc;have hglob:Glob ν o.op.operands.toList:=hn.glob;have fin:∀ν' w' v,r.v.rel ν' v->Goes S ν w st.h ν' w' h->K (a.put o.dst v) w':=by
      intro ν' w' v hv hg;refine hK ν' _ w' ⟨?_,⟨v,rfl⟩,?_⟩
      · rw [put_h];exact hg
      · intro d hds;have hsz:d<a.tmps.size:=by rw [hds] at hdst;rw [hn.size];exact blt_lt hdst
        rw [hds,get_put_eq];have hval:r.v.rel ν' ((a.put (some d) v).tmps.getD d undef):=by rw [getD_put_eq hsz];exact hv
        have hG':holds (a.put (some d) v).tmps G:=(holds_put (fun sj x hg=>by rw [← hds];exact hne sj x hg)).2 hG
        unfold entPut keepEnt;split
        · split
          · exact ⟨fun _=>hval,fun hno=>absurd hG' hno⟩
          · exact ⟨fun _=>by simp [V.rel,T.relV,A.rel],fun hno=>absurd trivial hno⟩
        · exact ⟨fun _=>hval,fun hno=>absurd hG' hno⟩
     cases G with
     | none=>
       simp only [underC,oI] at hu;subst hu;exact evalOp_sound hE hC hn.mem hr hrok hrd hwr rfl trivial hslots hglob (fun ν' w' v hv hg=>fin ν' w' v hv hg)
     | some c=>
       simp only [underC] at hu;split at hu
       · rename_i hw;split at hu
         · simp only [oI] at hu;subst hu;refine evalOp_sound hE hC hn.mem.mark hr hrok ?_ ?_ rfl hG hslots hglob (fun ν' w' v hv hg=>fin ν' w' v hv (under_goes hn.mem hw hg))
           · intro j hj;by_cases hl:j<st.h.lo
             · exact .inl (hrd j (mem_noteAll.2 (.inl ⟨hj,hl⟩)))
             · exact .inr (by omega)
           · rw [hw];intro j hj;cases hj
         · cases hu
       · cases hu
theorem cond_left (hC:CallOK cx.P call) {sj:Nat} {x:Bool} {gb:Bool} (he:runOp cx call fp (some (sj,x)) gb st o=some st')
 (hn:Need fp S ops st o ν a w) (hdst:dstFine fp.nt o.dst=true) (hG:¬holds a.tmps (some (sj,x))) (hne:o.dst≠some sj) :
 Left fp S st st' o ν ν a (a.put o.dst undef) w w:=by
 unfold runOp at he;split at he
 · cases he
 · rename_i r hr;split at he
   · cases he
   · rename_i h hu;simp only [oI] at he;subst he;have e:=evalOp_ext hC (preC_lo (G:=some (sj,x)) hn.mem.nums.lo) hr;simp only [underC] at hu;split at hu
     · split at hu
       · simp only [oI] at hu;subst hu;have hnx:st.h.next≤r.h.next:=e.next;refine ⟨?_,⟨undef,rfl⟩,fun d hds => ?_⟩
         · rw [put_h];refine ⟨Nu.le_refl _,⟨⟨hn.mem.nums.lt,hn.mem.nums.inj,fun id hi=>hn.mem.nums.fresh id (Nat.le_trans hnx hi),fun id b hb=>Nat.lt_of_lt_of_le (hn.mem.nums.bound id b hb) hnx,
            Nat.le_trans hn.mem.nums.lo hnx,hn.mem.nums.glob⟩,hn.mem.seen⟩,Frm.refl _ _ _,fun _ _ _ h h'=>(by rw [h] at h';cases h'),under_ext e,fun _ _=>rfl⟩
         · have hsz:d<a.tmps.size:=by rw [hds] at hdst;rw [hn.size];exact blt_lt hdst
           rw [hds,get_put_eq];have hG':¬holds (a.put (some d) undef).tmps (some (sj,x)):=fun h=>hG ((holds_put (fun s y hg=>by cases hg;rw [← hds];exact hne)).1 h)
           unfold entPut keepEnt;split
           · exact ⟨fun _=>by simp [V.rel,T.relV,A.rel],fun hno=>absurd trivial hno⟩
           · exact ⟨fun h=>absurd h hG',fun _=>getD_put_eq hsz⟩
       · cases hu
     · cases hu
theorem skip_left (hn:Need fp S ops st o ν a w) (hdst:dstFine fp.nt o.dst=true) :
 Left fp S st (st.put fp.km o.dst ⟨none,.t (.a .undef)⟩) o ν ν a (a.put o.dst undef) w w:=by
 refine ⟨?_,⟨undef,rfl⟩,fun d hds => ?_⟩
 · rw [put_h];exact Goes.refl hn.mem
 · have hsz:d<a.tmps.size:=by rw [hds] at hdst;rw [hn.size];exact blt_lt hdst
   rw [hds,get_put_eq];have hv:(V.t (.a .undef)).rel ν ((a.put (some d) undef).tmps.getD d undef):=by rw [getD_put_eq hsz];simp [V.rel,T.relV,A.rel]
   unfold entPut keepEnt;split
   · exact ⟨fun _=>hv,fun hno=>absurd trivial hno⟩
   · exact ⟨fun _=>hv,fun hno=>absurd trivial hno⟩
theorem skip_stat:Stat fp ops i st (st.put fp.km o.dst ⟨none,.t (.a .undef)⟩) o:=by
 refine ⟨fun s hs=>get_put_ne hs,fun d sj x hds hc => ?_,fun _=>by rw [put_h];exact Ext.refl _,fun h=>by rwa [put_ok] at h,put_defs,put_vars.1,put_vars.2⟩
 rw [hds,get_put_eq] at hc;exact absurd (entPut_c hc) (by simp)
theorem stepG1_stat (hC:CallOK cx.P call) {sj j:Nat} {want:Bool} {e:Ent} (hg:o.guard=some (j,want)) (hji:j<i) (hsj:dstOf ops j=some sj)
 (he:stepG1 cx call fp sj want st o e=some st'):Stat fp ops i st st' o:=by
 have hGj:∀s x,(some (sj,want):Cond)=some (s,x)->∃j,j<i/\dstOf ops j=some s/\∃want,o.guard=some (j,want):=by intro s x h;simp at h;exact ⟨j,hji,by rw [hsj,h.1],want,hg⟩
 have hno:∀s x,(none:Cond)=some (s,x)->∃j,j<i/\dstOf ops j=some s/\∃want,o.guard=some (j,want):=fun _ _ h=>by cases h
 unfold stepG1 stepG2 at he
 (repeat' split at he)<;>first|exact runOp_stat hC he hGj|exact runOp_stat hC he hno|(simp only [oI] at he;subst he;exact skip_stat)|cases he
theorem stepOp_stat (hC:CallOK cx.P call) (he:stepOp cx call fp i ops st o=some st'):Stat fp ops i st st' o:=by
 unfold stepOp at he;split at he
 · cases he
 · split at he
   · exact runOp_stat hC he (fun _ _ h=>by cases h)
   · rename_i j want hg;unfold stepG at he;split at he
     · rename_i hji;split at he
       · rename_i sj hsj;exact stepG1_stat hC hg (blt_lt hji) hsj he
       · cases he
     · cases he
theorem stepG1_sound (hE:EqOK cx) (hC:CallOK cx.P call) {sj j:Nat} {want:Bool} (hg:o.guard=some (j,want)) (hsj:dstOf ops j=some sj)
 (he:stepG1 cx call fp sj want st o (st.get fp.km sj)=some st') (hok:okB st'.ok=true)
 (hn:Need fp S ops st o ν a w) (hdst:dstFine fp.nt o.dst=true) (hne:o.dst≠some sj)
 (hrd:∀i,i∈st'.h.rd->S i) (hwr:∀i,i∈st'.h.wr->S i)
 (hK:∀ν' a' w',Left fp S st st' o ν ν' a a' w w'->K a' w') :
 if Region.wanted o (yielded ops.toArray a.tmps) then o.wp cx.P a w K Q else K (a.put o.dst undef) w:=by
 have hw:=fun t=>wanted_guard (tmps:=t) hg hsj;have hent:=hn.slots sj (.inr ⟨j,want,hg,hsj⟩);have hops:∀s,.tmp s∈o.op.operands.toList->EntOK ν a.tmps s (st.get fp.km s):=fun s hs=>hn.slots s (.inl hs);have dyn:∀gb,runOp cx call fp (some (sj,want)) gb st o=some st'->(holds a.tmps (some (sj,want))->gb=true) ->
  if Region.wanted o (yielded ops.toArray a.tmps) then o.wp cx.P a w K Q else K (a.put o.dst undef) w:=by
  intro gb he hgb;by_cases hh:holds a.tmps (some (sj,want))
  · rw [if_pos ((hw _).2 hh)];exact runOp_sound hE hC he hok hn hdst hh (fun _=>hgb hh) (fun s x h=>by cases h;exact hne) hops hrd hwr hK
  · rw [if_neg (fun h=>hh ((hw _).1 h))];exact hK _ _ _ (cond_left hC he hn hdst hh hne)
 have run:runOp cx call fp none true st o=some st'->a.tmps.getD sj undef = .bool want ->
  if Region.wanted o (yielded ops.toArray a.tmps) then o.wp cx.P a w K Q else K (a.put o.dst undef) w:=by
  intro he hv;rw [if_pos ((hw _).2 hv)];exact runOp_sound hE hC he hok hn hdst trivial (fun h=>absurd rfl h) (fun _ _ h=>by cases h) hops hrd hwr hK
 have skip:∀b,st.put fp.km o.dst ⟨none,.t (.a .undef)⟩=st'->a.tmps.getD sj undef = .bool b->b≠want ->
  if Region.wanted o (yielded ops.toArray a.tmps) then o.wp cx.P a w K Q else K (a.put o.dst undef) w:=by
  intro b he hv hb;rw [if_neg (fun h=>by have:=(hw _).1 h;simp only [holds] at this;rw [hv] at this;simp at this;exact hb this)]
  subst he;exact hK _ _ _ (skip_left hn hdst)
 have und:∀x:Bool,undef≠Value.bool x:=fun x h=>by simp [undef] at h
 have bval:∀x:A,(st.get fp.km sj).v = .t (.a x)->∀y,x.bool? = some y->holds a.tmps (some (sj,want))->y=want:=by
  intro x hv y hy hh;have hc:holds a.tmps (st.get fp.km sj).c:=Classical.byContradiction fun hno=>by have h1:=hent.2 hno;simp only [holds] at hh;rw [h1] at hh;exact und _ hh
  have h2:=hent.1 hc;rw [hv] at h2;have h2:x.rel ν _:=h2;have h3:=A.rel_bool h2 hy;simp only [holds] at hh;rw [hh] at h3;simp at h3;exact h3.symm
 have cval:∀x:A,(st.get fp.km sj).v = .t (.a x)->∀y,x.bool? = some y->(st.get fp.km sj).c=none->a.tmps.getD sj undef = .bool y:=by
  intro x hv y hy hc;have h2:=hent.1 (by rw [hc];trivial)
  rw [hv] at h2;have h2:x.rel ν _:=h2;exact A.rel_bool h2 hy
 unfold stepG1 at he;split at he
 · rename_i x hv;split at he
   · unfold stepG2 at he;split at he
     · rename_i hc;have hval:=cval _ hv true rfl hc;split at he
       · split at he
         · exact run he hval
         · rename_i hb;cases hb
       · split at he
         · simp only [oI] at he;exact skip true he hval (by simp)
         · rename_i hb;cases hb
     · exact dyn _ he (fun hh=>by simp [bval _ hv true rfl hh])
   · unfold stepG2 at he;split at he
     · rename_i hc;have hval:=cval _ hv false rfl hc;split at he
       · split at he
         · rename_i hb;cases hb
         · simp only [oI] at he;exact skip false he hval (by simp)
       · split at he
         · rename_i hb;cases hb
         · exact run he hval
     · exact dyn _ he (fun hh=>by simp [bval _ hv false rfl hh])
   · rename_i y;refine dyn _ he (fun hh => ?_);have:=bval _ hv y rfl hh;subst this;cases y<;>rfl
   · have hval:a.tmps.getD sj undef=undef:=by
      by_cases hc:holds a.tmps (st.get fp.km sj).c
      · have h2:=hent.1 hc;rw [hv] at h2;have h2:A.undef.rel ν _:=h2;simpa only [A.rel] using h2
      · exact hent.2 hc
     simp only [oI] at he;rw [if_neg (fun h=>by have:=(hw _).1 h;simp only [holds] at this;rw [hval] at this;exact und _ this)]
     subst he;exact hK _ _ _ (skip_left hn hdst)
   · cases he
 · cases he
theorem stepOp_sound (hE:EqOK cx) (hC:CallOK cx.P call) (he:stepOp cx call fp i ops st o=some st') (hok:okB st'.ok=true)
 (hn:Need fp S ops st o ν a w) (hd:chkDst ops=true) (ho:ops[i]? = some o)
 (hrd:∀i,i∈st'.h.rd->S i) (hwr:∀i,i∈st'.h.wr->S i)
 (hK:∀ν' a' w',Left fp S st st' o ν ν' a a' w w'->K a' w') :
 if Region.wanted o (yielded ops.toArray a.tmps) then o.wp cx.P a w K Q else K (a.put o.dst undef) w:=by
 unfold stepOp at he;split at he
 · cases he
 · rename_i hdst;split at he
   · rename_i hg;rw [if_pos (by simp [Region.wanted,hg])]
     exact runOp_sound hE hC he hok hn hdst trivial (fun h=>absurd rfl h) (fun _ _ h=>by cases h) (fun s hs=>hn.slots s (.inl hs)) hrd hwr hK
   · rename_i j want hg;unfold stepG at he;split at he
     · rename_i hji;split at he
       · rename_i sj hsj;have hdi:dstOf ops i=o.dst:=by unfold dstOf;rw [ho]
         have hne:o.dst≠some sj:=fun hds=>by have:=chkDst_inj hd hsj (hdi.trans hds);have:=blt_lt hji;omega
         exact stepG1_sound hE hC hg hsj he hok hn hdst hne hrd hwr hK
       · cases he
     · cases he
end
def Out.All (p:St->Prop):Out->Prop
 | .fail=>True
 | .leaf _ s=>p s
 | .node _ a b=>a.All p/\b.All p
def Out.pick:Out->Option (Ex×St)
 | .fail=>none
 | .leaf e s=>some (e,s)
 | .node x a b=>bif x then a.pick else b.pick
theorem Out.All.mono {p q:St->Prop} (h:∀s,p s->q s):∀{o:Out},o.All p->o.All q
 | .fail,_=>trivial
 | .leaf _ s,hp=>h s hp
 | .node _ _ _,hp=>⟨Out.All.mono h hp.1,Out.All.mono h hp.2⟩
theorem Out.All.pick {p:St->Prop}:∀{o:Out} {e:Ex} {s:St},o.All p->o.pick=some (e,s)->p s
 | .leaf _ s,_,_,h,hp=>by simp [Out.pick] at hp;rw [← hp.2];exact h
 | .node x a b,e,s,h,hp=>by
   simp only [Out.pick] at hp;cases x
   · exact Out.All.pick h.2 hp
   · exact Out.All.pick h.1 hp
theorem pick_bind (f:St->Out):∀(o:Out),(o.bind f).pick=match o.pick with|some (.nrm,s)=>(f s).pick|r=>r
 | .fail=>rfl
 | .leaf .nrm s=>rfl
 | .leaf (.exit _) s=>rfl
 | .leaf .ret s=>rfl
 | .leaf (.pan _) s=>rfl
 | .node x a b=>by
   simp only [Out.bind,Out.pick];cases x
   · exact pick_bind f b
   · exact pick_bind f a
theorem all_bind {p:St->Prop} {f:St->Out}:∀{o:Out},o.All p->(∀s,p s->(f s).All p)->(o.bind f).All p
 | .fail,_,_=>trivial
 | .leaf .nrm s,h,hf=>hf s h
 | .leaf (.exit _) _,h,_=>h
 | .leaf .ret _,h,_=>h
 | .leaf (.pan _) _,h,_=>h
 | .node _ _ _,h,hf=>⟨all_bind h.1 hf,all_bind h.2 hf⟩
structure ExtS (st st':St):Prop where
 h:Ext st.h st'.h
 vars:∃q,st'.vd=q++st.vd/\∀s,s ∉ q->varsGet st'.vars s=varsGet st.vars s
 vconds:(∀s,(varsGet st.vars s).c=none)->∀s,(varsGet st'.vars s).c=none
 defs:∃q,st'.defs=q++st.defs
 ok:okB st'.ok=true->okB st.ok=true
theorem ExtS.refl (s:St):ExtS s s:=⟨Ext.refl _,⟨[],rfl,fun _ _=>rfl⟩,fun h=>h,⟨[],rfl⟩,fun h=>h⟩
theorem ExtS.trans {s s1 s2:St} (a:ExtS s s1) (b:ExtS s1 s2):ExtS s s2 where
 h:=a.h.trans b.h
 vars:=by
  obtain ⟨q,h1,h2⟩:=a.vars;obtain ⟨q',h3,h4⟩:=b.vars;refine ⟨q'++q,by rw [h3,h1,List.append_assoc],fun s hs => ?_⟩
  rw [List.mem_append,not_or] at hs;rw [h4 s hs.1,h2 s hs.2]
 vconds:=fun h=>b.vconds (a.vconds h)
 defs:=by obtain ⟨q,h1⟩:=a.defs;obtain ⟨q',h3⟩:=b.defs;exact ⟨q'++q,by rw [h3,h1,List.append_assoc]⟩
 ok:=fun h=>a.ok (b.ok h)
def LoOK (s:St):Prop:=s.h.lo≤s.h.next
theorem ExtS.lo {s s':St} (e:ExtS s s') (h:LoOK s):LoOK s':=by
 unfold LoOK at *;rw [e.h.lo];exact Nat.le_trans h e.h.next
theorem Stat.exts {fp:Fp} {ops:List Oper} {i:Nat} {st st':St} {o:Oper} (s:Stat fp ops i st st' o) (hlo:LoOK st):ExtS st st':=
 ⟨s.ext hlo,s.vars,s.vconds,⟨[],s.defs⟩,s.ok⟩
def DfRel (P:Program) (ν:Nu) (d:FuncId×List V) (d':Deferred):Prop:=
 ∃fv cap us,d'.target = .fn fv cap/\(∀w,(invoke d'.target d'.args).run P w=(callFunc d.1 us.toArray).run P w)/\relV ν d.2 us
def Dfs (P:Program) (ν:Nu):List (FuncId×List V)->List Deferred->Prop
 | [],[]=>True
 | d::ds,d'::ds'=>DfRel P ν d d'/\Dfs P ν ds ds'
 | _,_=>False
theorem DfRel.mono {P:Program} {ν ν':Nu} (hl:ν.le ν') {d:FuncId×List V} {d':Deferred} (h:DfRel P ν d d'):DfRel P ν' d d':=by
 obtain ⟨fv,cap,us,h1,h2,h3⟩:=h;exact ⟨fv,cap,us,h1,h2,relV_mono hl h3⟩
theorem Dfs.mono {P:Program} {ν ν':Nu} (hl:ν.le ν'):∀{ds:List (FuncId×List V)} {ds':List Deferred},Dfs P ν ds ds'->Dfs P ν' ds ds'
 | [],[],_=>trivial
 | _::_,_::_,h=>⟨h.1.mono hl,Dfs.mono hl h.2⟩
 | [],_::_,h=>h.elim
 | _::_,[],h=>h.elim
structure CRel (P:Program) (fp:Fp) (S:Nat->Prop) (st:St) (ν:Nu) (a:Act) (w:World):Prop where
 mem:Mem S ν w st.h
 slots:∀s,EntOK ν a.tmps s (st.get fp.km s)
 vconds:∀s,(varsGet st.vars s).c=none
 size:a.tmps.size=fp.nt
 defers:Dfs P ν st.defs a.defers
structure Rel (P:Program) (fp:Fp) (S:Nat->Prop) (ops:List Oper) (i:Nat) (st:St) (ν:Nu) (a:Act) (w:World):Prop where
 c:CRel P fp S st ν a w
 conds:∀s sj x,(st.get fp.km s).c=some (sj,x)->∃j,j<i/\dstOf ops j=some sj
def Ex.rel (ν:Nu):Ex->Exit->Prop
 | .nrm,x=>x = .normal
 | .exit id,x=>x = .exit id
 | .ret,x=>x = .ret
 | .pan v,x=>∃u,x = .panic [{ v:=u,recovered:=false }]/\v.rel ν u
section
variable {cx:Cx} {call:CallE} {fp:Fp} {S:Nat->Prop} {ops:List Oper} {i:Nat} {st st':St} {o:Oper} {ν ν':Nu} {w w':World} {a a':Act} {K:Act->World->Prop} {Q:Exit->Act->World->Prop}
def OpGl (o:Oper) (h:H):Prop:=∀g,.global g∈o.op.operands.toList->g∈h.gl
theorem Rel.need {P:Program} (hr:Rel P fp S ops i st ν a w) (hg:OpGl o st.h):Need fp S ops st o ν a w:=
 ⟨hr.c.mem,fun s _=>hr.c.slots s,fun g hm=>hr.c.mem.nums.glob g (hg g hm),hr.c.size⟩
theorem Rel.left {P:Program} (hr:Rel P fp S ops i st ν a w) (hd:chkDst ops=true) (ho:ops[i]? = some o) (hs:Stat fp ops i st st' o) (hl:Left fp S st st' o ν ν' a a' w w') :
 Rel P fp S ops (i+1) st' ν' a' w':=by
 obtain ⟨v,hput⟩:=hl.put;have hdi:dstOf ops i=o.dst:=by unfold dstOf;rw [ho]
 have hlt:∀sj j,j<i->dstOf ops j=some sj->o.dst≠some sj:=by intro sj j hj hdj hds;have:=chkDst_inj hd (hdi.trans hds) hdj;omega
 refine ⟨⟨hl.goes.mem,?_,hs.vconds hr.c.vconds,by rw [hput,size_put];exact hr.c.size,by rw [hput,put_defers,hs.defs];exact hr.c.defers.mono hl.goes.le⟩,?_⟩
 · intro s;by_cases hds:o.dst=some s
   · exact hl.own s hds
   · rw [hs.get s hds,hput];obtain ⟨h1,h2⟩:=hr.c.slots s;have hh:holds (a.put o.dst v).tmps (st.get fp.km s).c↔holds a.tmps (st.get fp.km s).c:=holds_put (fun sj x hc=>by
      obtain ⟨j,hj,hdj⟩:=hr.conds s sj x hc;exact hlt sj j hj hdj)
     unfold EntOK;rw [hh,getD_put_ne hds];exact ⟨fun h=>V.rel_mono hl.goes.le (h1 h),h2⟩
 · intro s sj x hc;by_cases hds:o.dst=some s
   · obtain ⟨j,hj,hdj,_⟩:=hs.conds s sj x hds hc;exact ⟨j,by omega,hdj⟩
   · rw [hs.get s hds] at hc;obtain ⟨j,hj,hdj⟩:=hr.conds s sj x hc;exact ⟨j,by omega,hdj⟩
theorem getT_knowT {sj:Nat} {b:Bool}:∀(l:List (Nat×Ent)) (s:Nat),getT (knowT sj b l) s=knowE sj b (getT l s)
 | [],s=>rfl
 | (t,e)::r,s=>by rw [knowT,get_cons,get_cons,getT_knowT r s];split<;>rfl
theorem eqBool_iff {a b:Bool}:eqBool a b=true↔a=b:=by cases a<;>cases b<;>decide
theorem knowE_cases {sj:Nat} {b:Bool} (e:Ent):(∃w,e.c=some (sj,w)/\w=b/\knowE sj b e=⟨none,e.v⟩)\/(∃w,e.c=some (sj,w)/\w≠b/\knowE sj b e=⟨none,.t (.a .undef)⟩) \/
 (knowE sj b e=e/\∀s w,e.c=some (s,w)->s≠sj):=by
 unfold knowE;cases hc:e.c with
 | none=>exact .inr (.inr ⟨rfl,fun _ _ h=>by cases h⟩)
 | some p=>
   obtain ⟨s,w⟩:=p;simp only;cases hb:Nat.beq s sj
   · exact .inr (.inr ⟨rfl,fun s' w' h=>by cases h;exact beq_false hb⟩)
   · have:=beq_true hb;subst this;cases he:eqBool w b
     · exact .inr (.inl ⟨w,rfl,(fun h=>by rw [eqBool_iff.2 h] at he;cases he),rfl⟩)
     · exact .inl ⟨w,rfl,eqBool_iff.1 he,rfl⟩
theorem know_h {km sj:Nat} {b:Bool}:(st.know km sj b).h=st.h:=by unfold St.know;rw [put_h]
theorem know_defs {km sj:Nat} {b:Bool}:(st.know km sj b).defs=st.defs:=by unfold St.know;rw [put_defs]
theorem know_exts {km sj:Nat} {b:Bool}:ExtS st (st.know km sj b):=by
 refine ⟨by rw [know_h];exact Ext.refl _,?_,?_,⟨[],know_defs⟩,fun h => ?_⟩
 · exact put_vars.1
 · exact fun h=>put_vars.2 h
 · unfold St.know at h;rwa [put_ok] at h
theorem Rel.know {P:Program} (hr:Rel P fp S ops i st ν a w) {sj:Nat} {b:Bool} (hv:a.tmps.getD sj undef = .bool b):Rel P fp S ops i (st.know fp.km sj b) ν a w:=by
 have hget:∀s,s≠sj->(st.know fp.km sj b).get fp.km s=st.get fp.km s\/(st.know fp.km sj b).get fp.km s=knowE sj b (st.get fp.km s):=by
  intro s hs;have h1:(st.know fp.km sj b).get fp.km s=({ st with tmps:=knowT sj b st.tmps }:St).get fp.km s:=get_put_ne (fun h=>hs (by cases h;rfl))
  rw [h1];cases hk:bitB fp.km s
  · rw [get_false hk,get_false hk];exact .inr (getT_knowT _ _)
  · rw [get_true hk,get_true hk];exact .inl rfl
 have hgetj:(st.know fp.km sj b).get fp.km sj=entPut fp.km sj ⟨none,.t (.a (ofDec b))⟩:=get_put_eq;have hent:∀s,EntOK ν a.tmps s (knowE sj b (st.get fp.km s)):=by
  intro s;obtain ⟨h1,h2⟩:=hr.c.slots s;rcases knowE_cases (sj:=sj) (b:=b) (st.get fp.km s) with ⟨w',hc,rfl,he⟩|⟨w',hc,hne,he⟩|⟨he,_⟩
  · rw [he];exact ⟨fun _=>h1 (by rw [hc];exact hv),fun hno=>absurd trivial hno⟩
  · rw [he];refine ⟨fun _ => ?_,fun hno=>absurd trivial hno⟩;have:=h2 (by rw [hc];simp only [holds];rw [hv];simp;exact fun h=>hne h.symm)
    rw [this];simp [V.rel,T.relV,A.rel]
  · rw [he];exact ⟨h1,h2⟩
 refine ⟨⟨by rw [know_h];exact hr.c.mem,fun s => ?_,(know_exts (km:=fp.km)).vconds hr.c.vconds,hr.c.size,by rw [know_defs];exact hr.c.defers⟩,fun s sj' x hc => ?_⟩
 · by_cases hs:s=sj
   · subst hs;rw [hgetj];have hval:(V.t (.a (ofDec b))).rel ν (a.tmps.getD s undef):=by rw [hv];exact ofDec_rel _ _
     unfold entPut keepEnt;split<;>exact ⟨fun _=>hval,fun hno=>absurd trivial hno⟩
   · rcases hget s hs with e|e
     · rw [e];exact hr.c.slots s
     · rw [e];exact hent s
 · by_cases hs:s=sj
   · subst hs;rw [hgetj] at hc;exact absurd (entPut_c hc) (by simp)
   · rcases hget s hs with e|e
     · rw [e] at hc;exact hr.conds s sj' x hc
     · rw [e] at hc;rcases knowE_cases (sj:=sj) (b:=b) (st.get fp.km s) with ⟨w',_,_,he⟩|⟨w',_,_,he⟩|⟨he,_⟩
       · rw [he] at hc;cases hc
       · rw [he] at hc;cases hc
       · rw [he] at hc;exact hr.conds s sj' x hc
def oneWay (r:R):R:=match r.pick with
 | some (ok,v,h) =>.leaf ok v h
 | none =>.fail
theorem R.All.pick {p:H->Prop}:∀{r:R} {ok:A} {v:V} {h:H},r.All p->r.pick=some (ok,v,h)->p h
 | .leaf _ _ _,_,_,_,ha,hp=>by simp [R.pick] at hp;rw [← hp.2.2];exact ha
 | .pan _ _ _,_,_,_,_,hp=>by simp [R.pick] at hp
 | .fail,_,_,_,_,hp=>by simp [R.pick] at hp
 | .node x a b,_,_,_,ha,hp=>by
   simp only [R.pick] at hp;cases x
   · exact R.All.pick ha.2 (by simpa using hp)
   · exact R.All.pick ha.1 (by simpa using hp)
theorem CallOK.oneWay {P:Program} (hC:CallOK P call):CallOK P (fun f vs h=>oneWay (call f vs h)) where
 ok:=fun f args h ok v h' hp hok=>by
  unfold Go.WE.oneWay at hp;split at hp
  · rename_i ok1 v1 h1 h2;simp [R.pick] at hp;obtain ⟨rfl,rfl,rfl⟩:=hp;exact hC.ok f args h _ _ _ h2 hok
  · simp [R.pick] at hp
 pan:=fun f args h ok v h' hp hok=>by unfold Go.WE.oneWay at hp;split at hp<;>simp [R.pickP] at hp
 ext:=fun f args h hlo=>by
  unfold Go.WE.oneWay;split
  · rename_i ok1 v1 h1 h2;exact R.All.pick (hC.ext f args h hlo) h2
  · trivial
theorem all_toOut {p:St->Prop} {q:H->Prop} (h1:∀ok v h,q h->p (({ st with ok:=andOk st.ok ok,h:=h }:St).put fp.km o.dst ⟨none,v⟩)) (h2:∀ok h,q h->p { st with ok:=andOk st.ok ok,h:=h }) :
 ∀{r:R},r.All q->(r.toOut fp st o).All p
 | .fail,_=>trivial
 | .leaf ok v h,hq=>h1 ok v h hq
 | .pan ok v h,hq=>h2 ok h hq
 | .node _ _ _,hq=>⟨all_toOut h1 h2 hq.1,all_toOut h1 h2 hq.2⟩
theorem pick_toOut:∀{r:R} {e:Ex},(r.toOut fp st o).pick=some (e,st') ->
 (∃ok v h,r.pick=some (ok,v,h)/\e = .nrm/\st'=(({ st with ok:=andOk st.ok ok,h:=h }:St).put fp.km o.dst ⟨none,v⟩)) \/
 (∃ok v h,r.pickP=some (ok,v,h)/\e = .pan v/\st'={ st with ok:=andOk st.ok ok,h:=h })
 | .fail,_,hp=>by simp [R.toOut,Out.pick] at hp
 | .leaf ok v h,e,hp=>by simp only [R.toOut,Out.pick,oI,pI] at hp;exact .inl ⟨ok,v,h,rfl,hp.1.symm,hp.2.symm⟩
 | .pan ok v h,e,hp=>by simp only [R.toOut,Out.pick,oI,pI] at hp;exact .inr ⟨ok,v,h,rfl,hp.1.symm,hp.2.symm⟩
 | .node x a b,e,hp=>by
   simp only [R.toOut,Out.pick] at hp;cases x
   · simpa [R.pick,R.pickP] using pick_toOut (r:=b) hp
   · simpa [R.pick,R.pickP] using pick_toOut (r:=a) hp
theorem put_exts {h:H} {ok:A} {d:Option Nat} {e:Ent} (hx:Ext st.h h):ExtS st (({ st with ok:=andOk st.ok ok,h:=h }:St).put fp.km d e):=
 ⟨by rw [put_h];exact hx,put_vars.1,fun hv=>put_vars.2 hv,⟨[],put_defs⟩,fun ho=>by rw [put_ok] at ho;exact (andOk_true ho).1⟩
theorem ofOpt_all {p:H->Prop} {x:Option OpR} (h:∀r,x=some r->p r.h):(R.ofOpt x).All p:=by
 cases x with
 | none=>trivial
 | some r=>exact h r rfl
theorem evalCallR_ext (hC:CallOK cx.P call) (hlo:LoOK st) {gt:Nat->Ent} {c:Call}:(evalCallR cx call gt st.h c).All (Ext st.h):=by
 unfold evalCallR;split
 · trivial
 · split
   · split
     · exact hC.ext _ _ _ hlo
     · trivial
   · exact ofOpt_all (fun r hr=>evalBuiltin_ext hlo hr)
   · trivial
theorem runR_ext (hC:CallOK cx.P call) (hlo:LoOK st):(runR cx call fp st o).All (ExtS st):=by
 have key:∀{r:R},r.All (Ext st.h)->(r.toOut fp st o).All (ExtS st):=fun hr=>
  all_toOut (q:=Ext st.h) (fun ok v h hx=>put_exts hx) (fun ok h hx=>⟨hx,⟨[],rfl,fun _ _=>rfl⟩,fun h=>h,⟨[],rfl⟩,fun ho=>(andOk_true ho).1⟩) hr
 unfold runR;split
 · exact key (evalCallR_ext hC hlo)
 · refine key ?_;unfold evalPanic;split
   · exact Ext.refl _
   · trivial
 · split
   · exact ⟨by rw [put_h];exact Ext.refl _,put_vars.1,fun hv=>put_vars.2 hv,⟨[_],put_defs⟩,fun ho=>by rwa [put_ok] at ho⟩
   · trivial
 · split
   · rename_i s hs;exact (runOp_stat (ops:=[]) (i:=0) hC hs (fun _ _ h=>by cases h)).exts hlo
   · trivial
theorem skip_exts:(skipO fp st o).All (ExtS st):=
 (⟨by rw [put_h];exact Ext.refl _,put_vars.1,fun hv=>put_vars.2 hv,⟨[],put_defs⟩,fun ho=>by rwa [put_ok] at ho⟩:ExtS st _)
theorem runIf_ext (hC:CallOK cx.P call) (hlo:LoOK st) {go:Bool}:(runIf cx call fp go st o).All (ExtS st):=by
 unfold runIf;split
 · exact runR_ext hC hlo
 · exact skip_exts
theorem stepS2a_ext (hC:CallOK cx.P call) (hlo:LoOK st) {j sj:Nat} {want:Bool} (hg:o.guard=some (j,want)) (hji:Nat.blt j i=true) (hsj:dstOf ops j=some sj) :
 (stepS2a cx call fp sj want st o (st.get fp.km sj)).All (ExtS st):=by
 have hk:∀sj b go,(runIf cx call fp go (st.know fp.km sj b) o).All (ExtS st):=fun sj b go=>
  Out.All.mono (fun s h=>know_exts.trans h) (runIf_ext hC (know_exts.lo hlo))
 have hsp:∀sj want x,(splitG cx call fp sj want st o x).All (ExtS st):=fun sj want x=>⟨hk _ _ _,hk _ _ _⟩;have h1:∀s,stepG1 cx call fp sj want st o (st.get fp.km sj)=some s->ExtS st s:=fun s hs=>
  (stepG1_stat hC hg (blt_lt hji) hsj hs).exts hlo
 unfold stepS2a;split
 · split
   · split
     · exact runIf_ext hC hlo
     · exact runIf_ext hC hlo
     · unfold stepS3;split
       · exact hsp _ _ _
       · split
         · rename_i s hs;exact h1 s hs
         · exact hsp _ _ _
     · unfold Out.ofSt;split
       · rename_i s hs;exact h1 s hs
       · trivial
     · trivial
   · trivial
 · unfold Out.ofSt;split
   · rename_i s hs;exact h1 s hs
   · trivial
theorem stepS_ext (hC:CallOK cx.P call) (hlo:LoOK st):(stepS cx call fp i ops st o).All (ExtS st):=by
 unfold stepS;split
 · trivial
 · split
   · exact runR_ext hC hlo
   · rename_i j want hg;split
     · rename_i hji;split
       · rename_i sj hsj;have hkn:∀s' b,(stepS2a cx call fp sj want (st.know fp.km s' b) o ((st.know fp.km s' b).get fp.km sj)).All (ExtS st):=fun s' b=>
          Out.All.mono (fun s h=>know_exts.trans h) (stepS2a_ext hC (know_exts.lo hlo) hg hji hsj)
         unfold stepS2;split
         · exact stepS2a_ext hC hlo hg hji hsj
         · split
           · split
             · exact ⟨hkn _ _,hkn _ _⟩
             · exact stepS2a_ext hC hlo hg hji hsj
           · exact stepS2a_ext hC hlo hg hji hsj
       · trivial
     · trivial
theorem evalOps_ext (hC:CallOK cx.P call):∀{l:List Oper} {i:Nat} {st:St},LoOK st->(evalOps cx call fp ops i l st).All (ExtS st)
 | [],_,st,_=>ExtS.refl st
 | o::l,i,st,hlo=>all_bind (stepS_ext hC hlo) (fun s hs=>Out.All.mono (fun s' h=>hs.trans h) (evalOps_ext hC (hs.lo hlo)))
end
section
variable {cx:Cx} {call:CallE} {fp:Fp} {S:Nat->Prop} {ops:List Oper} {i:Nat} {st st':St} {o:Oper} {ν ν':Nu} {w w':World} {a a':Act} {K:Act->World->Prop} {Q:Exit->Act->World->Prop}
theorem call_run {P:Program} {gt:Nat->Ent} {c:Call} {vs:List V} {f:Operand} {f':FuncId} {caps:List A} (hvs:opVs none gt c.args.toList=some vs) (hcal:c.callee = .value f)
 (hf:opA none gt f=some (.fn f' caps)) (hs:Slots ν a.tmps gt c.operands.toList) (hg:Glob ν c.operands.toList) (t:TypeId) :
 ∃us:List Value,relV ν (vs++caps.map fun x =>.t (.a x)) us/\∃d:Deferred,(∀w,(resolve a.eval c t).run P w = .ok d w)/\(∃fv cap,d.target = .fn fv cap)/\∀w,(invoke d.target d.args).run P w=(callFunc f' us.toArray).run P w:=by
 have hsub:∀x,x∈c.args.toList->x∈c.operands.toList:=by intro x hx;simp [Call.operands];exact .inr (by simpa using hx)
 have hargs:=opVs_sound (a:=a) (G:=none) trivial hvs (hs.sub hsub) (fun g hm=>hg g (hsub _ hm));have hf1:∀x,x∈[f]->x∈c.operands.toList:=by intro x hx;simp [Call.operands,hcal];simp at hx;exact .inl hx
 have hfv:=opA_sound (a:=a) (G:=none) hf trivial (hs.sub hf1) (fun g hm=>hg g (hf1 _ hm));simp only [A.rel] at hfv;obtain ⟨cvs,hfv,hcaps⟩:=hfv;have hall:=relV_append hargs (relV_of_relL hcaps);have earr:c.args.map a.eval++cvs=(c.args.toList.map a.eval++cvs.toList).toArray:=by apply Array.ext';simp
 refine ⟨_,hall,{ target :=.fn (.func f') cvs,args:=c.args.map a.eval },fun w => ?_,⟨_,_,rfl⟩,fun w => ?_⟩
 · simp only [resolve,hcal,hfv,Deferred.ofValue,Sem.run_pure];simp
 · rw [← earr];rfl
theorem wp_of_panic {P:Program} {v:Value} {w':World} (h:(execOp a.eval o).run P w = .halt (.panic v) w') (hQ:Q (.panic [{ v,recovered:=false }]) a w'):o.wp P a w K Q:=by
 unfold Oper.wp;rw [h];exact hQ
theorem wp_of_enterP {P:Program} {f:FuncId} {args:Array Value} (h:(execOp a.eval o).run P w = .ok (.enter f args) w)
 (hc:Calls P f args w (fun e w'=>∃u,e = .panicked [{ v:=u,recovered:=false }]/\Q (.panic [{ v:=u,recovered:=false }]) a w')):o.wp P a w K Q:=by
 unfold Oper.wp;rw [h];refine hc.mono ?_;rintro e w' ⟨u,rfl,hq⟩;exact hq
theorem pickP_ofOpt {x:Option OpR} {y:A×A×H} (h:(R.ofOpt x).pickP=some y):False:=by cases x<;>simp [R.ofOpt,R.pickP] at h
theorem pick_ofOpt {x:Option OpR} {ok:A} {v:V} {h:H} (hp:(R.ofOpt x).pick=some (ok,v,h)):x=some ⟨ok,v,h⟩:=by
 cases x with
 | none=>simp [R.ofOpt,R.pick] at hp
 | some r=>simp [R.ofOpt,R.pick] at hp;obtain ⟨rfl,rfl,rfl⟩:=hp;rfl
theorem runR_sound (hE:EqOK cx) (hC:CallOK cx.P call) {e:Ex} (he:(runR cx call fp st o).pick=some (e,st')) (hok:okB st'.ok=true)
 (hr:Rel cx.P fp S ops i st ν a w) (hgl:OpGl o st.h) (hd:chkDst ops=true) (ho:ops[i]? = some o) (hdst:dstFine fp.nt o.dst=true)
 (hrd:∀i,i∈st'.h.rd->S i) (hwr:∀i,i∈st'.h.wr->S i)
 (hK:e = .nrm->∀ν' a' w',Rel cx.P fp S ops (i+1) st' ν' a' w'->Goes S ν w st.h ν' w' st'.h->K a' w')
 (hP:∀v,e = .pan v->∀ν' a' w' u,v.rel ν' u->CRel cx.P fp S st' ν' a' w'->Goes S ν w st.h ν' w' st'.h->Q (.panic [{ v:=u,recovered:=false }]) a' w') :
 o.wp cx.P a w K Q:=by
 have hn:=hr.need hgl;have hslots:Slots ν a.tmps (st.get fp.km) o.op.operands.toList:=fun s _ hc=>(hr.c.slots s).1 hc;have hglob:Glob ν o.op.operands.toList:=hn.glob;have run:∀call',CallOK cx.P call'->runOp cx call' fp none true st o=some st'->e = .nrm->o.wp cx.P a w K Q:=fun call' hC' h1 h2=>
  runOp_sound hE hC' h1 hok hn hdst trivial (fun h=>absurd rfl h) (fun _ _ h=>by cases h) (fun s hs=>hn.slots s (.inl hs)) hrd hwr
   (fun ν' a' w' hl=>hK h2 ν' a' w' (hr.left hd ho (runOp_stat hC' h1 (fun _ _ h=>by cases h)) hl) hl.goes)
 have pan:∀{v:A} {ok:A} {h:H},st'={ st with ok:=andOk st.ok ok,h:=h }->e = .pan v->∀{ν' w' u},v.rel ν' u->Goes S ν w st.h ν' w' h->Q (.panic [{ v:=u,recovered:=false }]) a w':=by intro v ok h hst hev ν' w' u hu hg;subst hst;refine hP v hev ν' a w' u hu ⟨hg.mem,fun s => ?_,hr.c.vconds,hr.c.size,hr.c.defers.mono hg.le⟩ hg;obtain ⟨h1,h2⟩:=hr.c.slots s;exact ⟨fun hh=>V.rel_mono hg.le (h1 hh),h2⟩
 unfold runR at he;split at he
 · rename_i c hop;rcases pick_toOut he with ⟨ok,v,h,hp,rfl,rfl⟩|⟨ok,v,h,hp,rfl,hst⟩
   · refine run (fun f vs h=>oneWay (call f vs h)) hC.oneWay ?_ rfl;have hev:evalOp cx (fun f vs h=>oneWay (call f vs h)) none (st.get fp.km) st.h o.op=some ⟨ok,v,h⟩:=by
      rw [hop];simp only [evalOp,evalCall];unfold evalCallR at hp;split at hp
      · simp [R.pick] at hp
      · rename_i vs hvs;split at hp
        · rename_i f hcal;split at hp
          · rename_i f' caps hf;simp only [oneWay,hp,R.one]
          · simp [R.pick] at hp
        · rename_i b hcal;exact pick_ofOpt hp
        · simp [R.pick] at hp
     unfold runOp;simp only [preC,hev,underC,condOk]
   · unfold evalCallR at hp;split at hp
     · simp [R.pickP] at hp
     · rename_i vs hvs;split at hp
       · rename_i f hcal;split at hp
         · rename_i f' caps hf;rw [hop] at hslots hglob;obtain ⟨us,hus,d,hres,_,hinv⟩:=call_run (P:=cx.P) (a:=a) hvs hcal hf hslots hglob o.type;have hok2:okB ok=true:=by rw [hst] at hok;exact (andOk_true hok).2
           obtain ⟨hent,hfn⟩:=hC.pan _ _ _ _ _ _ hp hok2;have hsem:execOp a.eval o=(do let d ← resolve a.eval c o.type;invoke d.target d.args):=by unfold execOp;rw [hop]
           refine wp_of_enterP (f:=f') (args:=us.toArray) (by rw [hsem,Sem.run_bind,hres w];simp only [Result.andThen_ok];rw [hinv w];exact hent _ w) ?_
           refine (hfn S ν w us (by rw [hst] at hrd;exact hrd) (by rw [hst] at hwr;exact hwr) hr.c.mem hus).mono ?_
           rintro e' w' ⟨u,ν',rfl,hu,hg⟩;exact ⟨u,rfl,pan hst rfl hu hg⟩
         · simp [R.pickP] at hp
       · exact (pickP_ofOpt hp).elim
       · simp [R.pickP] at hp
 · rename_i x hop;rcases pick_toOut he with ⟨ok,v,h,hp,rfl,rfl⟩|⟨ok,v,h,hp,rfl,hst⟩
   · unfold evalPanic at hp;split at hp<;>simp [R.pick] at hp
   · unfold evalPanic at hp;split at hp
     · rename_i t y hx;simp only [R.pickP,oI,pI] at hp;obtain ⟨rfl,rfl,rfl⟩:=hp;have hxv:=opA_sound (a:=a) (G:=none) hx trivial (hslots.sub (by intro z hz;simp at hz;subst hz;rw [hop];simp [Op.operands])) (fun g hm=>hglob g (by simp at hm;subst hm;rw [hop];simp [Op.operands]))
       have hxv':=hxv;simp only [A.rel] at hxv';obtain ⟨u,hu,hyu⟩:=hxv';refine wp_of_panic (v:=a.eval x) (w':=w) ?_ (pan hst rfl hxv (Goes.refl hr.c.mem));have hsem:execOp a.eval o=(do pure (.value (← Instr.panic (a.eval x)))):=by unfold execOp;rw [hop]
       rw [hsem,Sem.run_bind,hu];rfl
     · simp [R.pickP] at hp
 · rename_i c hop;split at he
   · rename_i d hdv;simp only [Out.pick,oI,pI] at he;obtain ⟨rfl,rfl⟩:=he;unfold evalDefer at hdv;split at hdv
     · cases hdv
     · rename_i vs hvs;split at hdv
       · rename_i f hcal;split at hdv
         · rename_i f' caps hf;simp only [oI] at hdv;subst hdv;rw [hop] at hslots hglob;obtain ⟨us,hus,d,hres,⟨fv,cap,htar⟩,hinv⟩:=call_run (P:=cx.P) (a:=a) hvs hcal hf hslots hglob o.type;have hsem:execOp a.eval o=(do pure (.defer (← resolve a.eval c o.type))):=by unfold execOp;rw [hop]
           unfold Oper.wp;rw [hsem,Sem.run_bind,hres w];simp only [Result.andThen_ok,Sem.run_pure,Oper.upon_defer];have hr1:Rel cx.P fp S ops i { st with defs:=(f',vs++caps.map fun x =>.t (.a x))::st.defs } ν { a with defers:=d::a.defers } w:=by
            refine ⟨⟨hr.c.mem,fun s => ?_,hr.c.vconds,hr.c.size,⟨fv,cap,us,htar,hinv,hus⟩,hr.c.defers⟩,fun s sj x hc => ?_⟩
            · exact hr.c.slots s
            · exact hr.conds s sj x hc
           have hl:=skip_left (hr1.need (o:=o) hgl) hdst;exact hK rfl ν _ w (hr1.left hd ho skip_stat hl) hl.goes
         · cases hdv
       · cases hdv
   · simp [Out.pick] at he
 · split at he
   · rename_i s hs;simp only [Out.pick,oI,pI] at he;obtain ⟨rfl,rfl⟩:=he;exact run call hC hs rfl
   · simp [Out.pick] at he
theorem stepS2a_sound (hE:EqOK cx) (hC:CallOK cx.P call) {e:Ex} {j sj:Nat} {want:Bool} (he:(stepS2a cx call fp sj want st o (st.get fp.km sj)).pick=some (e,st')) (hok:okB st'.ok=true)
 (hg:o.guard=some (j,want)) (hji:Nat.blt j i=true) (hsj:dstOf ops j=some sj) (hdst:dstFine fp.nt o.dst=true)
 (hr:Rel cx.P fp S ops i st ν a w) (hgl:OpGl o st.h) (hd:chkDst ops=true) (ho:ops[i]? = some o)
 (hrd:∀i,i∈st'.h.rd->S i) (hwr:∀i,i∈st'.h.wr->S i)
 (hK:e = .nrm->∀ν' a' w',Rel cx.P fp S ops (i+1) st' ν' a' w'->Goes S ν w st.h ν' w' st'.h->K a' w')
 (hP:∀v,e = .pan v->∀ν' a' w' u,v.rel ν' u->CRel cx.P fp S st' ν' a' w'->Goes S ν w st.h ν' w' st'.h->Q (.panic [{ v:=u,recovered:=false }]) a' w') :
 if Region.wanted o (yielded ops.toArray a.tmps) then o.wp cx.P a w K Q else K (a.put o.dst undef) w:=by
 have hw:=fun t=>wanted_guard (tmps:=t) hg hsj;have hdi:dstOf ops i=o.dst:=by unfold dstOf;rw [ho]
 have hne:o.dst≠some sj:=fun hds=>by have:=chkDst_inj hd hsj (hdi.trans hds);have:=blt_lt hji;omega
 have gen:∀(st0:St) (b:Bool),st0.h=st.h->Rel cx.P fp S ops i st0 ν a w->a.tmps.getD sj undef = .bool b->(runIf cx call fp (eqBool b want) st0 o).pick=some (e,st') ->
  if Region.wanted o (yielded ops.toArray a.tmps) then o.wp cx.P a w K Q else K (a.put o.dst undef) w:=by
  intro st0 b hh0 hr0 hv hp;unfold runIf at hp;split at hp
  · rename_i hb;have hb:=eqBool_iff.1 hb;subst hb;rw [if_pos ((hw _).2 hv)];exact runR_sound hE hC hp hok hr0 (by unfold OpGl at *;rw [hh0];exact hgl) hd ho hdst hrd hwr (by rw [hh0];exact hK) (by rw [hh0];exact hP)
  · rename_i hb;have hb:b≠want:=fun h=>by rw [eqBool_iff.2 h] at hb;cases hb
    rw [if_neg (fun h=>by have:=(hw _).1 h;simp only [holds] at this;rw [hv] at this;simp at this;exact hb this)]
    simp only [skipO,Out.pick,oI,pI] at hp;obtain ⟨rfl,rfl⟩:=hp;have hl:=skip_left (hr0.need (o:=o) (by unfold OpGl at *;rw [hh0];exact hgl)) hdst
    exact hK rfl ν _ w (hr0.left hd ho skip_stat hl) (by rw [← hh0];exact hl.goes)
 have one:∀s,stepG1 cx call fp sj want st o (st.get fp.km sj)=some s->e = .nrm->s=st' ->
  if Region.wanted o (yielded ops.toArray a.tmps) then o.wp cx.P a w K Q else K (a.put o.dst undef) w:=by
  intro s hs hen hst;subst hst;exact stepG1_sound hE hC hg hsj hs hok (hr.need hgl) hdst hne hrd hwr
   (fun ν' a' w' hl=>hK hen ν' a' w' (hr.left hd ho (stepG1_stat hC hg (blt_lt hji) hsj hs) hl) hl.goes)
 have split:∀x:Bool,a.tmps.getD sj undef = .bool x->(splitG cx call fp sj want st o x).pick=some (e,st') ->
  if Region.wanted o (yielded ops.toArray a.tmps) then o.wp cx.P a w K Q else K (a.put o.dst undef) w:=by
  intro x hv hp;simp only [splitG,Out.pick] at hp;cases x
  · exact gen _ false know_h (hr.know hv) hv (by simpa using hp)
  · exact gen _ true know_h (hr.know hv) hv (by simpa using hp)
 unfold stepS2a at he;split at he
 · rename_i hc;have hval:∀x y,(st.get fp.km sj).v = .t (.a x)->x.bool? = some y->a.tmps.getD sj undef = .bool y:=by
    intro x y hv hy;have h2:=(hr.c.slots sj).1 (by rw [hc];trivial)
    rw [hv] at h2;have h2:x.rel ν _:=h2;exact A.rel_bool h2 hy
   split at he
   · rename_i x hv;split at he
     · exact gen st true rfl hr (hval _ _ hv rfl) he
     · exact gen st false rfl hr (hval _ _ hv rfl) he
     · rename_i y;unfold stepS3 at he;split at he
       · exact split y (hval _ _ hv rfl) he
       · split at he
         · rename_i s hs;simp only [Out.pick,oI,pI] at he;exact one s hs he.1.symm he.2
         · exact split y (hval _ _ hv rfl) he
     · unfold Out.ofSt at he;split at he
       · rename_i s hs;simp only [Out.pick,oI,pI] at he;exact one s hs he.1.symm he.2
       · simp [Out.pick] at he
     · simp [Out.pick] at he
   · simp [Out.pick] at he
 · unfold Out.ofSt at he;split at he
   · rename_i s hs;simp only [Out.pick,oI,pI] at he;exact one s hs he.1.symm he.2
   · simp [Out.pick] at he
theorem stepS2_sound (hE:EqOK cx) (hC:CallOK cx.P call) {e:Ex} {j sj:Nat} {want:Bool} (he:(stepS2 cx call fp sj want st o (st.get fp.km sj)).pick=some (e,st')) (hok:okB st'.ok=true)
 (hg:o.guard=some (j,want)) (hji:Nat.blt j i=true) (hsj:dstOf ops j=some sj) (hdst:dstFine fp.nt o.dst=true)
 (hr:Rel cx.P fp S ops i st ν a w) (hgl:OpGl o st.h) (hd:chkDst ops=true) (ho:ops[i]? = some o)
 (hrd:∀i,i∈st'.h.rd->S i) (hwr:∀i,i∈st'.h.wr->S i)
 (hK:e = .nrm->∀ν' a' w',Rel cx.P fp S ops (i+1) st' ν' a' w'->Goes S ν w st.h ν' w' st'.h->K a' w')
 (hP:∀v,e = .pan v->∀ν' a' w' u,v.rel ν' u->CRel cx.P fp S st' ν' a' w'->Goes S ν w st.h ν' w' st'.h->Q (.panic [{ v:=u,recovered:=false }]) a' w') :
 if Region.wanted o (yielded ops.toArray a.tmps) then o.wp cx.P a w K Q else K (a.put o.dst undef) w:=by
 unfold stepS2 at he;split at he
 · exact stepS2a_sound hE hC he hok hg hji hsj hdst hr hgl hd ho hrd hwr hK hP
 · rename_i s' w' hc;split at he
   · split at he
     · rename_i y hc' hv';have hval:a.tmps.getD s' undef = .bool y:=by
        have h2:=(hr.c.slots s').1 (by rw [hc'];trivial)
        rw [hv'] at h2;have h2:(A.b y).rel ν _:=h2;exact A.rel_bool h2 rfl
       have key:(stepS2a cx call fp sj want (st.know fp.km s' y) o ((st.know fp.km s' y).get fp.km sj)).pick=some (e,st'):=by
        simp only [Out.pick] at he;cases y
        · simpa using he
        · simpa using he
       exact stepS2a_sound hE hC key hok hg hji hsj hdst (hr.know hval) (by unfold OpGl at *;rw [know_h];exact hgl) hd ho hrd hwr (by rw [know_h];exact hK) (by rw [know_h];exact hP)
     · exact stepS2a_sound hE hC he hok hg hji hsj hdst hr hgl hd ho hrd hwr hK hP
   · exact stepS2a_sound hE hC he hok hg hji hsj hdst hr hgl hd ho hrd hwr hK hP
theorem stepS_sound (hE:EqOK cx) (hC:CallOK cx.P call) {e:Ex} (he:(stepS cx call fp i ops st o).pick=some (e,st')) (hok:okB st'.ok=true)
 (hr:Rel cx.P fp S ops i st ν a w) (hgl:OpGl o st.h) (hd:chkDst ops=true) (ho:ops[i]? = some o)
 (hrd:∀i,i∈st'.h.rd->S i) (hwr:∀i,i∈st'.h.wr->S i)
 (hK:e = .nrm->∀ν' a' w',Rel cx.P fp S ops (i+1) st' ν' a' w'->Goes S ν w st.h ν' w' st'.h->K a' w')
 (hP:∀v,e = .pan v->∀ν' a' w' u,v.rel ν' u->CRel cx.P fp S st' ν' a' w'->Goes S ν w st.h ν' w' st'.h->Q (.panic [{ v:=u,recovered:=false }]) a' w') :
 if Region.wanted o (yielded ops.toArray a.tmps) then o.wp cx.P a w K Q else K (a.put o.dst undef) w:=by
 unfold stepS at he;split at he
 · simp [Out.pick] at he
 · rename_i hdst;split at he
   · rename_i hg;rw [if_pos (by simp [Region.wanted,hg])]
     exact runR_sound hE hC he hok hr hgl hd ho hdst hrd hwr hK hP
   · rename_i j want hg;split at he
     · rename_i hji;split at he
       · rename_i sj hsj;exact stepS2_sound hE hC he hok hg hji hsj hdst hr hgl hd ho hrd hwr hK hP
       · simp [Out.pick] at he
     · simp [Out.pick] at he
theorem wpList_step' {P:Program} {ops:Array Oper} {rest:List Oper} (h:if Region.wanted o (yielded ops a.tmps) then o.wp P a w (wpList P ops Q rest) Q else wpList P ops Q rest (a.put o.dst undef) w) :
 wpList P ops Q (o::rest) a w:=by
 unfold wpList;split
 · rename_i hw;rw [if_pos hw] at h;exact .inl h
 · rename_i hw;rw [if_neg hw] at h;exact h
theorem evalOps_seq (hE:EqOK cx) (hC:CallOK cx.P call) (hd:chkDst ops=true) {e:Ex} :
 ∀(l:List Oper) (i:Nat) (st:St) (ν:Nu) (a:Act) (w:World),(∀j,l[j]? = ops[i+j]?)->(∀o,o∈l->OpGl o st.h)->(evalOps cx call fp ops i l st).pick=some (e,st')->okB st'.ok=true ->
  (∀i,i∈st'.h.rd->S i)->(∀i,i∈st'.h.wr->S i)->Rel cx.P fp S ops i st ν a w ->
  (∀ν' a' w' x,CRel cx.P fp S st' ν' a' w'->Goes S ν w st.h ν' w' st'.h->e.rel ν' x->Q x a' w')->wpList cx.P ops.toArray Q l a w
 | [],i,st,ν,a,w,_,_,he,hok,_,_,hr,hK=>by simp only [evalOps,Out.pick,oI,pI] at he;obtain ⟨rfl,rfl⟩:=he;exact hK ν a w .normal hr.c (Goes.refl hr.c.mem) rfl
 | o::l,i,st,ν,a,w,hl,hgl,he,hok,hrd,hwr,hr,hK=>by
   simp only [evalOps] at he;rw [pick_bind] at he;have ho:ops[i]? = some o:=by simpa using (hl 0).symm
   have hl':∀j,l[j]? = ops[i+1+j]? := fun j=>by have:=hl (j+1);simpa [Nat.add_assoc,Nat.add_comm 1 j] using this
   have hlo:LoOK st:=hr.c.mem.nums.lo;refine wpList_step' ?_;cases hp:(stepS cx call fp i ops st o).pick with
   | none=>rw [hp] at he;cases he
   | some p=>
     obtain ⟨e1,st1⟩:=p;rw [hp] at he;have hx1:=Out.All.pick (stepS_ext hC hlo) hp;cases e1 with
     | nrm=>
       simp only at he;have hx2:=Out.All.pick (evalOps_ext hC (hx1.lo hlo)) he;refine stepS_sound hE hC hp (hx2.ok hok) hr (hgl o (by simp)) hd ho (fun i hi=>hrd i (hx2.h.rd i hi)) (fun i hi=>hwr i (hx2.h.wr i hi)) (fun _ ν' a' w' hr' hg' => ?_) (fun v h=>by cases h)
       exact evalOps_seq hE hC hd l (i+1) st1 ν' a' w' hl' (fun o' ho'=>by
        have:=hgl o' (by simp [ho'])
        unfold OpGl at *;rw [hg'.ext.gl];exact this) he hok hrd hwr hr' (fun ν'' a'' w'' x hr'' hg'' hex=>hK ν'' a'' w'' x hr'' (hg'.trans hg'') hex)
     | pan v=>
       simp only [oI,pI] at he;obtain ⟨rfl,rfl⟩:=he;exact stepS_sound hE hC hp hok hr (hgl o (by simp)) hd ho hrd hwr (fun h=>by cases h) (fun v' hv ν' a' w' u hu hr' hg'=>hK ν' a' w' _ hr' hg' ⟨u,rfl,by cases hv;exact hu⟩)
     | exit id=>
       simp only [oI,pI] at he;obtain ⟨rfl,rfl⟩:=he;exact stepS_sound hE hC hp hok hr (hgl o (by simp)) hd ho hrd hwr (fun h=>by cases h) (fun v' hv=>by cases hv)
     | ret=>
       simp only [oI,pI] at he;obtain ⟨rfl,rfl⟩:=he;exact stepS_sound hE hC hp hok hr (hgl o (by simp)) hd ho hrd hwr (fun h=>by cases h) (fun v' hv=>by cases hv)
end
end Go.WE
end
