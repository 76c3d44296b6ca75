/- A part of a proof of the helpers' law; no condition of its own. -/
import Derived.Defers
import Derived.Laws.StructEq
import Derived.OpenShut
import Derived.ChangeArms
import Derived.ChangeKeysEq
import Derived.Laws.Externs
import Derived.Below
import Derived.ProofKit
import Derived.LaidMore
import Derived.Test.YtoeealkcacgcgaaGreatDoorS08
set_option linter.unusedVariables false
set_option maxRecDepth 100000
noncomputable section
namespace Go.WE
open Go
def oneRes (tmps:Array Value) (r:ResultVar):Sem Value:=
 match r with
 | .tmp t=>pure (tmps.getD t undef)
 | .cell c t=>do loadVar t (← asAddr (tmps.getD c undef))
section
variable {P:Program} {fp:Fp} {S:Nat->Prop}
theorem resOne_ext {km:Nat} {s:St} {r:ResultVar} {ok:A} {u:T} {h:H} (he:resOne P km s r=some (ok,u,h)):Ext s.h h:=by
 cases r with
 | tmp t=>
   simp only [resOne] at he;split at he
   · simp only [oI,pI] at he;obtain ⟨_,_,rfl⟩:=he;exact Ext.refl _
   · cases he
 | cell c t=>
   simp only [resOne] at he;split at he
   · split at he
     · rename_i r' hl;split at he
       · simp only [oI,pI] at he;obtain ⟨_,_,rfl⟩:=he;unfold evalLoad at hl
         repeat' split at hl
         all_goals first|(cases hl;exact see_ext _ _)|cases hl
       · cases he
     · cases he
   · cases he
theorem resMany_ext {km:Nat}:∀{rs:List ResultVar} {s:St} {ok:A} {us:List T} {h:H},resMany P km s rs=some (ok,us,h)->Ext s.h h
 | [],s,ok,us,h,he=>by simp only [resMany,oI,pI] at he;obtain ⟨_,_,rfl⟩:=he;exact Ext.refl _
 | r::rs,s,ok,us,h,he=>by
   simp only [resMany] at he;split at he
   · rename_i o1 x h1 hx;split at he
     · rename_i o2 ws h2 hs;simp only [oI,pI] at he;obtain ⟨_,_,rfl⟩:=he;exact (resOne_ext hx).trans (resMany_ext (s:={ s with h:=h1 }) hs)
     · cases he
   · cases he
theorem resOf_ext {km:Nat} {rs:List ResultVar} {s:St} {ok:A} {v:V} {h:H} (he:resOf P km rs s=some (ok,v,h)):Ext s.h h:=by
 unfold resOf at he;split at he
 · split at he
   · rename_i o x h' hx;simp only [oI,pI] at he;obtain ⟨_,_,rfl⟩:=he;exact resOne_ext hx
   · cases he
 · split at he
   · rename_i o x h' hx;simp only [oI,pI] at he;obtain ⟨_,_,rfl⟩:=he;exact resMany_ext hx
   · cases he
theorem resOne_sound {km:Nat} {s:St} {r:ResultVar} {ok:A} {u:T} {h:H} (he:resOne P km s r=some (ok,u,h)) (hok:okB ok=true) (hrd:∀i,i∈h.rd->S i) (hkm:fp.km=km) {ν:Nu} {a:Act} {w:World} (hr:CRel P fp S s ν a w) :
 ∃x,u.relV ν x/\(oneRes a.tmps r).run P w = .ok x w/\Goes S ν w s.h ν w h:=by
 subst hkm;cases r with
 | tmp t=>
   simp only [resOne] at he;split at he
   · rename_i hc hv;simp only [oI,pI] at he;obtain ⟨_,rfl,rfl⟩:=he;have:=(hr.slots t).1 (by rw [hc];trivial)
     rw [hv] at this;exact ⟨_,this,rfl,Goes.refl hr.mem⟩
   · cases he
 | cell c t=>
   simp only [resOne] at he;split at he
   · rename_i v hv;split at he
     · rename_i r' hl;split at he
       · rename_i u' hu;simp only [oI,pI] at he;obtain ⟨rfl,rfl,rfl⟩:=he;have hx:=opA_sound (a:=a) hv trivial (fun t _ ht=>(hr.slots t).1 ht) (fun g hg=>by simp at hg)
         obtain ⟨v',h1,h2,h3⟩:=evalLoad_sound hl hok hr.mem hrd hx;rw [hu] at h2;refine ⟨v',h2,?_,h3⟩;have hp:∃ad,a.eval (.tmp c) = .pointer (some ad):=by
          unfold evalLoad at hl;split at hl
          · simp only [A.rel] at hx;obtain ⟨b,base,_,hb⟩:=hx;exact ⟨_,hb⟩
          · cases hl
         obtain ⟨ad,had⟩:=hp;have had':a.tmps.getD c undef = .pointer (some ad):=had;rw [Instr.loadAt,had] at h1;simp only [oneRes,had'];simpa [asAddr,Instr.sureAddr] using h1
       · cases he
     · cases he
   · cases he
theorem CRel.seen {s:St} {ν:Nu} {a:Act} {w:World} {h:H} (hr:CRel P fp S s ν a w) (g:Goes S ν w s.h ν w h):CRel P fp S { s with h:=h } ν a w:=
 ⟨g.mem,hr.slots,hr.vconds,hr.size,hr.defers⟩
theorem resMany_sound {km:Nat} (hkm:fp.km=km) {ν:Nu} {a:Act} {w:World}:∀{rs:List ResultVar} {s:St} {ok:A} {us:List T} {h:H},resMany P km s rs=some (ok,us,h)->okB ok=true->(∀i,i∈h.rd->S i)->CRel P fp S s ν a w ->
 us.length=rs.length/\∃xs,relVs ν us xs/\(rs.mapM (oneRes a.tmps)).run P w = .ok xs w/\Goes S ν w s.h ν w h
 | [],s,ok,us,h,he,_,_,hr=>by simp only [resMany,oI,pI] at he;obtain ⟨_,rfl,rfl⟩:=he;exact ⟨rfl,[],by simp [relVs],rfl,Goes.refl hr.mem⟩
 | r::rs,s,ok,us,h,he,hok,hrd,hr=>by
   simp only [resMany] at he;split at he
   · rename_i o1 x h1 hx;split at he
     · rename_i o2 ws h2 hs;simp only [oI,pI] at he;obtain ⟨rfl,rfl,rfl⟩:=he;obtain ⟨ho1,ho2⟩:=andOk_true hok;obtain ⟨v,hv,hrun,g1⟩:=resOne_sound hx ho1 (fun i hi=>hrd i ((resMany_ext (s:={ s with h:=h1 }) hs).rd i hi)) hkm hr
       obtain ⟨hl,xs,hxs,hruns,g2⟩:=resMany_sound hkm (s:={ s with h:=h1 }) hs ho2 hrd (hr.seen g1)
       exact ⟨by simp [hl],v::xs,⟨hv,hxs⟩,by rw [List.mapM_cons,Sem.run_bind,hrun];simp only [Result.andThen_ok];rw [Sem.run_bind,hruns];rfl,g1.trans g2⟩
     · cases he
   · cases he
theorem relVs_length {ν:Nu}:∀{az:List T} {vs:List Value},relVs ν az vs->az.length=vs.length
 | [],[],_=>rfl
 | _::_,_::_,h=>by simp [relVs_length h.2]
 | [],_::_,h=>h.elim
 | _::_,[],h=>h.elim
theorem resOf_sound {km:Nat} {s:St} {fn:Func} {ok:A} {v:V} {h:H} (he:resOf P km fn.results.toList s=some (ok,v,h)) (hok:okB ok=true) (hrd:∀i,i∈h.rd->S i) (hkm:fp.km=km) {ν:Nu} {a:Act} {w:World} (hr:CRel P fp S s ν a w) :
 ∃x,v.rel ν x/\(results fn a.tmps).run P w = .ok x w/\Goes S ν w s.h ν w h:=by
 have key:∀{xs:List Value},(fn.results.toList.mapM (oneRes a.tmps)).run P w = .ok xs w ->
  (results fn a.tmps).run P w = .ok (if h:xs.toArray.size=1 then xs.toArray[0] else .tuple xs.toArray) w:=by
  intro xs hx;have e:results fn a.tmps=(do let vs ← fn.results.mapM (oneRes a.tmps);pure (if h:vs.size=1 then vs[0] else .tuple vs)):=rfl
  rw [e,Sem.run_bind,Array.mapM_eq_mapM_toList,Sem.run_map,hx];rfl
 unfold resOf at he;split at he
 · rename_i r hl;split at he
   · rename_i o x h' hx;simp only [oI,pI] at he;obtain ⟨rfl,rfl,rfl⟩:=he;obtain ⟨u,hu,hrun,g⟩:=resOne_sound hx hok hrd hkm hr;refine ⟨u,hu,?_,g⟩;have:=key (xs:=[u]) (by rw [hl,List.mapM_cons,Sem.run_bind,hrun];rfl)
     simpa using this
   · cases he
 · rename_i hne;split at he
   · rename_i o us h' hm;simp only [oI,pI] at he;obtain ⟨rfl,rfl,rfl⟩:=he;obtain ⟨hl,xs,hxs,hruns,g⟩:=resMany_sound hkm hm hok hrd hr;refine ⟨.tuple xs.toArray,⟨_,rfl,by simpa using hxs⟩,?_,g⟩
     rw [key hruns,dif_neg];intro h1;have h2:=relVs_length hxs;simp at h1;have h3:fn.results.toList.length=1:=by omega
     obtain ⟨r,hr1⟩:=List.length_eq_one_iff.1 h3;exact hne r hr1
   · cases he
theorem nil_get (s:Nat):varsGet (.nil:Tr Ent) s=⟨none,.t (.a .poison)⟩:=by unfold varsGet;rw [Tr.get_nil]
def resFp:Fp:=⟨1,1,0,fun _ _=>none⟩
def resAct (x:Value):Act:={ tmps := #[x],defers:=[] }
theorem done_get (v:V) (h:H) (ok:A) (s:Nat):varsGet (St.done v h ok).vars s=if s=0 then ⟨none,v⟩ else ⟨none,.t (.a .poison)⟩:=by
 show varsGet (Tr.set .nil 0 _) s=_;unfold varsGet;rw [Tr.get_set];by_cases e:s=0
 · subst e;simp
 · rw [if_neg (fun h=>e h.symm),if_neg e,Tr.get_nil]
theorem done_rel {v:V} {h:H} {ok:A} {ν:Nu} {w:World} {x:Value} (hm:Mem S ν w h) (hx:v.rel ν x):CRel P resFp S (St.done v h ok) ν (resAct x) w:=by
 refine ⟨hm,fun s => ?_,fun s => ?_,rfl,trivial⟩
 · cases hk:bitB resFp.km s
   · rw [get_false hk];exact ⟨fun _=>by simp [St.done,getT,V.rel,T.relV,A.rel],fun hno=>absurd (by simp [St.done,getT,holds]) hno⟩
   · rw [get_true hk,done_get];by_cases e:s=0
     · subst e;rw [if_pos rfl];exact ⟨fun _=>hx,fun hno=>absurd trivial hno⟩
     · rw [if_neg e];exact ⟨fun _=>by simp [V.rel,T.relV,A.rel],fun hno=>absurd trivial hno⟩
 · rw [done_get];split<;>rfl
theorem done_val {s:St} {ν:Nu} {w:World} {x:Value} (h:CRel P resFp S s ν (resAct x) w):(entAt s.vars 0).v.rel ν x:=by
 have h1:=(h.slots 0);rw [get_true (km:=resFp.km) (d:=0) rfl] at h1;have h2:=h1.1 (by rw [h.vconds];trivial)
 exact h2
theorem pan_rel {h:H} {ok:A} {ν:Nu} {w:World} (hm:Mem S ν w h):CRel P resFp S ⟨.nil,[],[],h,ok,[]⟩ ν (resAct undef) w:=by
 refine ⟨hm,fun s => ?_,fun s=>by rw [nil_get],rfl,trivial⟩
 cases hk:bitB resFp.km s
 · rw [get_false hk];exact ⟨fun _=>by simp [getT,V.rel,T.relV,A.rel],fun hno=>absurd (by simp [getT,holds]) hno⟩
 · rw [get_true hk,nil_get];exact ⟨fun _=>by simp [V.rel,T.relV,A.rel],fun hno=>absurd trivial hno⟩
theorem done_exts {v:V} {h h':H} {ok:A} (hx:Ext h.mark h'):ExtS (St.enter .nil h) (St.done v h' ok):=
 ⟨hx,⟨[0],rfl,fun s hs=>by rw [done_get,if_neg (fun e=>hs (by simp [e]))];exact (nil_get s).symm⟩,fun _ s=>by rw [done_get];split<;>rfl,⟨[],rfl⟩,fun _=>rfl⟩
theorem pan_exts {h h':H} {ok:A} (hx:Ext h.mark h'):ExtS (St.enter .nil h) ⟨.nil,[],[],h',ok,[]⟩:=
 ⟨hx,⟨[],rfl,fun _ _=>rfl⟩,fun _ s=>by rw [nil_get],⟨[],rfl⟩,fun _=>rfl⟩
def ModeRel (ν:Nu):Option A->FrameMode->Prop
 | none,m=>m = .returning
 | some v,m=>∃x,m = .panicking [{ v:=x,recovered:=false }]/\v.rel ν x
structure DfrOK (P:Program) (dfr:DfrE):Prop where
 ext:∀f vs u h u' ok h',dfr f vs u h=some (u',ok,h')->h.lo≤h.next->Ext h h'
 ok:∀f vs u h u' ok h',dfr f vs u h=some (u',ok,h')->okB ok=true->Enters P f /\
  ∀(S:Nat->Prop) ν w us uv,(∀i,i∈h'.rd->S i)->(∀i,i∈h'.wr->S i)->Mem S ν w h->relV ν vs us->ModeRel ν u uv ->
   CallsD P f us.toArray uv w (fun e um w'=>(∃v,e = .returned v)/\∃ν',ModeRel ν' u' (settle um)/\Goes S ν w h ν' w' h')
theorem runDefs_ext {dfr:DfrE} (hD:DfrOK P dfr):∀{ds:List (FuncId×List V)} {u u':Option A} {ok ok':A} {h h':H},runDefs dfr ds u ok h=some (u',ok',h')->h.lo≤h.next->Ext h h'/\(okB ok'=true->okB ok=true)
 | [],_,_,_,_,_,_,he,_=>by simp only [runDefs,oI,pI] at he;obtain ⟨_,rfl,rfl⟩:=he;exact ⟨Ext.refl _,fun h=>h⟩
 | (f,vs)::ds,u,u',ok,ok',h,h',he,hlo=>by
   simp only [runDefs] at he;split at he
   · rename_i u1 ok1 h1 h2;have e:=hD.ext _ _ _ _ _ _ _ h2 hlo;obtain ⟨e1,e2⟩:=runDefs_ext hD he (by rw [e.lo];exact Nat.le_trans hlo e.next)
     exact ⟨e.trans e1,fun h=>(andOk_true (e2 h)).1⟩
   · cases he
theorem ModeRel.notrun {ν:Nu} {u:Option A} {m:FrameMode} (h:ModeRel ν u m):m ≠ .run:=by
 cases u with
 | none=>simp only [ModeRel] at h;subst h;simp
 | some v=>simp only [ModeRel] at h;obtain ⟨x,rfl,_⟩:=h;simp
theorem runDefs_sound {dfr:DfrE} (hD:DfrOK P dfr) {fn:Func} {tmps:Array Value} {R:Ending->World->Prop}:∀{ds:List (FuncId×List V)} {ds':List Deferred} {u u':Option A} {ok ok':A} {h h':H} {ν:Nu} {w:World} {uv:FrameMode},
 runDefs dfr ds u ok h=some (u',ok',h')->okB ok'=true->(∀i,i∈h'.rd->S i)->(∀i,i∈h'.wr->S i)->Mem S ν w h->Dfs P ν ds ds'->ModeRel ν u uv ->
  (∀ν' w' uv',ModeRel ν' u' uv'->Goes S ν w h ν' w' h'->Leaves P fn tmps R [] uv' w')->Leaves P fn tmps R ds' uv w
 | [],[],_,_,_,_,_,_,ν,w,uv,he,_,_,_,hm,_,hu,hK=>by simp only [runDefs,oI,pI] at he;obtain ⟨rfl,_,rfl⟩:=he;exact hK ν w uv hu (Goes.refl hm)
 | (f,vs)::ds,d::ds',u,u',ok,ok',h,h',ν,w,uv,he,hok,hrd,hwr,hm,hds,hu,hK=>by
   simp only [runDefs] at he;split at he
   · rename_i u1 ok1 h1 h2;have hlo:=hm.nums.lo;have e:=hD.ext _ _ _ _ _ _ _ h2 hlo;obtain ⟨e1,e2⟩:=runDefs_ext hD he (by rw [e.lo];exact Nat.le_trans hlo e.next)
     obtain ⟨⟨fv,cap,us,q1,q2,q3⟩,hds⟩:=hds;obtain ⟨hent,hcall⟩:=hD.ok _ _ _ _ _ _ _ h2 (andOk_true (e2 hok)).2;refine ⟨hu.notrun,fv,cap,f,us.toArray,q1,by rw [q2 w];exact hent _ w,?_⟩
     refine (hcall S ν w us uv (fun i hi=>hrd i (e1.rd i hi)) (fun i hi=>hwr i (e1.wr i hi)) hm q3 hu).mono ?_;rintro e' um w' ⟨⟨v,rfl⟩,ν',hmode,g⟩;exact runDefs_sound hD he hok hrd hwr g.mem (hds.mono g.le) hmode (fun ν'' w'' uv'' hm'' g''=>hK ν'' w'' uv'' hm'' (g.trans g''))
   · cases he
 | [],_::_,_,_,_,_,_,_,_,_,_,_,_,_,_,_,hds,_,_=>hds.elim
 | _::_,[],_,_,_,_,_,_,_,_,_,_,_,_,_,_,hds,_,_=>hds.elim
def Ex.mode:Ex->Option (Option A)
 | .nrm=>some none
 | .ret=>some none
 | .pan v=>some (some v)
 | .exit _=>none
theorem pick_leaves {cx:Cx} {km:Nat} {rs:List ResultVar}:∀{o:Out} {e1:Ex} {s1:St},(o.leaves cx km rs).pick=some (e1,s1)->∃e s u,o.pick=some (e,s)/\e.mode=some u/\(leave cx km rs s u).pick=some (e1,s1)
 | .fail,_,_,h=>by simp [Out.leaves,Out.pick] at h
 | .leaf e s,e1,s1,h=>by
   cases e<;>simp only [Out.leaves] at h
   case nrm=>exact ⟨_,s,none,rfl,rfl,h⟩
   case ret=>exact ⟨_,s,none,rfl,rfl,h⟩
   case pan v=>exact ⟨_,s,some v,rfl,rfl,h⟩
   case exit id=>simp [Out.pick] at h
 | .node x a b,e1,s1,h=>by
   simp only [Out.leaves,Out.pick] at h;cases x
   · simpa [Out.pick] using pick_leaves (o:=b) h
   · simpa [Out.pick] using pick_leaves (o:=a) h
theorem all_leaves {cx:Cx} {km:Nat} {rs:List ResultVar} {p q:St->Prop} (h:∀s u,p s->(leave cx km rs s u).All q):∀{o:Out},o.All p->(o.leaves cx km rs).All q
 | .fail,_=>trivial
 | .leaf e s,hp=>by
   cases e<;>simp only [Out.leaves]
   case nrm=>exact h s none hp
   case ret=>exact h s none hp
   case pan v=>exact h s (some v) hp
   case exit id=>trivial
 | .node x a b,hp=>⟨all_leaves h hp.1,all_leaves h hp.2⟩
theorem leave_all {cx:Cx} (hD:DfrOK cx.P cx.dfr) {km:Nat} {rs:List ResultVar} {h:H} {s0:St} (h0:s0.h=h.mark) {s:St} (hx:ExtS s0 s) (u:Option A):(leave cx km rs s u).All (ExtS (St.enter .nil h)):=by
 have hlo:LoOK s:=hx.lo (by unfold LoOK;rw [h0];exact Nat.le_refl _)
 have hh:Ext h.mark s.h:=by have:=hx.h;rwa [h0] at this
 unfold leave;split
 · trivial
 · rename_i hd;split
   · rename_i hr;exact done_exts ((hh.trans (runDefs_ext hD hd hlo).1).trans (resOf_ext hr))
   · trivial
 · rename_i hd;exact pan_exts (hh.trans (runDefs_ext hD hd hlo).1)
theorem pick_toR:∀{o:Out} {ok:A} {v:V} {h:H},o.toR.pick=some (ok,v,h)->∃s,o.pick=some (.nrm,s)/\v=(entAt s.vars 0).v/\h=s.h/\ok=s.ok
 | .fail,_,_,_,he=>by simp [Out.toR,R.pick] at he
 | .leaf e s,ok,v,h,he=>by
   cases e<;>simp only [Out.toR] at he
   case nrm=>
    simp only [R.pick,oI,pI] at he;obtain ⟨rfl,rfl,rfl⟩:=he;exact ⟨s,rfl,rfl,rfl,rfl⟩
   all_goals simp [R.pick] at he
 | .node x a b,ok,v,h,he=>by
   simp only [Out.toR,R.pick] at he;cases x
   · simpa [Out.pick] using pick_toR (o:=b) (by simpa using he)
   · simpa [Out.pick] using pick_toR (o:=a) (by simpa using he)
theorem pickP_toR:∀{o:Out} {ok:A} {v:A} {h:H},o.toR.pickP=some (ok,v,h)->∃s,o.pick=some (.pan v,s)/\h=s.h/\ok=s.ok
 | .fail,_,_,_,he=>by simp [Out.toR,R.pickP] at he
 | .leaf e s,ok,v,h,he=>by
   cases e<;>simp only [Out.toR] at he
   case pan v'=>
    simp only [R.pickP,oI,pI] at he;obtain ⟨rfl,rfl,rfl⟩:=he;exact ⟨s,rfl,rfl,rfl⟩
   all_goals simp [R.pickP] at he
 | .node x a b,ok,v,h,he=>by
   simp only [Out.toR,R.pickP] at he;cases x
   · simpa [Out.pick] using pickP_toR (o:=b) (by simpa using he)
   · simpa [Out.pick] using pickP_toR (o:=a) (by simpa using he)
theorem pickR_back (h0:H):∀(r:R),(r.back h0).pick=(match r.pick with|some (o,v,h)=>some (o,v,h0.back h)|none=>none)/\(r.back h0).pickP=(match r.pickP with|some (o,v,h)=>some (o,v,h0.back h)|none=>none)
 | .fail=>⟨rfl,rfl⟩
 | .leaf _ _ _=>⟨rfl,rfl⟩
 | .pan _ _ _=>⟨rfl,rfl⟩
 | .node x a b=>by
   simp only [R.back,R.pick,R.pickP];cases x
   · simpa using pickR_back h0 b
   · simpa using pickR_back h0 a
theorem allR_back {h0:H} {p q:H->Prop} (h:∀x,p x->q (h0.back x)):∀{r:R},r.All p->(r.back h0).All q
 | .fail,_=>trivial
 | .leaf _ _ x,hp=>h x hp
 | .pan _ _ x,hp=>h x hp
 | .node _ _ _,hp=>⟨allR_back h hp.1,allR_back h hp.2⟩
theorem all_toR {p:St->Prop} {q:H->Prop} (h2:∀s,p s->q s.h):∀{o:Out},o.All p->o.toR.All q
 | .fail,_=>trivial
 | .leaf e s,hp=>by
   cases e<;>simp only [Out.toR]
   case nrm=>exact h2 s hp
   case pan v=>exact h2 s hp
   all_goals trivial
 | .node _ _ _,hp=>⟨all_toR h2 hp.1,all_toR h2 hp.2⟩
theorem foldl_gl {g:Nat}:∀(l:List Operand) (acc:List Nat),(g∈acc \/ .global g∈l)->g∈l.foldl (fun acc x=>match x with | .global g=>addN g acc|_=>acc) acc
 | [],acc,h=>by simpa using h
 | x::l,acc,h=>by
   rw [List.foldl_cons];refine foldl_gl l _ ?_;rcases h with h|h
   · left;split
     · exact mem_addN.2 (.inr h)
     · exact h
   · rcases List.mem_cons.1 h with rfl|h
     · exact .inl (mem_addN.2 (.inl rfl))
     · exact .inr h
theorem regGl_spec {g:Nat}:∀(l:List Oper) (acc:List Nat),(g∈acc\/∃o∈l,.global g∈o.op.operands.toList)->g∈regGl l acc
 | [],acc,h=>by
   rcases h with h|⟨o,ho,_⟩
   · exact h
   · cases ho
 | o::l,acc,h=>by
   rw [regGl];refine regGl_spec l _ ?_;rcases h with h|⟨o',ho,h⟩
   · exact .inl (foldl_gl _ _ (.inl h))
   · rcases List.mem_cons.1 ho with rfl|ho
     · exact .inl (foldl_gl _ _ (.inr h))
     · exact .inr ⟨o',ho,h⟩
theorem codeGl_spec:∀(c:Code) (acc:List Nat),(∀g,g∈acc->g∈codeGl c acc)/\CodeGl (· ∈ codeGl c acc) c
 | .region _ ops _,acc=>⟨fun g h=>regGl_spec _ _ (.inl h),fun o ho g hg=>regGl_spec _ _ (.inr ⟨o,ho,hg⟩)⟩
 | .seq a b,acc=>by obtain ⟨a1,a2⟩:=codeGl_spec a acc;obtain ⟨b1,b2⟩:=codeGl_spec b (codeGl a acc);exact ⟨fun g h=>b1 g (a1 g h),CodeGl.mono b1 a2,b2⟩
 | .cond c a b,acc=>by
   have key:∀acc',(∀g,g∈acc->g∈acc')->(∀g,c = .global g->g∈acc')->(∀g,g∈acc->g∈codeGl b (codeGl a acc'))/\CodeGl (· ∈ codeGl b (codeGl a acc')) (.cond c a b):=by intro acc' h0 h1;obtain ⟨a1,a2⟩:=codeGl_spec a acc';obtain ⟨b1,b2⟩:=codeGl_spec b (codeGl a acc');exact ⟨fun g h=>b1 g (a1 g (h0 g h)),fun g hg=>b1 g (a1 g (h1 g hg)),CodeGl.mono b1 a2,b2⟩
   cases c with
   | global g=>exact key (addN g acc) (fun g' h=>mem_addN.2 (.inr h)) (fun g' h=>by cases h;exact mem_addN.2 (.inl rfl))
   | tmp t=>exact key acc (fun _ h=>h) (fun _ h=>by cases h)
   | const v=>exact key acc (fun _ h=>h) (fun _ h=>by cases h)
   | func f=>exact key acc (fun _ h=>h) (fun _ h=>by cases h)
 | .block _ c,acc=>codeGl_spec c acc
 | .loop c,acc=>codeGl_spec c acc
 | .skip,_=>⟨fun _ h=>h,trivial⟩
 | .rangeFunc _ _ _ _,_=>⟨fun _ h=>h,trivial⟩
 | .exit _,_=>⟨fun _ h=>h,trivial⟩
 | .scope _,_=>⟨fun _ h=>h,trivial⟩
 | .label _,_=>⟨fun _ h=>h,trivial⟩
 | .goto _,_=>⟨fun _ h=>h,trivial⟩
 | .ret,_=>⟨fun _ h=>h,trivial⟩
 | .refuse _,_=>⟨fun _ h=>h,trivial⟩
theorem get_params:∀(args:List V) (i s:Nat) (v:Tr Ent),varsGet (params i args v) s=if i≤s/\s<i+args.length then ⟨none,args.getD (s-i) (.t (.a .poison))⟩ else varsGet v s
 | [],i,s,v=>by rw [if_neg (by simp only [List.length_nil];omega)];rfl
 | x::r,i,s,v=>by
   rw [params,get_params r (i+1) s];have hset:varsGet (v.set i ⟨none,x⟩) s=if i=s then ⟨none,x⟩ else varsGet v s:=by
    unfold varsGet;rw [Tr.get_set];by_cases e:i=s
    · rw [if_pos e,if_pos e]
    · rw [if_neg e,if_neg e]
   by_cases e:i=s
   · subst e;rw [if_neg (by omega),if_pos ⟨Nat.le_refl _,by simp⟩,hset,if_pos rfl]
     simp
   · by_cases h:i+1≤s/\s<i+1+r.length
     · rw [if_pos h,if_pos ⟨by omega,by simp;omega⟩]
       have:s-i=(s-(i+1))+1:=by omega
       rw [this];simp
     · rw [if_neg h,if_neg (by simp only [List.length_cons];omega),hset,if_neg e]
theorem relV_get {ν:Nu}:∀{az:List V} {vs:List Value},relV ν az vs->∀(i:Nat),(az.getD i (.t (.a .poison))).rel ν (vs.getD i undef)
 | [],[],_,_=>by simp [V.rel,T.relV,A.rel]
 | _::_,_::_,h,0=>h.1
 | _::az,_::vs,h,i+1=>by simpa using relV_get h.2 i
 | [],_::_,h,_=>h.elim
 | _::_,[],h,_=>h.elim
theorem relV_length {ν:Nu}:∀{az:List V} {vs:List Value},relV ν az vs->az.length=vs.length
 | [],[],_=>rfl
 | _::_,_::_,h=>by simp [relV_length h.2]
 | [],_::_,h=>h.elim
 | _::_,[],h=>h.elim
end
section
variable {cx:Cx} {call:CallE}
def LamsOK (cx:Cx):Prop:=∀f fn c,cx.P.funcs[f]? = some fn->fn.body=some c->∀fp:Fp,fp.lam=cx.lam f->LamOK cx.P fp c
theorem evalFn_parts {fuel:Nat} {f:FuncId} {fn:Func} {args:List V} {h:H} {r:R} (he:evalFn cx call fuel f fn args h=r):r = .fail\/∃c,fn.body=some c/\args.length≤fn.ntmps/\(∀g,g∈codeGl c []->g∈h.gl) /\
 r=((((evalC cx call ⟨fnMask cx f fn c args,fn.ntmps,cx.it,cx.lam f⟩ fuel c (St.enter (params 0 args .nil) h)).leaves cx (fnMask cx f fn c args) fn.results.toList).norm (St.enter .nil h)).toR).back h:=by
 unfold evalFn at he;split at he
 · exact .inl he.symm
 · rename_i c hc;split at he
   · rename_i hlen;simp only [bA,List.all_eq_true] at hlen;exact .inr ⟨c,hc,nL hlen.1,fun g hg=>memB_iff.1 (hlen.2 g hg),he.symm⟩
   · exact .inl he.symm
theorem enter_vconds (args:List V) (h:H):∀t,(varsGet (St.enter (params 0 args .nil) h).vars t).c=none:=by
 intro t;show (varsGet (params 0 args .nil) t).c=none;rw [get_params];split
 · rfl
 · rw [nil_get]
theorem evalFn_ext (hE:EqOK cx) (hC:CallOK cx.P call) (hD:DfrOK cx.P cx.dfr) (hLs:LamsOK cx) {fuel:Nat} {f:FuncId} {fn:Func} {args:List V} {h:H} (hf:cx.P.funcs[f]? = some fn) (hlo:h.lo≤h.next):(evalFn cx call fuel f fn args h).All (Ext h):=by
 rcases evalFn_parts (cx:=cx) (call:=call) (fuel:=fuel) (f:=f) (fn:=fn) (args:=args) (h:=h) rfl with e|⟨c,hc,_,_,e⟩
 · rw [e];trivial
 · rw [e];have hO:=(evalC_sound hE hC (hLs f fn c hf hc ⟨fnMask cx f fn c args,fn.ntmps,cx.it,cx.lam f⟩ rfl) fuel c (St.enter (params 0 args .nil) h) (fun _ _ h=>h)).ext (show LoOK _ from Nat.le_refl _)
   refine allR_back (p:=Ext h.mark) (fun x hx=>back_ext hlo hx) (all_toR (p:=ExtS (St.enter .nil h)) (fun s hs=>hs.h) (norm_all ?_));exact all_leaves (p:=ExtS (St.enter (params 0 args .nil) h)) (fun s u hs=>leave_all hD rfl hs u) hO
theorem fn_run (hE:EqOK cx) (hC:CallOK cx.P call) (hD:DfrOK cx.P cx.dfr) (hLs:LamsOK cx) {fuel:Nat} {fn:Func} {f:FuncId} {args:List V} {h:H} {c:Code} (hf:cx.P.funcs[f]? = some fn) (hc:fn.body=some c)
 (hlen:args.length≤fn.ntmps) (hgl:∀g,g∈codeGl c []->g∈h.gl) {e1:Ex} {s2:St}
 (hp:(((evalC cx call ⟨fnMask cx f fn c args,fn.ntmps,cx.it,cx.lam f⟩ fuel c (St.enter (params 0 args .nil) h)).leaves cx (fnMask cx f fn c args) fn.results.toList).norm (St.enter .nil h)).pick=some (e1,s2)) (hok:okB s2.ok=true)
 {S:Nat->Prop} {ν:Nu} {w:World} {vs:List Value} {R:Ending->World->Prop} (hrd:∀i,i∈s2.h.rd->markS S h i) (hwr:∀i,i∈s2.h.wr->markS S h i) (hm:Mem S ν w h) (hargs:relV ν args vs)
 (hK:∀ν' w' x,(entAt s2.vars 0).v.rel ν' x->Goes (markS S h) ν w h.mark ν' w' s2.h->e1 = .nrm->R (.returned x) w')
 (hP:∀ν' w' v x,v.rel ν' x->Goes (markS S h) ν w h.mark ν' w' s2.h->e1 = .pan v->R (.panicked [{ v:=x,recovered:=false }]) w') :
 Calls cx.P f vs.toArray w R:=by
 let fp:Fp:=⟨fnMask cx f fn c args,fn.ntmps,cx.it,cx.lam f⟩
 have hS:=evalC_sound hE hC (hLs f fn c hf hc fp rfl) fuel c (St.enter (params 0 args .nil) h) (fun _ _ h=>h);have hO:=hS.ext (show LoOK _ from Nat.le_refl _)
 have hlv:((evalC cx call fp fuel c (St.enter (params 0 args .nil) h)).leaves cx (fnMask cx f fn c args) fn.results.toList).All (ExtS (St.enter .nil h)):=
  all_leaves (p:=ExtS (St.enter (params 0 args .nil) h)) (fun s u hs=>leave_all hD rfl hs u) hO
 obtain ⟨s1,hp1,hweak⟩:=norm_pick (P:=cx.P) (base:=St.enter .nil h) rfl hlv e1 s2 hp;obtain ⟨e,s,u,hpe,hmode,hleave⟩:=pick_leaves hp1;have hxs:=Out.All.pick hO hpe;have hlos:LoOK s:=hxs.lo (Nat.le_refl _);have hok1:okB s1.ok=true:=hweak.ok hok;have hrd1:∀i,i∈s1.h.rd->markS S h i:=fun i hi=>hrd i (hweak.rd i hi);have hwr1:∀i,i∈s1.h.wr->markS S h i:=fun i hi=>hwr i (hweak.wr i hi);have hgl':CodeGl (· ∈ (St.enter (params 0 args .nil) h).h.gl) c:=CodeGl.mono (fun g hg=>hgl g hg) (codeGl_spec c []).2;have hlv2:=relV_length hargs;have hdef:∃u' ok' h',runDefs cx.dfr s.defs u s.ok s.h=some (u',ok',h')/\okB ok'=true/\Ext h' s1.h/\∀ν' a' w',CRel cx.P fp (markS S h) { s with ok:=ok',h:=h',defs:=[] } ν' a' w'->Goes (markS S h) ν w h.mark ν' w' h' ->
  ∀m,ModeRel ν' u' m->Leaves cx.P fn a'.tmps R [] m w':=by
  unfold leave at hleave;split at hleave
  · simp [Out.pick] at hleave
  · rename_i ok' h' hd;split at hleave
    · rename_i o v h2 hres;simp only [Out.pick,oI,pI] at hleave;obtain ⟨rfl,rfl⟩:=hleave;obtain ⟨ho1,ho2⟩:=andOk_true hok1;refine ⟨none,ok',h',hd,ho1,resOf_ext hres,fun ν' a' w' hr hg m hm' => ?_⟩;simp only [ModeRel] at hm';subst hm';obtain ⟨x,hx,hrun,g⟩:=resOf_sound (fp:=fp) (S:=markS S h) hres ho2 hrd1 rfl (ν:=ν') (a:=a') (w:=w') hr;have hg2:=hg.trans g;have hcr:=done_rel (P:=cx.P) (ok:=andOk ok' o) g.mem hx;obtain ⟨h1,h2'⟩:=hweak.rel resFp (markS S h) ν w ν' (resAct x) w' hm.mark hcr hg2;exact ⟨x,hrun,hK ν' w' x (done_val h1) h2' rfl⟩
    · simp [Out.pick] at hleave
  · rename_i v ok' h' hd;simp only [Out.pick,oI,pI] at hleave;obtain ⟨rfl,rfl⟩:=hleave;refine ⟨some v,ok',h',hd,hok1,Ext.refl _,fun ν' a' w' hr hg m hm' => ?_⟩;simp only [ModeRel] at hm';obtain ⟨x,rfl,hx⟩:=hm';have hcr:=pan_rel (P:=cx.P) (ok:=ok') hr.mem;obtain ⟨h1,h2'⟩:=hweak.rel resFp (markS S h) ν w ν' (resAct undef) w' hm.mark hcr hg;exact hP ν' w' v x hx h2' rfl
 obtain ⟨u',ok',h',hd,hok',hx1,hfin⟩:=hdef;obtain ⟨hdx,hdo⟩:=runDefs_ext hD hd hlos;refine calls_of_wp_defers hf hc ?_;refine hS.run e s hpe (hdo hok') (markS S h) ν _ w _ (fun i hi=>hrd1 i (hx1.rd i (hdx.rd i hi))) (fun i hi=>hwr1 i (hx1.wr i (hdx.wr i hi))) hgl' ?_ ?_
 · refine ⟨hm.mark,fun t => ?_,enter_vconds args h,by show _=fn.ntmps;simp;omega,trivial⟩
   have hpoison:EntOK ν (vs.toArray++Array.replicate (fn.ntmps-vs.toArray.size) undef) t ⟨none,.t (.a .poison)⟩:=
    ⟨fun _=>by simp [V.rel,T.relV,A.rel],fun hno=>absurd trivial hno⟩
   cases hk:bitB (fnMask cx f fn c args) t
   · rw [get_false hk];exact hpoison
   · rw [get_true hk];show EntOK ν _ t (varsGet (params 0 args .nil) t);rw [get_params];split
     · rename_i ht;refine ⟨fun _ => ?_,fun hno=>absurd trivial hno⟩;have h1:=relV_get hargs (t-0);have e1:(vs.toArray++Array.replicate (fn.ntmps-vs.toArray.size) undef).getD t undef=vs.getD (t-0) undef:=by
        have:t<vs.length:=by omega
        simp [Array.getD_eq_getD_getElem?,Array.getElem?_append,this]
       show (args.getD (t-0) (.t (.a .poison))).rel ν _;rw [e1];exact h1
     · rw [nil_get];exact hpoison
 · intro ν' a' w' x hr' hg' hx;have main:∀m,ModeRel ν' u m->Leaves cx.P fn a'.tmps R a'.defers m w':=by
    intro m hmr;refine runDefs_sound hD hd hok' (fun i hi=>hrd1 i (hx1.rd i hi)) (fun i hi=>hwr1 i (hx1.wr i hi)) hr'.mem hr'.defers hmr ?_;intro ν'' w'' m' hmr' hg'';have hcr:CRel cx.P fp (markS S h) { s with ok:=ok',h:=h',defs:=[] } ν'' { a' with defers:=[] } w'':=
     ⟨hg''.mem,fun t=>(hr'.slots t).mono hg''.le,hr'.vconds,hr'.size,trivial⟩
    exact hfin ν'' { a' with defers:=[] } w'' hcr (hg'.trans hg'') m' hmr'
   cases e with
   | nrm=>simp only [Ex.rel] at hx;subst hx;simp only [Ex.mode,oI] at hmode;subst hmode;exact main .returning rfl
   | ret=>simp only [Ex.rel] at hx;subst hx;simp only [Ex.mode,oI] at hmode;subst hmode;exact main .returning rfl
   | pan v=>
     simp only [Ex.rel] at hx;obtain ⟨y,rfl,hy⟩:=hx;simp only [Ex.mode,oI] at hmode;subst hmode;exact main _ ⟨y,rfl,hy⟩
   | exit id=>simp [Ex.mode] at hmode
theorem evalFn_sound (hE:EqOK cx) (hC:CallOK cx.P call) (hD:DfrOK cx.P cx.dfr) (hLs:LamsOK cx) {fuel:Nat} {fn:Func} {f:FuncId} {args:List V} {h:H} {ok:A} {v:V} {h':H} (hf:cx.P.funcs[f]? = some fn)
 (he:(evalFn cx call fuel f fn args h).pick=some (ok,v,h')) (hok:okB ok=true):FnOK cx.P f args h v h':=by
 rcases evalFn_parts (cx:=cx) (call:=call) (fuel:=fuel) (f:=f) (fn:=fn) (args:=args) (h:=h) rfl with e|⟨c,hc,hlen,hgl,e⟩
 · rw [e] at he;simp [R.pick] at he
 · rw [e,(pickR_back h _).1] at he;split at he
   · rename_i o v' h2 hp;simp only [oI,pI] at he;obtain ⟨rfl,rfl,rfl⟩:=he;obtain ⟨s2,hp2,rfl,rfl,rfl⟩:=pick_toR hp;intro S ν w vs hrd hwr hm hargs;exact fn_run hE hC hD hLs hf hc hlen hgl hp2 hok (back_rd hrd) (back_wr hwr) hm hargs (fun ν' w' x hx hg _=>⟨x,ν',rfl,hx,back_goes hm.nums.lo hg⟩) (fun _ _ _ _ _ _ h=>by cases h)
   · cases he
theorem evalFn_pan (hE:EqOK cx) (hC:CallOK cx.P call) (hD:DfrOK cx.P cx.dfr) (hLs:LamsOK cx) {fuel:Nat} {fn:Func} {f:FuncId} {args:List V} {h:H} {ok:A} {v:A} {h':H} (hf:cx.P.funcs[f]? = some fn)
 (he:(evalFn cx call fuel f fn args h).pickP=some (ok,v,h')) (hok:okB ok=true):FnPan cx.P f args h v h':=by
 rcases evalFn_parts (cx:=cx) (call:=call) (fuel:=fuel) (f:=f) (fn:=fn) (args:=args) (h:=h) rfl with e|⟨c,hc,hlen,hgl,e⟩
 · rw [e] at he;simp [R.pickP] at he
 · rw [e,(pickR_back h _).2] at he;split at he
   · rename_i o v' h2 hp;simp only [oI,pI] at he;obtain ⟨rfl,rfl,rfl⟩:=he;obtain ⟨s2,hp2,rfl,rfl⟩:=pickP_toR hp;intro S ν w vs hrd hwr hm hargs;exact fn_run hE hC hD hLs hf hc hlen hgl hp2 hok (back_rd hrd) (back_wr hwr) hm hargs (fun _ _ _ _ _ h=>by cases h) (fun ν' w' v x hx hg h=>by cases h;exact ⟨x,ν',rfl,hx,back_goes hm.nums.lo hg⟩)
   · cases he
structure ΓOK (P:Program) (Γ:FuncId->List V->H->Option R):Prop where
 ok:∀f args h r ok v h',Γ f args h=some r->r.pick=some (ok,v,h')->okB ok=true->(Enters P f/\FnOK P f args h v h')\/(AtOnce P f args v/\h'=h)
 pan:∀f args h r ok v h',Γ f args h=some r->r.pickP=some (ok,v,h')->okB ok=true->Enters P f/\FnPan P f args h v h'
 ext:∀f args h r,Γ f args h=some r->h.lo≤h.next->r.All (Ext h)
theorem evalF_sound (hE:EqOK cx) {Γ:FuncId->List V->H->Option R} (hΓ:ΓOK cx.P Γ) (hD:DfrOK cx.P cx.dfr) (hLs:LamsOK cx) (hent:∀f fn,cx.P.funcs[f]? = some fn->fn.body≠none->Enters cx.P f) {fuel:Nat}:∀n,CallOK cx.P (evalF cx Γ fuel n):=by
 intro n
 induction n with
 | zero=>exact ⟨fun f args h ok v h' he=>by simp [evalF,R.pick] at he,fun f args h ok v h' he=>by simp [evalF,R.pickP] at he,fun f args h _=>trivial⟩
 | succ n ih=>
   refine ⟨fun f args h ok v h' he hok => ?_,fun f args h ok v h' he hok => ?_,fun f args h hlo => ?_⟩
   · simp only [evalF] at he;split at he
     · rename_i r hr;exact hΓ.ok f args h r ok v h' hr he hok
     · split at he
       · rename_i fn hf;refine .inl ⟨hent f fn hf ?_,evalFn_sound hE ih hD hLs hf he hok⟩;intro hb;unfold evalFn at he;rw [hb] at he;simp [R.pick] at he
       · simp [R.pick] at he
   · simp only [evalF] at he;split at he
     · rename_i r hr;exact hΓ.pan f args h r ok v h' hr he hok
     · split at he
       · rename_i fn hf;refine ⟨hent f fn hf ?_,evalFn_pan hE ih hD hLs hf he hok⟩;intro hb;unfold evalFn at he;rw [hb] at he;simp [R.pickP] at he
       · simp [R.pickP] at he
   · simp only [evalF];split
     · rename_i r hr;exact hΓ.ext f args h r hr hlo
     · split
       · rename_i fn hf;exact evalFn_ext hE ih hD hLs hf hlo
       · trivial
end
end Go.WE
namespace Go.WE
open Go
open Go.RowKit (Below)
def kindsFs (rec:TypeId->Option (List (Option IntKind))) (size:TypeId->Option Nat):List Field->Nat->Option (List (Option IntKind))
 | [],_=>some []
 | f::fs,off=>match rec f.type with
   | some ks=>match Nat.beq f.offset off&&(size f.type==some ks.length) && !(f.name == "_") with
     | true=>match kindsFs rec size fs (off+ks.length) with
       | some r=>some (ks++r)
       | none=>none
     | false=>none
   | none=>none
def kindsOf (P:Program):Nat->TypeId->Option (List (Option IntKind))
 | 0,_=>none
 | n+1,t=>match P.underlying t with
   | some (.int k)=>some [some k]
   | some .bool=>some [none]
   | some (.struct fs)=>match P.stoodInHeld t with
     | true=>none
     | false=>match kindsFs (kindsOf P n) (sizeT P) fs.toList 0 with
       | some r=>match Nat.beq (P.cellsOf t) r.length with
         | true=>some r
         | false=>none
       | none=>none
   | some (.array m e)=>match kindsOf P n e with
     | some ks=>match (sizeT P e==some ks.length)&&Nat.beq (P.cellsOf t) (m*ks.length) with
       | true=>some (List.replicate m ks).flatten
       | false=>none
     | none=>none
   | _=>none
def Atoms:List (Option IntKind)->List Value->Prop
 | [],cs=>cs=[]
 | some k::ks,cs=>∃x cs',cs = .int k (vof k x)::cs'/\Atoms ks cs'
 | none::ks,cs=>∃b cs',cs = .bool b::cs'/\Atoms ks cs'
theorem Atoms.append:∀{k1 k2 c1 c2},Atoms k1 c1->Atoms k2 c2->Atoms (k1++k2) (c1++c2)
 | [],_,_,_,h1,h2=>by simp only [Atoms] at h1;subst h1;exact h2
 | some k::ks,_,_,_,⟨x,cs',e,h⟩,h2=>by subst e;exact ⟨x,_,rfl,h.append h2⟩
 | none::ks,_,_,_,⟨x,cs',e,h⟩,h2=>by subst e;exact ⟨x,_,rfl,h.append h2⟩
theorem cellsOf_of_sizeT {P:Program} {t:TypeId} {n:Nat} (h:sizeT P t=some n):P.cellsOf t=n:=by
 unfold sizeT at h;unfold Program.cellsOf;rw [h];rfl
theorem vof_of_wf {k:IntKind} {n:Int} (h:(Lit.int k n).wf=true):∃x:BitVec 64,n=vof k x:=by
 refine ⟨BitVec.ofInt 64 n,(vof_ofInt ?_).symm⟩;simp only [Lit.wf,bA,decide_eq_true_eq] at h;cases k<;>simp [IntKind.wrap,IntKind.bits,IntKind.signed,IntKind.min,IntKind.max] at h ⊢ <;> (try split)<;>omega
section
variable {H:Type} {enc:TypeId×Value->H} {P:Program} {w:World} {base:Nat} {spare:Nat->Bool} {held:Bool}
theorem open_kinds:∀(d:Nat) {t:TypeId} {ks:List (Option IntKind)} {fuel:Nat} {cs:List Value} {x},kindsOf P d t=some ks ->
 DataW.trod enc P w base spare held fuel t cs=some x->Atoms ks cs:=by
 intro d
 induction d with
 | zero=>intro t ks fuel cs x h;simp [kindsOf] at h
 | succ d ih=>
   intro t ks fuel cs x h ht;unfold kindsOf at h;split at h
   · rename_i k hk;simp at h;subst h;obtain ⟨n,rfl,_,hw⟩:=DataW.trod_int hk ht;obtain ⟨y,rfl⟩:=vof_of_wf hw;exact ⟨y,[],rfl,rfl⟩
   · rename_i hk;simp at h;subst h;obtain ⟨b,rfl,_⟩:=DataW.trod_bool hk ht;exact ⟨b,[],rfl,rfl⟩
   · rename_i fs hk;split at h
     · cases h
     split at h
     · rename_i r hr;split at h
       · rename_i hc;simp at h;subst h;have hc:=Nat.eq_of_beq_eq_true hc;obtain ⟨xs,n,_,_,hl,hxs,hf⟩:=DataW.trod_struct hk ht;have key:∀(l:List Field) (off:Nat) (r:List (Option IntKind)),kindsFs (kindsOf P d) (sizeT P) l off=some r ->
          (∀f∈l,∃x,DataW.trod enc P w base spare held n f.type ((cs.drop f.offset).take (P.cellsOf f.type))=some x)->Atoms r ((cs.drop off).take r.length):=by
          intro l
          induction l with
          | nil=>intro off r h _;simp [kindsFs] at h;subst h;simp [Atoms]
          | cons f l ihl=>
            intro off r h hall;unfold kindsFs at h;split at h
            · rename_i k1 h1;split at h
              · rename_i hb;simp only [bA] at hb;have ho:=Nat.eq_of_beq_eq_true hb.1.1;have hs:sizeT P f.type=some k1.length:=by simpa using hb.1.2
                split at h
                · rename_i r' hr';simp at h;subst h;obtain ⟨y,hy⟩:=hall f (by simp)
                  rw [cellsOf_of_sizeT hs,ho] at hy;have a1:=ih h1 hy;have a2:=ihl _ _ hr' (fun g hg=>hall g (by simp [hg]))
                  have e:(cs.drop off).take (k1++r').length=(cs.drop off).take k1.length++(cs.drop (off+k1.length)).take r'.length:=by rw [List.length_append,List.take_add,List.drop_drop]
                  rw [e];exact a1.append a2
                · cases h
              · cases h
            · cases h
         have:=key _ _ _ hr (fun f hf'=>by
          obtain ⟨i,hi,he⟩:=List.getElem_of_mem hf';have hi':fs[i]? = some f:=by rw [← Array.getElem?_toList];rw [List.getElem?_eq_getElem hi,he]
          have h2:=hf i f hi';have hlt:i<xs.length:=by rw [hxs];simpa using hi
          exact ⟨xs[i],by rw [h2,List.getElem?_eq_getElem hlt]⟩)
         have e:(cs.drop 0).take r.length=cs:=by simp [← hc,← hl]
         rwa [e] at this
       · cases h
     · cases h
   · rename_i m e hk;split at h
     · rename_i k1 h1;split at h
       · rename_i hb;simp only [bA] at hb;have hs:sizeT P e=some k1.length:=by simpa using hb.1
         have hc:=Nat.eq_of_beq_eq_true hb.2;simp at h;subst h;obtain ⟨xs,n,_,_,hl,hxs,hf⟩:=DataW.trod_array hk ht;have h2:∀i,i<m->Atoms k1 ((cs.drop (i*k1.length)).take k1.length):=by
          intro i hi;have h3:=hf i hi;rw [cellsOf_of_sizeT hs] at h3;have hlt:i<xs.length:=by omega
          rw [List.getElem?_eq_getElem hlt] at h3;exact ih h1 h3
         have key:∀(m:Nat) (cs:List Value),cs.length=m*k1.length->(∀i,i<m->Atoms k1 ((cs.drop (i*k1.length)).take k1.length))->Atoms (List.replicate m k1).flatten cs:=by
          intro m
          induction m with
          | zero=>intro cs hl _;simp at hl;subst hl;simp [Atoms]
          | succ m ihm=>
            intro cs hl hall;have a1:=hall 0 (by omega)
            have a2:=ihm (cs.drop k1.length) (by simp [hl,Nat.succ_mul]) (fun i hi=>by
             have:=hall (i+1) (by omega)
             rw [List.drop_drop]
             rwa [Nat.succ_mul,Nat.add_comm] at this)
            have:=a1.append a2;simp at this;rw [List.replicate_succ,List.flatten_cons];exact this
         exact key m cs (by rw [hl,hc]) h2
       · cases h
     · cases h
   · cases h
end
def valOf (P:Program) (t:TypeId) (xs:List Value):Value:=
 match isAggT P t with
 | some true =>.agg xs.toArray
 | _=>xs.headD undef
def eqKs (ks:List (Option IntKind)):List Bool:=ks.map Option.isNone
theorem eqVs_append:∀{s1 s2:List Bool} {X Y:List Value} {r:Bool},eqVs (s1++s2) X Y=some r ->
 ∃r1 r2,eqVs s1 (X.take s1.length) (Y.take s1.length)=some r1/\eqVs s2 (X.drop s1.length) (Y.drop s1.length)=some r2/\r=(r1&&r2)
 | [],s2,X,Y,r,h=>⟨true,r,by simp [eqVs],by simpa using h,by simp⟩
 | s::s1,s2,X,Y,r,h=>by
   rw [List.cons_append] at h
   match s,X,Y with
   | false,.int k m::xs,.int k' n::ys=>
     simp only [eqVs] at h;split at h
     · rename_i hk;cases hr:eqVs (s1++s2) xs ys with
       | none=>simp [hr] at h
       | some r'=>
         simp [hr] at h;subst h;obtain ⟨r1,r2,h1,h2,rfl⟩:=eqVs_append hr;exact ⟨(m==n)&&r1,r2,by simp [eqVs,hk,h1],by simpa using h2,by simp [Bool.and_assoc]⟩
     · cases h
   | true,.bool p::xs,.bool q::ys=>
     simp only [eqVs] at h;cases hr:eqVs (s1++s2) xs ys with
     | none=>simp [hr] at h
     | some r'=>
       simp [hr] at h;subst h;obtain ⟨r1,r2,h1,h2,rfl⟩:=eqVs_append hr;exact ⟨(p==q)&&r1,r2,by simp [eqVs,h1],by simpa using h2,by simp [Bool.and_assoc]⟩
theorem isAgg_of_kinds {P:Program} {d:Nat} {t:TypeId} {ks} (h:kindsOf P d t=some ks):(isAggT P t=some true)\/(isAggT P t=some false/\ks.length=1):=by
 cases d with
 | zero=>simp [kindsOf] at h
 | succ d=>
   unfold kindsOf at h;unfold isAggT;split at h
   · rename_i k hk;simp at h;subst h;right;simp [hk]
   · rename_i hk;simp at h;subst h;right;simp [hk]
   · rename_i k hk;left;simp [hk]
   · rename_i k hk;left;simp [hk]
   · cases h
theorem run_underlyingP {P:Program} {w:World} {t:TypeId} {d:TypeDesc} (h:P.underlying t=some d):(underlying t).run P w = .ok d w:=by
 simp [underlying,h]
theorem run_part_kinds {P:Program} {w:World} {d:Nat} {t:TypeId} {ks} (h:kindsOf P d t=some ks) (hs:sizeT P t=some ks.length) (X:List Value) (off:Nat) (hlen:off+ks.length≤X.length) :
 (part t X.toArray off).run P w = .ok (valOf P t ((X.drop off).take ks.length)) w:=by
 have hi:∃i,P.info? t=some i/\i.size=ks.length:=by
  unfold sizeT at hs;cases hi:P.info? t with
  | none=>simp [hi] at hs
  | some i=>simp [hi] at hs;exact ⟨i,rfl,hs⟩
 obtain ⟨i,hi,hsz⟩:=hi;unfold valOf;rcases isAgg_of_kinds h with ha|⟨ha,h1⟩
 · rw [ha];have e:(isAgg t).run P w = .ok true w:=by
    unfold isAggT at ha;split at ha<;>simp at ha
    · rename_i e;simp [isAgg,run_underlyingP e]
    · rename_i e;simp [isAgg,run_underlyingP e]
   simp [part,Sem.run_bind,e,Go.sizeOf,typeInfo,hi,hsz]
 · rw [ha];have e:(isAgg t).run P w = .ok false w:=by
    unfold isAggT at ha;split at ha<;>simp at ha
    rename_i e h2 h3;simp [isAgg,run_underlyingP h3]
   rw [h1] at hlen;have hlt:off<X.length:=by omega
   have hd:(X.drop off).take 1=[X[off]]:=by rw [List.drop_eq_getElem_cons hlt];rfl
   simp [part,Sem.run_bind,e,h1,hd,hlt]
theorem eqVs_length:∀{s:List Bool} {X Y:List Value} {r:Bool},eqVs s X Y=some r->X.length=s.length/\Y.length=s.length
 | [],[],[],_,_=>⟨rfl,rfl⟩
 | [],_::_,_,_,h=>by simp [eqVs] at h
 | [],[],_::_,_,h=>by simp [eqVs] at h
 | s::s1,X,Y,r,h=>by
   match s,X,Y with
   | false,.int k m::xs,.int k' n::ys=>
     simp only [eqVs] at h;split at h
     · cases hr:eqVs s1 xs ys with
       | none=>simp [hr] at h
       | some r'=>have:=eqVs_length hr;simp [this.1,this.2]
     · cases h
   | true,.bool p::xs,.bool q::ys=>
     simp only [eqVs] at h;cases hr:eqVs s1 xs ys with
     | none=>simp [hr] at h
     | some r'=>have:=eqVs_length hr;simp [this.1,this.2]
theorem eqKs_length (ks:List (Option IntKind)):(eqKs ks).length=ks.length:=by simp [eqKs]
theorem eqVs_nil {X Y:List Value} {r:Bool} (h:eqVs [] X Y=some r):r=true:=by
 cases X<;>cases Y<;>simp [eqVs] at h<;>simp [h]
theorem equalIn_kinds {P:Program} {w:World}:∀(d:Nat) {t:TypeId} {ks:List (Option IntKind)},kindsOf P d t=some ks ->
 ∀(D:Nat),d≤D->∀(xs ys:List Value) (r:Bool),eqVs (eqKs ks) xs ys=some r->(Op.equalIn D t (valOf P t xs) (valOf P t ys)).run P w = .ok r w:=by
 intro d
 induction d with
 | zero=>intro t ks h;simp [kindsOf] at h
 | succ d ih=>
   intro t ks h D hD xs ys r he;obtain ⟨D,rfl⟩:∃D',D=D'+1:=⟨D-1,by omega⟩
   have hD:d≤D:=by omega
   unfold kindsOf at h;split at h
   · rename_i k hk;simp at h;subst h;have ha:isAggT P t=some false:=by simp [isAggT,hk]
     simp only [valOf,ha];have hl:=eqVs_length he;obtain ⟨x,rfl⟩:=List.length_eq_one_iff.1 (show xs.length=1 from hl.1)
     obtain ⟨y,rfl⟩:=List.length_eq_one_iff.1 (show ys.length=1 from hl.2)
     have he:eqVs [false] [x] [y]=some r:=he;cases x<;>cases y<;>simp [eqVs] at he
     obtain ⟨rfl,rfl⟩:=he;exact run_equalIn_int w D t _ _ _ _ hk
   · rename_i hk;simp at h;subst h;have ha:isAggT P t=some false:=by simp [isAggT,hk]
     simp only [valOf,ha];have hl:=eqVs_length he;obtain ⟨x,rfl⟩:=List.length_eq_one_iff.1 (show xs.length=1 from hl.1)
     obtain ⟨y,rfl⟩:=List.length_eq_one_iff.1 (show ys.length=1 from hl.2)
     have he:eqVs [true] [x] [y]=some r:=he;cases x<;>cases y<;>simp [eqVs] at he
     subst he;exact run_equalIn_bool' w D t _ _ hk
   · rename_i fs hk;have ha:isAggT P t=some true:=by simp [isAggT,hk]
     simp only [valOf,ha];split at h
     · cases h
     rename_i hst;split at h
     · rename_i r0 hr;split at h
       · rename_i hc;simp at h;subst h;have hf:P.fieldsOf t=fs:=by simp [Program.fieldsOf,hk]
         rw [run_equalIn_struct w D t _ _ (by rw [hf];exact hk) hst,hf]
         have hl:=eqVs_length he;rw [eqKs_length] at hl;have key:∀(l:List Field) (off:Nat) (r1:List (Option IntKind)) (r:Bool),kindsFs (kindsOf P d) (sizeT P) l off=some r1->off+r1.length=xs.length ->
          eqVs (eqKs r1) (xs.drop off) (ys.drop off)=some r->(Op.eqFields D xs.toArray ys.toArray l).run P w = .ok r w:=by
          intro l
          induction l with
          | nil=>intro off r1 r h _ he;simp [kindsFs] at h;subst h;rw [eqVs_nil he];simp [Op.eqFields]
          | cons f l ihl=>
            intro off r1 r h hlen he;unfold kindsFs at h;split at h
            · rename_i k1 h1;split at h
              · rename_i hb;simp only [bA] at hb;have ho:=Nat.eq_of_beq_eq_true hb.1.1;have hs:sizeT P f.type=some k1.length:=by simpa using hb.1.2
                have hn:f.name ≠ "_" := by simpa using hb.2
                split at h
                · rename_i r' hr';simp at h;subst h;rw [List.length_append] at hlen;have he':eqVs (eqKs k1++eqKs r') (xs.drop off) (ys.drop off)=some r:=by simpa [eqKs] using he
                  obtain ⟨b1,b2,e1,e2,rfl⟩:=eqVs_append he';rw [eqKs_length] at e1 e2;rw [List.drop_drop,List.drop_drop] at e2;simp only [Op.eqFields,hn,ne_eq,not_false_eq_true,if_true,Sem.run_bind,ho];rw [run_part_kinds h1 hs xs off (by omega)]
                  simp only [Result.andThen_ok];rw [run_part_kinds h1 hs ys off (by omega)]
                  simp only [Result.andThen_ok];rw [ih h1 D hD _ _ _ e1];simp only [Result.andThen_ok];cases b1
                  · simp
                  · simp only [Bool.not_true,Bool.false_eq_true,if_false,Bool.true_and];exact ihl _ _ _ hr' (by omega) e2
                · cases h
              · cases h
            · cases h
         exact key _ 0 _ _ hr (by omega) (by simpa using he)
       · cases h
     · cases h
   · rename_i m e hk;have ha:isAggT P t=some true:=by simp [isAggT,hk]
     simp only [valOf,ha];split at h
     · rename_i k1 h1;split at h
       · rename_i hb;simp only [bA] at hb;have hs:sizeT P e=some k1.length:=by simpa using hb.1
         simp at h;subst h;obtain ⟨i,hi⟩:∃i,P.info? e=some i:=by
          unfold sizeT at hs;cases hi:P.info? e with
          | none=>simp [hi] at hs
          | some i=>exact ⟨i,rfl⟩
         rw [run_equalIn_array w D _ _ hk hi,cellsOf_of_sizeT hs];have hl:=eqVs_length he;rw [eqKs_length] at hl;have hl2:xs.length=m*k1.length:=by rw [hl.1];simp
         have hl3:ys.length=m*k1.length:=by rw [hl.2];simp
         have key:∀(n:Nat) (j:Nat) (r:Bool),j+n=m ->
          eqVs (eqKs (List.replicate n k1).flatten) (xs.drop (j*k1.length)) (ys.drop (j*k1.length))=some r ->
          (Op.eqItems D e k1.length xs.toArray ys.toArray (List.range' j n)).run P w = .ok r w:=by
          intro n
          induction n with
          | zero=>intro j r _ he;have e:r=true:=eqVs_nil (by simpa [eqKs] using he);rw [e];simp [Op.eqItems]
          | succ n ihn=>
            intro j r hj he;rw [List.replicate_succ,List.flatten_cons] at he;have he':eqVs (eqKs k1++eqKs (List.replicate n k1).flatten) (xs.drop (j*k1.length)) (ys.drop (j*k1.length))=some r:=by rw [← he];simp [eqKs]
            obtain ⟨b1,b2,e1,e2,rfl⟩:=eqVs_append he';rw [eqKs_length] at e1 e2;rw [List.drop_drop,List.drop_drop,← Nat.succ_mul] at e2;have hle:j*k1.length+k1.length≤m*k1.length:=by rw [← Nat.succ_mul];exact Nat.mul_le_mul_right _ (by omega)
            rw [List.range'_succ];simp only [Op.eqItems,Sem.run_bind];rw [run_part_kinds h1 hs xs _ (by omega)]
            simp only [Result.andThen_ok];rw [run_part_kinds h1 hs ys _ (by omega)]
            simp only [Result.andThen_ok];rw [ih h1 D hD _ _ _ e1];simp only [Result.andThen_ok];cases b1
            · simp
            · simp only [Bool.not_true,Bool.false_eq_true,if_false,Bool.true_and];exact ihn (j+1) _ (by omega) e2
         rw [List.range_eq_range'];exact key m 0 r (by omega) (by simpa using he)
       · cases h
     · cases h
   · cases h
def eqTab (l:List (TypeId×List Bool)) (t:TypeId):Option (List Bool):=
 match l with
 | []=>none
 | (u,s)::r=>match Nat.beq t u with
   | true=>some s
   | false=>eqTab r t
def eqTabOk (P:Program) (l:List (TypeId×List Bool)):Bool:=
 l.all fun x => !P.eqGuardType P.depth x.1&&(isAggT P x.1==some true)&&(((kindsOf P 10 x.1).map eqKs)==some x.2)
theorem eqTab_some:∀{l:List (TypeId×List Bool)} {t s},eqTab l t=some s->(t,s)∈l
 | [],_,_,h=>by simp [eqTab] at h
 | (u,s')::r,t,s,h=>by
   unfold eqTab at h;split at h
   · rename_i hb;simp at h;subst h;rw [Nat.eq_of_beq_eq_true hb];simp
   · have:=eqTab_some h;simp [this]
theorem eqOK_of {cx:Cx} {l:List (TypeId×List Bool)} (h:eqTabOk cx.P l=true) (hl:cx.eqT=eqTab l):EqOK cx:=by
 intro t sh xs ys r ht he w X Y;rw [hl] at ht;have hm:=eqTab_some ht;have h1:=List.all_eq_true.1 h _ hm;simp only [bA,Bool.not_eq_true'] at h1;obtain ⟨⟨hg,ha⟩,hk⟩:=h1;have ha:isAggT cx.P t=some true:=by simpa using ha
 cases hk':kindsOf cx.P 10 t with
 | none=>simp [hk'] at hk
 | some ks=>
   simp only [hk',Option.map_some] at hk;have hk:eqKs ks=sh:=by simpa using hk
   subst hk;have:=equalIn_kinds (w:=w) 10 hk' 10000 (by omega) xs ys r he
   simp only [valOf,ha] at this;constructor
   · rw [Sem.run_bind,run_eqGuard_agg w _ _ _ _ _ _ hg];simp only [Result.andThen_ok];rw [run_eql_struct,this];rfl
   · rw [Sem.run_bind,run_eqGuard_agg w _ _ _ _ _ _ hg];simp only [Result.andThen_ok];rw [run_neq_struct,this];rfl
def entersAll (P:Program):Bool:=P.funcs.all fun fn => !(fn.name == "runtime.NumGoroutine")
theorem enters_of {P:Program} (h:entersAll P=true):∀f fn,P.funcs[f]? = some fn->fn.body≠none->Enters P f:=by
 intro f fn hf hb args w;have hn:(fn.name == "runtime.NumGoroutine")=false:=by have:=Array.all_eq_true'.1 h fn (Array.mem_of_getElem? hf);simpa using this
 have hb:fn.body.isNone=false:=by cases he:fn.body<;>simp_all
 simp only [callFunc,Sem.run_bind,run_program,Result.andThen_ok,hf,hn,hb,Bool.false_eq_true,if_false];rfl
mutual
def A.free:A->Bool
 | .ptr _ _=>false
 | .sl _ _ _ _ _ _=>false
 | .mapp _=>false
 | .fn _ caps=>freeAs caps
 | .iface _ x=>x.free
 | _=>true
def freeAs:List A->Bool
 | []=>true
 | a::r=>a.free&&freeAs r
end
mutual
def T.free:T->Bool
 | .a x=>x.free
 | .st fs=>freeTs fs
 | .lst _ ts=>freeTs ts
 | .arr _ _ _=>true
 | .bad=>true
 | .mp _ _ _=>false
def freeTs:List T->Bool
 | []=>true
 | t::r=>t.free&&freeTs r
end
def V.free:V->Bool
 | .t x=>x.free
 | .tup ts=>freeTs ts
def freeVs:List V->Bool
 | []=>true
 | v::r=>v.free&&freeVs r
mutual
theorem A.rel_free {ν ν':Nu}:∀{a:A} {v:Value},a.free=true->a.rel ν v->a.rel ν' v
 | .poison,_,_,_=>by simp only [A.rel]
 | .undef,_,_,h=>by simpa only [A.rel] using h
 | .lit _ _,_,_,h=>by simpa only [A.rel] using h
 | .i _ _,_,_,h=>by simpa only [A.rel] using h
 | .tt,_,_,h=>by simpa only [A.rel] using h
 | .ff,_,_,h=>by simpa only [A.rel] using h
 | .b _,_,_,h=>by simpa only [A.rel] using h
 | .nilp,_,_,h=>by simpa only [A.rel] using h
 | .ptr _ _,_,hf,_=>by simp [A.free] at hf
 | .nils,_,_,h=>by simpa only [A.rel] using h
 | .sl _ _ _ _ _ _,_,hf,_=>by simp [A.free] at hf
 | .mapp _,_,hf,_=>by simp [A.free] at hf
 | .nilf,_,_,h=>by simpa only [A.rel] using h
 | .fn _ caps,_,hf,h=>by simp only [A.rel] at h ⊢;simp only [A.free] at hf;obtain ⟨vs,h1,h2⟩:=h;exact ⟨vs,h1,relL_free hf h2⟩
 | .iface _ _,_,hf,h=>by simp only [A.rel] at h ⊢;simp only [A.free] at hf;obtain ⟨u,h1,h2⟩:=h;exact ⟨u,h1,A.rel_free hf h2⟩
 | .raw _,_,_,h=>by simpa only [A.rel] using h
theorem relL_free {ν ν':Nu}:∀{az:List A} {vs:List Value},freeAs az=true->relL ν az vs->relL ν' az vs
 | [],_,_,h=>by simpa only [relL] using h
 | a::az,_,hf,h=>by simp only [relL] at h ⊢;simp only [freeAs,bA] at hf;obtain ⟨v,us,h1,h2,h3⟩:=h;exact ⟨v,us,h1,A.rel_free hf.1 h2,relL_free hf.2 h3⟩
end
mutual
theorem T.rel_free {ν ν':Nu}:∀{t:T} {vs:List Value},t.free=true->t.rel ν vs->t.rel ν' vs
 | .a x,vs,hf,h=>by simp only [T.rel] at h ⊢;obtain ⟨v,h1,h2,h3⟩:=h;exact ⟨v,h1,A.rel_free hf h2,h3⟩
 | .st fs,vs,hf,h=>by simp only [T.rel] at h ⊢;exact relTs_free hf h
 | .lst s ts,vs,hf,h=>by simp only [T.rel] at h ⊢;exact relLst_free hf h
 | .arr _ _ _,vs,_,h=>by simpa only [T.rel] using h
 | .bad,vs,_,h=>by simpa only [T.rel] using h
 | .mp _ _ _,vs,hf,_=>by simp [T.free] at hf
theorem relTs_free {ν ν':Nu}:∀{ts:List T} {vs:List Value},freeTs ts=true->relTs ν ts vs->relTs ν' ts vs
 | [],_,_,h=>by simpa only [relTs] using h
 | t::ts,_,hf,h=>by simp only [relTs] at h ⊢;simp only [freeTs,bA] at hf;obtain ⟨us,ws,h1,h2,h3⟩:=h;exact ⟨us,ws,h1,T.rel_free hf.1 h2,relTs_free hf.2 h3⟩
theorem relLst_free {ν ν':Nu} {s:Nat}:∀{ts:List T} {vs:List Value},freeTs ts=true->relLst ν s ts vs->relLst ν' s ts vs
 | [],_,_,h=>by simpa only [relLst] using h
 | t::ts,_,hf,h=>by simp only [relLst] at h ⊢;simp only [freeTs,bA] at hf;obtain ⟨us,ws,h1,h2,h3,h4⟩:=h;exact ⟨us,ws,h1,h2,T.rel_free hf.1 h3,relLst_free hf.2 h4⟩
end
theorem T.relV_free {ν ν':Nu} {t:T} {v:Value} (hf:t.free=true) (h:t.relV ν v):t.relV ν' v:=by
 cases t with
 | a x=>exact A.rel_free (show x.free=true from hf) (show x.rel ν v from h)
 | bad=>trivial
 | st fs=>obtain ⟨vs,h1,h2⟩:=h;exact ⟨vs,h1,T.rel_free hf h2⟩
 | lst s ts=>obtain ⟨vs,h1,h2⟩:=h;exact ⟨vs,h1,T.rel_free hf h2⟩
 | arr s n sh=>obtain ⟨vs,h1,h2⟩:=h;exact ⟨vs,h1,T.rel_free hf h2⟩
 | mp k ks ts=>simp [T.free] at hf
theorem relVs_free {ν ν':Nu}:∀{ts:List T} {vs:List Value},freeTs ts=true->relVs ν ts vs->relVs ν' ts vs
 | [],[],_,_=>trivial
 | t::ts,v::vs,hf,h=>by simp only [freeTs,bA] at hf;exact ⟨T.relV_free hf.1 h.1,relVs_free hf.2 h.2⟩
 | [],_::_,_,h=>h.elim
 | _::_,[],_,h=>h.elim
theorem V.rel_free {ν ν':Nu} {x:V} {v:Value} (hf:x.free=true) (h:x.rel ν v):x.rel ν' v:=by
 cases x with
 | t u=>exact T.relV_free hf h
 | tup ts=>obtain ⟨vs,h1,h2⟩:=h;exact ⟨vs,h1,relVs_free hf h2⟩
theorem relV_free {ν ν':Nu}:∀{xs:List V} {vs:List Value},freeVs xs=true->relV ν xs vs->relV ν' xs vs
 | [],[],_,_=>trivial
 | x::xs,v::vs,hf,h=>by simp only [freeVs,bA] at hf;exact ⟨V.rel_free hf.1 h.1,relV_free hf.2 h.2⟩
 | [],_::_,_,h=>h.elim
 | _::_,[],_,h=>h.elim
abbrev Gam:=FuncId->List V->H->Option R
def noΓ:Gam:=fun _ _ _=>none
theorem noΓ_ok {P:Program}:ΓOK P noΓ:=⟨fun _ _ _ _ _ _ _ h=>(by cases h),fun _ _ _ _ _ _ _ h=>(by cases h),fun _ _ _ _ h=>(by cases h)⟩
theorem noDfr_ok {P:Program}:DfrOK P (fun _ _ _ _=>none):=⟨fun _ _ _ _ _ _ _ h=>(by cases h),fun _ _ _ _ _ _ _ h=>(by cases h)⟩
def PureOK (P:Program) (f:FuncId) (args:List V) (v:V):Prop:=(Enters P f/\∀h,FnOK P f args h v h)\/AtOnce P f args v
def H.none:H:=⟨.nil,[],[],0,0,[]⟩
def nu0:Nu:=fun _=>none
theorem mem_none (S:Nat->Prop) (w:World):Mem S nu0 w H.none:=
 ⟨⟨fun _ _ _ h=>(by cases h),fun id b h=>(by simp [H.none,Tr.get_nil] at h),fun _ _=>rfl,fun id b h=>(by simp [H.none,Tr.get_nil] at h),Nat.le_refl _,fun g hg=>(by cases hg)⟩,
  fun id b h=>(by simp [H.none,Tr.get_nil] at h)⟩
def R.res (r:R):Option (A×V):=match r.pick with
 | some (ok,v,_)=>some (ok,v)
 | none=>none
theorem R.res_some {r:R} {ok:A} {v:V} (h:r.res=some (ok,v)):∃h',r.pick=some (ok,v,h'):=by
 unfold R.res at h;split at h
 · rename_i o v' h' hp;simp only [oI,pI] at h;obtain ⟨rfl,rfl⟩:=h;exact ⟨h',hp⟩
 · cases h
theorem fnOK_any {P:Program} {f:FuncId} {args:List V} {v:V} {h':H} (h0:FnOK P f args H.none v h') (ha:freeVs args=true) (hv:v.free=true):∀h,FnOK P f args h v h:=by
 intro h S ν w vs _ _ hm hargs;refine (h0 (fun _=>True) nu0 w vs (fun _ _=>trivial) (fun _ _=>trivial) (mem_none _ w) (relV_free ha hargs)).mono ?_;rintro e w' ⟨u,ν',rfl,hu,g⟩;have hb:∀r,r<w.heap.size->w'.heap[r]? = w.heap[r]? := fun r hr=>g.frm.block r hr (fun id base h=>by cases h)
 refine ⟨u,ν,rfl,V.rel_free hv hu,⟨Nu.le_refl _,⟨⟨fun id r base h=>Nat.lt_of_lt_of_le (hm.nums.lt id r base h) g.frm.size,hm.nums.inj,hm.nums.fresh,hm.nums.bound,hm.nums.lo,hm.nums.glob⟩,fun id b h1 h2 => ?_⟩,
  ⟨g.frm.os,g.frm.tape,g.frm.output,g.frm.size,fun r hr _=>hb r hr⟩,fun id r base h h'=>(by rw [h] at h';cases h'),Ext.refl _,fun _ _=>rfl⟩⟩
 exact (hm.seen id b h1 h2).mono (Nu.le_refl _) (fun r base h3=>hb r (hm.nums.lt id r base h3))
structure CxOK (cx:Cx) (Γ:Gam):Prop where
 eq:EqOK cx
 gam:ΓOK cx.P Γ
 dfr:DfrOK cx.P cx.dfr
 lam:LamsOK cx
 ent:∀f fn,cx.P.funcs[f]? = some fn->fn.body≠none->Enters cx.P f
theorem noLam (P:Program) (eqT:TypeId->Option (List Bool)) (it:Nat) (dfr:DfrE):LamsOK { P:=P,eqT:=eqT,it:=it,dfr:=dfr }:=fun _ _ _ _ _ fp hfp id d s o h=>by
 rw [hfp] at h;cases h
section
variable {cx:Cx} {Γ:Gam} {fuel n:Nat} {f:FuncId} {args:List V} {h:H}
theorem evalF_fn (X:CxOK cx Γ) {ok:A} {v:V} {h':H} (hΓ:Γ f args h=none) (he:(evalF cx Γ fuel (n+1) f args h).pick=some (ok,v,h')) (hok:okB ok=true):Enters cx.P f/\FnOK cx.P f args h v h':=by
 simp only [evalF,hΓ] at he;split at he
 · rename_i fn hf;refine ⟨X.ent f fn hf ?_,evalFn_sound X.eq (evalF_sound X.eq X.gam X.dfr X.lam X.ent n) X.dfr X.lam hf he hok⟩;intro hb;unfold evalFn at he;rw [hb] at he;simp [R.pick] at he
 · simp [R.pick] at he
theorem pure_of_eval (X:CxOK cx Γ) {ok:A} {v:V} (hΓ:Γ f args H.none=none) (he:(evalF cx Γ fuel (n+1) f args H.none).res=some (ok,v)) (hok:okB ok=true) (ha:freeVs args=true) (hv:v.free=true):PureOK cx.P f args v:=by
 obtain ⟨h',hp⟩:=R.res_some he;obtain ⟨h1,h2⟩:=evalF_fn X hΓ hp hok;exact .inl ⟨h1,fnOK_any h2 ha hv⟩
end
end Go.WE
end
