/- A part of a proof of the helpers' law; no condition of its own. -/
import Derived.Test.YtoeealkcacgcgaaGreatDoorS03
set_option linter.unusedVariables false
set_option maxRecDepth 100000
noncomputable section
namespace Go.WE
open Go
section
variable {P:Program} {w:World} {ν:Nu}
theorem relL_length:∀{az:List A} {vs:List Value},relL ν az vs->az.length=vs.length
 | [],_,h=>by simp only [relL] at h;subst h;rfl
 | a::az,_,h=>by simp only [relL] at h;obtain ⟨v,us,rfl,_,h2⟩:=h;simp [relL_length h2]
theorem relL_split:∀(n:Nat) {az:List A} {vs:List Value},relL ν az vs->relL ν (az.take n) (vs.take n)/\relL ν (az.drop n) (vs.drop n)
 | 0,az,vs,h=>by simp only [List.take_zero,List.drop_zero,relL];exact ⟨trivial,h⟩
 | n+1,[],_,h=>by simp only [relL] at h;subst h;simp [relL]
 | n+1,a::az,_,h=>by simp only [relL] at h;obtain ⟨v,us,rfl,h1,h2⟩:=h;obtain ⟨g1,g2⟩:=relL_split n h2;simp only [List.take_succ_cons,List.drop_succ_cons,relL];exact ⟨⟨v,_,rfl,h1,g1⟩,g2⟩
theorem shape_all:∀(d:Nat),
 (∀t cs u vs,shapeT P d t cs=some u->relL ν cs vs->(∀v,v∈vs->Cell v)->u.rel ν vs) /\
 (∀fs off cs ts vs,shapeFs P d fs off cs=some ts->relL ν cs vs->(∀v,v∈vs->Cell v)->relTs ν ts vs) /\
 (∀t k n cs ts vs,shapeL P d t (chunks k n cs)=some ts->cs.length=n*k->relL ν cs vs->(∀v,v∈vs->Cell v)->relLst ν k ts vs)
 | 0=>⟨fun t cs u vs h=>by simp [shapeT] at h,fun fs off cs ts vs h=>by simp [shapeFs] at h,fun t k n cs ts vs h=>by simp [shapeL] at h⟩
 | d+1=>by
   obtain ⟨iT,iF,iL⟩:=shape_all d;refine ⟨?_,?_,?_⟩
   · intro t cs u vs h hr hc;simp only [shapeT] at h;split at h
     · split at h
       · rename_i ts hts;simp only [oI] at h;subst h;simp only [T.rel];exact iF _ _ _ _ _ hts hr hc
       · cases h
     · split at h
       · rename_i n elem k hk;split at h
         · rename_i hl;split at h
           · rename_i ts hts;simp only [oI] at h;subst h;simp only [T.rel];exact iL _ _ _ _ _ _ hts (beq_true hl) hr hc
           · cases h
         · cases h
       · cases h
     · split at h
       · simp only [oI] at h;subst h;simp only [relL] at hr;obtain ⟨v,us,rfl,h1,rfl⟩:=hr;simp only [T.rel];exact ⟨v,rfl,h1,hc v (by simp)⟩
       · cases h
     · cases h
   · intro fs off cs ts vs h hr hc;simp only [shapeFs] at h;split at h
     · split at h
       · simp only [oI] at h;subst h;simp only [relL] at hr;subst hr;simp only [relTs]
       · cases h
     · split at h
       · rename_i n hn;split at h
         · split at h
           · rename_i t ts h1 h2;simp only [oI] at h;subst h;obtain ⟨g1,g2⟩:=relL_split n hr;simp only [relTs];exact ⟨vs.take n,vs.drop n,(List.take_append_drop n vs).symm,iT _ _ _ _ h1 g1 (fun v hv=>hc v (List.mem_of_mem_take hv)),iF _ _ _ _ _ h2 g2 (fun v hv=>hc v (List.mem_of_mem_drop hv))⟩
           · cases h
         · cases h
       · cases h
   · intro t k n cs ts vs h hl hr hc;cases n with
     | zero=>
       simp only [chunks,shapeL,oI] at h;subst h;have:cs=[]:=List.length_eq_zero_iff.1 (by simpa using hl)
       subst this;simp only [relL] at hr;subst hr;simp only [relLst]
     | succ n=>
       simp only [chunks,shapeL] at h;split at h
       · rename_i t' ts' h1 h2;simp only [oI] at h;subst h;obtain ⟨g1,g2⟩:=relL_split k hr;have hk:k≤cs.length:=by rw [hl,Nat.succ_mul];omega
         simp only [relLst];refine ⟨vs.take k,vs.drop k,(List.take_append_drop k vs).symm,?_,iT _ _ _ _ h1 g1 (fun v hv=>hc v (List.mem_of_mem_take hv)),iL _ _ _ _ _ _ h2 ?_ g2 (fun v hv=>hc v (List.mem_of_mem_drop hv))⟩
         · rw [List.length_take,← relL_length hr];omega
         · rw [List.length_drop,hl,Nat.succ_mul];omega
       · cases h
theorem cellB_cell {v:Value} (h:cellB v=true):Cell v:=by cases v<;>first|trivial|(simp [cellB] at h)
theorem ofAtoms_rel:∀(vs:List Value),relL ν (vs.map ofAtom) vs
 | []=>by simp [relL]
 | v::vs=>by simp only [List.map_cons,relL];exact ⟨v,vs,rfl,ofAtom_rel ν v,ofAtoms_rel vs⟩
theorem zeroT_run {t:TypeId} {z:T} (h:zeroT P t=some z):∃v,(zeroValue t).run P w = .ok v w/\z.rel ν v.cells.toList:=by
 unfold zeroT at h;split at h
 · rename_i i hi;split at h
   · rename_i v hz;split at h
     · rename_i hc;refine ⟨v,?_,(shape_all 1000).1 _ _ _ _ h (ofAtoms_rel _) (fun u hu=>cellB_cell (List.all_eq_true.1 hc u hu))⟩;simp [zeroValue,typeInfo,hi,hz]
     · cases h
   · cases h
 · cases h
end
section
variable {P:Program} {w:World} {ν:Nu}
theorem fold_set:∀(ws us:List Value) (a b:List Value) (vs:Array Value) (off k:Nat),us.length=ws.length->vs.toList=a++us++b->a.length=off+k ->
 ((ws.zipIdx k).foldl (fun cs (c,j)=>cs.setIfInBounds (off+j) c) vs).toList=a++ws++b
 | [],us,a,b,vs,off,k,hl,e,_=>by have:us=[]:=List.length_eq_zero_iff.1 hl;subst this;simpa using e
 | v::ws,[],_,_,_,_,_,hl,_,_=>by simp at hl
 | v::ws,u::us,a,b,vs,off,k,hl,e,ha=>by
   rw [List.zipIdx_cons,List.foldl_cons];have:=fold_set ws us (a++[v]) b (vs.setIfInBounds (off+k) v) off (k+1) (by simpa using hl) ?_ (by simp [ha];omega)
   · rw [this];simp
   · have e1:vs.toList=a++u::(us++b):=by rw [e];simp
     rw [Array.toList_setIfInBounds,e1,← ha,List.set_append_right _ _ (Nat.le_refl _),Nat.sub_self];simp
def relP (ν:Nu):List (Nat×V)->List (Nat×Value)->Prop
 | [],[]=>True
 | a::az,v::vs=>a.1=v.1/\a.2.rel ν v.2/\relP ν az vs
 | _,_=>False
theorem putParts_sound {pl:Nat->Option (Nat×Nat)} {mk:Nat->Nat->Step} (hmk:∀i off n,pl i=some (off,n)->stepOff (mk i off)=off) :
 ∀{ps:List (Nat×V)} {qs:List (Nat×Value)} {z t:T} {vs:Array Value},putParts pl mk z ps=some t->relP ν ps qs->z.rel ν vs.toList->∃vs',Instr.fill pl vs qs=some vs'/\t.rel ν vs'.toList
 | [],[],z,t,vs,h,_,hr=>by simp [putParts] at h;subst h;exact ⟨vs,rfl,hr⟩
 | (i,x)::ps,(j,v)::qs,z,t,vs,h,hp,hr=>by
   obtain ⟨e0,hx,hp'⟩:=hp;have e0:i=j:=e0;subst e0;simp only [putParts] at h;split at h
   · rename_i u off n hu hpl;split at h
     · rename_i hs;split at h
       · rename_i hpo;split at h
         · rename_i z' hz';obtain ⟨e1,m,hm⟩:=optEqN_eq hs;rw [hm] at e1;cases e1;have hur:=V.cells_rel hu hx (size_ne_bad hm);have hsz:=size_length hm hur;obtain ⟨a,us,b,e,g1,g2,g3⟩:=updT_rel hur hz' (by rw [hpo];rfl) hr
           have g1:a.length=off:=by rw [g1];simp only [pathOff,Nat.add_zero];exact hmk i off n hpl
           have hf:=fold_set v.cells.toList us a b vs off 0 g2 e (by omega)
           obtain ⟨vs',h1,h2⟩:=putParts_sound hmk (vs:=((v.cells.toList.zipIdx 0).foldl (fun cs (c,j)=>cs.setIfInBounds (off+j) c) vs)) h hp' (by rw [hf];exact g3)
           refine ⟨vs',?_,h2⟩;have key:(v.cells.zipIdx.foldl (fun cs (c,j)=>cs.setIfInBounds (off+j) c) vs)=((v.cells.toList.zipIdx 0).foldl (fun cs (c,j)=>cs.setIfInBounds (off+j) c) vs):=by rw [← Array.foldl_toList,Array.toList_zipIdx]
           have hsz':v.cells.size=n:=by rw [← hsz];simp
           have hvs:vs.size=a.length+us.length+b.length:=by rw [← Array.length_toList,e];simp;omega
           simp only [Instr.fill,hpl];rw [if_neg (by
            simp only [hsz',ne_eq,not_true,decide_false,Bool.false_or,decide_eq_true_eq];have:us.length=n:=by rw [g2,hsz]
            omega),key]
           exact h1
         · cases h
       · cases h
     · cases h
   · cases h
 | [],_::_,_,_,_,_,h,_=>h.elim
 | _::_,[],_,_,_,_,h,_=>h.elim
theorem opParts_sound {a:Act} {G:Cond} {gt:Nat->Ent} (hG:holds a.tmps G):∀{xs:List (Nat×Operand)} {vs:List (Nat×V)},opParts G gt xs=some vs ->
 Slots ν a.tmps gt (xs.map (·.2))->Glob ν (xs.map (·.2))->relP ν vs (xs.map fun (i,x)=>(i,a.eval x))
 | [],vs,h,_,_=>by simp [opParts] at h;subst h;trivial
 | (i,x)::xs,vs,h,hs,hg=>by
   simp only [opParts] at h;split at h<;>simp at h
   rename_i v vs' h1 h2;subst h;exact ⟨rfl,opV_sound h1 hG (X:=none) trivial (fun s hm=>hs s (by simp at hm;subst hm;simp)) (fun g hm=>hg g (by simp at hm;subst hm;simp)),
    opParts_sound hG h2 (fun s hm=>hs s (by simp at hm ⊢;exact .inr hm)) (fun g hm=>hg g (by simp at hm ⊢;exact .inr hm))⟩
theorem placesOf_sound:∀{fs:List Field} {pl:List (Nat×Nat)},placesOf P fs=some pl ->
 (fs.mapM fun f=>(do pure (f.offset,← Go.sizeOf f.type):Sem (Nat×Nat))).run P w = .ok pl w
 | [],pl,h=>by simp [placesOf] at h;subst h;rfl
 | f::fs,pl,h=>by
   simp only [placesOf] at h;split at h<;>simp at h
   rename_i n r h1 h2;subst h;rw [List.mapM_cons,Sem.run_bind,Sem.run_bind,run_sizeOf' h1];simp only [Result.andThen_ok,Sem.run_pure];rw [Sem.run_bind,placesOf_sound h2];rfl
theorem array_mapM_run {fs:Array Field} {pl:List (Nat×Nat)} (h:(fs.toList.mapM fun f=>(do pure (f.offset,← Go.sizeOf f.type):Sem (Nat×Nat))).run P w = .ok pl w) :
 (fs.mapM fun f=>(do pure (f.offset,← Go.sizeOf f.type):Sem (Nat×Nat))).run P w = .ok pl.toArray w:=by
 rw [Array.mapM_eq_mapM_toList,Sem.run_map,h];rfl
theorem agg_relV {t:T} {vs:Array Value} (h:t.rel ν vs.toList) (ha:∀x,t ≠ .a x):t.relV ν (.agg vs):=by
 cases t with
 | a x=>exact absurd rfl (ha x)
 | bad=>trivial
 | mp k ks ts=>exact ⟨vs,rfl,h⟩
 | st fs=>exact ⟨vs,rfl,h⟩
 | lst s ts=>exact ⟨vs,rfl,h⟩
 | arr s n sh=>exact ⟨vs,rfl,h⟩
end
section
variable {P:Program} {cx:Cx} {S:Nat->Prop} {ν:Nu} {w:World} {h:H}
def Runs (P:Program) (S:Nat->Prop) (ν:Nu) (w:World) (h:H) (s:Sem Value) (r:OpR):Prop:=
 ∃v w' ν',s.run P w = .ok v w'/\r.v.rel ν' v/\Goes S ν w h ν' w' r.h
theorem Runs.same (m:Mem S ν w h) {s:Sem Value} {ok:A} {x:V} {v:Value} (hr:s.run P w = .ok v w) (hx:x.rel ν v):Runs P S ν w h s ⟨ok,x,h⟩:=⟨v,w,ν,hr,hx,Goes.refl m⟩
theorem mkA_eq {x:A} {r:OpR} (he:mkA h x=some r):r=⟨.tt,.t (.a x),h⟩:=by simp [mkA] at he;exact he.symm
theorem mkR_eq {v:V} {r:OpR} (he:mkR h v=some r):r=⟨.tt,v,h⟩:=by simp [mkR] at he;exact he.symm
theorem evMove_sound (m:Mem S ν w h) {x:Option V} {r:OpR} {vx:Value} (he:evMove h x=some r) (hx:∀y,x=some y->y.rel ν vx):Runs P S ν w h (pure vx) r:=by
 unfold evMove at he;split at he
 · rw [mkR_eq he];exact Runs.same m rfl (hx _ rfl)
 · cases he
theorem evAlloc_sound (m:Mem S ν w h) {t:TypeId} {r:OpR} (he:evAlloc cx h t=some r):Runs cx.P S ν w h (Instr.alloc t true (.tuple #[])) r:=by
 unfold evAlloc at he;split at he
 · rename_i z hz;simp only [oI] at he;subst he;obtain ⟨v,h1,h2⟩:=zeroT_run (ν:=ν) (w:=w) hz;refine ⟨.pointer (some ⟨w.heap.size,0,none⟩),_,_,?_,?_,m.alloc (vs:=v.cells) t h2⟩
   · simp only [Instr.alloc];rw [Sem.run_bind,h1];simp [newVar,newRow]
   · show (A.ptr h.next []).rel _ _;simp only [A.rel];exact ⟨w.heap.size,0,by simp [upd],rfl⟩
 · cases he
theorem evBox_sound (m:Mem S ν w h) {t:TypeId} {x:Option V} {r:OpR} {vx:Value} (he:evBox P h t x=some r) (hx:∀y,x=some y->y.rel ν vx):Runs P S ν w h (Instr.box t vx) r:=by
 unfold evBox at he;split at he
 · rename_i v;split at he
   · rename_i u hu;split at he
     · rename_i hs;simp only [oI] at he;subst he;obtain ⟨_,n,hn⟩:=optEqN_eq hs;have hr:=V.cells_rel hu (hx _ rfl) (size_ne_bad hn);refine ⟨.pointer (some ⟨w.heap.size,0,none⟩),_,_,?_,?_,m.alloc (vs:=vx.cells) t hr⟩
       · simp [Instr.box,newVar,newRow]
       · show (A.ptr h.next []).rel _ _;simp only [A.rel];exact ⟨w.heap.size,0,by simp [upd],rfl⟩
     · cases he
   · cases he
 · cases he
theorem evNilCheck_sound (m:Mem S ν w h) {x:Option A} {r:OpR} {vx:Value} (he:evNilCheck h x=some r) (hx:∀y,x=some y->y.rel ν vx) :
 (∃b o,vx = .pointer (some ⟨b,o,none⟩))/\Runs P S ν w h (pure vx) r:=by
 unfold evNilCheck at he;split at he
 · rename_i id p;have hr:=hx _ rfl;rw [mkA_eq he];refine ⟨?_,Runs.same m rfl hr⟩;simp only [A.rel] at hr;obtain ⟨b,base,_,e⟩:=hr;exact ⟨b,_,e⟩
 · cases he
theorem evUn_sound (m:Mem S ν w h) {op:UnOp} {x:Option A} {r:OpR} {vx:Value} (he:evUn h op x=some r) (hx:∀y,x=some y->y.rel ν vx):Runs P S ν w h (Op.unary op vx) r:=by
 unfold evUn at he;split at he
 · rename_i y;obtain ⟨z,hz,he⟩:=bind_some he;rw [mkA_eq he];obtain ⟨v,h1,h2⟩:=unA_sound (P:=P) (w:=w) hz (hx _ rfl);exact Runs.same m h1 h2
 · cases he
theorem evConv_sound (m:Mem S ν w h) {src dst:TypeId} {x:Option A} {r:OpR} {vx:Value} (he:evConv cx h src dst x=some r) (hx:∀y,x=some y->y.rel ν vx):Runs cx.P S ν w h (convert src dst vx) r:=by
 unfold evConv at he;split at he
 · rename_i y;split at he
   · rename_i d1 hd1;split at he
     · rename_i k hd2;obtain ⟨z,hz,he⟩:=bind_some he;rw [mkA_eq he];obtain ⟨k',n,h0,h2⟩:=convA_sound hz (hx _ rfl);refine Runs.same m (v :=.int k (k.wrap n)) ?_ h2;rw [convert,Sem.run_bind,run_underlying' hd1];simp only [Result.andThen_ok];rw [Sem.run_bind,run_underlying' hd2,h0];rfl
     · cases he
   · cases he
 · cases he
theorem evMakeFunc_sound (m:Mem S ν w h) {fn:Fn} {first:List Operand} {cs:Option (List A)} {r:OpR} {vs:Array Value} (he:evMakeFunc h fn first cs=some r) (hx:∀y,cs=some y->relL ν y vs.toList) :
 first=[]/\Runs P S ν w h (Instr.makeFunc fn #[] vs) r:=by
 unfold evMakeFunc at he;split at he
 · split at he
   · split at he
     · rename_i y;split at he
       · rw [mkA_eq he];refine ⟨rfl,Runs.same m rfl ?_⟩;show (A.fn _ _).rel ν _;simp only [A.rel];exact ⟨vs,rfl,hx _ rfl⟩
       · cases he
     · cases he
   · cases he
 · cases he
theorem pathOff_append:∀(p q:List Step),pathOff (p++q)=pathOff p+pathOff q
 | [],q=>by simp [pathOff]
 | a::p,q=>by simp only [List.cons_append,pathOff,pathOff_append p q];omega
theorem evFieldAddr_sound (m:Mem S ν w h) {s:TypeId} {f:Nat} {x:Option A} {r:OpR} {vx:Value} (he:evFieldAddr cx h s f x=some r) (hx:∀y,x=some y->y.rel ν vx):Runs cx.P S ν w h (Instr.fieldAt s vx f) r:=by
 unfold evFieldAddr at he;split at he
 · rename_i id p;split at he
   · rename_i fields hu;split at he
     · rename_i fd hfd;split at he
       · rename_i n hn;rw [mkA_eq he];have hr:=hx _ rfl;simp only [A.rel] at hr;obtain ⟨b,base,g1,rfl⟩:=hr;refine Runs.same m (v :=.pointer (some ⟨b,base+pathOff p+fd.offset,none⟩)) ?_ ?_
         · rw [Instr.fieldAt,Sem.run_bind,run_underlying' hu];simp only [Result.andThen_ok,hfd];rw [Sem.run_bind];simp only [Instr.sureAddr,Sem.run_pure,Result.andThen_ok];rw [Sem.run_bind,fieldPlace,Sem.run_bind,run_sizeOf' hn];simp only [Result.andThen_ok];rw [if_neg (by omega),add_addr]
           rfl
         · show (A.ptr _ _).rel ν _;simp only [A.rel];exact ⟨b,base,g1,by rw [pathOff_append];simp only [pathOff,stepOff,Nat.add_zero,Nat.add_assoc]⟩
       · cases he
     · cases he
   · cases he
 · cases he
theorem part_run {t:TypeId} {u:T} {us a b:List Value} {cs:Array Value} {off:Nat} (hf:fitsT P t u=true) (hu:u.rel ν us) (e:cs.toList=a++us++b) (ho:a.length=off) :
 ∃v,(part t cs off).run P w = .ok v w/\u.relV ν v:=by
 unfold fitsT at hf;split at hf
 · rename_i ha;have key:optEqN u.size (sizeT P t)=true->(∀x,u ≠ .a x)->∃v,(part t cs off).run P w = .ok v w/\u.relV ν v:=by
    intro hs h1;obtain ⟨e1,n,hn⟩:=optEqN_eq hs;have hl:=size_length hn hu;refine ⟨.agg (cs.extract off (off+n)),?_,?_⟩
    · rw [part,Sem.run_bind,run_isAgg' ha];simp only [Result.andThen_ok,if_true];rw [Sem.run_bind,run_sizeOf' (e1▸hn)];rfl
    · refine agg_relV ?_ h1;have:(cs.extract off (off+n)).toList=us:=by
       rw [Array.toList_extract,e,List.extract_eq_take_drop,List.append_assoc,List.drop_left' ho,Nat.add_sub_cancel_left,List.take_left' hl]
      rw [this];exact hu
   split at hf
   · cases hf
   · cases hf
   · rename_i h1 h2;exact key hf h1
 · rename_i ha;split at hf
   · rename_i x;simp only [T.rel] at hu;obtain ⟨v,rfl,h2,_⟩:=hu;refine ⟨v,?_,h2⟩;rw [part,Sem.run_bind,run_isAgg' ha];have:cs[off]? = some v:=by
      rw [← Array.getElem?_toList,e,← ho,List.append_assoc,List.getElem?_append_right (Nat.le_refl _),Nat.sub_self];rfl
     simp [this]
   · cases hf
 · cases hf
theorem sub_agg {s:Step} {t u:T} {v:Value} (hs:subT [s] t=some u) (hr:t.relV ν v):∃vs,v = .agg vs/\t.rel ν vs.toList:=by
 cases t with
 | a x=>cases s<;>simp [subT] at hs
 | bad=>cases s<;>simp [subT] at hs
 | mp k ks ts=>cases s<;>simp [subT] at hs
 | st fs=>exact hr
 | lst s ts=>exact hr
 | arr s n sh=>exact hr
theorem evField_sound (m:Mem S ν w h) {s:TypeId} {f:Nat} {x:Option V} {r:OpR} {vx:Value} (he:evField cx h s f x=some r) (hok:okB r.ok=true) (hx:∀y,x=some y->y.rel ν vx):Runs cx.P S ν w h (Instr.field s vx f) r:=by
 unfold evField at he;split at he
 · rename_i t;split at he
   · rename_i fields hu;split at he
     · rename_i fd hfd;split at he
       · rename_i u hsu;split at he
         · rename_i hf;simp only [oI] at he;subst he;obtain ⟨vs,rfl,hr⟩:=sub_agg hsu (hx _ rfl);obtain ⟨a,us,b,e,g1,g2⟩:=subT_rel hsu hok hr;obtain ⟨v,k1,k2⟩:=part_run (P:=cx.P) (w:=w) hf g2 e (off:=fd.offset) (by rw [g1];simp [pathOff,stepOff])
           refine Runs.same m (v:=v) ?_ k2;rw [Instr.field,Sem.run_bind,run_underlying' hu];simp only [Result.andThen_ok,hfd];rw [Sem.run_bind];simp only [asAgg,Sem.run_pure,Result.andThen_ok];exact k1
         · cases he
       · cases he
     · cases he
   · cases he
 · cases he
theorem vof_nat {k:IntKind} {y:BitVec 64} (h:(match k.signed with|true => !(nrm k y).msb|false=>true)=true):vof k y=((nrm k y).toNat:Int):=by
 have h0:0≤vof k y:=by
  rcases Int.lt_or_le (vof k y) 0 with hlt|hle
  · obtain ⟨h1,h2⟩:=(vof_neg_iff k y).1 hlt;rw [h1] at h;simp [h2] at h
  · exact hle
 rw [← vof_toNat k y h0,Int.toNat_of_nonneg h0]
theorem ixOf_sound {x:A} {n j:Ix} {ok:A} {v:Value} (he:ixOf x n=some (j,ok)) (hok:okB ok=true) (hx:x.rel ν v):∃k,v = .int k (j.val:Int)/\j.val<n.val:=by
 unfold ixOf at he;split at he
 · rename_i k m';simp only [A.rel] at hx;split at he
   · rename_i m;split at he
     · split at he
       · rename_i n hb;simp at he;obtain ⟨rfl,rfl⟩:=he;exact ⟨k,hx.1,blt_lt hb⟩
       · cases he
     · simp at he;obtain ⟨rfl,rfl⟩:=he;exact ⟨k,hx.1,blt_lt hok⟩
   · cases he
 · rename_i k y;simp only [A.rel] at hx;simp at he;obtain ⟨rfl,rfl⟩:=he;simp only [okB,bA] at hok;obtain ⟨h1,h2⟩:=hok;refine ⟨k,?_,blt_lt h2⟩;rw [hx];congr 1;exact vof_nat h1
 · cases he
end
section
variable {P:Program} {cx:Cx} {S:Nat->Prop} {ν:Nu} {w:World} {h:H}
theorem evIndexAddr_sound (m:Mem S ν w h) {t:TypeId} {x i:Option A} {r:OpR} {vx vi:Value} (he:evIndexAddr cx h t x i=some r) (hok:okB r.ok=true) (hx:∀y,x=some y->y.rel ν vx) (hi:∀y,i=some y->y.rel ν vi) :
 Runs cx.P S ν w h (Instr.indexAt t vx vi) r:=by
 unfold evIndexAddr at he;split at he
 · rename_i x;split at he
   · rename_i i;split at he
     · rename_i d hu;unfold evIndexAddr2 at he
       replace hx:=hx _ rfl
       replace hi:=hi _ rfl
       split at he
       · rename_i len elem;split at he
         · rename_i id p;split at he
           · rename_i j ok hj;split at he
             · rename_i n hn;simp only [oI] at he;subst he;obtain ⟨k,rfl,hlt⟩:=ixOf_sound hj hok hi;simp only [A.rel] at hx;obtain ⟨b,base,g1,rfl⟩:=hx;have hlt:j.val<len:=hlt;refine Runs.same m (v :=.pointer (some ⟨b,base+pathOff p+j.val*n,none⟩)) ?_ ?_
               · rw [Instr.indexAt,Sem.run_bind];simp only [asIntOf,Sem.run_pure,Result.andThen_ok];rw [Sem.run_bind,run_underlying' hu];simp [Instr.sureAddr,run_underlying' hu,hlt,run_sizeOf' hn,add_addr]
               · show (A.ptr _ _).rel ν _;simp only [A.rel];exact ⟨b,base,g1,by rw [pathOff_append];simp only [pathOff,stepOff,Nat.add_zero,Nat.add_assoc,Nat.mul_comm]⟩
             · cases he
           · cases he
         · cases he
       · rename_i elem;split at he
         · rename_i id p s st len cap;split at he
           · rename_i j ok hj;split at he
             · rename_i n hn;split at he
               · rename_i hs;have hs:=beq_true hs;subst hs;simp only [oI] at he;subst he;obtain ⟨k,rfl,hlt⟩:=ixOf_sound hj hok hi;simp only [A.rel] at hx;obtain ⟨b,base,o,c,g1,rfl,g3,g4,g5⟩:=hx;have ho:=g3 (by omega)
                 refine Runs.same m (v :=.pointer (some ⟨b,o+j.val*n,none⟩)) ?_ ?_
                 · rw [Instr.indexAt,Sem.run_bind];simp only [asIntOf,Sem.run_pure,Result.andThen_ok];rw [Sem.run_bind,run_underlying' hu];simp [run_underlying' hu,hlt,run_sizeOf' hn,add_addr]
                 · show (A.ptr _ _).rel ν _;simp only [A.rel];refine ⟨b,base,g1,?_⟩;rw [pathOff_append,ho];have hv:(ixAdd st j).val=st.val+j.val:=by cases st<;>cases j<;>rfl
                   simp only [pathOff,stepOff,Nat.add_zero,hv];have ee:base+pathOff p+n*st.val+j.val*n=base+(pathOff p+n*(st.val+j.val)):=by rw [Nat.mul_add,Nat.mul_comm j.val n];omega
                   rw [ee]
               · cases he
             · cases he
           · cases he
         · cases he
       · cases he
     · cases he
   · cases he
 · cases he
theorem strA_sound {s:ByteArray} {i ok z:A} {v:Value} (he:strA s i=some (ok,z)) (hok:okB ok=true) (hi:i.rel ν v) :
 ∃k n b,v = .int k n/\0≤n/\s[n.toNat]? = some b/\z.rel ν (.int .u8 b.toNat):=by
 unfold strA at he;split at he
 · rename_i k n;simp only [A.rel] at hi;split at he
   · rename_i m;split at he
     · rename_i b hb;simp at he;obtain ⟨_,rfl⟩:=he;refine ⟨k,_,b,hi.1,Int.natCast_nonneg m,hb,?_⟩;simp only [A.rel];refine ⟨trivial,?_⟩;have:=b.toNat_lt;simp [IntKind.wrap,IntKind.bits,IntKind.signed];omega
     · cases he
   · cases he
 · rename_i k x;simp only [A.rel] at hi;split at he
   · cases he
   · rename_i hs;simp at he;obtain ⟨e1,rfl⟩:=he;have hv:vof k x=((nrm k x).toNat:Int):=vof_unsigned k x hs;have hlt:(nrm k x).toNat<s.size:=by
      split at e1
      · rename_i hc;simp only [bA] at hc;have e:=kEq_true hc.1;have h256:=nL hc.2;subst e;have:(nrm .u8 x).toNat<256:=by
         simp [nrm];omega
        omega
      · subst e1;exact blt_lt hok
     obtain ⟨b,hb⟩:∃b,s[(nrm k x).toNat]? = some b:=⟨_,getElem?_pos s (nrm k x).toNat hlt⟩;refine ⟨k,_,b,by rw [hi,hv],Int.natCast_nonneg _,by rw [Int.toNat_natCast];exact hb,?_⟩
     simp only [A.rel];unfold strAt;rw [hb];have:=b.toNat_lt;simp [vof,IntKind.wrap,IntKind.bits,IntKind.signed];omega
 · cases he
theorem evIndex_sound (m:Mem S ν w h) {t:TypeId} {x:Option V} {i:Option A} {r:OpR} {vx vi:Value} (he:evIndex cx h t x i=some r) (hok:okB r.ok=true) (hx:∀y,x=some y->y.rel ν vx) (hi:∀y,i=some y->y.rel ν vi) :
 Runs cx.P S ν w h (Instr.index t vx vi) r:=by
 unfold evIndex at he;split at he
 · rename_i x;split at he
   · rename_i i;split at he
     · rename_i d hu;unfold evIndex2 at he
       replace hx:=hx _ rfl
       replace hi:=hi _ rfl
       split at he
       · split at he
         · rename_i s;split at he
           · rename_i ok z hz;simp only [oI] at he;subst he;obtain ⟨k,n,b,rfl,e2,e3,e4⟩:=strA_sound hz hok hi;refine Runs.same m (v :=.int .u8 b.toNat) ?_ e4;have hx:vx = .string s:=hx;rw [Instr.index,Sem.run_bind];simp only [asIntOf,Sem.run_pure,Result.andThen_ok];rw [Sem.run_bind,run_underlying' hu,hx];simp only [Result.andThen_ok];rw [if_pos e2,e3];rfl
           · cases he
         · cases he
       · rename_i len elem;split at he
         · rename_i t';split at he
           · rename_i j ok hj;split at he
             · rename_i n hn;split at he
               · rename_i u hsu;split at he
                 · rename_i hf;simp only [oI] at he;subst he;obtain ⟨k,rfl,hlt⟩:=ixOf_sound hj (andOk_left hok) hi;have hlt:j.val<len:=hlt;obtain ⟨vs,rfl,hr⟩:=sub_agg hsu hx;obtain ⟨a,us,b,e,g1,g2⟩:=subT_rel hsu (andOk_right hok) hr;obtain ⟨v,k1,k2⟩:=part_run (P:=cx.P) (w:=w) hf g2 e (off:=j.val*n) (by rw [g1];simp [pathOff,stepOff,Nat.mul_comm])
                   refine Runs.same m (v:=v) ?_ k2;rw [Instr.index,Sem.run_bind];simp only [asIntOf,Sem.run_pure,Result.andThen_ok];rw [Sem.run_bind,run_underlying' hu];simp only [Result.andThen_ok];rw [if_pos ⟨Int.natCast_nonneg _,by omega⟩,Sem.run_bind,run_sizeOf' hn]
                   simp only [Result.andThen_ok,Int.toNat_natCast];exact k1
                 · cases he
               · cases he
             · cases he
           · cases he
         · cases he
       · cases he
     · cases he
   · cases he
 · cases he
theorem relVs_get:∀{ts:List T} {vs:List Value},relVs ν ts vs->∀(i:Nat) (t:T),ts[i]? = some t->∃v,vs[i]? = some v/\t.relV ν v
 | [],[],_,_,_,e=>by simp at e
 | _::_,v::_,h,0,x,e=>by simp at e;subst e;exact ⟨v,rfl,h.1⟩
 | _::az,_::vs,h,i+1,x,e=>by simpa using relVs_get h.2 i x (by simpa using e)
 | [],_::_,h,_,_,_=>h.elim
 | _::_,[],h,_,_,_=>h.elim
theorem evExtract_sound (m:Mem S ν w h) {ix:Nat} {x:Option V} {r:OpR} {vx:Value} (he:evExtract h ix x=some r) (hx:∀y,x=some y->y.rel ν vx):Runs P S ν w h (Instr.extract vx ix) r:=by
 unfold evExtract at he;split at he
 · rename_i ws;split at he
   · rename_i t ht;rw [mkR_eq he];obtain ⟨vs,rfl,hr⟩:=hx _ rfl;obtain ⟨v,h1,h2⟩:=relVs_get hr ix t ht;simp at h1;exact Runs.same m (v:=v) (by simp [Instr.extract,h1]) h2
   · cases he
 · cases he
theorem mkAgg_eq {t:T} {r:OpR} (he:mkAgg h t=some r):(∀x,t ≠ .a x)/\r=⟨.tt,.t t,h⟩:=by
 unfold mkAgg at he;split at he
 · rename_i hb;exact ⟨fun x e=>(by subst e;cases hb),mkR_eq he⟩
 · cases he
theorem evBuild_sound (m:Mem S ν w h) {t:TypeId} {ps:Option (List (Nat×V))} {r:OpR} {qs:Array (Nat×Value)} (he:evBuild cx h t ps=some r) (hp:∀y,ps=some y->relP ν y qs.toList):Runs cx.P S ν w h (Instr.build t qs) r:=by
 unfold evBuild at he;split at he
 · rename_i ps;split at he
   · rename_i z hz;obtain ⟨zv,hzr,hzc⟩:=zeroT_run (ν:=ν) (w:=w) hz;split at he
     · rename_i d hu;unfold evBuild2 at he;split at he
       · rename_i fields;split at he
         · rename_i pl hpl;obtain ⟨u,hf,he⟩:=bind_some he;obtain ⟨hag,he⟩:=mkAgg_eq he;rw [he];obtain ⟨vs',h1,h2⟩:=putParts_sound (fun _ _ _ _=>rfl) hf (hp _ rfl) hzc;refine Runs.same m (v :=.agg vs') ?_ (agg_relV h2 hag);rw [Instr.build,Sem.run_bind,hzr];simp only [Result.andThen_ok];rw [Sem.run_bind,run_underlying' hu];simp only [Result.andThen_ok];rw [Sem.run_bind,array_mapM_run (placesOf_sound hpl)];simp only [Result.andThen_ok];have e2:(fun i:Nat=>(pl.toArray)[i]?)=(fun i:Nat=>pl[i]?):=by funext i;simp
           rw [e2,h1];rfl
         · cases he
       · rename_i len elem;split at he
         · rename_i n hn;obtain ⟨u,hf,he⟩:=bind_some he;obtain ⟨hag,he⟩:=mkAgg_eq he;rw [he];obtain ⟨vs',h1,h2⟩:=putParts_sound (fun i off n hp=>by simp at hp;simp only [stepOff,Ix.val];rw [← hp.1,hp.2,Nat.mul_comm]) hf (hp _ rfl) hzc
           refine Runs.same m (v :=.agg vs') ?_ (agg_relV h2 hag);rw [Instr.build,Sem.run_bind,hzr];simp only [Result.andThen_ok];rw [Sem.run_bind,run_underlying' hu];simp only [Result.andThen_ok];rw [Sem.run_bind,run_sizeOf' hn];simp only [Result.andThen_ok];rw [h1];rfl
         · cases he
       · cases he
     · cases he
   · cases he
 · cases he
theorem evIface_sound (m:Mem S ν w h) {t:TypeId} {x:Option A} {r:OpR} {vx:Value} (he:evIface cx h t x=some r) (hx:∀y,x=some y->y.rel ν vx) :
 True/\Runs cx.P S ν w h (Instr.makeInterface t vx) r:=by
 refine ⟨trivial,?_⟩;unfold evIface at he;split at he
 · rename_i y;split at he
   · rename_i ha hs;have hne:∃d,cx.P.underlying t=some d:=by
      cases hu:cx.P.underlying t with
      | none=>simp [isAggT,hu] at ha
      | some d=>exact ⟨d,rfl⟩
     obtain ⟨d,hd⟩:=hne;split at he
     · cases he
     · rename_i hni;rw [mkA_eq he];refine Runs.same m (v :=.iface t vx) ?_ (by show (A.iface t y).rel ν _;simp only [A.rel];exact ⟨vx,rfl,hx _ rfl⟩)
       unfold Instr.makeInterface;rw [Sem.run_bind,run_underlying' hd];simp only [Result.andThen_ok];cases d<;>first|rfl|exact absurd hd (hni _)
   · cases he
 · cases he
end
section
variable {P:Program} {cx:Cx} {S:Nat->Prop} {ν:Nu} {w:World} {h:H}
theorem toIx_sound {x:A} {j:Ix} {ok:A} {v:Value} (he:toIx x=some (j,ok)) (hok:okB ok=true) (hx:x.rel ν v):∃k,v = .int k (j.val:Int):=by
 unfold toIx at he;split at he
 · rename_i k m';simp only [A.rel] at hx;split at he
   · simp at he;obtain ⟨rfl,rfl⟩:=he;exact ⟨k,hx.1⟩
   · cases he
 · rename_i k y;simp only [A.rel] at hx;simp at he;obtain ⟨rfl,rfl⟩:=he;refine ⟨k,?_⟩;rw [hx];congr 1;refine vof_nat ?_;cases hs:k.signed
   · rfl
   · rw [hs] at hok;exact hok
 · cases he
theorem leIx_sound {a b:Ix} (h:okB (leIx a b)=true):a.val≤b.val:=by
 unfold leIx at h;split at h
 · rename_i a b;cases hb:Nat.ble a b
   · rw [hb] at h;cases h
   · exact nL hb
 · exact nL h
theorem ixAdd_val (a b:Ix):(ixAdd a b).val=a.val+b.val:=by cases a<;>cases b<;>rfl
theorem subIx_val (a b:Ix):(subIx a b).val=a.val-b.val:=by cases a<;>cases b<;>rfl
theorem bound_sound {d j:Ix} {ok:A} {x:Option (Option A)} {ov:Option Value} (he:boundOpt d x=some (j,ok)) (hok:okB ok=true)
 (hn:x=none->ov=none) (hs:∀y,x=some (some y)->∃v,ov=some v/\y.rel ν v):(x=none/\ov=none/\j=d)\/∃k,ov=some (.int k (j.val:Int)):=by
 unfold boundOpt at he;split at he
 · simp at he;exact .inl ⟨rfl,hn rfl,he.1.symm⟩
 · cases he
 · obtain ⟨v,h1,h2⟩:=hs _ rfl;obtain ⟨k,rfl⟩:=toIx_sound he hok h2;exact .inr ⟨k,h1⟩
theorem run_bound {k:IntKind} {n m:Nat} {code:BoundsCode} (h:n≤m):(Instr.sliceBound (.int k (n:Int)) m code).run P w = .ok n w:=by
 rw [Instr.sliceBound,Sem.run_bind];simp only [asIntOf,Sem.run_pure,Result.andThen_ok];rw [if_pos ⟨by omega,by omega⟩]
 simp
theorem run_bounds {isS:Bool} {len cap:Nat} {lo hi:Option Value} {l u:Nat} (h1:l≤u) (h2:u≤cap) (hlo:(lo=none/\l=0)\/∃k,lo=some (.int k (l:Int))) (hhi:(hi=none/\u=len)\/∃k,hi=some (.int k (u:Int))) :
 (Instr.sliceBounds isS len cap lo hi none).run P w = .ok (l,u,cap) w:=by
 unfold Instr.sliceBounds;rcases hhi with ⟨rfl,rfl⟩|⟨k,rfl⟩
 · rcases hlo with ⟨rfl,rfl⟩|⟨k',rfl⟩
   · simp
   · simp [run_bound h1]
 · rcases hlo with ⟨rfl,rfl⟩|⟨k',rfl⟩
   · simp [run_bound h2]
   · simp [run_bound h2,run_bound h1]
theorem evSlice_sound (m:Mem S ν w h) {t:TypeId} {x:Option A} {lo hi:Option (Option A)} {mx:Option Operand} {r:OpR} {vx:Value} {vlo vhi vmx:Option Value} (he:evSlice cx h t x lo hi mx=some r) (hok:okB r.ok=true)
 (hx:∀y,x=some y->y.rel ν vx) (hl0:lo=none->vlo=none) (hl1:∀y,lo=some (some y)->∃v,vlo=some v/\y.rel ν v) (hh0:hi=none->vhi=none) (hh1:∀y,hi=some (some y)->∃v,vhi=some v/\y.rel ν v)
 (hmx:mx=none->vmx=none):Runs cx.P S ν w h (Instr.sliceAt t vx vlo vhi vmx) r:=by
 unfold evSlice at he;split at he
 · rename_i x;rw [hmx rfl]
   replace hx:=hx _ rfl
   split at he
   · rename_i d hu;unfold evSlice2 at he;split at he
     · rename_i elem;split at he
       · rename_i id p s st len cap n hn;split at he
         · rename_i l o1 u o2 hs hl hh;simp only [oI] at he;subst he;have hs:=beq_true hs;subst hs;simp only at hok;have ho12:=andOk_left hok;have hle:=andOk_right hok;have k1:=leIx_sound (andOk_left hle);have k2:=leIx_sound (andOk_right hle);simp only [A.rel] at hx;obtain ⟨b,base,o,c,g1,rfl,g3,g4,g5⟩:=hx;have hlo:(vlo=none/\l.val=0)\/∃k,vlo=some (.int k (l.val:Int)):=by
            rcases bound_sound hl (andOk_left ho12) hl0 hl1 with ⟨_,e1,rfl⟩|e
            · exact .inl ⟨e1,rfl⟩
            · exact .inr e
           have hhi:(vhi=none/\u.val=len.val)\/∃k,vhi=some (.int k (u.val:Int)):=by
            rcases bound_sound hh (andOk_right ho12) hh0 hh1 with ⟨_,e1,rfl⟩|e
            · exact .inl ⟨e1,rfl⟩
            · exact .inr e
           have hcap:u.val≤c:=by
            cases cap with
            | none=>simp only [capOr] at k2;omega
            | some c'=>simp only [capOr] at k2;rw [g5 c' rfl];exact k2
           refine Runs.same m (v :=.slice (if c=l.val then some ⟨b,o,none⟩ else some ⟨b,o+l.val*n,none⟩) (u.val-l.val) (c-l.val)) ?_ ?_
           · rw [Instr.sliceAt,Sem.run_bind,run_underlying' hu];simp only [Result.andThen_ok];rw [Instr.slice,Sem.run_bind,run_underlying' hu];simp only [Result.andThen_ok];rw [Sem.run_bind,run_bounds k1 hcap hlo hhi];simp only [Result.andThen_ok];rw [Sem.run_bind,run_sizeOf' hn];simp [add_addr]
           · show (A.sl _ _ _ _ _ _).rel ν _;simp only [A.rel];refine ⟨b,base,if c=l.val then o else o+l.val*n,c-l.val,g1,?_,?_,?_,?_⟩
             · rw [subIx_val];split<;>rfl
             · intro hc;rw [if_neg (by omega),g3 (by omega),ixAdd_val,Nat.mul_add,Nat.mul_comm l.val]
               omega
             · rw [subIx_val];omega
             · intro c' hc';cases cap with
               | none=>simp at hc'
               | some c0=>simp at hc';subst hc';rw [subIx_val,g5 c0 rfl]
         · cases he
       · cases he
     · rename_i n elem;split at he
       · rename_i id p s l o1 u o2 hn hl hh;simp only [oI] at he;subst he;simp only at hok;have ho12:=andOk_left hok;have hle:=andOk_right hok;have k1:=leIx_sound (andOk_left hle);have k2:u.val≤n:=leIx_sound (andOk_right hle);simp only [A.rel] at hx;obtain ⟨b,base,g1,rfl⟩:=hx;have hlo:(vlo=none/\l.val=0)\/∃k,vlo=some (.int k (l.val:Int)):=by
          rcases bound_sound hl (andOk_left ho12) hl0 hl1 with ⟨_,e1,rfl⟩|e
          · exact .inl ⟨e1,rfl⟩
          · exact .inr e
         have hhi:(vhi=none/\u.val=n)\/∃k,vhi=some (.int k (u.val:Int)):=by
          rcases bound_sound hh (andOk_right ho12) hh0 hh1 with ⟨_,e1,rfl⟩|e
          · exact .inl ⟨e1,rfl⟩
          · exact .inr e
         refine Runs.same m (v :=.slice (some (if n=l.val then ⟨b,base+pathOff p,none⟩ else ⟨b,base+pathOff p+l.val*s,none⟩)) (u.val-l.val) (n-l.val)) ?_ ?_
         · rw [Instr.sliceAt,Sem.run_bind,run_underlying' hu];simp only [Result.andThen_ok];rw [Instr.sureAddr,Sem.run_bind];simp only [Sem.run_pure,Result.andThen_ok];rw [Sem.run_bind,run_bounds k1 k2 hlo hhi];simp only [Result.andThen_ok];rw [Sem.run_bind,run_sizeOf' hn];simp [add_addr]
         · show (A.sl _ _ _ _ _ _).rel ν _;simp only [A.rel];refine ⟨b,base,if n=l.val then base+pathOff p else base+pathOff p+l.val*s,n-l.val,g1,?_,?_,?_,?_⟩
           · rw [subIx_val];split<;>rfl
           · intro hc;rw [if_neg (by omega),Nat.mul_comm l.val]
           · rw [subIx_val];omega
           · intro c' hc';simp at hc';subst hc';rw [subIx_val];rfl
       · cases he
     · cases he
   · cases he
 · cases he
theorem range_flat2 {zs:List Value} {n:Nat} (hl:zs.length=n) (f:Nat->Value) (hf:∀j,f j=zs.getD (j % n) undef):∀(len:Nat),(List.range (len*n)).map f=(List.replicate len zs).flatten
 | 0=>by simp
 | len+1=>by
   rw [Nat.succ_mul,Nat.add_comm,List.range_add,List.map_append,List.map_map,List.replicate_succ,List.flatten_cons];have h1:(List.range n).map f=zs:=by
    apply List.ext_getElem?;intro i;rw [List.getElem?_map];by_cases hi:i<n
    · rw [List.getElem?_range hi];simp only [Option.map_some,hf,Nat.mod_eq_of_lt hi];rw [List.getD_eq_getElem?_getD,List.getElem?_eq_getElem (by omega)]
      rfl
    · rw [List.getElem?_eq_none (by simp;omega),List.getElem?_eq_none (by omega)];rfl
   have h2:(List.range (len*n)).map (f ∘ fun x=>n+x)=(List.range (len*n)).map f:=by apply List.map_congr_left;intro j _;simp only [Function.comp,hf,Nat.add_mod_left]
   rw [h1,h2,range_flat2 hl f hf len]
theorem relLst_flat2 {z:T} {n:Nat} {zs:List Value} (hz:z.rel ν zs) (hl:zs.length=n):∀(len:Nat),relLst ν n (List.replicate len z) ((List.replicate len zs).flatten)
 | 0=>by simp [relLst]
 | len+1=>by simp only [List.replicate_succ,relLst,List.flatten_cons];exact ⟨zs,_,rfl,hl,hz,relLst_flat2 hz hl len⟩
theorem evMakeSlice_sound (m:Mem S ν w h) {t:TypeId} {l c:Option A} {r:OpR} {vl vc:Value} (he:evMakeSlice cx h t l c=some r) (hok:okB r.ok=true)
 (hl:∀y,l=some y->y.rel ν vl) (hc:∀y,c=some y->y.rel ν vc):Runs cx.P S ν w h (Instr.makeSlice t vl vc) r:=by
 unfold evMakeSlice at he;split at he
 · rename_i l kc c
   replace hl:=hl _ rfl
   replace hc:=hc _ rfl
   split at he
   · rename_i l' o elem hli hu;split at he
     · rename_i s z b hs hz hb;split at he
       · rename_i hcond;simp only [oI] at he;subst he;simp only at hok;simp only [bA] at hcond;obtain ⟨⟨⟨c1,c2⟩,c3⟩,c4⟩:=hcond;have c1:=blt_lt c1;have c2:=nL c2;have c3:=nL c3;obtain ⟨e4,n',hn'⟩:=optEqN_eq c4;rw [hn'] at e4;cases e4;obtain ⟨k,rfl⟩:=toIx_sound hli (andOk_left hok) hl;have hle:l'.val≤c:=leIx_sound (andOk_right hok);simp only [A.rel] at hc;obtain ⟨rfl,_⟩:=hc;obtain ⟨zv,hzr,hzc⟩:=zeroT_run (ν:=ν) (w:=w) hz;have hzl:=size_length hn' hzc;have hzs:zv.cells.size=s:=by rw [← hzl];simp
         cases hi:cx.P.info? elem with
         | none=>simp [bytesT,hi] at hb
         | some i=>
           have hib:i.bytes=b:=by simpa [bytesT,hi] using hb
           have his:i.size=s:=by simpa [sizeT,hi] using hs
           have hzi:i.zero=some zv:=by
            cases hz0:i.zero with
            | none=>simp [zeroValue,typeInfo,hi,hz0] at hzr
            | some v=>simp [zeroValue,typeInfo,hi,hz0] at hzr;rw [hzr]
           have hbc:b*c≤4096*4096:=Nat.mul_le_mul c3 c2;have hrun:=run_make (P:=cx.P) w t elem i zv hu hi hzi k kc (l'.val:Int) (Int.ofNat c) (by omega) (by simp;omega) (by rw [hib];simp only [Int.ofNat_eq_natCast,← Int.natCast_mul];omega) (by simp;omega)
           refine ⟨_,_,upd ν h.next (w.heap.size,0),hrun,?_,m.alloc elem ?_⟩
           · show (A.sl _ _ _ _ _ _).rel _ _;simp only [A.rel];exact ⟨w.heap.size,0,0,c,by simp [upd],by simp,fun _=>by simp [pathOff,Ix.val],by simpa using hle,fun c' e=>by simp at e;subst e;rfl⟩
           · simp only [T.rel];have hcells:(madeCells zv.cells ((Int.ofNat c).toNat*i.size)).toList=(List.replicate c zv.cells.toList).flatten:=by
              unfold madeCells;rw [Array.toList_map,Array.toList_range,his];refine range_flat2 hzl _ (fun j => ?_) c;rw [hzs];have:j % s<zv.cells.size:=by rw [hzs];exact Nat.mod_lt _ c1
              rw [getElem!_pos zv.cells (j % s) this,List.getD_eq_getElem?_getD,Array.getElem?_toList,Array.getElem?_eq_getElem this];rfl
             rw [hcells];exact relLst_flat2 hzc hzl c
       · cases he
     · cases he
   · cases he
 · cases he
theorem split_at {α:Type} {a b a' b':List α} (e:a++b=a'++b') (hl:a.length=a'.length):a=a'/\b=b':=List.append_inj e hl
theorem xOff (p:List Step) (s:Nat) (st:Ix) (j:Nat):pathOff (p++[.x s (ixAdd st (.lit j))])=pathOff p+s*(st.val+j):=by
 rw [pathOff_append];show pathOff p+(s*(ixAdd st (.lit j)).val+0)=_;rw [ixAdd_val];rfl
theorem elemsT_rel {t:T} {p:List Step} {s:Nat} {st:Ix} {vs:List Value} (hr:t.rel ν vs):∀{n j:Nat} {us:List T},elemsT t p s st n j=some us->okB (elemsOk t p s st n j)=true->(∀u,u∈us->u.size=some s) ->
 us.length=n/\((n=0/\us=[])\/∃a cs b,vs=a++cs++b/\a.length=pathOff p+s*(st.val+j)/\cs.length=n*s/\relLst ν s us cs)
 | 0,j,us,h,_,_=>by simp [elemsT] at h;subst h;exact ⟨rfl,.inl ⟨rfl,rfl⟩⟩
 | n+1,j,us,h,hok,hs=>by
   simp only [elemsT] at h;split at h
   · rename_i u us' h1 h2;simp only [oI] at h;subst h;simp only [elemsOk] at hok;obtain ⟨a,c1,b,e,g1,g2⟩:=subT_rel h1 (andOk_left hok) hr;have hl1:=size_length (hs u (by simp)) g2
     rw [xOff] at g1;obtain ⟨q1,q2⟩:=elemsT_rel hr h2 (andOk_right hok) (fun u hu=>hs u (by simp [hu]))
     refine ⟨by simp [q1],.inr ?_⟩
     rcases q2 with ⟨rfl,rfl⟩|⟨a',cs,b',e',k1,k2,k3⟩
     · refine ⟨a,c1,b,e,g1,by omega,?_⟩
       simp only [relLst];exact ⟨c1,[],by simp,hl1,g2,rfl⟩
     · have hh:a'=a++c1/\cs++b'=b:=by
        refine split_at ?_ ?_
        · rw [← List.append_assoc,← e',e]
        · rw [k1,List.length_append,g1,hl1,Nat.mul_add,Nat.mul_add,Nat.mul_add];omega
       refine ⟨a,c1++cs,b',by rw [e,← hh.2];simp,g1,by rw [List.length_append,hl1,k2,Nat.succ_mul];omega,?_⟩
       simp only [relLst];exact ⟨c1,cs,rfl,hl1,g2,k3⟩
   · cases h
theorem relLst_cell {s:Nat}:∀{us:List T} {cs:List Value},relLst ν s us cs->(∀u,u∈us->∀c,u.rel ν c->∀v,v∈c->Cell v)->∀v,v∈cs->Cell v
 | [],cs,h,_,v,hv=>by simp only [relLst] at h;subst h;cases hv
 | u::us,cs,h,hc,v,hv=>by
   simp only [relLst] at h;obtain ⟨c1,c2,rfl,_,h1,h2⟩:=h;rcases List.mem_append.1 hv with hv|hv
   · exact hc u (by simp) c1 h1 v hv
   · exact relLst_cell h2 (fun u hu=>hc u (by simp [hu])) v hv
theorem putElems_rel {p:List Step} {s:Nat} {st:Ix}:∀{us:List T} {j:Nat} {t t':T} {vs ws:List Value},t.rel ν vs->putElems t p s st us j=some t'->okB (putOk t p s st us j)=true->relLst ν s us ws ->
 (us=[]/\t'=t)\/∃a old b,vs=a++old++b/\a.length=pathOff p+s*(st.val+j)/\old.length=ws.length/\t'.rel ν (a++ws++b)
 | [],j,t,t',vs,ws,hr,h,_,_=>by simp [putElems] at h;exact .inl ⟨rfl,h.symm⟩
 | u::us,j,t,t',vs,ws,hr,h,hok,hw=>by
   simp only [relLst] at hw;obtain ⟨w1,w2,rfl,hl1,hu,hw2⟩:=hw;simp only [putElems] at h;simp only [putOk] at hok;split at h
   · rename_i t1 h1;rw [h1] at hok;simp only at hok;obtain ⟨a,old,b,rfl,g1,g2,g3⟩:=updT_rel hu h1 (andOk_left hok) hr;rw [xOff] at g1;rcases putElems_rel g3 h (andOk_right hok) hw2 with ⟨rfl,rfl⟩|⟨a',old',b',e',k1,k2,k3⟩
     · simp only [relLst] at hw2;subst hw2;exact .inr ⟨a,old,b,rfl,g1,by simp [g2],by simpa using g3⟩
     · have hh:a'=a++w1/\old'++b'=b:=by
        refine split_at ?_ ?_
        · rw [← List.append_assoc,← e']
        · rw [k1,List.length_append,g1,hl1,Nat.mul_add,Nat.mul_add,Nat.mul_add];omega
       refine .inr ⟨a,old++old',b',by rw [← hh.2];simp,g1,by simp [g2,k2],?_⟩
       rw [hh.1] at k3;simpa using k3
   · cases h
theorem readSl_sound (m:Mem S ν w h) {n k:Nat} {x:A} {us:List T} {ok:A} {h1:H} {vx:Value} (he:readSl h n x=some (us,ok,h1)) (hok:okB ok=true) (hS:∀i,i∈h1.rd->S i) (hx:x.rel ν vx)
 (hsz:∀u,u∈us->u.size=some k) (hk:∀id p s st len c,x = .sl id p s st len c->k=s) :
 ∃cs:List Value,(Builtin.firstCells k n vx).run P w = .ok cs.toArray w/\relLst ν k us cs/\us.length=n/\Goes S ν w h ν w h1:=by
 unfold readSl at he;split at he
 · rename_i id p s st len cap;have hks:=hk _ _ _ _ _ _ rfl;subst hks;split at he
   · rename_i b hb;split at he
     · rename_i hnm;split at he
       case h_2=>cases he
       rename_i us' hus;simp only [oI,pI] at he;obtain ⟨rfl,rfl,rfl⟩:=he;obtain ⟨q,base,cs,ty,fr,pre,vs,post,g1,g2,g3,g4,g5,g6⟩:=(m.seen id b hb (see_seen hS)).cells hnm;simp only [A.rel] at hx;obtain ⟨q',base',o,c,e1,rfl,e3,e4,e5⟩:=hx;rw [g1] at e1;cases e1;obtain ⟨hl,hh⟩:=elemsT_rel g5 hus (andOk_right hok) hsz;have hn:n≤len.val:=leIx_sound (andOk_left hok);rcases hh with ⟨rfl,rfl⟩|⟨a,us2,z,e,k1,k2,k3⟩
       · refine ⟨[],?_,by simp [relLst],rfl,m.see id⟩
         simp [Builtin.firstCells,loadCells,loadCellsFrom]
       · refine ⟨us2,?_,k3,hl,m.see id⟩;simp only [Builtin.firstCells];rw [← k2];by_cases h0:c=0
         · have:n=0:=by omega
           subst this;have:us2=[]:=List.length_eq_zero_iff.1 (by omega)
           subst this;simp [loadCells,loadCellsFrom]
         · refine loadCells_run (pre:=pre++a) (post:=z++post) g2 (by rw [g3,e];simp) ?_
           rw [List.length_append,g4,k1,e3 h0];simp only [Nat.add_zero];omega
     · cases he
   · cases he
 · split at he
   · simp only [oI,pI] at he;obtain ⟨rfl,rfl,rfl⟩:=he;simp only [A.rel] at hx;subst hx;exact ⟨[],by simp [Builtin.firstCells],by simp [relLst],rfl,Goes.refl m⟩
   · cases he
 · cases he
theorem all_size {s:Nat} {us:List T} (h:(us.all fun u=>optEqN u.size (some s))=true):∀u,u∈us->u.size=some s:=fun u hu=>by
 have:=List.all_eq_true.1 h u hu;obtain ⟨e,n,hn⟩:=optEqN_eq this;exact e
theorem writeSl_sound (m:Mem S ν w h) {us:List T} {id r base o:Nat} {p:List Step} {s:Nat} {st:Ix} {ok:A} {h1:H} {ws:List Value} (he:writeSl h us id p s st=some (ok,h1)) (hok:okB ok=true) (hS:∀i,i∈h1.rd->S i)
 (hw:relLst ν s us ws) (hν:ν id=some (r,base)) (ho:us≠[]->o=base+pathOff p+s*st.val) :
 ∃w',(storeCells ⟨r,o,none⟩ ws).run P w = .ok () w'/\Goes S ν w h ν w' h1:=by
 unfold writeSl at he;split at he
 · rename_i b hb;split at he
   · rename_i hrw;simp only [bA] at hrw;obtain ⟨hrw,hnm⟩:=hrw;split at he
     · rename_i hsz;have hsz:=all_size hsz;split at he
       · rename_i t' ht';simp only [oI,pI] at he;obtain ⟨rfl,rfl⟩:=he;obtain ⟨q,base',cs,ty,fr,pre,vs,post,g1,g2,g3,g4,g5,g6⟩:=(m.seen id b hb (see_seen (h:=h) hS)).cells hnm;rw [hν] at g1;cases g1;obtain ⟨rfl,rfl⟩:=g6 hrw;have hpre:pre=[]:=List.length_eq_zero_iff.1 g4;subst hpre;have hcell:∀v,v∈ws->Cell v:=relLst_cell hw (fun u hu c hc=>rel_cells hc);rcases putElems_rel g5 ht' hok hw with ⟨rfl,rfl⟩|⟨a,old,z,rfl,k1,k2,k3⟩
         · have:ws=[]:=by simpa [relLst] using hw
           subst this;refine ⟨w,rfl,?_⟩;have:=(m.see id).trans ((m.see id).mem.store (id:=id) (b:=b) hb hrw hν (cs:=cs) (ty:=ty) ⟨vs,post,by rw [g3];simp,g5⟩)
           rwa [wset_self g2] at this
         · by_cases hu:us=[]
           · subst hu;have:ws=[]:=by simpa [relLst] using hw
             subst this;simp only [putElems,oI] at ht';subst ht';refine ⟨w,rfl,?_⟩;have:=(m.see id).trans ((m.see id).mem.store (id:=id) (b:=b) hb hrw hν (cs:=cs) (ty:=ty) ⟨a++old++z,post,by rw [g3];simp,g5⟩)
             rwa [wset_self g2] at this
           · obtain ⟨cs',q1,q2⟩:=storeCells_run (P:=P) ws old a (z++post) w r o 0 cs ty g2 (by rw [g3];simp) (by rw [k1,ho hu];simp only [Nat.add_zero];omega) k2 hcell
             exact ⟨_,q2,(m.see id).trans ((m.see id).mem.store (id:=id) (b:=b) hb hrw hν (cs:=cs') (ty:=ty) ⟨a++ws++z,post,by rw [q1];simp,k3⟩)⟩
       · cases he
     · cases he
   · cases he
 · cases he
theorem evAppend_sound (m:Mem S ν w h) {t t2:TypeId} {e2:TypeId} {x y:A} {r:OpR} {vx vy:Value} {ts:Array TypeId} {us:Array Value} (he:evAppend P h t x y=some r) (hok:okB r.ok=true) (hS:∀i,i∈r.h.rd->S i)
 (ht:ts[0]? = some t) (ht2:ts[1]? = some t2) (hu2:P.underlying t2=some (.slice e2)) (hx:x.rel ν vx) (hy:y.rel ν vy) (h0:us[0]? = some vx) (h1:us[1]? = some vy) (ty:TypeId) :
 ∃v w' ν',(Builtin.append_ ts ty us).run P w = .ok v w'/\r.v.rel ν' v/\Goes S ν w h ν' w' r.h:=by
 unfold evAppend at he;split at he
 · rename_i elem id p s st len cap id2 p2 s2 st2 n cap2 hu;split at he
   · rename_i k hk hs2;have hs2:=beq_true hs2;subst hs2;split at he
     · rename_i es o1 hr1 hks hrd;have hks:=beq_true hks;subst hks;split at he
       · rename_i o2 hr2 hwr;simp only [oI] at he;subst he;simp only at hok hS;have hokr:=andOk_left (andOk_right hok);have hokw:=andOk_right (andOk_right hok);have hcap:=leIx_sound (andOk_left hok);have hsz:∀u,u∈es->u.size=some k:=by
          unfold writeSl at hwr;split at hwr
          · split at hwr
            · split at hwr
              · exact all_size (by assumption)
              · cases hwr
            · cases hwr
          · cases hwr
         have hS1:∀i,i∈hr1.rd->S i:=by
          intro i hi;refine hS i ?_;unfold writeSl at hwr;split at hwr
          · split at hwr
            · split at hwr
              · split at hwr
                · simp only [oI,pI] at hwr;obtain ⟨_,rfl⟩:=hwr;exact mem_noteB.2 (.inr hi)
                · cases hwr
              · cases hwr
            · cases hwr
          · cases hwr
         obtain ⟨cs,g1,g2,g3,g4⟩:=readSl_sound (P:=P) (w:=w) m (k:=k) hrd hokr hS1 hy hsz (fun _ _ _ _ _ _ e=>by cases e;rfl)
         simp only [A.rel] at hx;obtain ⟨b,base,o,c,q1,rfl,q3,q4,q5⟩:=hx;have hc:c=cap.val:=q5 _ rfl;rw [ixAdd_val] at hcap;have hn:len.val+n≤c:=by rw [hc];exact hcap
         obtain ⟨w',k1,k2⟩:=writeSl_sound (P:=P) (w:=w) g4.mem (ws:=cs) (r:=b) (base:=base) (o:=o+len.val*k) hwr hokw hS g2 q1 (fun hne=>by
          have:0<n:=by rw [← g3];exact List.length_pos_iff.2 hne
          rw [q3 (by omega),ixAdd_val,Nat.mul_add,Nat.mul_comm len.val];omega)
         have hyn:∃a2 c2,vy = .slice a2 n c2:=by simp only [A.rel] at hy;obtain ⟨b',base',o',c',_,rfl,_⟩:=hy;exact ⟨_,_,rfl⟩
         obtain ⟨a2,c2,rfl⟩:=hyn;refine ⟨.slice (some ⟨b,o,none⟩) (len.val+n) c,w',ν,?_,?_,g4.trans k2⟩
         · simp only [Builtin.append_,ht,ht2,h0,h1];rw [Sem.run_bind,run_underlying' hu];simp only [Result.andThen_ok];rw [Sem.run_bind,run_sizeOf' hk];simp only [Result.andThen_ok];simp [run_underlying' hu2,Builtin.lenOf,hn,g1,add_addr,k1]
         · show (A.sl _ _ _ _ _ _).rel ν _;simp only [A.rel];exact ⟨b,base,o,c,q1,by rw [ixAdd_val];rfl,q3,by rw [ixAdd_val];exact hn,fun c' e=>by cases e;exact hc⟩
       · cases he
     · cases he
   · cases he
 · cases he
theorem readSl_ext0 {n:Nat} {x:A} {us:List T} {ok:A} {h1:H} (he:readSl h n x=some (us,ok,h1)):Ext h h1:=by
 unfold readSl at he
 repeat' split at he
 all_goals first|(simp only [oI,pI] at he;obtain ⟨_,_,rfl⟩:=he;first|exact see_ext h _|exact Ext.refl _)|cases he
theorem goes_drew {S:Nat->Prop} {ν:Nu} {w:World} {h:H} (hm:Mem S ν w h):Goes S ν w h ν w.drew h:=
 ⟨Nu.le_refl _,⟨⟨hm.nums.lt,hm.nums.inj,hm.nums.fresh,hm.nums.bound,hm.nums.lo,hm.nums.glob⟩,fun id b h1 h2=>(hm.seen id b h1 h2).mono (Nu.le_refl _) (fun r base h3=>rfl)⟩,
  ⟨rfl,rfl,rfl,Nat.le_refl _,fun r hr _=>rfl⟩,fun id r base h h'=>(by rw [h] at h';cases h'),Ext.refl _,fun _ _=>rfl⟩
theorem relLst_app {ν:Nu} {s:Nat}:∀{az bs:List T} {us ws:List Value},relLst ν s az us->relLst ν s bs ws->relLst ν s (az++bs) (us++ws)
 | [],bs,us,ws,h1,h2=>by simp only [relLst] at h1;subst h1;exact h2
 | a::az,bs,us,ws,h1,h2=>by simp only [relLst] at h1;obtain ⟨u,r,rfl,hl,ht,hr⟩:=h1;simp only [List.cons_append,relLst];exact ⟨u,r++ws,by rw [List.append_assoc],hl,ht,relLst_app hr h2⟩
theorem run_grow (w:World) (t t2 ty e e2:TypeId) (i:TypeInfo) (z:Value) (ht:P.underlying t=some (.slice e)) (hu2:P.underlying t2=some (.slice e2)) (hi:P.info? e=some i) (hz:i.zero=some z) (base a2:Option Addr) (l c n c2:Nat) (olds news:List Value)
 (hfo:(Builtin.firstCells i.size l (.slice base l c)).run P w.drew = .ok olds.toArray w.drew) (hf:(Builtin.firstCells i.size n (.slice a2 n c2)).run P w.drew = .ok news.toArray w.drew)
 (hg:c<l+n) (h63:l+n≤4096) (hby:i.bytes≤4096) {ts:Array TypeId} {us:Array Value} (ht0:ts[0]? = some t) (ht1:ts[1]? = some t2) (h0:us[0]? = some (.slice base l c)) (h1:us[1]? = some (.slice a2 n c2)) :
 (Builtin.append_ ts ty us).run P w = .ok (.slice (some ⟨w.heap.size,0,none⟩) (l+n) (grownCap w (l+n) c e))
   (w.drew.alloc (.cells ((olds++news).toArray++Builtin.zeroCells z.cells (grownCap w (l+n) c e-(l+n))) e)):=by
 have hn:¬(l+n≤c):=by omega
 have h63':¬(9223372036854775807<((l:Int)+(n:Int))):=by omega
 have hb:(l+n)*i.bytes≤140737488355328:=Nat.le_trans (Nat.mul_le_mul h63 hby) (by decide)
 have hfit:=growslice_fits hg hb;have h48':¬(281474976710656<Builtin.nextslicecap (l+n) c*i.bytes):=by omega
 simp [Builtin.append_,ht0,ht1,h0,h1,run_underlying ht,run_underlying hu2,sizeOf,typeInfo,zeroValue,hi,hz,Builtin.lenOf,hn,h63',h48',Question.forced,hf,hfo,newRow,grownCap];congr 2;apply Array.ext';simp [List.append_assoc]
theorem sl_vals {x:A} {l c:Nat} {y:A} {n:Nat} (hg:grows x y=some (l,c,n)) {vx vy:Value} (hx:x.rel ν vx) (hy:y.rel ν vy):(∃b,vx = .slice b l c)/\∃b c2,vy = .slice b n c2:=by
 unfold grows at hg;split at hg
 · simp only [oI,pI] at hg;obtain ⟨rfl,rfl,rfl⟩:=hg;simp only [A.rel] at hx hy;obtain ⟨b',base',o',c',_,rfl,_⟩:=hy;exact ⟨⟨none,hx⟩,_,_,rfl⟩
 · simp only [oI,pI] at hg;obtain ⟨rfl,rfl,rfl⟩:=hg;simp only [A.rel] at hx hy;obtain ⟨b',base',o',c',_,rfl,_⟩:=hy;obtain ⟨b,base,o,c0,_,rfl,_,_,h5⟩:=hx;have:=h5 _ rfl;subst this;exact ⟨⟨_,rfl⟩,_,_,rfl⟩
 · cases hg
theorem evGrow_sound (m:Mem S ν w h) {t t2:TypeId} {e2:TypeId} {x y:A} {r:OpR} {vx vy:Value} {ts:Array TypeId} {us:Array Value} {l c n:Nat} (hgr:grows x y=some (l,c,n)) (he:evGrow P h t x y l c n=some r) (hok:okB r.ok=true) (hS:∀i,i∈r.h.rd->S i)
 (ht:ts[0]? = some t) (ht2:ts[1]? = some t2) (hu2:P.underlying t2=some (.slice e2)) (hx:x.rel ν vx) (hy:y.rel ν vy) (h0:us[0]? = some vx) (h1:us[1]? = some vy) (ty:TypeId) :
 ∃v w' ν',(Builtin.append_ ts ty us).run P w = .ok v w'/\r.v.rel ν' v/\Goes S ν w h ν' w' r.h:=by
 unfold evGrow at he;split at he
 · rename_i elem hu;split at he
   · rename_i k b hk hb;split at he
     · rename_i hcond;simp only [bA] at hcond;obtain ⟨c1,c2,c3,c4,c5,c6⟩:=hcond;have c1:=blt_lt c1;have c2:=nL c2;have c3:=nL c3;split at he
       · rename_i us0 o0 h0' hr0;split at he
         · rename_i us1 o1 h1' hr1;split at he
           · rename_i hall;cases he;have hok0:=andOk_left hok;have hok1:=andOk_right hok;have hS1:∀i,i∈h1'.rd->S i:=hS;have hS0:∀i,i∈h0'.rd->S i:=fun i hi=>hS1 i ((readSl_ext0 hr1).rd i hi);have hsz:=all_size hall;have str:∀{z:A},strideOk z k=true->∀id p s st len c,z = .sl id p s st len c->k=s:=fun {z} hz id p s st len c e=>by
              subst e;exact beq_true hz
             have g0:=goes_drew m;obtain ⟨cs0,k1,k2,k3,k4⟩:=readSl_sound (P:=P) (w:=w.drew) g0.mem (k:=k) hr0 hok0 hS0 hx (fun u hu=>hsz u (List.mem_append_left _ hu)) (str c5);obtain ⟨cs1,l1,l2,l3,l4⟩:=readSl_sound (P:=P) (w:=w.drew) k4.mem (k:=k) hr1 hok1 hS1 hy (fun u hu=>hsz u (List.mem_append_right _ hu)) (str c6);obtain ⟨⟨bx,rfl⟩,by_,cy,rfl⟩:=sl_vals hgr hx hy;cases hi:P.info? elem with
             | none=>simp [hi] at hb
             | some i=>
               have hib:i.bytes=b:=by simpa [hi] using hb
               have his:i.size=k:=by simpa [sizeT,hi] using hk
               unfold zeroSz at c4;split at c4
               · rename_i z hz;obtain ⟨zv,hzr,hzc⟩:=zeroT_run (ν:=ν) (w:=w) hz;have hzi:i.zero=some zv:=by
                  cases hz0:i.zero with
                  | none=>simp [zeroValue,typeInfo,hi,hz0] at hzr
                  | some v=>simp [zeroValue,typeInfo,hi,hz0] at hzr;rw [hzr]
                 have hrun:=run_grow (P:=P) w t t2 ty elem e2 i zv hu hu2 hi hzi bx by_ l c n cy cs0 cs1 (by rw [his];exact k1) (by rw [his];exact l1) c1 c2 (by rw [hib];exact c3) ht ht2 h0 h1
                 have g:=(g0.trans k4).trans l4;refine ⟨_,_,upd ν h1'.next (w.heap.size,0),hrun,?_,g.trans (l4.mem.allocO fun hle =>.inl ⟨w.heap.size,0,_,elem,(0,0),[],cs0++cs1,(Builtin.zeroCells zv.cells (grownCap w (l+n) c elem-(l+n))).toList,by simp [upd],heap_alloc_new w.drew _,by simp,rfl,?_,fun _=>⟨rfl,rfl⟩⟩)⟩
                 · show (A.sl _ _ _ _ _ _).rel _ _;simp only [A.rel];exact ⟨w.heap.size,0,0,_,by simp [upd],rfl,fun _=>by simp [pathOff,Ix.val],grownCap_ge w (l+n) c elem,fun c' e=>by cases e⟩
                 · simp only [T.rel];exact relLst_mono hle (relLst_app k2 l2)
               · cases c4
           · cases he
         · cases he
       · cases he
     · cases he
   · cases he
 · cases he
theorem evAppendG_sound (m:Mem S ν w h) {t t2:TypeId} {e2:TypeId} {x y:A} {r:OpR} {vx vy:Value} {ts:Array TypeId} {us:Array Value} (he:evAppendG P h t x y=some r) (hok:okB r.ok=true) (hS:∀i,i∈r.h.rd->S i)
 (ht:ts[0]? = some t) (ht2:ts[1]? = some t2) (hu2:P.underlying t2=some (.slice e2)) (hx:x.rel ν vx) (hy:y.rel ν vy) (h0:us[0]? = some vx) (h1:us[1]? = some vy) (ty:TypeId) :
 ∃v w' ν',(Builtin.append_ ts ty us).run P w = .ok v w'/\r.v.rel ν' v/\Goes S ν w h ν' w' r.h:=by
 unfold evAppendG at he;split at he
 · split at he
   · exact evGrow_sound m (by assumption) he hok hS ht ht2 hu2 hx hy h0 h1 ty
   · exact evAppend_sound m he hok hS ht ht2 hu2 hx hy h0 h1 ty
 · exact evAppend_sound m he hok hS ht ht2 hu2 hx hy h0 h1 ty
theorem evCopy_sound (m:Mem S ν w h) {t:TypeId} {x y:A} {r:OpR} {vx vy:Value} {ts:Array TypeId} {us:Array Value} (he:evCopy P h t x y=some r) (hok:okB r.ok=true) (hS:∀i,i∈r.h.rd->S i)
 (ht:ts[0]? = some t) (hx:x.rel ν vx) (hy:y.rel ν vy) (h0:us[0]? = some vx) (h1:us[1]? = some vy) (ty:TypeId) :
 ∃v w' ν',(Builtin.copy_ ts ty us).run P w = .ok v w'/\r.v.rel ν' v/\Goes S ν w h ν' w' r.h:=by
 unfold evCopy at he;split at he
 · rename_i elem id p s st len cap hu;split at he
   · rename_i k hk;simp only [oI] at he;subst he;simp only [A.rel] at hx hy;subst hy;obtain ⟨b,base,o,c,q1,rfl,q3,q4,q5⟩:=hx;refine ⟨goInt 0,w,ν,?_,?_,Goes.refl m⟩
     · simp only [Builtin.copy_,ht,h0,h1];rw [Sem.run_bind,run_underlying' hu];simp only [Result.andThen_ok];simp only [Builtin.lenOf,Sem.run_bind,Sem.run_pure,Result.andThen_ok,run_sizeOf' hk];have e0:Nat.min 0 len.val=0:=Nat.zero_min _;simp [Builtin.firstCells,storeCells,e0]
     · show (A.lit .i64 _).rel ν _;simp only [A.rel];exact ⟨rfl,by decide⟩
   · cases he
 · rename_i elem id p s st mm cap id2 p2 s2 st2 n cap2 hu;split at he
   · rename_i k hk hs2;simp only [bA] at hs2;obtain ⟨hs2,hsm⟩:=hs2;have hsm:=nL hsm;have hs2:=beq_true hs2;subst hs2;split at he
     · rename_i es o1 hr1 hks hrd;have hks:=beq_true hks;subst hks;split at he
       · rename_i o2 hr2 hwr;simp only [oI] at he;subst he;simp only at hok hS;have hokr:=andOk_left hok;have hokw:=andOk_right hok;have hsz:∀u,u∈es->u.size=some k:=by
          unfold writeSl at hwr;split at hwr
          · split at hwr
            · split at hwr
              · exact all_size (by assumption)
              · cases hwr
            · cases hwr
          · cases hwr
         have hS1:∀i,i∈hr1.rd->S i:=by
          intro i hi;refine hS i ?_;unfold writeSl at hwr;split at hwr
          · split at hwr
            · split at hwr
              · split at hwr
                · simp only [oI,pI] at hwr;obtain ⟨_,rfl⟩:=hwr;exact mem_noteB.2 (.inr hi)
                · cases hwr
              · cases hwr
            · cases hwr
          · cases hwr
         obtain ⟨cs,g1,g2,g3,g4⟩:=readSl_sound (P:=P) (w:=w) m (k:=k) hrd hokr hS1 hy hsz (fun _ _ _ _ _ _ e=>by cases e;rfl)
         simp only [A.rel] at hx;obtain ⟨b,base,o,c,q1,rfl,q3,q4,q5⟩:=hx;have q4:mm≤c:=q4;obtain ⟨w',k1,k2⟩:=writeSl_sound (P:=P) (w:=w) g4.mem (ws:=cs) (r:=b) (base:=base) (o:=o) hwr hokw hS g2 q1 (fun hne=>by
          have h5:0<Nat.min n mm:=by rw [← g3];exact List.length_pos_iff.2 hne
          have h6:Nat.min n mm≤mm:=Nat.min_le_right _ _;exact q3 (by omega))
         have hyn:∃a2 c2,vy = .slice a2 n c2:=by simp only [A.rel] at hy;obtain ⟨b',base',o',c',_,rfl,_⟩:=hy;exact ⟨_,_,rfl⟩
         obtain ⟨a2,c2,rfl⟩:=hyn;refine ⟨goInt (Nat.min n mm),w',ν,?_,?_,g4.trans k2⟩
         · simp only [Builtin.copy_,ht,h0,h1];rw [Sem.run_bind,run_underlying' hu];simp only [Result.andThen_ok];simp only [Builtin.lenOf,Sem.run_bind,Sem.run_pure,Result.andThen_ok,run_sizeOf' hk];show ((Builtin.firstCells k (Nat.min n mm) _).run P w).andThen _=_;rw [g1];simp only [Result.andThen_ok,k1];rfl
         · show (A.lit .i64 _).rel ν _;simp only [A.rel];refine ⟨rfl,?_⟩;simp [IntKind.wrap,IntKind.bits,IntKind.signed];omega
       · cases he
     · cases he
   · cases he
 · cases he
end
end Go.WE
end
