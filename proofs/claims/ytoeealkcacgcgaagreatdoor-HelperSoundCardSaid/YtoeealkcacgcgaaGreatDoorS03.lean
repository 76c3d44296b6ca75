/- A part of a proof of the helpers' law; no condition of its own. -/
import Derived.Test.YtoeealkcacgcgaaGreatDoorS02
set_option linter.unusedVariables false
set_option maxRecDepth 100000
noncomputable section
namespace Go.WE
open Go
variable {ν:Nu}
theorem andOk_left {x y:A} (h:okB (andOk x y)=true):okB x=true:=by
 unfold andOk at h;split at h
 · rfl
 · exact h
 · simp only [okB,bA] at h;exact h.1
 · rw [show okB (A.b (okB x&&okB y))=(okB x&&okB y) from rfl,bA] at h;exact h.1
theorem andOk_right {x y:A} (h:okB (andOk x y)=true):okB y=true:=by
 unfold andOk at h;split at h
 · exact h
 · rfl
 · simp only [okB,bA] at h;exact h.2
 · rw [show okB (A.b (okB x&&okB y))=(okB x&&okB y) from rfl,bA] at h;exact h.2
theorem optEqN_eq {a b:Option Nat} (h:optEqN a b=true):a=b/\∃n,a=some n:=by
 unfold optEqN at h;split at h
 · rw [beq_true h];exact ⟨rfl,_,rfl⟩
 · cases h
theorem relLst_length {s:Nat}:∀{ts:List T} {vs:List Value},relLst ν s ts vs->vs.length=s*ts.length
 | [],_,h=>by simp only [relLst] at h;subst h;simp
 | t::ts,_,h=>by simp only [relLst] at h;obtain ⟨us,ws,rfl,h1,_,h3⟩:=h;rw [List.length_append,h1,relLst_length h3,List.length_cons,Nat.mul_succ,Nat.add_comm]
mutual
theorem size_length:∀{t:T} {n:Nat} {vs:List Value},t.size=some n->t.rel ν vs->vs.length=n
 | .a x,n,vs,hs,h=>by simp only [T.size,oI] at hs;simp only [T.rel] at h;obtain ⟨v,rfl,_⟩:=h;simpa using hs
 | .st fs,n,vs,hs,h=>by simp only [T.size] at hs;simp only [T.rel] at h;exact sizeTs_length hs h
 | .lst s ts,n,vs,hs,h=>by simp only [T.size,oI] at hs;simp only [T.rel] at h;rw [relLst_length h,hs]
 | .arr s i sh,n,vs,hs,h=>by
   simp only [T.rel] at h;cases i with
   | lit m=>simp only [T.size,oI] at hs;rw [h.1,← hs];rfl
   | sym m=>simp only [T.size] at hs;cases hs
 | .bad,n,vs,hs,h=>by simp only [T.size] at hs;cases hs
 | .mp _ _ _,n,vs,hs,h=>by simp only [T.size] at hs;cases hs
theorem sizeTs_length:∀{ts:List T} {n:Nat} {vs:List Value},sizeTs ts=some n->relTs ν ts vs->vs.length=n
 | [],n,vs,hs,h=>by simp only [sizeTs,oI] at hs;simp only [relTs] at h;subst h hs;rfl
 | t::ts,n,vs,hs,h=>by
   simp only [sizeTs] at hs;simp only [relTs] at h;split at hs
   · rename_i a b ha hb;simp only [oI] at hs;obtain ⟨us,ws,rfl,h1,h2⟩:=h;rw [List.length_append,size_length ha h1,sizeTs_length hb h2,hs]
   · cases hs
end
theorem relTs_at:∀{fs:List T} {k:Nat} {t:T} {vs:List Value},fs[k]? = some t->relTs ν fs vs ->
 ∃a us b,vs=a++us++b/\relTs ν (fs.take k) a/\t.rel ν us/\∀t' us',t'.rel ν us'->relTs ν (fs.set k t') (a++us'++b)
 | [],_,_,_,h,_=>by simp at h
 | f::fs,0,t,vs,h,hr=>by
   simp only [List.getElem?_cons_zero,oI] at h;subst h;simp only [relTs] at hr;obtain ⟨us,ws,rfl,h1,h2⟩:=hr;refine ⟨[],us,ws,by simp,by simp [relTs],h1,fun t' us' h' => ?_⟩
   simp only [List.set_cons_zero,relTs];exact ⟨us',ws,by simp,h',h2⟩
 | f::fs,k+1,t,vs,h,hr=>by
   simp only [List.getElem?_cons_succ] at h;simp only [relTs] at hr;obtain ⟨us,ws,rfl,h1,h2⟩:=hr;obtain ⟨a,x,b,rfl,h3,h4,h5⟩:=relTs_at h h2;refine ⟨us++a,x,b,by simp,?_,h4,fun t' us' h' => ?_⟩
   · simp only [List.take_succ_cons,relTs];exact ⟨us,a,rfl,h1,h3⟩
   · simp only [List.set_cons_succ,relTs];exact ⟨us,a++us'++b,by simp,h1,h5 t' us' h'⟩
theorem relLst_at {s:Nat}:∀{ts:List T} {k:Nat} {t:T} {vs:List Value},ts[k]? = some t->relLst ν s ts vs ->
 ∃a us b,vs=a++us++b/\a.length=s*k/\us.length=s/\t.rel ν us/\∀t' us',us'.length=s->t'.rel ν us'->relLst ν s (ts.set k t') (a++us'++b)
 | [],_,_,_,h,_=>by simp at h
 | f::fs,0,t,vs,h,hr=>by
   simp only [List.getElem?_cons_zero,oI] at h;subst h;simp only [relLst] at hr;obtain ⟨us,ws,rfl,h0,h1,h2⟩:=hr;refine ⟨[],us,ws,by simp,by simp,h0,h1,fun t' us' h' h'' => ?_⟩
   simp only [List.set_cons_zero,relLst];exact ⟨us',ws,by simp,h',h'',h2⟩
 | f::fs,k+1,t,vs,h,hr=>by
   simp only [List.getElem?_cons_succ] at h;simp only [relLst] at hr;obtain ⟨us,ws,rfl,h0,h1,h2⟩:=hr;obtain ⟨a,x,b,rfl,h3,h4,h5,h6⟩:=relLst_at h h2;refine ⟨us++a,x,b,by simp,?_,h4,h5,fun t' us' h' h'' => ?_⟩
   · rw [List.length_append,h0,h3,Nat.mul_succ,Nat.add_comm]
   · simp only [List.set_cons_succ,relLst];exact ⟨us,a++us'++b,by simp,h0,h1,h6 t' us' h' h''⟩
theorem muxT_rel {u:T} {vs:List Value}:∀{us:List T} {n j:Nat},us[n]? = some u->u.rel ν vs->(muxT (j+n) j us).rel ν vs
 | [],_,_,h,_=>by simp at h
 | [t],n,j,h,hr=>by
   cases n with
   | zero=>simp at h;subst h;exact hr
   | succ n=>simp at h
 | t::t2::ts,0,j,h,hr=>by
   simp at h;subst h;simp only [muxT];refine mergeT_rel ?_;rw [show Nat.beq (j+0) j=true from beq_self j]
   exact hr
 | t::t2::ts,n+1,j,h,hr=>by
   simp only [List.getElem?_cons_succ] at h;simp only [muxT];refine mergeT_rel ?_;have hne:Nat.beq (j+(n+1)) j=false:=by
    cases hb:Nat.beq (j+(n+1)) j
    · rfl
    · have:=beq_true hb;omega
   rw [hne];have:=muxT_rel (us:=t2::ts) (n:=n) (j:=j+1) h hr
   rwa [show j+1+n=j+(n+1) by omega] at this
theorem mapM_get {α β:Type} {f:α->Option β}:∀{l:List α} {r:List β},l.mapM f=some r->r.length=l.length/\∀(n:Nat) (x:α),l[n]? = some x->∃y,r[n]? = some y/\f x=some y
 | [],r,h=>by simp at h;subst h;simp
 | a::l,r,h=>by
   simp only [List.mapM_cons,Option.bind_eq_bind,Option.pure_def,Option.bind_eq_some_iff,oI] at h;obtain ⟨y,h1,ys,h2,rfl⟩:=h;obtain ⟨g1,g2⟩:=mapM_get h2;refine ⟨by simp [g1],fun n x hx => ?_⟩
   cases n with
   | zero=>simp at hx;subst hx;exact ⟨y,by simp,h1⟩
   | succ n=>simpa using g2 n x (by simpa using hx)
theorem foldr_ok {p:List Step}:∀{ts:List T},okB (ts.foldr (fun t a=>andOk (pathOk p t) a) .tt)=true->∀(n:Nat) (t:T),ts[n]? = some t->okB (pathOk p t)=true
 | [],_,_,_,h=>by simp at h
 | f::ts,h,n,t,ht=>by
   simp only [List.foldr_cons] at h;cases n with
   | zero=>simp at ht;subst ht;exact andOk_left h
   | succ n=>exact foldr_ok (andOk_right h) n t (by simpa using ht)
theorem arr_one {m:Nat} {f:Nat->Value} {P:Nat->List Value->Prop} (hP:∀j,j<m->P j [f j]):((List.range m).map f).length=1*m/\∀j,j<m->P j ((((List.range m).map f).drop (1*j)).take 1):=by
 refine ⟨by simp,fun j hj => ?_⟩
 have e:(((List.range m).map f).drop (1*j)).take 1=[f j]:=by
  rw [Nat.one_mul];apply List.ext_getElem?;intro i;cases i with
  | zero=>simp [hj]
  | succ i=>simp [List.getElem?_take]
 rw [e];exact hP j hj
theorem arr_one_inv {m:Nat} {f:Nat->Value} {vs:List Value} (hl:vs.length=1*m) (h:∀j,j<m->(vs.drop (1*j)).take 1=[f j]):vs=(List.range m).map f:=by
 apply List.ext_getElem?;intro j;by_cases hj:j<m
 · have:=h j hj;rw [Nat.one_mul] at this;have h2:((vs.drop j).take 1)[0]? = some (f j):=by rw [this];rfl
   rw [List.getElem?_take] at h2;simp at h2;simp [h2,hj]
 · rw [List.getElem?_eq_none (by omega),List.getElem?_eq_none (by simp;omega)]
theorem fnI_rel {m:Nat} {k:IntKind} {t:T} {h:Nat->BitVec 64} {vs:List Value} (he:fnI m k t=some h) (hr:t.rel ν vs):vs=(List.range m).map fun j =>.int k (vof k (h j)):=by
 unfold fnI at he;split at he
 · rename_i s n sh;split at he
   · rename_i hc;simp only [bA] at hc;have h1:=beq_true hc.1;have h2:=ixEq_val hc.2;subst h1;split at he
     · split at he
       · rename_i k' h' hk;have hk:=kEq_true hk;subst hk;simp only [oI] at he;subst he;simp only [T.rel,Sh.rel] at hr;rw [h2] at hr;exact arr_one_inv hr.1 hr.2
       · cases he
     · cases he
   · cases he
 · rename_i s ts;split at he
   · rename_i hc;simp only [bA] at hc;have h1:=beq_true hc.1;have h2:=beq_true hc.2;subst h1 h2;split at he
     · rename_i k' c r;split at he
       · rename_i hk;simp only [bA] at hk;have hk1:=kEq_true hk.1;subst hk1;simp only [oI] at he;subst he;have key:∀(l:List T) (us:List Value),allLit k c l=true->relLst ν 1 l us->us=List.replicate l.length (.int k c)/\(l≠[]->k.wrap c=c):=by
          intro l
          induction l with
          | nil=>intro us _ hu;simp only [relLst] at hu;subst hu;exact ⟨rfl,fun h=>absurd rfl h⟩
          | cons x l ih=>
            intro us hl hu;unfold allLit at hl;split at hl
            · rename_i e;cases e
            · rename_i k2 n2 r2 e;simp only [List.cons.injEq] at e;obtain ⟨rfl,rfl⟩:=e;simp only [bA,decide_eq_true_eq] at hl;obtain ⟨⟨g1,rfl⟩,g3⟩:=hl;have g1:=kEq_true g1;subst g1;simp only [relLst,T.rel] at hu;obtain ⟨a,b,rfl,_,⟨v,rfl,hv,_⟩,hb⟩:=hu;simp only [A.rel] at hv;obtain ⟨rfl,hw⟩:=hv;rw [(ih b g3 hb).1];exact ⟨rfl,fun _=>hw⟩
            · cases hl
         simp only [T.rel] at hr;have hall:allLit k c (.a (.lit k c)::r)=true:=by simp only [allLit,bA];exact ⟨⟨hk.1,by simp⟩,hk.2⟩
         obtain ⟨e1,e2⟩:=key _ _ hall hr;have e3:=vof_ofInt (e2 (by simp))
         rw [e1];simp only [e3];simp [List.map_const']
       · cases he
     · cases he
   · cases he
 · cases he
theorem fnB_rel {m:Nat} {t:T} {h:Nat->Bool} {vs:List Value} (he:fnB m t=some h) (hr:t.rel ν vs):vs=(List.range m).map fun j =>.bool (h j):=by
 unfold fnB at he;split at he
 · rename_i s n sh;split at he
   · rename_i hc;simp only [bA] at hc;have h1:=beq_true hc.1;have h2:=ixEq_val hc.2;subst h1;split at he
     · simp only [oI] at he;subst he;simp only [T.rel,Sh.rel] at hr;rw [h2] at hr;exact arr_one_inv hr.1 hr.2
     · cases he
   · cases he
 · rename_i s ts;split at he
   · rename_i hc;simp only [bA] at hc;have h1:=beq_true hc.1.1;have h2:=beq_true hc.1.2;subst h1 h2;simp only [oI] at he;subst he;have key:∀(l:List T) (us:List Value),allFf l=true->relLst ν 1 l us->us=List.replicate l.length (.bool false):=by
      intro l
      induction l with
      | nil=>intro us _ hu;simp only [relLst] at hu;subst hu;rfl
      | cons x l ih=>
        intro us hl hu;unfold allFf at hl;split at hl
        · rename_i e;cases e
        · rename_i r2 e;simp only [List.cons.injEq] at e;obtain ⟨rfl,rfl⟩:=e;simp only [relLst,T.rel] at hu;obtain ⟨a,b,rfl,_,⟨v,rfl,hv,_⟩,hb⟩:=hu;simp only [A.rel] at hv;subst hv;rw [ih b hl hb];rfl
        · cases hl
     simp only [T.rel] at hr;rw [key _ _ hc.2 hr];simp [List.map_const']
   · cases he
 · cases he
mutual
theorem elemT_rel {i:Nat}:∀{sh:Sh} {us:List Value},sh.rel i us->(elemT sh i).rel ν us
 | .int k g,us,h=>by simp only [Sh.rel] at h;simp only [elemT,T.rel];exact ⟨_,h,by simp only [A.rel],trivial⟩
 | .bool g,us,h=>by simp only [Sh.rel] at h;simp only [elemT,T.rel];exact ⟨_,h,by simp only [A.rel],trivial⟩
 | .lit k m,us,h=>by simp only [Sh.rel] at h;simp only [elemT,T.rel];exact ⟨_,h.1,by simp only [A.rel];exact ⟨trivial,h.2⟩,trivial⟩
 | .ints m k g,us,h=>by simp only [Sh.rel] at h;simp only [elemT,T.rel];subst h;exact arr_one (fun j _=>by simp only [Sh.rel])
 | .bools m g,us,h=>by simp only [Sh.rel] at h;simp only [elemT,T.rel];subst h;exact arr_one (fun j _=>by simp only [Sh.rel])
 | .st fs,us,h=>by simp only [Sh.rel] at h;simp only [elemT,T.rel];exact elemTs_rel h
theorem elemTs_rel {i:Nat}:∀{sh:List Sh} {us:List Value},relShs i sh us->relTs ν (elemTs sh i) us
 | [],us,h=>by simp only [relShs] at h;simpa only [elemTs,relTs] using h
 | s::ss,us,h=>by simp only [relShs] at h;obtain ⟨a,b,e,h1,h2⟩:=h;simp only [elemTs,relTs];exact ⟨a,b,e,elemT_rel h1,elemTs_rel h2⟩
end
theorem arr_at {s n i:Nat} (vs:List Value) (hl:vs.length=s*n) (hi:i<n) :
 vs=vs.take (s*i)++(vs.drop (s*i)).take s++vs.drop (s*i+s)/\(vs.take (s*i)).length=s*i/\((vs.drop (s*i)).take s).length=s:=by
 have h1:s*i+s≤s*n:=by rw [← Nat.mul_succ];exact Nat.mul_le_mul_left s hi
 refine ⟨?_,?_,?_⟩
 · rw [List.append_assoc,← List.drop_drop,List.take_append_drop,List.take_append_drop]
 · rw [List.length_take];omega
 · rw [List.length_take,List.length_drop];omega
theorem blt_lt {a b:Nat} (h:Nat.blt a b=true):a<b:=by simp [Nat.blt] at h;omega
theorem arrOk {n i:Ix} (h:okB (match i,n with
 | .lit a,.lit b=>ofDec (Nat.blt a b)
 | a,b =>.b (Nat.blt a.val b.val))=true):i.val<n.val:=by
 cases i<;>cases n<;>simp only at h
 · rename_i a b;cases hb:Nat.blt a b
   · rw [hb] at h;cases h
   · exact blt_lt hb
 all_goals exact blt_lt h
theorem subT_rel:∀{p:List Step} {t u:T} {vs:List Value},subT p t=some u->okB (pathOk p t)=true->t.rel ν vs ->
 ∃a us b,vs=a++us++b/\a.length=pathOff p/\u.rel ν us
 | [],t,u,vs,h,_,hr=>by simp only [subT,oI] at h;subst h;exact ⟨[],vs,[],by simp,rfl,hr⟩
 | .f k off::p,.st fs,u,vs,h,hok,hr=>by
   simp only [subT] at h;split at h
   · rename_i hs;split at h
     · rename_i t ht;simp only [T.rel] at hr;obtain ⟨a,us,b,rfl,h1,h2,_⟩:=relTs_at ht hr;simp only [pathOk,ht] at hok;obtain ⟨a',us',b',rfl,h3,h4⟩:=subT_rel h hok h2;refine ⟨a++a',us',b'++b,by simp,?_,h4⟩
       rw [List.length_append,h3,sizeTs_length (optEqN_eq hs).1 h1];rfl
     · cases h
   · cases h
 | .x s' i::p,.lst s ts,u,vs,h,hok,hr=>by
   simp only [subT] at h;split at h
   · cases h
   · rename_i hs;have hs:=beq_true hs;subst hs;simp only [T.rel] at hr;split at h
     · rename_i n;split at h
       · rename_i t ht;obtain ⟨a,us,b,rfl,h1,_,h2,_⟩:=relLst_at ht hr;simp only [pathOk,ht] at hok;obtain ⟨a',us',b',rfl,h3,h4⟩:=subT_rel h hok h2;exact ⟨a++a',us',b'++b,by simp,by rw [List.length_append,h3,h1];rfl,h4⟩
       · cases h
     · rename_i n;split at h
       · rename_i us hus;simp only [oI] at h;subst h;simp only [pathOk] at hok;have hn:=blt_lt (andOk_left hok);obtain ⟨t,ht⟩:∃t,ts[n]? = some t:=⟨_,List.getElem?_eq_getElem hn⟩;obtain ⟨a,cs,b,rfl,h1,_,h2,_⟩:=relLst_at ht hr;obtain ⟨y,hy,hsub⟩:=(mapM_get hus).2 n t ht;obtain ⟨a',us',b',rfl,h3,h4⟩:=subT_rel hsub (foldr_ok (andOk_right hok) n t ht) h2;refine ⟨a++a',us',b'++b,by simp,by rw [List.length_append,h3,h1];rfl,?_⟩
         have:=muxT_rel (j:=0) hy h4
         rwa [Nat.zero_add] at this
       · cases h
 | .x s' i::p,.arr s n sh,u,vs,h,hok,hr=>by
   simp only [subT] at h;split at h
   · rename_i hs;have hs:=beq_true hs;subst hs;simp only [pathOk] at hok;have hi:=arrOk (andOk_left hok);simp only [T.rel] at hr;obtain ⟨e1,e2,e3⟩:=arr_at vs hr.1 hi;obtain ⟨a',us',b',e4,h3,h4⟩:=subT_rel h (andOk_right hok) (elemT_rel (ν:=ν) (hr.2 i.val hi));refine ⟨vs.take (s*i.val)++a',us',b'++vs.drop (s*i.val+s),?_,?_,h4⟩
     · conv=>lhs;rw [e1,e4]
       simp
     · rw [List.length_append,e2,h3];rfl
   · cases h
 | .f _ _::_,.a _,_,_,h,_,_=>by simp [subT] at h
 | .f _ _::_,.lst _ _,_,_,h,_,_=>by simp [subT] at h
 | .f _ _::_,.arr _ _ _,_,_,h,_,_=>by simp [subT] at h
 | .f _ _::_,.bad,_,_,h,_,_=>by simp [subT] at h
 | .f _ _::_,.mp _ _ _,_,_,h,_,_=>by simp [subT] at h
 | .x _ _::_,.a _,_,_,h,_,_=>by simp [subT] at h
 | .x _ _::_,.st _,_,_,h,_,_=>by simp [subT] at h
 | .x _ _::_,.bad,_,_,h,_,_=>by simp [subT] at h
 | .x _ _::_,.mp _ _ _,_,_,h,_,_=>by simp [subT] at h
mutual
theorem setE_same {n:Nat}:∀{sh r:Sh} {t:T} {us:List Value},setE sh n t=some r->t.rel ν us->r.rel n us
 | .int k g,r,t,us,h,hr=>by
   simp only [setE,setSh] at h;split at h
   · rename_i x;split at h
     · rename_i k' y hx;split at h
       · rename_i hk;simp only [oI] at h;subst h;simp only [T.rel] at hr;obtain ⟨v,rfl,h1,_⟩:=hr;have:=kEq_true hk;subst this;simp only [Sh.rel];rw [A.rel_bv h1 hx,beq_self];rfl
       · cases h
     · cases h
   · cases h
 | .bool g,r,t,us,h,hr=>by
   simp only [setE,setSh] at h;split at h
   · rename_i x;split at h
     · rename_i y hx;simp only [oI] at h;subst h;simp only [T.rel] at hr;obtain ⟨v,rfl,h1,_⟩:=hr;simp only [Sh.rel];rw [A.rel_bool h1 hx,beq_self];rfl
     · cases h
   · cases h
 | .lit k m,r,t,us,h,hr=>by
   simp only [setE,setSh] at h;split at h
   · rename_i x;simp only [T.rel] at hr;obtain ⟨v,rfl,h1,_⟩:=hr;split at h
     · split at h
       · rename_i k' m' hk;have:=kEq_true hk;subst this;simp only [A.rel] at h1;obtain ⟨rfl,hw⟩:=h1;split at h
         · rename_i hm;have hm:=of_decide_eq_true hm;subst hm;simp only [oI] at h;subst h;simp only [Sh.rel];exact ⟨trivial,hw⟩
         · simp only [oI] at h;subst h;simp only [Sh.rel,beq_self,cond_true];rw [vof_ofInt hw]
       · cases h
     · split at h
       · rename_i k' y hk;have:=kEq_true hk;subst this;simp only [A.rel] at h1;subst h1;simp only [oI] at h;subst h;simp only [Sh.rel,beq_self,cond_true]
       · cases h
     · cases h
   · cases h
 | .ints m k g,r,t,us,h,hr=>by
   simp only [setE,setSh] at h;split at h
   · rename_i f hf;simp only [oI] at h;subst h;simp only [Sh.rel,beq_self,cond_true];exact fnI_rel hf hr
   · cases h
 | .bools m g,r,t,us,h,hr=>by
   simp only [setE,setSh] at h;split at h
   · rename_i f hf;simp only [oI] at h;subst h;simp only [Sh.rel,beq_self,cond_true];exact fnB_rel hf hr
   · cases h
 | .st fs,r,t,us,h,hr=>by
   simp only [setE] at h;split at h
   · rename_i ts;split at h
     · rename_i q hq;simp only [oI] at h;subst h;simp only [T.rel] at hr;simp only [Sh.rel];exact setEs_same hq hr
     · cases h
   · cases h
theorem setEs_same {n:Nat}:∀{sh r:List Sh} {t:List T} {us:List Value},setEs sh n t=some r->relTs ν t us->relShs n r us
 | [],r,t,us,h,hr=>by
   simp only [setEs] at h;split at h
   · simp only [oI] at h;subst h;simp only [relTs] at hr;simpa only [relShs] using hr
   · cases h
 | s::ss,r,t,us,h,hr=>by
   simp only [setEs] at h;split at h
   · cases h
   · rename_i t ts;split at h
     · rename_i q qs h1 h2;simp only [oI] at h;subst h;simp only [relTs] at hr;obtain ⟨a,b,e,g1,g2⟩:=hr;simp only [relShs];exact ⟨a,b,e,setE_same h1 g1,setEs_same h2 g2⟩
     · cases h
end
mutual
theorem setE_other {n i:Nat} (hne:i≠n):∀{sh r:Sh} {t:T} {us:List Value},setE sh n t=some r->sh.rel i us->r.rel i us
 | .int k g,r,t,us,h,hr=>by
   simp only [setE,setSh] at h;split at h
   · split at h
     · split at h
       · simp only [oI] at h;subst h;simp only [Sh.rel] at hr ⊢;rw [show Nat.beq i n=false from by cases hb:Nat.beq i n;rfl;exact absurd (beq_true hb) hne]
         exact hr
       · cases h
     · cases h
   · cases h
 | .bool g,r,t,us,h,hr=>by
   simp only [setE,setSh] at h;split at h
   · split at h
     · simp only [oI] at h;subst h;simp only [Sh.rel] at hr ⊢;rw [show Nat.beq i n=false from by cases hb:Nat.beq i n;rfl;exact absurd (beq_true hb) hne]
       exact hr
     · cases h
   · cases h
 | .lit k m,r,t,us,h,hr=>by
   have hb:Nat.beq i n=false:=by cases hb:Nat.beq i n;rfl;exact absurd (beq_true hb) hne
   simp only [Sh.rel] at hr;simp only [setE,setSh] at h;split at h
   · split at h
     · split at h
       · split at h
         · simp only [oI] at h;subst h;simp only [Sh.rel];exact hr
         · simp only [oI] at h;subst h;simp only [Sh.rel,hb,cond_false];rw [vof_ofInt hr.2];exact hr.1
       · cases h
     · split at h
       · simp only [oI] at h;subst h;simp only [Sh.rel,hb,cond_false];rw [vof_ofInt hr.2];exact hr.1
       · cases h
     · cases h
   · cases h
 | .ints m k g,r,t,us,h,hr=>by
   have hb:Nat.beq i n=false:=by cases hb:Nat.beq i n;rfl;exact absurd (beq_true hb) hne
   simp only [setE,setSh] at h;split at h
   · simp only [oI] at h;subst h;simp only [Sh.rel,hb,cond_false] at hr ⊢;exact hr
   · cases h
 | .bools m g,r,t,us,h,hr=>by
   have hb:Nat.beq i n=false:=by cases hb:Nat.beq i n;rfl;exact absurd (beq_true hb) hne
   simp only [setE,setSh] at h;split at h
   · simp only [oI] at h;subst h;simp only [Sh.rel,hb,cond_false] at hr ⊢;exact hr
   · cases h
 | .st fs,r,t,us,h,hr=>by
   simp only [setE] at h;split at h
   · split at h
     · rename_i q hq;simp only [oI] at h;subst h;simp only [Sh.rel] at hr ⊢;exact setEs_other hne hq hr
     · cases h
   · cases h
theorem setEs_other {n i:Nat} (hne:i≠n):∀{sh r:List Sh} {t:List T} {us:List Value},setEs sh n t=some r->relShs i sh us->relShs i r us
 | [],r,t,us,h,hr=>by
   simp only [setEs] at h;split at h
   · simp only [oI] at h;subst h;exact hr
   · cases h
 | s::ss,r,t,us,h,hr=>by
   simp only [setEs] at h;split at h
   · cases h
   · rename_i t ts;split at h
     · rename_i q qs h1 h2;simp only [oI] at h;subst h;simp only [relShs] at hr ⊢;obtain ⟨a,b,e,g1,g2⟩:=hr;exact ⟨a,b,e,setE_other hne h1 g1,setEs_other hne h2 g2⟩
     · cases h
end
theorem muxU_rel {s n:Nat} {us:List T}:∀{ts vs':List T} {j:Nat} {vs:List Value},us.length=ts.length->relLst ν s ts vs->(∀(m:Nat) (u:T),j+m=n->us[m]? = some u->False) ->
 updT.muxU n j us ts=vs'->relLst ν s vs' vs
 | [],vs',j,vs,hl,hr,_,e=>by
   cases us with
   | nil=>simp only [updT.muxU] at e;subst e;exact hr
   | cons _ _=>simp at hl
 | t::ts,vs',j,vs,hl,hr,hno,e=>by
   cases us with
   | nil=>simp at hl
   | cons u us=>
     simp only [updT.muxU] at e;subst e;simp only [relLst] at hr ⊢;obtain ⟨a,b,e,h0,h1,h2⟩:=hr;refine ⟨a,b,e,h0,mergeT_rel ?_,muxU_rel (j:=j+1) (by simpa using hl) h2 (fun m u' hm hu=>hno (m+1) u' (by omega) (by simpa using hu)) rfl⟩
     have:Nat.beq n j=false:=by
      cases hb:Nat.beq n j
      · rfl
      · exact (hno 0 u (by rw [beq_true hb];rfl) (by simp)).elim
     rw [this];exact h1
theorem muxU_at {s n:Nat} {u:T} {cs:List Value} (hcl:cs.length=s) (hu:u.rel ν cs):∀{us ts:List T} {j m:Nat} {vs a b x:List Value},us.length=ts.length->n=j+m->us[m]? = some u->relLst ν s ts vs->vs=a++x++b->a.length=s*m->x.length=s ->
 relLst ν s (updT.muxU n j us ts) (a++cs++b)
 | [],_,_,_,_,_,_,_,_,_,h,_,_,_,_=>by simp at h
 | _::_,[],_,_,_,_,_,_,hl,_,_,_,_,_,_=>by simp at hl
 | u0::us,t::ts,j,0,vs,a,b,x,hl,hn,hm,hr,hv,ha,hx=>by
   simp only [List.getElem?_cons_zero,oI] at hm;subst hm;have:a=[]:=by cases a with|nil=>rfl|cons _ _=>simp at ha
   subst this;simp only [relLst] at hr;obtain ⟨p,q,e,h0,h1,h2⟩:=hr;rw [hv] at e;simp only [List.nil_append] at e;obtain ⟨rfl,rfl⟩:=List.append_inj e (by rw [hx,h0])
   simp only [updT.muxU,relLst,List.nil_append];refine ⟨cs,b,rfl,hcl,mergeT_rel ?_,muxU_rel (j:=j+1) (by simpa using hl) h2 (fun m' u' hm' _=>by omega) rfl⟩
   rw [hn,show Nat.beq (j+0) j=true from beq_self j];exact hu
 | u0::us,t::ts,j,m+1,vs,a,b,x,hl,hn,hm,hr,hv,ha,hx=>by
   simp only [List.getElem?_cons_succ] at hm;simp only [relLst] at hr;obtain ⟨p,q,e,h0,h1,h2⟩:=hr;rw [hv,List.append_assoc] at e;have hle:p.length≤a.length:=by rw [ha,h0,Nat.mul_succ];omega
   obtain ⟨a',rfl⟩:∃a',a=p++a':=by
    refine ⟨a.drop p.length,?_⟩;have h5:=congrArg (List.take p.length) e;rw [List.take_append_of_le_length hle,List.take_left] at h5
    conv=>lhs;rw [← List.take_append_drop p.length a,h5]
   rw [List.append_assoc] at e;have e:=List.append_cancel_left e;simp only [updT.muxU,relLst];refine ⟨p,a'++cs++b,by simp,h0,mergeT_rel ?_,muxU_at hcl hu (j:=j+1) (m:=m) (by simpa using hl) (by omega) hm h2 (x:=x) (by rw [← e,List.append_assoc]) ?_ hx⟩
   · have:Nat.beq n j=false:=by
      cases hb:Nat.beq n j
      · rfl
      · have:=beq_true hb;omega
     rw [this];exact h1
   · rw [List.length_append,h0,Nat.mul_succ] at ha;omega
theorem updT_rel {v:T} {ws:List Value} (hv:v.rel ν ws):∀{p:List Step} {t u:T} {vs:List Value},updT v p t=some u->okB (pathOk p t)=true->t.rel ν vs ->
 ∃a us b,vs=a++us++b/\a.length=pathOff p/\us.length=ws.length/\u.rel ν (a++ws++b)
 | [],t,u,vs,h,_,hr=>by
   simp only [updT] at h;split at h
   · rename_i hs;simp only [oI] at h;subst h;obtain ⟨e,n,hn⟩:=optEqN_eq hs;refine ⟨[],vs,[],by simp,rfl,?_,by simpa using hv⟩
     rw [size_length hn hr,size_length (e▸hn) hv]
   · cases h
 | .f k off::p,.st fs,u,vs,h,hok,hr=>by
   simp only [updT] at h;split at h
   · rename_i hs;split at h
     · rename_i t ht;split at h
       · rename_i u' hu';simp only [oI] at h;subst h;simp only [T.rel] at hr;obtain ⟨a,us,b,rfl,h1,h2,h3⟩:=relTs_at ht hr;simp only [pathOk,ht] at hok;obtain ⟨a',us',b',rfl,g1,g2,g3⟩:=updT_rel hv hu' hok h2;refine ⟨a++a',us',b'++b,by simp,?_,g2,?_⟩
         · rw [List.length_append,g1,sizeTs_length (optEqN_eq hs).1 h1];rfl
         · have:=h3 _ _ g3;simp only [T.rel];simpa using this
       · cases h
     · cases h
   · cases h
 | .x s' i::p,.lst s ts,u,vs,h,hok,hr=>by
   simp only [updT] at h;split at h
   · cases h
   · rename_i hs;have hs:=beq_true hs;subst hs;simp only [T.rel] at hr;split at h
     · rename_i n;split at h
       · rename_i t ht;split at h
         · rename_i u' hu';simp only [oI] at h;subst h;obtain ⟨a,us,b,rfl,h1,h0,h2,h3⟩:=relLst_at ht hr;simp only [pathOk,ht] at hok;obtain ⟨a',us',b',rfl,g1,g2,g3⟩:=updT_rel hv hu' hok h2;refine ⟨a++a',us',b'++b,by simp,by rw [List.length_append,g1,h1];rfl,g2,?_⟩
           have:=h3 u' (a'++ws++b') (by simp only [List.length_append] at h0 ⊢;omega) g3
           simp only [T.rel];simpa using this
         · cases h
       · cases h
     · rename_i n;split at h
       · rename_i us hus;simp only [oI] at h;subst h;simp only [pathOk] at hok;have hn:=blt_lt (andOk_left hok);obtain ⟨t,ht⟩:∃t,ts[n]? = some t:=⟨_,List.getElem?_eq_getElem hn⟩;have hr0:=hr;obtain ⟨a,cs,b,rfl,h1,h0,h2,h3⟩:=relLst_at ht hr;obtain ⟨y,hy,hsub⟩:=(mapM_get hus).2 n t ht;obtain ⟨a',us',b',rfl,g1,g2,g3⟩:=updT_rel hv hsub (foldr_ok (andOk_right hok) n t ht) h2;refine ⟨a++a',us',b'++b,by simp,by rw [List.length_append,g1,h1];rfl,g2,?_⟩
         have:=muxU_at (n:=n) (j:=0) (m:=n) (by simp only [List.length_append] at h0 ⊢;omega) g3 (mapM_get hus).1 (by omega) hy hr0 rfl h1 h0
         simp only [T.rel];simpa using this
       · cases h
 | .x s' i::p,.arr s n sh,u,vs,h,hok,hr=>by
   simp only [updT] at h;split at h
   · rename_i hs;have hs:=beq_true hs;subst hs;split at h
     · rename_i u' hu';split at h
       · rename_i sh' hsh;simp only [oI] at h;subst h;simp only [pathOk] at hok;have hi:=arrOk (andOk_left hok);simp only [T.rel] at hr;obtain ⟨e1,e2,e3⟩:=arr_at vs hr.1 hi;obtain ⟨a',us',b',e4,g1,g2,g3⟩:=updT_rel hv hu' (andOk_right hok) (elemT_rel (ν:=ν) (hr.2 i.val hi));refine ⟨vs.take (s*i.val)++a',us',b'++vs.drop (s*i.val+s),?_,by rw [List.length_append,e2,g1];rfl,g2,?_⟩
         · conv=>lhs;rw [e1,e4]
           simp
         · have hle:s*i.val+s≤s*n.val:=by rw [← Nat.mul_succ];exact Nat.mul_le_mul_left s hi
           have hcl:(a'++ws++b').length=s:=by have:=e3;rw [e4] at this;simp only [List.length_append] at this ⊢;omega
           have hdl:(vs.drop (s*i.val+s)).length=s*n.val-(s*i.val+s):=by rw [List.length_drop,hr.1]
           simp only [T.rel];have ee:vs.take (s*i.val)++a'++ws++(b'++vs.drop (s*i.val+s))=vs.take (s*i.val)++(a'++ws++b')++vs.drop (s*i.val+s):=by simp
           rw [ee];generalize a'++ws++b'=cs at hcl g3;refine ⟨by simp only [List.length_append,e2,hcl,hdl];omega,fun j hj => ?_⟩
           by_cases hji:j=i.val
           · subst hji;rw [List.append_assoc,List.drop_left' e2,List.take_left' hcl];exact setE_same hsh g3
           · refine setE_other hji hsh ?_;have h5:=hr.2 j hj;rcases Nat.lt_or_gt_of_ne hji with hlt|hgt
             · have hle2:s*j+s≤s*i.val:=by rw [← Nat.mul_succ];exact Nat.mul_le_mul_left s hlt
               rw [List.append_assoc,List.drop_append_of_le_length (by omega),List.take_append_of_le_length (by rw [List.length_drop];omega)]
               rw [List.drop_take,List.take_take,Nat.min_eq_left (by omega)]
               exact h5
             · have hle2:s*i.val+s≤s*j:=by rw [← Nat.mul_succ];exact Nat.mul_le_mul_left s hgt
               have e6:(vs.take (s*i.val)++cs++vs.drop (s*i.val+s)).drop (s*j)=vs.drop (s*j):=by
                rw [List.drop_append,List.drop_of_length_le (by simp only [List.length_append,e2,hcl];omega),List.nil_append,List.drop_drop]
                congr 1;simp only [List.length_append,e2,hcl];omega
               rw [e6];exact h5
       · cases h
     · cases h
   · cases h
 | .f _ _::_,.a _,_,_,h,_,_=>by simp [updT] at h
 | .f _ _::_,.lst _ _,_,_,h,_,_=>by simp [updT] at h
 | .f _ _::_,.arr _ _ _,_,_,h,_,_=>by simp [updT] at h
 | .f _ _::_,.bad,_,_,h,_,_=>by simp [updT] at h
 | .f _ _::_,.mp _ _ _,_,_,h,_,_=>by simp [updT] at h
 | .x _ _::_,.a _,_,_,h,_,_=>by simp [updT] at h
 | .x _ _::_,.st _,_,_,h,_,_=>by simp [updT] at h
 | .x _ _::_,.bad,_,_,h,_,_=>by simp [updT] at h
 | .x _ _::_,.mp _ _ _,_,_,h,_,_=>by simp [updT] at h
end Go.WE
namespace Go.WE
open Go
theorem getF_succ {α:Type} (n:Nat) (t:Tr α) (k:Nat):t.getF (n+1) k=match Nat.beq k 0 with
 | true=>t.v
 | false=>match Nat.beq (k % 2) 0 with
   | true=>t.l.getF n (k / 2)
   | false=>t.r.getF n (k / 2):=rfl
theorem setF_succ {α:Type} (n:Nat) (t:Tr α) (k:Nat) (x:Option α):t.setF (n+1) k x=match Nat.beq k 0 with
 | true =>.node x t.l t.r
 | false=>match Nat.beq (k % 2) 0 with
   | true =>.node t.v (t.l.setF n (k / 2) x) t.r
   | false =>.node t.v t.l (t.r.setF n (k / 2) x):=rfl
theorem v_node {α:Type} (v:Option α) (l r:Tr α):(Tr.node v l r).v=v:=rfl
theorem l_node {α:Type} (v:Option α) (l r:Tr α):(Tr.node v l r).l=l:=rfl
theorem r_node {α:Type} (v:Option α) (l r:Tr α):(Tr.node v l r).r=r:=rfl
theorem getF_any {α:Type}:∀(n m:Nat) (t:Tr α) (k:Nat),k<2 ^ n->k<2 ^ m->t.getF (n+1) k=t.getF (m+1) k
 | 0,m,t,k,hn,_=>by
   have:k=0:=by simpa using hn
   subst this;rw [getF_succ 0 t 0,getF_succ m t 0]
 | n+1,m,t,k,hn,hm=>by
   rw [getF_succ (n+1) t k,getF_succ m t k];cases hk:Nat.beq k 0
   · have hk:=beq_false hk;cases m with
     | zero=>simp at hm;omega
     | succ m=>
       have h1:k / 2<2 ^ n:=by rw [Nat.pow_succ] at hn;omega
       have h2:k / 2<2 ^ m:=by rw [Nat.pow_succ] at hm;omega
       rw [getF_any n m t.l _ h1 h2,getF_any n m t.r _ h1 h2]
   · rfl
theorem setF_any {α:Type} (x:Option α):∀(n m:Nat) (t:Tr α) (k:Nat),k<2 ^ n->k<2 ^ m->t.setF (n+1) k x=t.setF (m+1) k x
 | 0,m,t,k,hn,_=>by
   have:k=0:=by simpa using hn
   subst this;rw [setF_succ 0 t 0,setF_succ m t 0]
 | n+1,m,t,k,hn,hm=>by
   rw [setF_succ (n+1) t k,setF_succ m t k];cases hk:Nat.beq k 0
   · have hk:=beq_false hk;cases m with
     | zero=>simp at hm;omega
     | succ m=>
       have h1:k / 2<2 ^ n:=by rw [Nat.pow_succ] at hn;omega
       have h2:k / 2<2 ^ m:=by rw [Nat.pow_succ] at hm;omega
       rw [setF_any x n m t.l _ h1 h2,setF_any x n m t.r _ h1 h2]
   · rfl
theorem getF_nil {α:Type}:∀(n k:Nat),(Tr.nil:Tr α).getF n k=none
 | 0,_=>rfl
 | n+1,k=>by
   rw [getF_succ];cases Nat.beq k 0
   · cases Nat.beq (k % 2) 0
     · exact getF_nil n _
     · exact getF_nil n _
   · rfl
theorem getF_setF {α:Type} (x:Option α):∀(n:Nat) (t:Tr α) (k k':Nat),k<2 ^ n->k'<2 ^ n->(t.setF (n+1) k x).getF (n+1) k'=if k=k' then x else t.getF (n+1) k'
 | 0,t,k,k',hn,hn'=>by
   have:k=0:=by simpa using hn
   have:k'=0:=by simpa using hn'
   subst k k';rw [setF_succ,getF_succ];rfl
 | n+1,t,k,k',hn,hn'=>by
   have h1:k / 2<2 ^ n:=by rw [Nat.pow_succ] at hn;omega
   have h2:k' / 2<2 ^ n:=by rw [Nat.pow_succ] at hn';omega
   have ih:=fun t=>getF_setF x n t (k / 2) (k' / 2) h1 h2;rw [setF_succ (n+1) t k x,getF_succ (n+1) t k',getF_succ (n+1) _ k'];cases hk:Nat.beq k 0
   · have hk':=beq_false hk;cases hp:Nat.beq (k % 2) 0
     · have hp':=beq_false hp;cases hj:Nat.beq k' 0
       · have hj':=beq_false hj;cases hq:Nat.beq (k' % 2) 0
         · have hq':=beq_false hq;simp only [r_node,ih];by_cases e:k / 2=k' / 2
           · have:k=k':=by omega
             rw [if_pos e,if_pos this]
           · have:k≠k':=fun h=>e (by rw [h])
             rw [if_neg e,if_neg this]
         · have hq':=beq_true hq;simp only [l_node];rw [if_neg (by omega)]
       · have hj':=beq_true hj;simp only [v_node];rw [if_neg (by omega)]
     · have hp':=beq_true hp;cases hj:Nat.beq k' 0
       · have hj':=beq_false hj;cases hq:Nat.beq (k' % 2) 0
         · have hq':=beq_false hq;simp only [r_node];rw [if_neg (by omega)]
         · have hq':=beq_true hq;simp only [l_node,ih];by_cases e:k / 2=k' / 2
           · have:k=k':=by omega
             rw [if_pos e,if_pos this]
           · have:k≠k':=fun h=>e (by rw [h])
             rw [if_neg e,if_neg this]
       · have hj':=beq_true hj;simp only [v_node];rw [if_neg (by omega)]
   · have hk':=beq_true hk;subst hk';cases hj:Nat.beq k' 0
     · have hj':=beq_false hj;simp only [l_node,r_node];rw [if_neg (by omega)]
     · have hj':=beq_true hj;simp only [v_node];rw [if_pos hj'.symm]
theorem Tr.get_set {α:Type} (t:Tr α) (k k':Nat) (x:α):(t.set k x).get k'=if k=k' then some x else t.get k':=by
 unfold Tr.get Tr.set;have h1:k<2 ^ (Nat.log2 k+1):=Nat.lt_log2_self;have h2:k'<2 ^ (Nat.log2 k'+1):=Nat.lt_log2_self;let N:=Nat.max (Nat.log2 k+1) (Nat.log2 k'+1)
 have g1:k<2 ^ N:=Nat.lt_of_lt_of_le h1 (Nat.pow_le_pow_right (by omega) (Nat.le_max_left _ _))
 have g2:k'<2 ^ N:=Nat.lt_of_lt_of_le h2 (Nat.pow_le_pow_right (by omega) (Nat.le_max_right _ _))
 rw [setF_any (some x) _ N t k h1 g1,getF_any _ N _ k' h2 g2,getF_setF (some x) N t k k' g1 g2,getF_any _ N t k' h2 g2]
theorem Tr.get_del {α:Type} (t:Tr α) (k k':Nat):(t.del k).get k'=if k=k' then none else t.get k':=by
 unfold Tr.get Tr.del;have h1:k<2 ^ (Nat.log2 k+1):=Nat.lt_log2_self;have h2:k'<2 ^ (Nat.log2 k'+1):=Nat.lt_log2_self;let N:=Nat.max (Nat.log2 k+1) (Nat.log2 k'+1)
 have g1:k<2 ^ N:=Nat.lt_of_lt_of_le h1 (Nat.pow_le_pow_right (by omega) (Nat.le_max_left _ _))
 have g2:k'<2 ^ N:=Nat.lt_of_lt_of_le h2 (Nat.pow_le_pow_right (by omega) (Nat.le_max_right _ _))
 rw [setF_any none _ N t k h1 g1,getF_any _ N _ k' h2 g2,getF_setF none N t k k' g1 g2,getF_any _ N t k' h2 g2]
theorem Tr.get_nil {α:Type} (k:Nat):(Tr.nil:Tr α).get k=none:=getF_nil _ _
theorem add_addr (b off n:Nat):(⟨b,off,none⟩:Addr).add n=⟨b,off+n,none⟩:=by
 unfold Addr.add;split
 · subst_vars;rfl
 · rfl
theorem cell_at {w:World} {b o:Nat} {cs:Array Value} {ty:TypeId} {fr:Nat×Nat} {pre post:List Value} {v:Value} (h:w.heap[b]? = some (.cells cs ty fr)) (e:cs.toList=pre++v::post) (ho:pre.length=o) :
 w.cell? ⟨b,o,none⟩=some v:=by
 have:cs[o]? = some v:=by rw [← Array.getElem?_toList,e,← ho,List.getElem?_append_right (Nat.le_refl _),Nat.sub_self];rfl
 simp [World.cell?,h,this]
theorem frozen_of {w:World} {b o:Nat} {vs:Array Value} {ty:TypeId} (h:w.heap[b]? = some (.cells vs ty (0,0))):w.frozen? ⟨b,o,none⟩=false:=by
 simp [World.frozen?,h]
section
variable {P:Program}
theorem run_load_cell {w:World} {a:Addr} {v:Value} (h:w.cell? a=some v):(load a).run P w = .ok v w:=by
 simp [load,Sem.run,h]
theorem loadCellsFrom_run {w:World} {b:Nat} {cs:Array Value} {ty:TypeId} {fr:Nat×Nat} (h:w.heap[b]? = some (.cells cs ty fr)):∀(us pre post:List Value) (off i:Nat) (acc:Array Value),
 cs.toList=pre++us++post->pre.length=off+i->(loadCellsFrom ⟨b,off,none⟩ i us.length acc).run P w = .ok (acc++us.toArray) w
 | [],_,_,_,_,_,_,_=>by simp [loadCellsFrom]
 | u::us,pre,post,off,i,acc,e,hl=>by
   rw [List.length_cons,loadCellsFrom,Sem.run_bind,add_addr,run_load_cell (cell_at h (pre:=pre) (v:=u) (post:=us++post) (by rw [e];simp) hl)]
   simp only [Result.andThen_ok];rw [loadCellsFrom_run h us (pre++[u]) post off (i+1) (acc.push u) (by rw [e];simp) (by simp [hl];omega)]
   congr 1;apply Array.ext';simp
theorem loadCells_run {w:World} {b off:Nat} {cs:Array Value} {ty:TypeId} {fr:Nat×Nat} {us pre post:List Value} (h:w.heap[b]? = some (.cells cs ty fr)) (e:cs.toList=pre++us++post) (hl:pre.length=off) :
 (loadCells ⟨b,off,none⟩ us.length).run P w = .ok us.toArray w:=by
 rw [loadCells,loadCellsFrom_run h us pre post off 0 #[] e (by omega)]
 simp
def wset (w:World) (b:Nat) (o:Obj):World:={ w with heap:=w.heap.setIfInBounds b o }
theorem setCell_wset {w:World} {b off:Nat} {vs:Array Value} {ty:TypeId} {v:Value} (h:w.heap[b]? = some (.cells vs ty (0,0))) :
 w.setCell ⟨b,off,none⟩ v=wset w b (.cells (vs.setIfInBounds off v) ty (0,0)):=by
 unfold World.setCell wset;congr 1;apply Array.ext_getElem?;intro i;rw [Array.getElem?_modify,Array.getElem?_setIfInBounds];have hlt:b<w.heap.size:=(Array.getElem?_eq_some_iff.1 h).1;by_cases e:b=i
 · subst e;rw [if_pos rfl,if_pos rfl,h];simp [hlt]
 · rw [if_neg e,if_neg e]
theorem wset_wset (w:World) (b:Nat) (o o':Obj):wset (wset w b o) b o'=wset w b o':=by
 unfold wset;simp
theorem wset_get {w:World} {b:Nat} {o:Obj} (h:b<w.heap.size):(wset w b o).heap[b]? = some o:=by
 unfold wset;simp [h]
theorem wset_get_ne {w:World} {b b':Nat} {o:Obj} (h:b≠b'):(wset w b o).heap[b']? = w.heap[b']? := by
 unfold wset;rw [Array.getElem?_setIfInBounds,if_neg h]
theorem wset_size (w:World) (b:Nat) (o:Obj):(wset w b o).heap.size=w.heap.size:=by unfold wset;simp
theorem wset_self {w:World} {b:Nat} {o:Obj} (h:w.heap[b]? = some o):wset w b o=w:=by
 unfold wset;have:w.heap.setIfInBounds b o=w.heap:=by
  apply Array.ext_getElem?;intro j;rw [Array.getElem?_setIfInBounds];split
  · rename_i e;subst e;split
    · rw [h]
    · rename_i hlt;rw [Array.getElem?_eq_none (by omega)]
  · rfl
 rw [this]
theorem run_store_cell {w:World} {b off:Nat} {cs:Array Value} {ty:TypeId} {v u:Value} {pre post:List Value} (h:w.heap[b]? = some (.cells cs ty (0,0))) (e:cs.toList=pre++u::post) (hl:pre.length=off) (hv:Cell v) :
 (store ⟨b,off,none⟩ v).run P w = .ok () (wset w b (.cells (cs.setIfInBounds off v) ty (0,0))):=by
 have hc:=cell_at h e hl;have hf:w.frozen? ⟨b,off,none⟩=false:=frozen_of h;have:(store ⟨b,off,none⟩ v).run P w = .ok () (w.setCell ⟨b,off,none⟩ v):=by cases v<;>first|exact hv.elim|simp [store,Sem.run,hc,hf]
 rw [this,setCell_wset h]
theorem storeCells_run:∀(ws us pre post:List Value) (w:World) (b off i:Nat) (cs:Array Value) (ty:TypeId),w.heap[b]? = some (.cells cs ty (0,0))->cs.toList=pre++us++post->pre.length=off+i ->
 us.length=ws.length->(∀v,v∈ws->Cell v)->∃cs':Array Value,cs'.toList=pre++ws++post/\(storeCells ⟨b,off,none⟩ ws i).run P w = .ok () (wset w b (.cells cs' ty (0,0)))
 | [],us,pre,post,w,b,off,i,cs,ty,h,e,_,hus,_=>by have:us=[]:=List.length_eq_zero_iff.1 hus;subst this;exact ⟨cs,by simpa using e,by rw [wset_self h];rfl⟩
 | v::ws,[],_,_,_,_,_,_,_,_,_,_,_,hus,_=>by simp at hus
 | v::ws,u::us,pre,post,w,b,off,i,cs,ty,h,e,hl,hus,hc=>by
   have e1:cs.toList=pre++u::(us++post):=by rw [e];simp
   have hlt:b<w.heap.size:=(Array.getElem?_eq_some_iff.1 h).1;have e2:(cs.setIfInBounds (off+i) v).toList=(pre++[v])++us++post:=by rw [Array.toList_setIfInBounds,e1,← hl,List.set_append_right _ _ (Nat.le_refl _),Nat.sub_self];simp
   obtain ⟨cs',g1,g2⟩:=storeCells_run ws us (pre++[v]) post (wset w b (.cells (cs.setIfInBounds (off+i) v) ty (0,0))) b off (i+1) _ ty (wset_get hlt) e2 (by simp [hl];omega) (by simpa using hus) (fun x hx=>hc x (by simp [hx]))
   refine ⟨cs',by rw [g1];simp,?_⟩
   unfold storeCells;rw [Sem.run_bind,add_addr,run_store_cell h e1 hl (hc v (by simp))]
   simp only [Result.andThen_ok];rw [g2,wset_wset]
end
end Go.WE
namespace Go.WE
open Go
open Go.RowKit (Below)
def entsRel (ν:Nu) (k:IntKind):List Int->List T->List MapEntry->Prop
 | [],[],[]=>True
 | n::ks,t::ts,e::es=>(e.key = .int k n/\k.wrap n=n)/\t.relV ν e.val/\entsRel ν k ks ts es
 | _,_,_=>False
def mpRel (ν:Nu):T->List MapEntry->Prop
 | .bad,_=>True
 | .mp k ks ts,es=>entsRel ν k ks ts es
 | _,_=>False
theorem entsRel_mono {ν ν':Nu} (hl:ν.le ν') {k:IntKind}:∀{ks:List Int} {ts:List T} {es:List MapEntry},entsRel ν k ks ts es->entsRel ν' k ks ts es
 | [],[],[],_=>trivial
 | _::_,_::_,_::_,h=>⟨h.1,T.relV_mono hl h.2.1,entsRel_mono hl h.2.2⟩
 | [],[],_::_,h=>h.elim
 | [],_::_,_,h=>h.elim
 | _::_,[],_,h=>h.elim
 | _::_,_::_,[],h=>h.elim
theorem mpRel_mono {ν ν':Nu} (hl:ν.le ν') {t:T} {es:List MapEntry} (h:mpRel ν t es):mpRel ν' t es:=by
 cases t<;>first|exact entsRel_mono hl h|exact h
theorem mpRel_not {ν:Nu} {t:T} {es:List MapEntry} (h:mpRel ν t es):notMp t=false:=by
 cases t<;>first|rfl|exact h.elim
def SeenC (ν:Nu) (w:World) (id:Nat) (b:Blk):Prop:=
 ∃r base cs ty fr pre vs post,ν id=some (r,base)/\w.heap[r]? = some (.cells cs ty fr)/\cs.toList=pre++vs++post/\pre.length=base/\b.t.rel ν vs/\(b.rw=true->base=0/\fr=(0,0))
def SeenM (ν:Nu) (w:World) (id:Nat) (b:Blk):Prop:=
 ∃r es c,ν id=some (r,0)/\w.heap[r]? = some (.map es c)/\mpRel ν b.t es.toList
def Seen (ν:Nu) (w:World) (id:Nat) (b:Blk):Prop:=SeenC ν w id b\/SeenM ν w id b
theorem Seen.cells {ν:Nu} {w:World} {id:Nat} {b:Blk} (h:Seen ν w id b) (hn:notMp b.t=true):SeenC ν w id b:=by
 rcases h with h|⟨r,es,c,_,_,h3⟩
 · exact h
 · rw [mpRel_not h3] at hn;cases hn
structure Ext (h h':H):Prop where
 lo:h'.lo=h.lo
 next:h.next≤h'.next
 rd:∀id,id∈h.rd->id∈h'.rd
 wr:∀id,id∈h.wr->id∈h'.wr
 same:∀id,id<h.lo->id ∉ h'.wr->h'.m.get id=h.m.get id
 rw:∀id b',id<h.next->h'.m.get id=some b'->∃b,h.m.get id=some b/\b.rw=b'.rw
 wrw:∀id,id∈h'.wr->id∈h.wr\/(∃b,h.m.get id=some b/\b.rw=true)\/h.next≤id
 gl:h'.gl=h.gl
 bnd:(∀id b,h.m.get id=some b->id<h.next)->∀id b,h'.m.get id=some b->id<h'.next
 wlo:(∀id,id∈h.wr->id<h.lo)->∀id,id∈h'.wr->id<h.lo
theorem Ext.refl (h:H):Ext h h:=⟨rfl,Nat.le_refl _,fun _ h=>h,fun _ h=>h,fun _ _ _=>rfl,fun _ b _ hb=>⟨b,hb,rfl⟩,fun _ h =>.inl h,rfl,fun h=>h,fun h=>h⟩
theorem Ext.trans {h h' h'':H} (a:Ext h h') (b:Ext h' h''):Ext h h'' where
 lo:=b.lo.trans a.lo
 next:=Nat.le_trans a.next b.next
 rd:=fun id hi=>b.rd id (a.rd id hi)
 wr:=fun id hi=>b.wr id (a.wr id hi)
 same:=fun id hi hn=>by rw [b.same id (by rw [a.lo];exact hi) hn,a.same id hi (fun h=>hn (b.wr id h))]
 rw:=fun id b' hi hb=>by obtain ⟨b1,h1,h2⟩:=b.rw id b' (Nat.lt_of_lt_of_le hi a.next) hb;obtain ⟨b0,h3,h4⟩:=a.rw id b1 hi h1;exact ⟨b0,h3,h4.trans h2⟩
 wrw:=fun id hi=>by
  rcases b.wrw id hi with h1|⟨b1,h1,h2⟩|h1
  · exact a.wrw id h1
  · by_cases hl:id<h.next
    · obtain ⟨b0,h3,h4⟩:=a.rw id b1 hl h1;exact .inr (.inl ⟨b0,h3,h4.trans h2⟩)
    · exact .inr (.inr (by omega))
  · exact .inr (.inr (Nat.le_trans a.next h1))
 gl:=b.gl.trans a.gl
 bnd:=fun h=>b.bnd (a.bnd h)
 wlo:=fun h id hi=>by rw [← a.lo];exact b.wlo (fun j hj=>by rw [a.lo];exact a.wlo h j hj) id hi
structure Frm (ν:Nu) (h':H) (w w':World):Prop where
 os:w'.os=w.os
 tape:w'.tape=w.tape
 output:w'.output=w.output
 size:w.heap.size≤w'.heap.size
 block:∀r,r<w.heap.size->(∀id base,ν id=some (r,base)->id<h'.lo/\id ∉ h'.wr)->w'.heap[r]? = w.heap[r]?
structure Nums (ν:Nu) (w:World) (h:H):Prop where
 lt:∀id r base,ν id=some (r,base)->r<w.heap.size
 inj:∀id b,h.m.get id=some b->b.rw=true->∀id' r base base',ν id=some (r,base)->ν id'=some (r,base')->id'=id
 fresh:∀id,h.next≤id->ν id=none
 bound:∀id b,h.m.get id=some b->id<h.next
 lo:h.lo≤h.next
 glob:∀g,g∈h.gl->ν g=some (g,0)
structure Mem (S:Nat->Prop) (ν:Nu) (w:World) (h:H):Prop where
 nums:Nums ν w h
 seen:∀id b,h.m.get id=some b->(S id\/h.lo≤id)->Seen ν w id b
structure Goes (S:Nat->Prop) (ν:Nu) (w:World) (h:H) (ν':Nu) (w':World) (h':H):Prop where
 le:ν.le ν'
 mem:Mem S ν' w' h'
 frm:Frm ν h' w w'
 new:∀id r base,ν id=none->ν' id=some (r,base)->w.heap.size≤r
 ext:Ext h h'
 old:∀id,id<h.next->ν' id=ν id
theorem Frm.refl (ν:Nu) (h:H) (w:World):Frm ν h w w:=⟨rfl,rfl,rfl,Nat.le_refl _,fun _ _ _=>rfl⟩
theorem Goes.refl {S:Nat->Prop} {ν:Nu} {w:World} {h:H} (m:Mem S ν w h):Goes S ν w h ν w h:=
 ⟨Nu.le_refl _,m,Frm.refl _ _ _,fun _ _ _ h h'=>(by rw [h] at h';cases h'),Ext.refl _,fun _ _=>rfl⟩
theorem Goes.trans {S:Nat->Prop} {ν ν' ν'':Nu} {w w' w'':World} {h h' h'':H} (a:Goes S ν w h ν' w' h') (b:Goes S ν' w' h' ν'' w'' h''):Goes S ν w h ν'' w'' h'' where
 le:=Nu.le_trans a.le b.le
 mem:=b.mem
 frm:={
  os:=b.frm.os.trans a.frm.os
  tape:=b.frm.tape.trans a.frm.tape
  output:=b.frm.output.trans a.frm.output
  size:=Nat.le_trans a.frm.size b.frm.size
  block:=fun r hr hn=>by
   rw [b.frm.block r (Nat.lt_of_lt_of_le hr a.frm.size) ?_,a.frm.block r hr ?_]
   · intro id base hi;obtain ⟨h1,h2⟩:=hn id base hi;exact ⟨by rw [← b.ext.lo];exact h1,fun h=>h2 (b.ext.wr id h)⟩
   · intro id base hi;cases hν:ν id with
     | none=>have:=a.new id r base hν hi;omega
     | some p=>
       have:=a.le id p hν;rw [hi] at this;cases this;exact hn id base hν }
 new:=fun id r base hn hi=>by
  cases hν:ν' id with
  | none=>exact Nat.le_trans a.frm.size (b.new id r base hν hi)
  | some p=>
    have:=b.le id p hν;rw [hi] at this;cases this;exact a.new id r base hn hν
 ext:=a.ext.trans b.ext
 old:=fun id hi=>(b.old id (Nat.lt_of_lt_of_le hi a.ext.next)).trans (a.old id hi)
theorem Seen.mono {ν ν':Nu} {w w':World} {id:Nat} {b:Blk} (hl:ν.le ν') (hs:Seen ν w id b) (hw:∀r base,ν id=some (r,base)->w'.heap[r]? = w.heap[r]?):Seen ν' w' id b:=by
 rcases hs with ⟨r,base,cs,ty,fr,pre,vs,post,h1,h2,h3,h4,h5,h6⟩|⟨r,es,c,h1,h2,h3⟩
 · exact .inl ⟨r,base,cs,ty,fr,pre,vs,post,hl _ _ h1,by rw [hw r base h1];exact h2,h3,h4,T.rel_mono hl h5,h6⟩
 · exact .inr ⟨r,es,c,hl _ _ h1,by rw [hw r 0 h1];exact h2,mpRel_mono hl h3⟩
theorem mem_addN {x y:Nat} {l:List Nat}:y∈addN x l↔y=x\/y∈l:=by
 unfold addN;cases h:memB x l
 · simp
 · have:x∈l:=by
    unfold memB at h;obtain ⟨z,hz,e⟩:=List.any_eq_true.1 h;rw [beq_true e];exact hz
   constructor
   · exact .inr
   · rintro (rfl|h)
     · exact this
     · exact h
theorem mem_noteB {lo x y:Nat} {l:List Nat}:y∈noteB lo x l↔(y=x/\x<lo)\/y∈l:=by
 unfold noteB;cases h:Nat.blt x lo
 · have:¬x<lo:=fun hlt=>by
    have h2:Nat.blt x lo=true:=nB hlt;rw [h] at h2;cases h2
   simp [this]
 · have:=blt_lt h;simp only [mem_addN];simp [this]
theorem see_ext (h:H) (id:Nat):Ext h (h.see id):=⟨rfl,Nat.le_refl _,fun _ hi=>mem_noteB.2 (.inr hi),fun _ hi=>hi,fun _ _ _=>rfl,fun _ b _ hb=>⟨b,hb,rfl⟩,fun _ h =>.inl h,rfl,fun h=>h,fun h=>h⟩
theorem Mem.see {S:Nat->Prop} {ν:Nu} {w:World} {h:H} (m:Mem S ν w h) (id:Nat):Goes S ν w h ν w (h.see id):=
 ⟨Nu.le_refl _,⟨⟨m.nums.lt,m.nums.inj,m.nums.fresh,m.nums.bound,m.nums.lo,m.nums.glob⟩,m.seen⟩,Frm.refl _ _ _,fun _ _ _ h h'=>(by rw [h] at h';cases h'),see_ext h id,fun _ _=>rfl⟩
theorem see_seen {S:Nat->Prop} {h:H} {id:Nat} (hS:∀i,i∈(h.see id).rd->S i):S id\/h.lo≤id:=by
 by_cases hlt:id<h.lo
 · exact .inl (hS id (mem_noteB.2 (.inl ⟨rfl,hlt⟩)))
 · exact .inr (by omega)
def upd (ν:Nu) (id:Nat) (p:Nat×Nat):Nu:=fun j=>if j=id then some p else ν j
theorem le_upd {ν:Nu} {id:Nat} {p:Nat×Nat} (h:ν id=none):ν.le (upd ν id p):=fun j c e=>by
 unfold upd;split
 · subst_vars;rw [h] at e;cases e
 · exact e
theorem heap_alloc_old {w:World} {o:Obj} {b:Nat} (h:b<w.heap.size):(w.alloc o).heap[b]? = w.heap[b]? := by
 show (w.heap.push o)[b]? = _;rw [Array.getElem?_push,if_neg (by omega)]
theorem heap_alloc_new (w:World) (o:Obj):(w.alloc o).heap[w.heap.size]? = some o:=by
 show (w.heap.push o)[w.heap.size]? = _;simp
theorem new_ext {h:H} (hlo:h.lo≤h.next) (b:Blk):Ext h (h.new b):=
 ⟨rfl,Nat.le_succ _,fun _ hi=>hi,fun _ hi=>hi,fun id hi _=>by
  show (h.m.set h.next b).get id=_;rw [Tr.get_set,if_neg (by omega)],fun id b' hi hb=>by
  replace hb:(h.m.set h.next b).get id=some b':=hb
  rw [Tr.get_set,if_neg (by omega)] at hb
  exact ⟨b',hb,rfl⟩,fun _ h =>.inl h,rfl,fun hb id b' hg=>by
  replace hg:(h.m.set h.next b).get id=some b':=hg
  rw [Tr.get_set] at hg;show id<h.next+1;split at hg
  · omega
  · have:=hb id b' hg;omega,fun h=>h⟩
theorem Mem.allocO {S:Nat->Prop} {ν:Nu} {w:World} {h:H} (m:Mem S ν w h) {t:T} {ob:Obj} (ht:Nu.le ν (upd ν h.next (w.heap.size,0))->Seen (upd ν h.next (w.heap.size,0)) (w.alloc ob) h.next ⟨true,t⟩) :
 Goes S ν w h (upd ν h.next (w.heap.size,0)) (w.alloc ob) (h.new ⟨true,t⟩):=by
 have hn:ν h.next=none:=m.nums.fresh _ (Nat.le_refl _);have hle:=le_upd (p:=(w.heap.size,0)) hn;have hget:∀id,(h.new ⟨true,t⟩).m.get id=if h.next=id then some ⟨true,t⟩ else h.m.get id:=fun id=>Tr.get_set _ _ _ _
 refine ⟨hle,⟨⟨?_,?_,?_,?_,?_,fun g hg=>hle _ _ (m.nums.glob g hg)⟩,?_⟩,⟨rfl,rfl,rfl,by simp [World.size_alloc],?_⟩,?_,new_ext m.nums.lo _,?_⟩
 · intro id r base hi;simp only [World.size_alloc];unfold upd at hi;split at hi
   · simp at hi;omega
   · have:=m.nums.lt id r base hi;omega
 · intro id b hb hrw id' r base base' h1 h2;rw [hget] at hb;unfold upd at h1 h2;split at h1<;>split at h2
   · omega
   · simp at h1;have:=m.nums.lt _ _ _ h2;omega
   · simp at h2;have:=m.nums.lt _ _ _ h1;omega
   · rename_i e1 e2;rw [if_neg (fun e=>e1 e.symm)] at hb;exact m.nums.inj id b hb hrw id' r base base' h1 h2
 · intro id hi;have hi:h.next+1≤id:=hi;unfold upd;rw [if_neg (by omega)]
   exact m.nums.fresh id (by omega)
 · intro id b hb;show id<h.next+1;rw [hget] at hb;split at hb
   · omega
   · have:=m.nums.bound id b hb;omega
 · have:=m.nums.lo;show h.lo≤h.next+1;omega
 · intro id b hb hS;rw [hget] at hb;split at hb
   · rename_i e;subst e;simp at hb;subst hb;exact ht hle
   · exact (m.seen id b hb hS).mono hle fun r base hi=>heap_alloc_old (m.nums.lt _ _ _ hi)
 · intro r hr _;exact heap_alloc_old hr
 · intro id r base hn' hi;unfold upd at hi;split at hi
   · simp at hi;omega
   · rw [hn'] at hi;cases hi
 · intro id hi;unfold upd;rw [if_neg (by omega)]
theorem Mem.alloc {S:Nat->Prop} {ν:Nu} {w:World} {h:H} (m:Mem S ν w h) {t:T} {vs:Array Value} (ty:TypeId) (ht:t.rel ν vs.toList) :
 Goes S ν w h (upd ν h.next (w.heap.size,0)) (w.alloc (.cells vs ty)) (h.new ⟨true,t⟩):=
 m.allocO fun hle =>.inl ⟨w.heap.size,0,vs,ty,(0,0),[],vs.toList,[],by simp [upd],heap_alloc_new _ _,by simp,rfl,T.rel_mono hle ht,fun _=>⟨rfl,rfl⟩⟩
theorem put_ext {h:H} {id:Nat} {b b0:Blk} (h0:h.m.get id=some b0) (h1:b0.rw=true) (h2:b.rw=true):Ext h (h.put id b):=
 ⟨rfl,Nat.le_refl _,fun _ hi=>hi,fun _ hi=>mem_noteB.2 (.inr hi),fun j hj hn=>by
  show (h.m.set id b).get j=_;rw [Tr.get_set,if_neg];rintro rfl;exact hn (mem_noteB.2 (.inl ⟨rfl,hj⟩)),fun j b' _ hb=>by
  replace hb:(h.m.set id b).get j=some b':=hb
  rw [Tr.get_set] at hb;split at hb
  · rename_i e;subst e;cases hb;exact ⟨b0,h0,h1.trans h2.symm⟩
  · exact ⟨b',hb,rfl⟩,fun j hj=>by
  rcases mem_noteB.1 hj with ⟨rfl,_⟩|hj
  · exact .inr (.inl ⟨b0,h0,h1⟩)
  · exact .inl hj,rfl,fun hb j b' hg=>by
  replace hg:(h.m.set id b).get j=some b':=hg
  rw [Tr.get_set] at hg;split at hg
  · rename_i e;subst e;exact hb id b0 h0
  · exact hb j b' hg,fun h j hj=>by
  rcases mem_noteB.1 hj with ⟨rfl,h3⟩|h3
  · exact h3
  · exact h j h3⟩
theorem Mem.storeO {S:Nat->Prop} {ν:Nu} {w:World} {h:H} (m:Mem S ν w h) {id r:Nat} {t':T} {b:Blk} {ob:Obj} (hb:h.m.get id=some b) (hrw:b.rw=true) (hν:ν id=some (r,0))
 (ht:(wset w r ob).heap[r]? = some ob->Seen ν (wset w r ob) id ⟨true,t'⟩):Goes S ν w h ν (wset w r ob) (h.put id ⟨true,t'⟩):=by
 have hget:∀j,(h.put id ⟨true,t'⟩).m.get j=if id=j then some ⟨true,t'⟩ else h.m.get j:=fun j=>Tr.get_set _ _ _ _
 refine ⟨Nu.le_refl _,⟨⟨?_,?_,m.nums.fresh,?_,m.nums.lo,m.nums.glob⟩,?_⟩,⟨rfl,rfl,rfl,by rw [wset_size];exact Nat.le_refl _,?_⟩,fun _ _ _ h h'=>(by rw [h] at h';cases h'),put_ext hb hrw rfl,fun _ _=>rfl⟩
 · intro j r' base hj;rw [wset_size];exact m.nums.lt j r' base hj
 · intro j b' hb' hrw' j' r' base base' h1 h2;rw [hget] at hb';split at hb'
   · rename_i e;subst e;exact m.nums.inj id b hb hrw j' r' base base' h1 h2
   · exact m.nums.inj j b' hb' hrw' j' r' base base' h1 h2
 · intro j b' hb';rw [hget] at hb';split at hb'
   · rename_i e;subst e;exact m.nums.bound id b hb
   · exact m.nums.bound j b' hb'
 · intro j b' hb' hS;rw [hget] at hb';split at hb'
   · rename_i e;subst e;simp at hb';subst hb';exact ht (wset_get (m.nums.lt _ _ _ hν))
   · rename_i hne;refine (m.seen j b' hb' hS).mono (Nu.le_refl _) fun r' base hj=>wset_get_ne ?_;rintro rfl;exact hne (m.nums.inj id b hb hrw j r 0 base hν hj).symm
 · intro r' hr' hn;refine wset_get_ne ?_;rintro rfl;have:=hn id 0 hν;exact this.2 (mem_noteB.2 (.inl ⟨rfl,this.1⟩))
theorem Mem.store {S:Nat->Prop} {ν:Nu} {w:World} {h:H} (m:Mem S ν w h) {id r:Nat} {t':T} {b:Blk} {cs:Array Value} {ty:TypeId} (hb:h.m.get id=some b) (hrw:b.rw=true) (hν:ν id=some (r,0))
 (ht:∃vs post,cs.toList=vs++post/\t'.rel ν vs):Goes S ν w h ν (wset w r (.cells cs ty (0,0))) (h.put id ⟨true,t'⟩):=
 m.storeO hb hrw hν fun hg=>by obtain ⟨vs,post,e1,e2⟩:=ht;exact .inl ⟨r,0,cs,ty,(0,0),[],vs,post,hν,hg,by simpa using e1,rfl,e2,fun _=>⟨rfl,rfl⟩⟩
end Go.WE
namespace Go.WE
open Go
theorem ofAtom_rel (ν:Nu) (v:Value):(ofAtom v).rel ν v:=by
 unfold ofAtom;split
 · split
   · simp only [A.rel];exact ⟨trivial,by assumption⟩
   · simp only [A.rel]
 · exact ofDec_rel _ _
 · simp only [A.rel]
 · simp only [A.rel]
 · simp only [A.rel]
 · simp only [A.rel]
 · simp only [A.rel]
 · simp only [A.rel]
def holds (tmps:Array Value):Cond->Prop
 | none=>True
 | some (s,want)=>tmps.getD s undef = .bool want
def Slots (ν:Nu) (tmps:Array Value) (gt:Nat->Ent) (l:List Operand):Prop:=
 ∀s,.tmp s∈l->holds tmps (gt s).c->(gt s).v.rel ν (tmps.getD s undef)
theorem Slots.sub {ν:Nu} {tmps:Array Value} {gt:Nat->Ent} {l l':List Operand} (h:Slots ν tmps gt l) (hs:∀x∈l',x∈l):Slots ν tmps gt l':=
 fun s hm=>h s (hs _ hm)
def Glob (ν:Nu) (ops:List Operand):Prop:=∀g,.global g∈ops->ν g=some (g,0)
theorem opV_sound {ν:Nu} {a:Act} {G X:Cond} {gt:Nat->Ent} {x:Operand} {v:V} (h:opV G X gt x=some v) (hG:holds a.tmps G) (hX:holds a.tmps X)
 (hs:Slots ν a.tmps gt [x]) (hg:Glob ν [x]):v.rel ν (a.eval x):=by
 cases x with
 | tmp s=>
   simp only [opV] at h;split at h
   · rename_i hc;simp at h;subst h;exact hs s (by simp) (by rw [hc];trivial)
   · rename_i c hc;split at h
     · rename_i ho;simp at h;subst h;refine hs s (by simp) ?_
       rw [hc];simp only [Bool.or_eq_true] at ho;rcases ho with ho|ho
       · rw [← condEq_some ho];exact hG
       · rw [← condEq_some ho];exact hX
     · cases h
 | const v=>simp only [opV] at h;simp at h;subst h;exact ofAtom_rel ν v
 | global g=>
   simp only [opV] at h;simp at h;subst h;show (A.ptr g []).rel ν _;simp only [A.rel];exact ⟨g,0,hg g (by simp),rfl⟩
 | func f=>
   simp only [opV] at h;simp at h;subst h;show (A.fn f []).rel ν _;simp only [A.rel,relL];exact ⟨#[],rfl,rfl⟩
theorem bind_some {α β:Type} {x:Option α} {f:α->Option β} {y:β} (h:x.bind f=some y):∃z,x=some z/\f z=some y:=by
 cases x with
 | none=>cases h
 | some z=>exact ⟨z,rfl,h⟩
theorem V.one_eq {v:V} {x:A} (h:v.one=some x):v = .t (.a x):=by
 unfold V.one at h;split at h
 · simp at h;subst h;rfl
 · cases h
theorem opA_sound {ν:Nu} {a:Act} {G:Cond} {gt:Nat->Ent} {x:Operand} {v:A} (h:opA G gt x=some v) (hG:holds a.tmps G) (hs:Slots ν a.tmps gt [x]) (hg:Glob ν [x]):v.rel ν (a.eval x):=by
 obtain ⟨u,h1,h2⟩:=bind_some h;have:=V.one_eq h2;subst this;exact opV_sound (X:=none) h1 hG trivial hs hg
theorem opVs_sound {ν:Nu} {a:Act} {G:Cond} {gt:Nat->Ent} (hG:holds a.tmps G):∀{xs:List Operand} {vs:List V},opVs G gt xs=some vs ->
 Slots ν a.tmps gt xs->Glob ν xs->relV ν vs (xs.map a.eval)
 | [],vs,h,_,_=>by simp [opVs] at h;subst h;trivial
 | x::xs,vs,h,hs,hg=>by
   simp only [opVs] at h;split at h<;>simp at h
   rename_i v vs' h1 h2;subst h;exact ⟨opV_sound h1 hG (X:=none) trivial (fun s hm=>hs s (by simp at hm;subst hm;simp)) (fun g hm=>hg g (by simp at hm;subst hm;simp)),
    opVs_sound hG h2 (fun s hm=>hs s (by simp [hm])) (fun g hm=>hg g (by simp [hm]))⟩
theorem opAs_sound {ν:Nu} {a:Act} {G:Cond} {gt:Nat->Ent} (hG:holds a.tmps G):∀{xs:List Operand} {vs:List A},opAs G gt xs=some vs ->
 Slots ν a.tmps gt xs->Glob ν xs->relL ν vs (xs.map a.eval)
 | [],vs,h,_,_=>by simp [opAs] at h;subst h;simp [relL]
 | x::xs,vs,h,hs,hg=>by
   simp only [opAs] at h;split at h<;>simp at h
   rename_i v vs' h1 h2;subst h;simp only [relL,List.map_cons];exact ⟨_,_,rfl,opA_sound h1 hG (fun s hm=>hs s (by simp at hm;subst hm;simp)) (fun g hm=>hg g (by simp at hm;subst hm;simp)),
    opAs_sound hG h2 (fun s hm=>hs s (by simp [hm])) (fun g hm=>hg g (by simp [hm]))⟩
section
variable {P:Program} {w:World} {ν:Nu}
theorem run_underlying' {t:TypeId} {d:TypeDesc} (h:P.underlying t=some d):(underlying t).run P w = .ok d w:=by
 simp [underlying,h]
theorem run_sizeOf' {t:TypeId} {n:Nat} (h:sizeT P t=some n):(Go.sizeOf t).run P w = .ok n w:=by
 unfold sizeT at h;cases hi:P.info? t with
 | none=>simp [hi] at h
 | some i=>simp [hi] at h;simp [Go.sizeOf,typeInfo,hi,h]
theorem run_isAgg' {t:TypeId} {x:Bool} (h:isAggT P t=some x):(isAgg t).run P w = .ok x w:=by
 unfold isAggT at h;split at h<;>simp at h<;>subst h
 · rename_i e;simp [isAgg,run_underlying' e]
 · rename_i e;simp [isAgg,run_underlying' e]
 · rename_i d h1 h2 e;rw [isAgg,Sem.run_bind,run_underlying' e];simp only [Result.andThen_ok];cases d<;>first|rfl|exact absurd rfl (h1 _)|exact absurd rfl (h2 _ _)
theorem A.solid_cell {a:A} {v:Value} (hs:a.solid=true) (h:a.rel ν v):Cell v:=by
 cases a<;>simp [A.solid] at hs<;>simp only [A.rel] at h
 case lit=>obtain ⟨rfl,_⟩:=h;trivial
 case i=>subst h;trivial
 case tt=>subst h;trivial
 case ff=>subst h;trivial
 case b=>subst h;trivial
 case nilp=>subst h;trivial
 case ptr=>obtain ⟨_,_,_,rfl⟩:=h;trivial
 case nils=>subst h;trivial
 case sl=>obtain ⟨_,_,_,_,_,rfl,_⟩:=h;trivial
 case nilf=>subst h;trivial
 case fn=>obtain ⟨_,rfl,_⟩:=h;trivial
 case iface=>obtain ⟨_,rfl,_⟩:=h;trivial
 case mapp=>obtain ⟨_,_,rfl⟩:=h;trivial
 case raw u=>subst h;cases v<;>first|trivial|(exfalso;simp at hs)
theorem cells_of {v:Value} (h:Cell v):v.cells = #[v]:=by cases v<;>first|rfl|exact h.elim
theorem V.cells_rel {v:V} {t:T} {u:Value} (h:v.cells=some t) (hr:v.rel ν u) (hb:t ≠ .bad):t.rel ν u.cells.toList:=by
 unfold V.cells at h;split at h
 · rename_i x;split at h
   · rename_i hs;simp at h;subst h;have hr:x.rel ν u:=hr;have hc:=A.solid_cell hs hr;rw [cells_of hc];simp only [T.rel];exact ⟨u,rfl,hr,hc⟩
   · cases h
 · rename_i t' hna;have hna':∀y,t' = .a y->False:=by
    intro y e;subst e;simp at hna
   simp at h;subst h;have hr:t'.relV ν u:=hr;cases t' with
   | a y=>exact (hna' y rfl).elim
   | bad=>exact absurd rfl hb
   | st fs=>obtain ⟨vs,rfl,h2⟩:=hr;exact h2
   | lst s ts=>obtain ⟨vs,rfl,h2⟩:=hr;exact h2
   | arr s n sh=>obtain ⟨vs,rfl,h2⟩:=hr;exact h2
   | mp k ks ts=>obtain ⟨vs,rfl,h2⟩:=hr;exact h2
 · cases h
theorem size_ne_bad {t:T} {n:Nat} (h:t.size=some n):t ≠ .bad:=by
 rintro rfl;simp only [T.size] at h;cases h
theorem fitsT_run {t:TypeId} {u:T} {us pre post:List Value} {r:Nat} {cs:Array Value} {ty:TypeId} {fr:Nat×Nat} (hf:fitsT P t u=true) (hu:u.rel ν us)
 (hh:w.heap[r]? = some (.cells cs ty fr)) (e:cs.toList=pre++us++post) {off:Nat} (ho:pre.length=off) :
 ∃v,(loadVar t ⟨r,off,none⟩).run P w = .ok v w/\u.relV ν v:=by
 unfold fitsT at hf;split at hf
 · rename_i ha;have key:optEqN u.size (sizeT P t)=true->(∀x,u ≠ .a x)->u ≠ .bad->∃v,(loadVar t ⟨r,off,none⟩).run P w = .ok v w/\u.relV ν v:=by
    intro hs h1 h2;obtain ⟨e1,n,hn⟩:=optEqN_eq hs;have hl:=size_length hn hu;refine ⟨.agg us.toArray,?_,?_⟩
    · rw [loadVar,Sem.run_bind,run_isAgg' ha];simp only [Result.andThen_ok,if_true];rw [Sem.run_bind,run_sizeOf' (e1▸hn)];simp only [Result.andThen_ok];rw [Sem.run_bind,← hl,loadCells_run hh e ho];rfl
    · cases u
      case a x=>exact absurd rfl (h1 x)
      case bad=>exact absurd rfl h2
      all_goals exact ⟨_,rfl,by simpa using hu⟩
   split at hf
   · cases hf
   · cases hf
   · rename_i h1 h2;exact key hf h1 h2
 · rename_i ha;split at hf
   · rename_i x;simp only [T.rel] at hu;obtain ⟨v,rfl,h2,_⟩:=hu;refine ⟨v,?_,h2⟩;rw [loadVar,Sem.run_bind,run_isAgg' ha];simp only [Result.andThen_ok,Bool.false_eq_true,if_false];exact run_load_cell (cell_at hh (post:=post) (by rw [e];simp) ho)
   · cases hf
 · cases hf
theorem fits_not {t:TypeId} {u b:T} {p:List Step} (hf:fitsT P t u=true) (hu:subT p b=some u):notMp b=true:=by
 cases b with
 | bad=>cases p with
   | nil=>simp only [subT,oI] at hu;subst hu;unfold fitsT at hf;split at hf<;>cases hf
   | cons s p=>cases s<;>simp [subT] at hu
 | mp k ks ts=>cases p with
   | nil=>
     simp only [subT,oI] at hu;subst hu;unfold fitsT at hf;split at hf
     · simp only [T.size,optEqN] at hf;cases hf
     · cases hf
     · cases hf
   | cons s p=>cases s<;>simp [subT] at hu
 | _=>rfl
theorem upd_not {v b t':T} {p:List Step} (hu:updT v p b=some t'):notMp b=true:=by
 cases b with
 | bad=>cases p with
   | nil=>simp [updT,T.size,optEqN] at hu
   | cons s p=>cases s<;>simp [updT] at hu
 | mp k ks ts=>cases p with
   | nil=>simp [updT,T.size,optEqN] at hu
   | cons s p=>cases s<;>simp [updT] at hu
 | _=>rfl
theorem evalLoad_sound {S:Nat->Prop} {h:H} {t:TypeId} {x:A} {vx:Value} {r:OpR} (he:evalLoad P h t x=some r) (hok:okB r.ok=true) (m:Mem S ν w h) (hS:∀i,i∈r.h.rd->S i)
 (hx:x.rel ν vx):∃v,(Instr.loadAt t vx).run P w = .ok v w/\r.v.rel ν v/\Goes S ν w h ν w r.h:=by
 unfold evalLoad at he;split at he
 · rename_i id p;split at he
   · rename_i b hb;split at he
     · rename_i u hu;split at he
       · rename_i hf;simp only [oI] at he;subst he;obtain ⟨q,base,cs,ty,fr,pre,vs,post,h1,h2,h3,h4,h5,h6⟩:=(m.seen id b hb (see_seen hS)).cells (fits_not hf hu);simp only [A.rel] at hx;obtain ⟨q',base',e1,rfl⟩:=hx;rw [h1] at e1;cases e1;obtain ⟨a,us,z,rfl,g1,g2⟩:=subT_rel hu hok h5;obtain ⟨v,k1,k2⟩:=fitsT_run (P:=P) (w:=w) (pre:=pre++a) (post:=z++post) hf g2 h2 (by rw [h3];simp) (off:=base+pathOff p) (by rw [List.length_append,h4,g1])
         refine ⟨v,?_,k2,m.see id⟩;rw [Instr.loadAt,Instr.sureAddr,Sem.run_bind];simp only [Sem.run_pure,Result.andThen_ok];exact k1
       · cases he
     · cases he
   · cases he
 · cases he
theorem evalStore_sound {S:Nat->Prop} {h:H} {t:TypeId} {x:A} {y:V} {vx vy:Value} {r:OpR} (he:evalStore P h t x y=some r) (hok:okB r.ok=true) (m:Mem S ν w h) (hS:∀i,i∈r.h.rd->S i)
 (hx:x.rel ν vx) (hy:y.rel ν vy):∃w',(Instr.storeAt t vx vy).run P w = .ok () w'/\r.v = .t (.a .undef)/\Goes S ν w h ν w' r.h:=by
 unfold evalStore at he;split at he
 · rename_i id p;split at he
   · rename_i b v hb hv;split at he
     · rename_i hc;simp only [bA] at hc;obtain ⟨hrw,hs⟩:=hc;split at he
       · rename_i t' ht';simp only [oI] at he;subst he;obtain ⟨e1,n,hn⟩:=optEqN_eq hs;have hvr:=V.cells_rel hv hy (size_ne_bad hn);obtain ⟨q,base,cs,ty,fr,pre,vs,post,h1,h2,h3,h4,h5,h6⟩:=(m.seen id b hb (see_seen (h:=h) hS)).cells (upd_not ht');obtain ⟨rfl,rfl⟩:=h6 hrw;have hpre:pre=[]:=List.length_eq_zero_iff.1 h4;subst hpre;simp only [A.rel] at hx;obtain ⟨q',base',e2,rfl⟩:=hx;rw [h1] at e2;cases e2;obtain ⟨a,us,z,rfl,g1,g2,g3⟩:=updT_rel hvr ht' hok h5;obtain ⟨cs',k1,k2⟩:=storeCells_run (P:=P) vy.cells.toList us a (z++post) w q (pathOff p) 0 cs ty h2 (by rw [h3];simp) (by omega) g2 (rel_cells hvr)
         refine ⟨_,?_,rfl,(m.see id).trans ((m.see id).mem.store (id:=id) (b:=b) hb hrw h1 (cs:=cs') (ty:=ty) ⟨a++vy.cells.toList++z,post,by rw [k1];simp,g3⟩)⟩
         rw [Instr.storeAt,Instr.sureAddr,Sem.run_bind];simp only [Sem.run_pure,Result.andThen_ok];rw [storeVar,Sem.run_bind,run_sizeOf' (e1▸hn)];simp only [Result.andThen_ok];have hsz:vy.cells.size=n:=by rw [← size_length hn hvr];simp
         rw [if_neg (by simp [hsz])]
         simp only [Nat.zero_add] at k2 ⊢;exact k2
       · cases he
     · cases he
   · cases he
 · cases he
end
end Go.WE
end
