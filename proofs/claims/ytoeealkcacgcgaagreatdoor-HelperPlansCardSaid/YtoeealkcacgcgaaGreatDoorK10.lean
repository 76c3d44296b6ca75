/- A part of a proof of the helpers' law; no condition of its own. -/
import Derived.LoopN
import Derived.Defers
import Derived.CallsIn
import Derived.TacticsIn
import Derived.RangeFuncCalls
import Derived.Test.YtoeealkcacgcgaaGreatDoorRows
import Derived.RangeFuncFrom
import Derived.RangeFuncBox
import Derived.RangeFuncLeaves
import Derived.Shelf.Abstract
import Derived.WalkKit
import Derived.OwnWalkIn
import Derived.TacticsInMore
import Derived.LoopNIn
import Derived.LoopIn
import Derived.Test.YtoeealkcacgcgaaGreatDoorK09
set_option linter.unusedVariables false
set_option maxRecDepth 100000
noncomputable section
namespace Go
def Code.sA:Code->Code
 | .seq a _=>a
 | _ =>.skip
def Code.sB:Code->Code
 | .seq _ b=>b
 | _ =>.skip
def Code.inn:Code->Code
 | .block _ c=>c
 | .loop c=>c
 | _ =>.skip
end Go
namespace Go.WE
open Go
open Go.RowKit (Below)
def slotsT:List (Nat×V)->Tr Ent
 | [] =>.nil
 | (t,v)::r=>(slotsT r).set t ⟨none,v⟩
def stOf (l:List (Nat×V)) (h:H):St:=⟨slotsT l,[],[],h.mark,.tt,[]⟩
structure Stand (fp:Fp) (ν:Nu) (h:H) (l:List (Nat×V)) (a:Act) (w:World):Prop where
 mem:Mem (fun _=>True) ν w h
 slots:∀t v,(t,v)∈l->v.rel ν (a.tmps.getD t undef)
 size:a.tmps.size=fp.nt
 defers:a.defers=[]
theorem get_slotsT:∀(l:List (Nat×V)) (t:Nat),varsGet (slotsT l) t=⟨none,.t (.a .poison)⟩\/∃v,(t,v)∈l/\varsGet (slotsT l) t=⟨none,v⟩
 | [],t =>.inl (nil_get t)
 | (s,v)::r,t=>by
   have h:varsGet (slotsT ((s,v)::r)) t=if s=t then ⟨none,v⟩ else varsGet (slotsT r) t:=by
    show varsGet ((slotsT r).set s ⟨none,v⟩) t=_;unfold varsGet;rw [Tr.get_set];by_cases e:s=t
    · rw [if_pos e,if_pos e]
    · rw [if_neg e,if_neg e]
   rw [h];split
   · rename_i e;subst e;exact .inr ⟨v,.head _,rfl⟩
   · rcases get_slotsT r t with h|⟨v',h1,h2⟩
     · exact .inl h
     · exact .inr ⟨v',.tail _ h1,h2⟩
theorem Stand.crel {P:Program} {fp:Fp} {ν:Nu} {h:H} {l:List (Nat×V)} {a:Act} {w:World} (hs:Stand fp ν h l a w):CRel P fp (markS (fun _=>True) h) (stOf l h) ν a w:=by
 have hpoison:∀t,EntOK ν a.tmps t ⟨none,.t (.a .poison)⟩:=fun t=>⟨fun _=>by simp [V.rel,T.relV,A.rel],fun hno=>absurd trivial hno⟩
 refine ⟨hs.mem.mark,fun t => ?_,fun t => ?_,hs.size,?_⟩
 · cases hk:bitB fp.km t
   · rw [get_false hk];exact hpoison t
   · rw [get_true hk];show EntOK ν a.tmps t (varsGet (slotsT l) t);rcases get_slotsT l t with h|⟨v,h1,h2⟩
     · rw [h];exact hpoison t
     · rw [h2];exact ⟨fun _=>hs.slots t v h1,fun hno=>absurd trivial hno⟩
 · show (varsGet (slotsT l) t).c=none;rcases get_slotsT l t with h|⟨v,h1,h2⟩
   · rw [h]
   · rw [h2]
 · show Dfs P ν [] a.defers;rw [hs.defers];trivial
theorem phase {cx:Cx} {Γ:Gam} (X:CxOK cx Γ) {fuel n:Nat} {fp:Fp} (hlam:fp.lam=fun _ _=>none) {c:Code} {l:List (Nat×V)} {h:H} {e:Ex} {s':St}
 (hp:(evalC cx (evalF cx Γ fuel n) fp fuel c (stOf l h)).pick=some (e,s')) (hok:okB s'.ok=true) (hgl:∀g,g∈codeGl c []->g∈h.gl) {ν:Nu} {a:Act} {w:World} {Q:Exit->Act->World->Prop} (hs:Stand fp ν h l a w)
 (hQ:∀ν' a' w' x,CRel cx.P fp (markS (fun _=>True) h) s' ν' a' w'->Goes (markS (fun _=>True) h) ν w h.mark ν' w' s'.h->e.rel ν' x->Q x a' w'):c.wp cx.P Q a w:=
 (evalC_sound X.eq (evalF_sound X.eq X.gam X.dfr X.lam X.ent n) (c0:=c) (fun id d s o h _=>by rw [hlam] at h;cases h) fuel c (stOf l h) (fun _ _ h=>h)).run e s' hp hok _ ν a w Q
   (fun _ _ =>.inl trivial) (fun _ _ =>.inl trivial) (CodeGl.mono (fun g hg=>hgl g hg) (codeGl_spec c []).2) hs.crel (fun ν' a' w' x h1 h2 h3=>hQ ν' a' w' x h1 h2 h3)
theorem plainA_old {ν ν':Nu} {n:Nat} (ho:∀id,id<n->ν' id=ν id):∀{x:A} {v:Value},plainA n x=true->x.rel ν' v->x.rel ν v:=by
 intro x v hp hx;cases x with
 | ptr id p=>
   simp only [A.rel] at hx ⊢;simp only [plainA] at hp;obtain ⟨b,base,h1,h2⟩:=hx;exact ⟨b,base,(ho id (by simpa using hp))▸h1,h2⟩
 | sl id p s st len cap=>
   simp only [A.rel] at hx ⊢;simp only [plainA] at hp;obtain ⟨b,base,o,c,h1,h2⟩:=hx;exact ⟨b,base,o,c,(ho id (by simpa using hp))▸h1,h2⟩
 | fn f caps=>
   cases caps with
   | nil=>simpa only [A.rel,relL] using hx
   | cons _ _=>simp [plainA] at hp
 | iface t x=>simp [plainA] at hp
 | mapp id=>
   simp only [A.rel] at hx ⊢;simp only [plainA] at hp;obtain ⟨r,h1,h2⟩:=hx;exact ⟨r,(ho id (by simpa using hp))▸h1,h2⟩
 | poison=>simp only [A.rel]
 | _=>simpa only [A.rel] using hx
def plainS (n:Nat):V->Bool
 | .t (.a x)=>plainA n x
 | v=>v.free
theorem plainS_old {ν ν':Nu} {n:Nat} (ho:∀id,id<n->ν' id=ν id) {v:V} {u:Value} (hp:plainS n v=true) (hx:v.rel ν' u):v.rel ν u:=by
 unfold plainS at hp;split at hp
 · exact plainA_old ho hp hx
 · exact V.rel_free hp hx
def St.vals (km:Nat) (s:St):List Nat->Option (List (Nat×V))
 | []=>some []
 | t::ts=>match s.get km t with
   | ⟨none,v⟩=>match s.vals km ts with
     | some l=>some ((t,v)::l)
     | none=>none
   | _=>none
theorem vals_mem {km:Nat} {s:St}:∀{ts:List Nat} {l:List (Nat×V)},s.vals km ts=some l->∀t v,(t,v)∈l->s.get km t=⟨none,v⟩
 | [],l,h,t,v,hm=>by simp only [St.vals,oI] at h;subst h;cases hm
 | t0::ts,l,h,t,v,hm=>by
   unfold St.vals at h;split at h
   · rename_i v0 hg;split at h
     · rename_i l' hl;simp only [oI] at h;subst h;cases hm with
       | head=>exact hg
       | tail _ hm=>exact vals_mem hl t v hm
     · cases h
   · cases h
structure EndR where
 e:Ex
 ok:A
 l:List (Nat×V)
def endOf (km:Nat) (ts:List Nat) (p:Option (Ex×St)):Option EndR:=match p with
 | some (e,s)=>match s.vals km ts,s.h.wr,s.defs with
   | some l,[],[]=>some ⟨e,s.ok,l⟩
   | _,_,_=>none
 | none=>none
theorem endOf_some {km:Nat} {ts:List Nat} {p:Option (Ex×St)} {r:EndR} (h:endOf km ts p=some r):∃s,p=some (r.e,s)/\s.ok=r.ok/\s.vals km ts=some r.l/\s.h.wr=[]/\s.defs=[]:=by
 unfold endOf at h;split at h
 · rename_i e s;split at h
   · rename_i l h1 h2 h3;simp only [oI] at h;subst h;exact ⟨s,rfl,rfl,h1,h2,h3⟩
   · cases h
 · cases h
theorem goes_below {S:Nat->Prop} {ν ν':Nu} {w w':World} {h h':H} (hw:h'.wr=[]) (hm:Mem (fun _=>True) ν w h) (g:Goes S ν w h.mark ν' w' h'):Below w.heap.size w w':=by
 refine ⟨g.frm.os,g.frm.tape,g.frm.output,g.frm.size,fun r hr=>g.frm.block r hr fun id base hb=>⟨?_,by rw [hw];exact fun h=>by cases h⟩⟩
 rw [g.ext.lo];show id<h.next;refine Classical.byContradiction fun hge => ?_;rw [hm.nums.fresh id (by omega)] at hb
 cases hb
theorem Mem.after {ν:Nu} {w w':World} {h:H} (hm:Mem (fun _=>True) ν w h) (hb:Below w.heap.size w w'):Mem (fun _=>True) ν w' h:=
 ⟨⟨fun id r base h=>Nat.lt_of_lt_of_le (hm.nums.lt id r base h) hb.size,hm.nums.inj,hm.nums.fresh,hm.nums.bound,hm.nums.lo,hm.nums.glob⟩,
  fun id b h1 h2=>(hm.seen id b h1 h2).mono (Nu.le_refl _) (fun r base h3=>hb.block r (hm.nums.lt id r base h3))⟩
theorem phase_end {cx:Cx} {Γ:Gam} (X:CxOK cx Γ) {fuel n:Nat} {fp:Fp} (hlam:fp.lam=fun _ _=>none) {c:Code} {l:List (Nat×V)} {h:H} {ts:List Nat} {r:EndR}
 (hp:endOf fp.km ts (evalC cx (evalF cx Γ fuel n) fp fuel c (stOf l h)).pick=some r) (hok:okB r.ok=true) (hpl:(r.l.all fun p=>plainS h.next p.2)=true) (hgl:∀g,g∈codeGl c []->g∈h.gl)
 {ν:Nu} {a:Act} {w:World} {Q:Exit->Act->World->Prop} (hs:Stand fp ν h l a w)
 (hQ:∀ν' a' w' x,Stand fp ν h r.l a' w'->Below w.heap.size w w'->r.e.rel ν' x->Q x a' w'):c.wp cx.P Q a w:=by
 obtain ⟨s,h1,h2,h3,h4,h5⟩:=endOf_some hp;refine phase X hlam h1 (by rw [h2];exact hok) hgl hs fun ν' a' w' x hc hg hx => ?_
 have hb:=goes_below h4 hs.mem hg;refine hQ ν' a' w' x ⟨hs.mem.after hb,fun t v htv => ?_,hc.size,?_⟩ hb hx
 · have h6:=(hc.slots t).1;rw [vals_mem h3 t v htv] at h6;have h7:=List.all_eq_true.1 hpl _ htv;exact plainS_old (fun id hid=>hg.old id hid) h7 (h6 trivial)
 · have:=hc.defers;rw [h5] at this;cases hd:a'.defers with
   | nil=>rfl
   | cons _ _=>rw [hd] at this;exact this.elim
theorem calls_phases {P:Program} {f:FuncId} {fn:Func} {c:Code} {w:World} {vs:Array Value} {Q:Ending->World->Prop} (hf:P.funcs[f]? = some fn) (hc:fn.body=some c)
 (h:c.wp P (bodyPostD P fn Q) { tmps:=vs++Array.replicate (fn.ntmps-vs.size) undef,defers:=[] } w):Calls P f vs w Q:=calls_of_wp_defers hf hc h
theorem end_ret {P:Program} {fn:Func} {t:Nat} {a:Act} {w:World} {u:Value} {Q:Ending->World->Prop} {x:Exit} (hr:fn.results = #[.tmp t]) (hx:x = .normal\/x = .ret) (hd:a.defers=[]) (hu:a.tmps.getD t undef=u) (hQ:Q (.returned u) w) :
 bodyPostD P fn Q x a w:=by
 subst hu;have hl:Leaves P fn a.tmps Q a.defers .returning w:=by rw [hd];refine ⟨a.tmps.getD t undef,?_,hQ⟩;simp [results,hr]
 rcases hx with rfl|rfl<;>exact hl
def Out.cnd:Out->Option Bool
 | .node y _ _=>some y
 | _=>none
def Out.at (b:Bool):Out->Option (Ex×St)
 | .node _ x y=>(bif b then x else y).pick
 | _=>none
theorem Out.at_pick {o:Out} {b:Bool} (h:o.cnd=some b):o.pick=o.at b:=by
 cases o with
 | node y x z=>
   simp only [Out.cnd,oI] at h;subst h;cases y<;>rfl
 | _=>simp [Out.cnd] at h
theorem phase_way {cx:Cx} {Γ:Gam} (X:CxOK cx Γ) {fuel n:Nat} {fp:Fp} (hlam:fp.lam=fun _ _=>none) {c:Code} {l:List (Nat×V)} {h:H} {ts:List Nat} {r:EndR} {b:Bool}
 (hc:(evalC cx (evalF cx Γ fuel n) fp fuel c (stOf l h)).cnd=some b) (hp:endOf fp.km ts ((evalC cx (evalF cx Γ fuel n) fp fuel c (stOf l h)).at b)=some r) (hok:okB r.ok=true) (hpl:(r.l.all fun p=>plainS h.next p.2)=true) (hgl:∀g,g∈codeGl c []->g∈h.gl)
 {ν:Nu} {a:Act} {w:World} {Q:Exit->Act->World->Prop} (hs:Stand fp ν h l a w)
 (hQ:∀ν' a' w' x,Stand fp ν h r.l a' w'->Below w.heap.size w w'->r.e.rel ν' x->Q x a' w'):c.wp cx.P Q a w:=
 phase_end X hlam (by rw [Out.at_pick hc];exact hp) hok hpl hgl hs hQ
theorem Stand.weaken {fp:Fp} {ν:Nu} {h:H} {l l':List (Nat×V)} {a:Act} {w:World} (hs:Stand fp ν h l a w) (hl:∀t v,(t,v)∈l'->∀u,(∀v',(t,v')∈l->v'.rel ν u)->v.rel ν u):Stand fp ν h l' a w:=
 ⟨hs.mem,fun t v htv=>hl t v htv _ (fun v' h'=>hs.slots t v' h'),hs.size,hs.defers⟩
def LessL (ν:Nu):List (Nat×V)->List (Nat×V)->Prop
 | [],[]=>True
 | (t,v)::r,(t',v')::r'=>t=t'/\(∀u,v.rel ν u->v'.rel ν u)/\LessL ν r r'
 | _,_=>False
theorem LessL.mem {ν:Nu}:∀{l l':List (Nat×V)},LessL ν l l'->∀t v',(t,v')∈l'->∃v,(t,v)∈l/\∀u,v.rel ν u->v'.rel ν u
 | [],[],_,t,v',h=>by cases h
 | (t0,v0)::r,(t1,v1)::r',h,t,v',hm=>by
   obtain ⟨rfl,h1,h2⟩:=h;cases hm with
   | head=>exact ⟨v0,.head _,h1⟩
   | tail _ hm=>
     obtain ⟨v,h3,h4⟩:=LessL.mem h2 t v' hm;exact ⟨v,.tail _ h3,h4⟩
theorem Stand.conv {fp:Fp} {ν:Nu} {h:H} {l l':List (Nat×V)} {a:Act} {w:World} (hs:Stand fp ν h l a w) (hl:LessL ν l l'):Stand fp ν h l' a w:=
 hs.weaken fun t v htv u hu=>by obtain ⟨v0,h1,h2⟩:=hl.mem t v htv;exact h2 u (hu v0 h1)
theorem same_rel {ν:Nu} {v:V}:∀u,v.rel ν u->v.rel ν u:=fun _ h=>h
theorem lit_less {ν:Nu} {k:IntKind} {n:Int} {x:BitVec 64} (hx:x=BitVec.ofInt 64 n):∀u,(V.t (.a (.lit k n))).rel ν u->(V.t (.a (.i k x))).rel ν u:=by
 intro u h;have h:(A.lit k n).rel ν u:=h;show (A.i k x).rel ν u;simp only [A.rel] at h ⊢;obtain ⟨rfl,hn⟩:=h;rw [hx,vof_ofInt hn]
theorem less_lit {ν:Nu} {k:IntKind} {n:Int} {x:BitVec 64} (hx:x=BitVec.ofInt 64 n) (hn:k.wrap n=n):∀u,(V.t (.a (.i k x))).rel ν u->(V.t (.a (.lit k n))).rel ν u:=by
 intro u h;have h:(A.i k x).rel ν u:=h;show (A.lit k n).rel ν u;simp only [A.rel] at h ⊢;subst hx;exact ⟨by rw [h,vof_ofInt hn],hn⟩
theorem LessL.refl {ν:Nu}:∀l:List (Nat×V),LessL ν l l
 | []=>trivial
 | (_,_)::r=>⟨rfl,same_rel,LessL.refl r⟩
theorem gl_none {c:Code} {h:H} (e:codeGl c []=[]):∀g,g∈codeGl c []->g∈h.gl:=by
 rw [e];intro g hg;cases hg
theorem Below.base {B:World} {w w':World} (h:Below B.heap.size B w) (h':Below w.heap.size w w'):Below B.heap.size B w':=
 h.trans ⟨h'.os,h'.tape,h'.output,h'.size,fun k hk=>h'.block k (Nat.lt_of_lt_of_le hk h.size)⟩
theorem for_loop {P:Program} {c:Code} {id:Nat} {Q:Exit->Act->World->Prop} (I:Nat->Act->World->Prop) (E:Act->World->Prop) (N:Nat)
 (h1:∀k,k<N->∀a w,I k a w->c.wp P (fun x a' w'=>x = .normal/\I (k+1) a' w') a w)
 (h2:∀a w,I N a w->c.wp P (fun x a' w'=>x = .exit id/\E a' w') a w) {a:Act} {w:World} (h0:I 0 a w) (hQ:∀a' w',E a' w'->Q .normal a' w'):(Code.block id (.loop c)).wp P Q a w:=by
 refine wp_block (wp_loop_rounds (N+1) ?_);have key:∀m k,k+m=N->∀a w,I k a w->Code.rounds P c (Exit.inBlock id Q) (m+1) a w:=by
  intro m
  induction m with
  | zero=>
    intro k hk a w hI;obtain rfl:k=N:=by omega
    rw [rounds_succ];refine wp_mono (h2 a w hI) ?_;rintro x a' w' ⟨rfl,hE⟩;show Exit.inBlock id Q (.exit id) a' w';simp only [Exit.inBlock,if_true];exact hQ a' w' hE
  | succ m ih=>
    intro k hk a w hI;rw [rounds_succ];refine wp_mono (h1 k (by omega) a w hI) ?_
    rintro x a' w' ⟨rfl,hI'⟩;exact ih (k+1) (by omega) a' w' hI'
 exact key N 0 (by omega) a w h0
theorem wp_two {P:Program} {x y:Code} {Q:Exit->Act->World->Prop} {J:Act->World->Prop} {a:Act} {w:World} (hx:x.wp P (fun e a' w'=>e = .normal/\J a' w') a w) (hy:∀a' w',J a' w'->y.wp P Q a' w'):(Code.seq x y).wp P Q a w:=by
 refine wp_seq (wp_mono hx ?_);rintro e a' w' ⟨rfl,hJ⟩;exact hy a' w' hJ
theorem wp_out {P:Program} {x y:Code} {R:Act->World->Prop} {id:Nat} {a:Act} {w:World} (hx:x.wp P (fun e a' w'=>e = .exit id/\R a' w') a w):(Code.seq x y).wp P (fun e a' w'=>e = .exit id/\R a' w') a w:=by
 refine wp_seq (wp_mono hx ?_);rintro e a' w' ⟨rfl,hJ⟩;exact ⟨rfl,hJ⟩
theorem wp_in {P:Program} {x:Code} {R:Act->World->Prop} {id:Nat} {a:Act} {w:World} (hx:x.wp P (fun e a' w'=>e = .normal/\R a' w') a w):(Code.block id x).wp P (fun e a' w'=>e = .normal/\R a' w') a w:=by
 refine wp_block (wp_mono hx ?_);rintro e a' w' ⟨rfl,hJ⟩;exact ⟨rfl,hJ⟩
def At (fp:Fp) (h:H) (W:World) (ν:Nu) (l:List (Nat×V)) (a:Act) (w:World):Prop:=Stand fp ν h l a w/\Below W.heap.size W w
section
variable {cx:Cx} {Γ:Gam} {fuel n:Nat} {fp:Fp} {c:Code} {l l' l'':List (Nat×V)} {h:H} {ts:List Nat} {ok:A} {W:World} {ν:Nu} {a:Act} {w:World}
theorem At.goB {b:Bool} (X:CxOK cx Γ) (hlam:fp.lam=fun _ _=>none) (hc:(evalC cx (evalF cx Γ fuel n) fp fuel c (stOf l h)).cnd=some b) (hp:endOf fp.km ts ((evalC cx (evalF cx Γ fuel n) fp fuel c (stOf l h)).at b)=some ⟨.nrm,ok,l'⟩) (hok:okB ok=true)
 (hpl:(l'.all fun p=>plainS h.next p.2)=true) (hgl:codeGl c []=[]) (hl:LessL ν l' l'') (hI:At fp h W ν l a w):c.wp cx.P (fun x a' w'=>x = .normal/\At fp h W ν l'' a' w') a w:=
 phase_way X hlam hc hp hok hpl (gl_none hgl) hI.1 (fun ν' a' w' x hs hb hx=>⟨hx,hs.conv hl,Below.base hI.2 hb⟩)
end
def bodyOf (P:Program) (f:Nat):Code:=match P.funcs[f]? with
 | some fn=>match fn.body with
   | some c=>c
   | none =>.skip
 | none =>.skip
def specG (f:FuncId) (spec:List V->Option (A×V)) (Γ:Gam):Gam:=fun g args h=>match Nat.beq g f with
 | true=>match spec args with
   | some (ok,v)=>some (.leaf ok v h)
   | none=>Γ g args h
 | false=>Γ g args h
theorem specG_ok {P:Program} {f:FuncId} {spec:List V->Option (A×V)} {Γ:Gam} (hs:∀args ok v,spec args=some (ok,v)->okB ok=true->PureOK P f args v) (hΓ:ΓOK P Γ):ΓOK P (specG f spec Γ) where
 ok:=by
  intro g args h r ok v h' hr hp hok;unfold specG at hr;split at hr
  · rename_i hb;have:=Go.WE.beq_true hb;subst this;split at hr
    · rename_i ok1 v1 hsp;cases hr;simp only [R.pick,oI,pI] at hp;obtain ⟨rfl,rfl,rfl⟩:=hp;rcases hs args _ _ hsp hok with ⟨h1,h2⟩|h1
      · exact .inl ⟨h1,h2 _⟩
      · exact .inr ⟨h1,rfl⟩
    · exact hΓ.ok g args h r ok v h' hr hp hok
  · exact hΓ.ok g args h r ok v h' hr hp hok
 pan:=by
  intro g args h r ok v h' hr hp hok;unfold specG at hr;split at hr
  · split at hr
    · cases hr;simp [R.pickP] at hp
    · exact hΓ.pan g args h r ok v h' hr hp hok
  · exact hΓ.pan g args h r ok v h' hr hp hok
 ext:=by
  intro g args h r hr hlo;unfold specG at hr;split at hr
  · split at hr
    · cases hr;exact Ext.refl _
    · exact hΓ.ext g args h r hr hlo
  · exact hΓ.ext g args h r hr hlo
theorem bv_val {x:A} {k:IntKind} {y:BitVec 64} (h:x.bv=some (k,y)) {ν:Nu} {u:Value} (hr:x.rel ν u):u = .int k (vof k y):=by
 cases x<;>simp [A.bv] at h
 · obtain ⟨rfl,rfl⟩:=h;simp only [A.rel] at hr;obtain ⟨rfl,hn⟩:=hr;rw [vof_ofInt hn]
 · obtain ⟨rfl,rfl⟩:=h;simpa only [A.rel] using hr
end Go.WE
namespace Go.WE
open Go
open Go.RowKit (Below)
def memT:List (Nat×Blk)->Tr Blk
 | [] =>.nil
 | (i,b)::r=>(memT r).set i b
def hM (ms:List (Nat×Blk)) (n:Nat):H:=⟨memT ms,[],[],n,n,[]⟩
theorem get_memT:∀(ms:List (Nat×Blk)) (i:Nat) (b:Blk),(memT ms).get i=some b->(i,b)∈ms
 | [],i,b,h=>by simp [memT,Tr.get_nil] at h
 | (j,c)::r,i,b,h=>by
   have h2:((memT r).set j c).get i=some b:=h;rw [Tr.get_set] at h2;by_cases e:j=i
   · rw [if_pos e] at h2;subst e;obtain rfl:c=b:=Option.some.inj h2;exact .head _
   · rw [if_neg e] at h2;exact .tail _ (get_memT r i b h2)
def LessM:List (Nat×Blk)->List (Nat×Blk)->Prop
 | [],[]=>True
 | (i,b)::r,(i',b')::r'=>i=i'/\(b.rw=b'.rw/\∀ν vs,b.t.rel ν vs->b'.t.rel ν vs)/\LessM r r'
 | _,_=>False
theorem LessM.mem:∀{ms ms':List (Nat×Blk)},LessM ms ms'->∀i b',(i,b')∈ms'->∃b,(i,b)∈ms/\b.rw=b'.rw/\∀ν vs,b.t.rel ν vs->b'.t.rel ν vs
 | [],[],_,i,b',h=>by cases h
 | (i0,b0)::r,(i1,b1)::r',h,i,b',hm=>by
   obtain ⟨rfl,h1,h2⟩:=h;cases hm with
   | head=>exact ⟨b0,.head _,h1⟩
   | tail _ hm=>
     obtain ⟨b,h3,h4⟩:=LessM.mem h2 i b' hm;exact ⟨b,.tail _ h3,h4⟩
theorem same_blk {b:Blk}:b.rw=b.rw/\∀ν vs,b.t.rel ν vs->b.t.rel ν vs:=⟨rfl,fun _ _ h=>h⟩
theorem LessM.refl:∀ms:List (Nat×Blk),LessM ms ms
 | []=>trivial
 | (_,_)::r=>⟨rfl,same_blk,LessM.refl r⟩
def H.vals (h:H):List Nat->Option (List (Nat×Blk))
 | []=>some []
 | i::is=>match h.m.get i with
   | some b=>match h.vals is with
     | some l=>some ((i,b)::l)
     | Option.none=>Option.none
   | Option.none=>Option.none
theorem hvals_mem {h:H}:∀{is:List Nat} {l:List (Nat×Blk)},h.vals is=some l->∀i b,(i,b)∈l->h.m.get i=some b
 | [],l,e,i,b,hm=>by simp only [H.vals,oI] at e;subst e;cases hm
 | i0::is,l,e,i,b,hm=>by
   unfold H.vals at e;split at e
   · rename_i b0 hb;split at e
     · rename_i l' hl;simp only [oI] at e;subst e;cases hm with
       | head=>exact hb
       | tail _ hm=>exact hvals_mem hl i b hm
     · cases e
   · cases e
structure EndM where
 e:Ex
 ok:A
 l:List (Nat×V)
 ms:List (Nat×Blk)
def endM (km:Nat) (ts is:List Nat) (n:Nat) (p:Option (Ex×St)):Option EndM:=match p with
 | some (e,s)=>match s.vals km ts,s.h.vals is,s.defs,Nat.ble n s.h.next&&is.all (fun i=>Nat.blt i n) with
   | some l,some ms,[],true=>match ms.all (fun p=>notMp p.2.t) with
     | true=>some ⟨e,s.ok,l,ms⟩
     | false=>none
   | _,_,_,_=>none
 | none=>none
theorem hvals_ids {h:H}:∀{is:List Nat} {l:List (Nat×Blk)},h.vals is=some l->∀i b,(i,b)∈l->i∈is
 | [],l,e,i,b,hm=>by simp only [H.vals,oI] at e;subst e;cases hm
 | i0::is,l,e,i,b,hm=>by
   unfold H.vals at e;split at e
   · split at e
     · rename_i l' hl;simp only [oI] at e;subst e;cases hm with
       | head=>exact .head _
       | tail _ hm=>exact .tail _ (hvals_ids hl i b hm)
     · cases e
   · cases e
theorem endM_some {km:Nat} {ts is:List Nat} {n:Nat} {p:Option (Ex×St)} {r:EndM} (h:endM km ts is n p=some r):∃s,p=some (r.e,s)/\s.ok=r.ok/\s.vals km ts=some r.l/\s.h.vals is=some r.ms/\s.defs=[]/\n≤s.h.next/\(∀i,i∈is->i<n)/\(r.ms.all fun p=>notMp p.2.t)=true:=by
 unfold endM at h;split at h
 · rename_i e s;split at h
   · rename_i l ms h1 h2 h3 h4;split at h
     · rename_i h5;simp only [oI] at h;subst h;simp only [bA,List.all_eq_true] at h4;exact ⟨s,rfl,rfl,h1,h2,h3,nL h4.1,fun i hi=>by simpa using h4.2 i hi,h5⟩
     · cases h
   · cases h
 · cases h
def LessA (l l':List (Nat×V)):Prop:=∀ν,LessL ν l l'
theorem LessA.refl (l:List (Nat×V)):LessA l l:=fun _=>LessL.refl l
section
variable {cx:Cx} {Γ:Gam} {fuel d:Nat} {fp:Fp} {c:Code} {l l' l'':List (Nat×V)} {ms ms' ms'':List (Nat×Blk)} {n n':Nat} {ts is:List Nat} {ok:A} {W:World} {a:Act} {w:World}
def argsL:Nat->List V->List (Nat×V)
 | _,[]=>[]
 | i,v::r=>(i,v)::argsL (i+1) r
theorem argsL_rel {ν:Nu} {tmps:Array Value}:∀(args:List V) (vs:List Value) (i:Nat),relV ν args vs->(∀j,j<vs.length->tmps.getD (i+j) undef=vs.getD j undef)->∀t v,(t,v)∈argsL i args->v.rel ν (tmps.getD t undef)
 | [],_,i,_,_,t,v,h=>by cases h
 | a::az,u::us,i,hv,ht,t,v,h=>by
   cases h with
   | head=>
     have:=ht 0 (by simp)
     simp only [Nat.add_zero,List.getD_cons_zero] at this;rw [this];exact hv.1
   | tail _ h=>
     refine argsL_rel az us (i+1) hv.2 (fun j hj => ?_) t v h;have:=ht (j+1) (by simp;omega)
     simp only [List.getD_cons_succ] at this;rw [← this];congr 1;omega
 | _::_,[],_,hv,_,_,_,_=>hv.elim
def retOf (P:Program) (km:Nat) (rs:List ResultVar) (p:Option (Ex×St)):Option (A×A×V):=match p with
 | some (.nrm,s)=>match resOf P km rs s,s.defs with
   | some (o,v,_),[]=>some (s.ok,o,v)
   | _,_=>none
 | some (.ret,s)=>match resOf P km rs s,s.defs with
   | some (o,v,_),[]=>some (s.ok,o,v)
   | _,_=>none
 | _=>none
theorem retOf_some {P:Program} {km:Nat} {rs:List ResultVar} {p:Option (Ex×St)} {o1 o2:A} {v:V} (h:retOf P km rs p=some (o1,o2,v)):∃e s h',p=some (e,s)/\(e = .nrm\/e = .ret)/\s.ok=o1/\resOf P km rs s=some (o2,v,h')/\s.defs=[]:=by
 unfold retOf at h;split at h
 · split at h
   · rename_i h1 h2;simp only [oI,pI] at h;obtain ⟨rfl,rfl,rfl⟩:=h;exact ⟨_,_,_,rfl,.inl rfl,rfl,h1,h2⟩
   · cases h
 · split at h
   · rename_i h1 h2;simp only [oI,pI] at h;obtain ⟨rfl,rfl,rfl⟩:=h;exact ⟨_,_,_,rfl,.inr rfl,rfl,h1,h2⟩
   · cases h
 · cases h
end
end Go.WE
namespace Go.WE
open Go
abbrev Rnd (l:Nat):Fence:=Fence.wide.inRound l
def plainO (o:Oper):Bool:=match o.op with
 | .defer _=>false
 | _=>true
def plainC:Code->Bool
 | .skip=>true
 | .region _ ops draw => !draw&&ops.toList.all plainO
 | .seq a b=>plainC a&&plainC b
 | .cond _ a b=>plainC a&&plainC b
 | .block _ c=>plainC c
 | .exit _=>true
 | .ret=>true
 | _=>false
section
variable {P:Program} {n l:Nat} {o:Oper} {a:Act} {w:World} {next next':Act->World->Prop} {Q:Exit->Act->World->Prop}
theorem callsIn_round {f:FuncId} {args:Array Value} {R:Ending->World->Prop} (h:Calls P f args w R):CallsIn (Rnd l) n P f args w R:=
 CallsIn.inRound l (callsIn_wide.2 h)
theorem rowsIn_round {row:String} {args:Array Value} {R:Value->World->Prop} (h:Rows P row args w R):RowsIn (Rnd l) n P row args w R:=
 fun c cs _=>let ⟨v,w',r,s⟩:=h c cs;⟨v,w',r,stepsIn_wide.2 s⟩
theorem uponIn_of (hn:∀a w,next a w->next' a w) {r:Result Next} (h:o.upon P a next Q r):o.uponIn (Rnd l) n P a next' Q r:=by
 have hd:(Rnd l).depth.isSome=true->1≤n:=fun h=>by cases h
 cases r with
 | ok x w'=>
   cases x with
   | value v=>exact hn _ _ h
   | skip=>exact hn _ _ h
   | defer d=>exact hn _ _ h
   | enter f args=>
     refine ⟨hd,callsIn_round ?_⟩;refine Calls.mono (show Calls P f args w' _ from h) ?_
     intro e w'' he;cases e with
     | returned v=>exact hn _ _ he
     | panicked ch=>exact he
     | outgrown=>exact he
   | row row args=>exact ⟨hd,rowsIn_round (Rows.mono (show Rows P row args w' _ from h) fun v w'' hv=>hn _ _ hv)⟩
   | _=>exact h.elim
 | halt x w'=>
   cases x with
   | panic v=>exact h
   | _=>exact h.elim
theorem wpIn_of (hp:plainO o=true) (hn:∀a w,next a w->next' a w) (h:o.wp P a w next Q):o.wpIn (Rnd l) n P a w next' Q:=by
 refine ⟨fun _ _=>trivial,?_⟩;have e:Oper.semAt (Rnd l).round a.eval o=execOp a.eval o:=Oper.semAt_eq _ _ _ (fun c hc=>by unfold plainO at hp;rw [hc] at hp;cases hp)
 rw [e];exact uponIn_of hn h
theorem wpListIn_of {ops:Array Oper} (hQ:∀a w,¬Q .outgrown a w):∀(os:List Oper) (a:Act) (w:World),(os.all plainO)=true->wpList P ops Q os a w->wpListIn (Rnd l) n P ops Q os a w
 | [],a,w,_,h=>h
 | o::os,a,w,hp,h=>by
   simp only [List.all_cons,bA] at hp;unfold wpList at h;unfold wpListIn;split at h
   · rename_i hw;rw [if_pos hw];rcases h with h|⟨_,a',w',h⟩
     · exact wpIn_of hp.1 (fun a w h=>wpListIn_of hQ os a w hp.2 h) h
     · exact absurd h (hQ a' w')
   · rename_i hw;rw [if_neg hw];exact ⟨fun _ _=>trivial,wpListIn_of hQ os _ _ hp.2 h⟩
end
section
variable {cx:Cx} {call:CallE} {fp:Fp} {S:Nat->Prop} {ν:Nu} {a:Act} {w:World} {Q:Exit->Act->World->Prop} {l n:Nat}
theorem evalRegion_list (hE:EqOK cx) (hC:CallOK cx.P call) {ops:Array Oper} {e:Ex} {st st':St} (he:(evalRegion cx call fp ops.toList false st).pick=some (e,st')) (hok:okB st'.ok=true)
 (hrd:∀i,i∈st'.h.rd->S i) (hwr:∀i,i∈st'.h.wr->S i) (hgl:∀o,o∈ops.toList->OpGl o st.h)
 (hr:CRel cx.P fp S st ν a w) (hQ:∀ν' a' w' x,CRel cx.P fp S st' ν' a' w'->Goes S ν w st.h ν' w' st'.h->e.rel ν' x->Q x a' w'):wpList cx.P ops Q ops.toList a w:=by
 have hlo:LoOK st:=hr.mem.nums.lo;unfold evalRegion at he;split at he
 · simp [Out.pick] at he
 · rename_i hd;split at he
   · split at he
     · rw [pick_back] at he;split at he
       · rename_i e1 s1 hp;simp only [oI,pI] at he;obtain ⟨rfl,rfl⟩:=he;have hb0:LoOK ({ st.mark with tmps:=[] }:St):=Nat.le_refl _
         obtain ⟨s2,hp2,hweak⟩:=norm_pick (P:=cx.P) (base:={ st.mark with tmps:=[] }) rfl (evalOps_ext hC hb0) e1 s1 hp
         have hrs:∀i,i∈s1.h.rd->markS S st.h i:=back_rd hrd;have hws:∀i,i∈s1.h.wr->markS S st.h i:=back_wr hwr;have:=evalOps_seq (Q:=Q) (S:=markS S st.h) hE hC hd ops.toList 0 _ ν a w (by simp) (by exact hgl) hp2 (hweak.ok hok) (fun i hi=>hrs i (hweak.rd i hi)) (fun i hi=>hws i (hweak.wr i hi)) (hr.mark.start _)
          (fun ν' a' w' x hr' hg' hx=>by obtain ⟨h1,h2⟩:=hweak.rel fp (markS S st.h) ν w ν' a' w' hr.mark.mem hr' hg';obtain ⟨h3,h4⟩:=h1.back hlo h2;exact hQ ν' a' w' x h3 h4 hx)
         simpa using this
       · cases he
     · have:=evalOps_seq (Q:=Q) hE hC hd ops.toList 0 ({ st with tmps:=[] }:St) ν a w (by simp) (by exact hgl) he hok hrd hwr (hr.start _) (fun ν' a' w' x hr' hg' hx=>hQ ν' a' w' x hr' hg' hx)
       simpa using this
   · rename_i hdr;cases hdr
def RunI (l n:Nat) (P:Program) (fp:Fp) (c:Code) (s:St) (o:Out):Prop:=
 ∀e s',o.pick=some (e,s')->okB s'.ok=true->∀(S:Nat->Prop) ν a w Q,(∀a w,¬Q .outgrown a w)->(∀i,i∈s'.h.rd->S i)->(∀i,i∈s'.h.wr->S i)->CodeGl (· ∈ s.h.gl) c->CRel P fp S s ν a w ->
  Way P fp S Q e s s' ν w->c.wpIn (Rnd l) n P Q a w
theorem RunI.seq {P:Program} {x y:Code} {s:St} {o:Out} {f:St->Out} (kx:CodeOK P fp x s o) (ky:∀s1,CodeOK P fp y s1 (f s1)) (hx:RunI l n P fp x s o) (hy:∀s1,RunI l n P fp y s1 (f s1)):RunI l n P fp (.seq x y) s (o.bind f):=by
 intro e s' h hok S ν a w Q hQ hrd hwr hgl hr hw;have hlo:LoOK s:=hr.mem.nums.lo;have hQ':∀a w,¬Exit.then (y.wpIn (Rnd l) n P Q) Q .outgrown a w:=hQ;rw [pick_bind] at h;split at h
 · rename_i s1 h1;have hx1:=Out.All.pick (kx.ext hlo) h1;have hx2:=Out.All.pick ((ky s1).ext (hx1.lo hlo)) h;refine wpIn_seq (hx .nrm s1 h1 (hx2.ok hok) S ν a w _ hQ' (fun i hi=>hrd i (hx2.h.rd i hi)) (fun i hi=>hwr i (hx2.h.wr i hi)) hgl.1 hr ?_);intro ν' a' w' ex hr' hg' hex;simp only [Ex.rel] at hex;subst hex;exact hy s1 e s' h hok S ν' a' w' Q hQ hrd hwr (hg'.glC hgl.2) hr' (fun ν'' a'' w'' ex' hr'' hg'' he=>hw ν'' a'' w'' ex' hr'' (hg'.trans hg'') he)
 · rename_i hne;refine wpIn_seq (hx e s' h hok S ν a w _ hQ' hrd hwr hgl.1 hr ?_);intro ν' a' w' ex hr' hg' hex;have:=hw ν' a' w' ex hr' hg' hex;cases e with
   | nrm=>exact absurd h (hne _)
   | exit id=>simp only [Ex.rel] at hex;subst hex;exact this
   | ret=>simp only [Ex.rel] at hex;subst hex;exact this
   | pan v=>simp only [Ex.rel] at hex;obtain ⟨u,rfl,_⟩:=hex;exact this
theorem RunI.block {P:Program} {c:Code} {s:St} {o:Out} {id:Nat} (kc:CodeOK P fp c s.mark o) (hc:RunI l n P fp c s.mark o):RunI l n P fp (.block id c) s (((o.exits id).norm s.mark).back s.h):=by
 intro e s' h hok S ν a w Q hQ hrd hwr hgl hr hw;have hlo:LoOK s:=hr.mem.nums.lo;have hlm:LoOK s.mark:=Nat.le_refl _;have hQ':∀a w,¬Exit.inBlock id Q .outgrown a w:=hQ;rw [pick_back] at h;split at h
 · rename_i e1 s1 hp1;simp only [oI,pI] at h;obtain ⟨rfl,rfl⟩:=h;obtain ⟨s2,hp,hweak⟩:=norm_pick (P:=P) (base:=s.mark) rfl (all_exits (id:=id) (kc.ext hlm)) e1 s1 hp1;have hway:=hw.back hlo hr.mark.mem hweak;have hrs:∀i,i∈s2.h.rd->markS S s.h i:=fun i hi=>back_rd hrd i (hweak.rd i hi);have hws:∀i,i∈s2.h.wr->markS S s.h i:=fun i hi=>back_wr hwr i (hweak.wr i hi);rw [pick_exits] at hp;split at hp
   · rename_i id' s3 h2;split at hp
     · rename_i hid;simp only [oI,pI] at hp;obtain ⟨rfl,rfl⟩:=hp;refine wpIn_block (hc (.exit id') s3 h2 (hweak.ok hok) _ ν a w _ hQ' hrs hws hgl hr.mark ?_);intro ν' a' w' x hr' hg' hx;simp only [Ex.rel] at hx;subst hx;simp only [Exit.inBlock,hid,if_true];exact hway ν' a' w' .normal hr' hg' rfl
     · rename_i hid;simp only [oI,pI] at hp;obtain ⟨rfl,rfl⟩:=hp;refine wpIn_block (hc (.exit id') s3 h2 (hweak.ok hok) _ ν a w _ hQ' hrs hws hgl hr.mark ?_);intro ν' a' w' x hr' hg' hx;simp only [Ex.rel] at hx;subst hx;simp only [Exit.inBlock,hid,if_false];exact hway ν' a' w' (.exit id') hr' hg' rfl
   · rename_i hne;refine wpIn_block (hc e1 s2 hp (hweak.ok hok) _ ν a w _ hQ' hrs hws hgl hr.mark ?_);intro ν' a' w' x hr' hg' hx;have:=hway ν' a' w' x hr' hg' hx;cases e1 with
     | nrm=>simp only [Ex.rel] at hx;subst hx;exact this
     | exit id'=>exact absurd hp (hne _ _)
     | ret=>simp only [Ex.rel] at hx;subst hx;exact this
     | pan v=>simp only [Ex.rel] at hx;obtain ⟨u,rfl,_⟩:=hx;exact this
 · cases h
theorem evalC_round (hE:EqOK cx) (hC:CallOK cx.P call) (hL:fp.lam=fun _ _=>none):∀(m:Nat) (c:Code) (s:St),plainC c=true->RunI l n cx.P fp c s (evalC cx call fp m c s):=by
 have hK:∀m c s,CodeOK cx.P fp c s (evalC cx call fp m c s):=fun m c s=>evalC_sound hE hC (c0:=c) (fun id d s o h _=>by rw [hL] at h;cases h) m c s (fun _ _ h=>h)
 intro m
 induction m with
 | zero=>intro c s _ e s' h;simp [evalC,Out.pick] at h
 | succ m ih=>
   intro c s hpl;cases c<;>simp only [plainC,bA,Bool.not_eq_true'] at hpl<;>simp only [evalC]
   case skip=>
    intro e s' h hok S ν a w Q hQ hrd hwr hgl hr hw;simp only [Out.pick,oI,pI] at h;obtain ⟨rfl,rfl⟩:=h;exact wpIn_skip (hw ν a w .normal hr (Goes.refl hr.mem) rfl)
   case region id ops draw=>
    intro e s' h hok S ν a w Q hQ hrd hwr hgl hr hw;obtain ⟨hd,hp⟩:=hpl;subst hd;exact wpIn_region_list (wpListIn_of hQ _ _ _ hp (evalRegion_list hE hC h hok hrd hwr hgl hr (fun ν' a' w' x hr' hg' hx=>hw ν' a' w' x hr' hg' hx)))
   case seq x y=>exact RunI.seq (hK m x s) (fun s1=>hK m y s1) (ih x s hpl.1) (fun s1=>ih y s1 hpl.2)
   case cond c x y=>
    have kx:=fun s=>hK m x s;have ky:=fun s=>hK m y s;have hx:=fun s=>ih x s hpl.1;have hy:=fun s=>ih y s hpl.2;split
    · rename_i hc;exact fun e s' h hok S ν a w Q hQ hrd hwr hgl hr hw=>wpIn_cond_true (cond_val (cx:=cx) hc hgl.1 hr) (hx s e s' h hok S ν a w Q hQ hrd hwr hgl.2.1 hr hw)
    · rename_i hc;exact fun e s' h hok S ν a w Q hQ hrd hwr hgl hr hw=>wpIn_cond_false (cond_val (cx:=cx) hc hgl.1 hr) (hy s e s' h hok S ν a w Q hQ hrd hwr hgl.2.2 hr hw)
    · rename_i v hc;have hlm:LoOK s.mark:=Nat.le_refl _;intro e s' h hok S ν a w Q hQ hrd hwr hgl hr hw;have hlo:LoOK s:=hr.mem.nums.lo;rw [pick_back] at h;split at h
      · rename_i e1 s1 hp1;simp only [oI,pI] at h;obtain ⟨rfl,rfl⟩:=h;obtain ⟨s2,hp,hweak⟩:=join_pick (P:=cx.P) (base:=s.mark) ((kx s.mark).ext hlm) ((ky s.mark).ext hlm) rfl e1 s1 hp1;have hway:=hw.back hlo hr.mark.mem hweak;have hrs:∀i,i∈s2.h.rd->markS S s.h i:=fun i hi=>back_rd hrd i (hweak.rd i hi);have hws:∀i,i∈s2.h.wr->markS S s.h i:=fun i hi=>back_wr hwr i (hweak.wr i hi);simp only [Out.pick] at hp;cases v
        · exact wpIn_cond_false (cond_val (cx:=cx) hc hgl.1 hr) (hy s.mark e1 s2 (by simpa using hp) (hweak.ok hok) _ ν a w Q hQ hrs hws hgl.2.2 hr.mark hway)
        · exact wpIn_cond_true (cond_val (cx:=cx) hc hgl.1 hr) (hx s.mark e1 s2 (by simpa using hp) (hweak.ok hok) _ ν a w Q hQ hrs hws hgl.2.1 hr.mark hway)
      · cases h
    · intro e s' h;simp [Out.pick] at h
   case block id c=>
    rw [hL];exact RunI.block (hK m c s.mark) (ih c s.mark hpl)
   case exit id=>
    intro e s' h hok S ν a w Q hQ hrd hwr hgl hr hw;simp only [Out.pick,oI,pI] at h;obtain ⟨rfl,rfl⟩:=h;exact wpIn_exit (hw ν a w (.exit id) hr (Goes.refl hr.mem) rfl)
   case ret=>
    intro e s' h hok S ν a w Q hQ hrd hwr hgl hr hw;simp only [Out.pick,oI,pI] at h;obtain ⟨rfl,rfl⟩:=h;exact wpIn_ret (hw ν a w .ret hr (Goes.refl hr.mem) rfl)
   all_goals cases hpl
end
theorem phaseIn {cx:Cx} {Γ:Gam} (X:CxOK cx Γ) {fuel d:Nat} {fp:Fp} (hlam:fp.lam=fun _ _=>none) {c:Code} (hpl:plainC c=true) {l:List (Nat×V)} {h:H} {e:Ex} {s':St}
 (hp:(evalC cx (evalF cx Γ fuel d) fp fuel c (stOf l h)).pick=some (e,s')) (hok:okB s'.ok=true) (hgl:∀g,g∈codeGl c []->g∈h.gl) {ν:Nu} {a:Act} {w:World} {Q:Exit->Act->World->Prop} (hQ0:∀a w,¬Q .outgrown a w) (hs:Stand fp ν h l a w) {k m:Nat}
 (hQ:∀ν' a' w' x,CRel cx.P fp (markS (fun _=>True) h) s' ν' a' w'->Goes (markS (fun _=>True) h) ν w h.mark ν' w' s'.h->e.rel ν' x->Q x a' w'):c.wpIn (Rnd k) m cx.P Q a w:=
 evalC_round X.eq (evalF_sound X.eq X.gam X.dfr X.lam X.ent d) hlam fuel c (stOf l h) hpl e s' hp hok _ ν a w Q hQ0
  (fun _ _ =>.inl trivial) (fun _ _ =>.inl trivial) (CodeGl.mono (fun g hg=>hgl g hg) (codeGl_spec c []).2) hs.crel (fun ν' a' w' x h1 h2 h3=>hQ ν' a' w' x h1 h2 h3)
end Go.WE
namespace Go
def Code.rfB:Code->Code
 | .rangeFunc _ _ _ b=>b
 | _ =>.skip
def Code.rfA:Code->Code
 | .rangeFunc _ _ a _=>a
 | _ =>.skip
end Go
namespace Go.WE
open Go Go.Proofs
abbrev U:=BitVec 64
abbrev K (n:Int):U:=BitVec.ofInt 64 n
theorem entK:entersAll Tryz.prog=true:=by kernel_rfl
def eqsK:List (TypeId×List Bool):=[(69,List.replicate 10 false),(58,List.replicate 4 false),(56,List.replicate 5 false),(67,List.replicate 6 false)]
noncomputable abbrev cxK:Cx:={ P:=Tryz.prog,eqT:=eqTab eqsK }
theorem eqsKOk:eqTabOk Tryz.prog eqsK=true:=by kernel_rfl
theorem XK {Γ:Gam} (h:ΓOK Tryz.prog Γ):CxOK cxK Γ:=⟨eqOK_of eqsKOk rfl,h,noDfr_ok,noLam _ _ _ _,enters_of entK⟩
structure RW where
 k:U
 o:U
 m:U
 i:U
 tv:U
 tm:U
 ul:U
 uh:U
 sl:U
 sh:U
structure RF where
 k:Nat->U
 o:Nat->U
 m:Nat->U
 i:Nat->U
 tv:Nat->U
 tm:Nat->U
 ul:Nat->U
 uh:Nat->U
 sl:Nat->U
 sh:Nat->U
def RF.at (f:RF) (n:Nat):RW:=⟨f.k n,f.o n,f.m n,f.i n,f.tv n,f.tm n,f.ul n,f.uh n,f.sl n,f.sh n⟩
structure FSt where
 regs:RF
 g:Nat->U
 kept:RF
def RW.t (r:RW):T :=.st [.a (.i .i64 r.k),.a (.i .i64 r.o),.a (.i .i64 r.m),.a (.i .i64 r.i),.st [.st [.a (.i .u64 r.tv),.a (.i .u64 r.tm)],.st [.a (.i .u64 r.ul),.a (.i .u64 r.uh)],.st [.a (.i .i64 r.sl),.a (.i .i64 r.sh)]]]
def RF.s (f:RF):Sh :=.st [.int .i64 f.k,.int .i64 f.o,.int .i64 f.m,.int .i64 f.i,.st [.st [.int .u64 f.tv,.int .u64 f.tm],.st [.int .u64 f.ul,.int .u64 f.uh],.st [.int .i64 f.sl,.int .i64 f.sh]]]
def FSt.t (s:FSt):T :=.st [.arr 10 (.lit 11) s.regs.s,.arr 1 (.lit 128) (.int .i64 s.g),.arr 10 (.lit 16) s.kept.s]
abbrev one (a:A):V :=.t (.a a)
abbrev pt (id:Nat):V :=.t (.a (.ptr id []))
def c8:Code:=bodyOf Tryz.prog 38
def c17:Code:=bodyOf Tryz.prog 71
def l0:Code:=c8.sA
def l1:Code:=c8.sB.sA
def l3:Code:=c8.sB.sB.sA.sA
def lA:Code:=c8.sB.sB.sA.sB.inn.rfA
def lB:Code:=c8.sB.sB.sA.sB.inn.rfB
def l11:Code:=c8.sB.sB.sB
def r0:Code:=c17.sA
def r1:Code:=c17.sB.sA
def r3:Code:=c17.sB.sB.sA.sA
def rA:Code:=c17.sB.sB.sA.sB.inn.rfA
def rB:Code:=c17.sB.sB.sA.sB.inn.rfB
def r10:Code:=c17.sB.sB.sB
theorem c8_eq:c8 = .seq l0 (.seq l1 (.seq (.seq l3 (.block 0 (.rangeFunc (.tmp 15) #[16] lA lB))) l11)):=by kernel_rfl
theorem c17_eq:c17 = .seq r0 (.seq r1 (.seq (.seq r3 (.block 0 (.rangeFunc (.tmp 14) #[15] rA rB))) r10)):=by kernel_rfl
def fp8:Fp:=⟨8657146319,48,66,fun _ _=>none⟩
def fp17:Fp:=⟨23185615,26,66,fun _ _=>none⟩
def evL (c:Code) (l:List (Nat×V)) (ms:List (Nat×Blk)) (n:Nat):Out:=evalC cxK (evalF cxK noΓ 400 20) fp8 400 c (stOf l (hM ms n))
def evR (c:Code) (l:List (Nat×V)) (ms:List (Nat×Blk)) (n:Nat):Out:=evalC cxK (evalF cxK noΓ 400 20) fp17 400 c (stOf l (hM ms n))
def msB (s:FSt):List (Nat×Blk):=[(0,⟨true,s.t⟩),(1,⟨true,.a (.ptr 0 [])⟩)]
end Go.WE
namespace Go.WE
open Go Go.Proofs
def RF.map2 (f:(Nat->U)->Nat->U) (p:RF):RF:=⟨f p.k,f p.o,f p.m,f p.i,f p.tv,f p.tm,f p.ul,f p.uh,f p.sl,f p.sh⟩
def c1L (s:FSt) (x:U):Bool:=s.kept.k (BitVec.sdiv x (K 8)).toNat != K 0
def c2L (s:FSt) (x:U):Bool:=s.g x.toNat==K 2
def zL (x:U) (i:Int):U:=BitVec.sdiv x (K 8)*K 8+K i
def putN (n:Nat) (v:U) (g:Nat->U):Nat->U:=fun j=>cond (Nat.beq j n) v (g j)
def fillE (x:U) (g:Nat->U):Nat->U:=putN (zL x 7).toNat (K 0) (putN (zL x 6).toNat (K 0) (putN (zL x 5).toNat (K 0) (putN (zL x 4).toNat (K 0) (putN (zL x 3).toNat (K 0) (putN (zL x 2).toNat (K 0) (putN (zL x 1).toNat (K 0) (putN (zL x 0).toNat (K 0) g)))))))
def layE (s:FSt) (x:U):FSt:=
 ⟨s.regs.map2 fun f j=>cond (c1L s x) (cond (c2L s x) (f j) (f j)) (f j),
  putN x.toNat (K 1) fun j=>cond (c1L s x) (cond (c2L s x) (fillE x s.g j) (s.g j)) (s.g j),
  s.kept.map2 fun f j=>cond (c1L s x) (putN (BitVec.sdiv x (K 8)).toNat (K 0) (fun j=>cond (c2L s x) (f j) (f j)) j) (f j)⟩
def vB (y:U) (n:Nat):Bool := !(BitVec.msb y)&&Nat.blt y.toNat n
def wB (y:U) (n:Nat):Bool:=Nat.blt y.toNat n
def okE (c1 c2:Bool) (x:U):Bool:=
 let y:=BitVec.sdiv x (K 8)
 let t6:=vB y 16&&wB y 16
 let t9:=t6&&vB x 128
 let t15:=vB (zL x 0) 128&&wB (zL x 0) 128
 let t19:=t15&&vB (zL x 1) 128
 let t24:=(t19&&wB (zL x 1) 128)&&vB (zL x 2) 128
 let t29:=(t24&&wB (zL x 2) 128)&&vB (zL x 3) 128
 let t34:=(t29&&wB (zL x 3) 128)&&vB (zL x 4) 128
 let t39:=(t34&&wB (zL x 4) 128)&&vB (zL x 5) 128
 let t44:=(t39&&wB (zL x 5) 128)&&vB (zL x 6) 128
 let t49:=(t44&&wB (zL x 6) 128)&&vB (zL x 7) 128
 let t51:=(t9&&wB x 128)&&(t49&&wB (zL x 7) 128)
 let t52:=cond c2 t51 (t9&&wB x 128)
 let t53:=t52&&vB y 16
 let t54:=cond c1 (t53&&wB y 16) t6
 let t55:=t54&&vB x 128
 t55&&wB x 128
def slL (x:U):List (Nat×V):=[(3,pt 1),(7,one (.i .i64 x))]
def ms3 (s:FSt) (x y:U):List (Nat×Blk):=[(0,⟨true,s.t⟩),(1,⟨true,.a (.ptr 0 [])⟩),(2,⟨true,.a (.i .i64 x)⟩),(3,⟨true,.a (.i .i64 y)⟩)]
theorem lb_ev (s:FSt) (x p q:U):endM fp8.km [3,7] [0] 4 (evL lB (slL x) (ms3 s p q) 4).pick=some ⟨.nrm,.b (okE (c1L s x) (c2L s x) x),slL x,[(0,⟨true,(layE s x).t⟩)]⟩:=by kernel_rfl
theorem lb_wr (s:FSt) (x p q:U):(evL lB (slL x) (ms3 s p q) 4).pick.map (fun p=>p.2.h.wr)=some [0]:=by kernel_rfl
theorem okE_true:∀(x:Fin 128) (c1 c2:Bool),okE c1 c2 (BitVec.ofNat 64 x.val)=true:=by decide +kernel
theorem idx_facts:∀x:Fin 128,(BitVec.ofNat 64 x.val).toNat=x.val/\(BitVec.sdiv (BitVec.ofNat 64 x.val) (K 8)).toNat=x.val / 8/\(zL (BitVec.ofNat 64 x.val) 0).toNat=8*(x.val / 8)/\(zL (BitVec.ofNat 64 x.val) 1).toNat=8*(x.val / 8)+1/\(zL (BitVec.ofNat 64 x.val) 2).toNat=8*(x.val / 8)+2/\(zL (BitVec.ofNat 64 x.val) 3).toNat=8*(x.val / 8)+3/\(zL (BitVec.ofNat 64 x.val) 4).toNat=8*(x.val / 8)+4/\(zL (BitVec.ofNat 64 x.val) 5).toNat=8*(x.val / 8)+5/\(zL (BitVec.ofNat 64 x.val) 6).toNat=8*(x.val / 8)+6/\(zL (BitVec.ofNat 64 x.val) 7).toNat=8*(x.val / 8)+7:=by decide +kernel
def layB (s:FSt) (b:Nat):FSt:=
 ⟨s.regs,fun j=>cond (Nat.beq j b) (K 1) (cond ((s.kept.k (b / 8) != K 0)&&((s.g b==K 2)&&Nat.beq (j / 8) (b / 8))) (K 0) (s.g j)),
  s.kept.map2 fun f j=>cond ((s.kept.k (b / 8) != K 0)&&Nat.beq j (b / 8)) (K 0) (f j)⟩
theorem beq_eq_decide (a b:Nat):Nat.beq a b=decide (a=b):=by
 cases h:Nat.beq a b
 · exact (decide_eq_false (fun e=>by subst e;rw [Nat.beq_refl] at h;cases h)).symm
 · exact (decide_eq_true (Nat.eq_of_beq_eq_true h)).symm
theorem layE_layB (s:FSt) {b:Nat} (hb:b<128):layE s (BitVec.ofNat 64 b)=layB s b:=by
 obtain ⟨e0,e1,z0,z1,z2,z3,z4,z5,z6,z7⟩:=idx_facts ⟨b,hb⟩;simp only at e0 e1 z0 z1 z2 z3 z4 z5 z6 z7;unfold layE layB;have h1:c1L s (BitVec.ofNat 64 b)=(s.kept.k (b / 8) != K 0):=by unfold c1L;rw [e1]
 have h2:c2L s (BitVec.ofNat 64 b)=(s.g b==K 2):=by unfold c2L;rw [e0]
 rw [h1,h2,e0,e1];have hr:(s.regs.map2 fun f j=>cond (s.kept.k (b / 8) != K 0) (cond (s.g b==K 2) (f j) (f j)) (f j))=s.regs:=by cases s.kept.k (b / 8) != K 0<;>cases s.g b==K 2<;>rfl
 rw [hr];congr 1
 · funext j;unfold putN;cases Nat.beq j b
   · simp only [cond_false];unfold fillE putN;rw [z0,z1,z2,z3,z4,z5,z6,z7];simp only [beq_eq_decide];cases s.kept.k (b / 8) != K 0
     · simp
     · cases s.g b==K 2
       · simp
       · simp only [cond_true,Bool.true_and];by_cases hj:j / 8=b / 8
         · have hc:j=8*(b / 8)\/j=8*(b / 8)+1\/j=8*(b / 8)+2\/j=8*(b / 8)+3\/j=8*(b / 8)+4\/j=8*(b / 8)+5\/j=8*(b / 8)+6\/j=8*(b / 8)+7:=by omega
           simp only [hj,decide_true,cond_true];rcases hc with rfl|rfl|rfl|rfl|rfl|rfl|rfl|rfl<;>simp
         · have n0:¬j=8*(b / 8):=by omega
           have n1:¬j=8*(b / 8)+1:=by omega
           have n2:¬j=8*(b / 8)+2:=by omega
           have n3:¬j=8*(b / 8)+3:=by omega
           have n4:¬j=8*(b / 8)+4:=by omega
           have n5:¬j=8*(b / 8)+5:=by omega
           have n6:¬j=8*(b / 8)+6:=by omega
           have n7:¬j=8*(b / 8)+7:=by omega
           simp [hj,n0,n1,n2,n3,n4,n5,n6,n7]
   · rfl
 · unfold RF.map2 putN;cases s.kept.k (b / 8) != K 0<;>cases s.g b==K 2<;>simp
def layN (s:FSt) (b:Nat):Nat->FSt
 | 0=>s
 | n+1=>layB (layN s b n) (b+n)
end Go.WE
namespace Go.Proofs.YtoeealkcacgcgaaGreatDoor.Eac
open Go Go.Proofs Go.RowKit Go.Shelf
attribute [local go_sem] Oper.semAt_some
abbrev Bx:={ x:Nat // x<128 }
def encB (x:Bx):Array Value := #[.int .i64 (x.1:Int)]
def bx (i:Nat):Bx:=if h:i<128 then ⟨i,h⟩ else ⟨0,by decide⟩
theorem bx_val {i:Nat} (h:i<128):(bx i).1=i:=by unfold bx;rw [dif_pos h]
def upto (s k:Nat):List Bx:=(List.range k).map fun j=>bx (s+j)
theorem upto_succ (s k:Nat):upto s (k+1)=upto s k++[bx (s+k)]:=by simp [upto,List.range_succ]
theorem upto_length (s k:Nat):(upto s k).length=k:=by simp [upto]
def KpA (b:Nat) (W W':World):Prop:=W'.cell? ⟨b,0,none⟩=W.cell? ⟨b,0,none⟩
set_option maxRecDepth 100000 in
set_option maxHeartbeats 2000000 in
theorem each1_in (F:Fence) (n:Nat) (h61:F.fn 142) (hro:F.round=none) (hn:1≤n) (l Bn Ba s c:Nat) (hs:s+c≤128) (J Jx:List Bx->World->Prop)
 (hY:∀pre x W,J pre W->pre.length<c->YieldAt F (n-1) Tryz.prog l (encB x) W fun e W'=>
   (e = .returned (.bool true)/\J (pre++[x]) W'/\KpA Ba W W')\/(e = .returned (.bool false)/\Jx (pre++[x]) W'))
 (W:World) (hBn:W.cell? ⟨Bn,0,none⟩=some (.int .i64 (c:Int))) (hBa:W.cell? ⟨Ba,0,none⟩=some (.int .i64 ((s:Int)-128))) (h0:J [] W) :
 CallsIn F n Tryz.prog 142 #[.func (.yield l) #[] #[],.pointer (some ⟨Bn,0,none⟩),.pointer (some ⟨Ba,0,none⟩)] W fun e W'=>(∃v,e = .returned v) /\
  ((∃ys,ys=upto s c/\J ys W')\/(∃pre,(∃k,k≤c/\pre=upto s k)/\Jx pre W')):=by
 refine callsIn_of_wp Tryz.func142 rfl h61 ?_ hro;simp only [Tryz.ntmps142,List.size_toArray,List.length_cons,List.length_nil,Nat.reduceAdd,Nat.reduceSub,Array.replicate_succ,Array.replicate_zero,List.push_toArray,List.append_toArray,List.nil_append,List.cons_append]
 gi_wp2
 gi_loopw [6] (fun i wr=>∃k:Nat,k≤c/\i = .int .i64 k/\J (upto s k) wr/\KpA Ba W wr)
  (fun i _=>c-(intOf i).toNat)
 case atStart=>exact ⟨0,Nat.zero_le _,rfl,h0,rfl⟩
 case round=>
  obtain ⟨k,hk,rfl,hJs,hnx⟩:=hrel;have hca:wr.cell? ⟨Ba,0,none⟩=some (.int .i64 ((s:Int)-128)):=Eq.trans hnx hBa;by_cases hlt:k<c
  · obtain ⟨fn,tmps,assign,body,hy,hR⟩:=hY _ (bx (s+k)) wr hJs (by rw [upto_length];exact hlt)
    have e1:encB (bx (s+k)) = #[.int .i64 ((s:Int)+k)]:=by unfold encB;rw [bx_val (by omega)];simp
    rw [e1] at hy;have e2:128+((s:Int)-128)+(k:Int)=(s:Int)+k:=by omega
    gi_wp2
    refine hR.mono ?_;rintro e W3 (⟨rfl,hJ3,hk3⟩|⟨rfl,hJx3⟩)
    · gi_wp2
      go_roundw
      case rel=>exact ⟨k+1,by omega,by simp,by rw [upto_succ];exact hJ3,Eq.trans hk3 hnx⟩
      case measure=>simp [intOf];omega
    · gi_wp2
      refine bodyPost_ret (results_none rfl _ _ _) rfl ?_;exact ⟨⟨_,rfl⟩,.inr ⟨_,⟨k+1,by omega,(upto_succ _ _).symm⟩,hJx3⟩⟩
  · obtain rfl:k=c:=by omega
    gi_wp2
    go_end0
    exact ⟨⟨_,rfl⟩,.inl ⟨_,rfl,hJs⟩⟩
theorem each_stops (F:Fence) (n:Nat) (h61:F.fn 142) (hro:F.round=none) (hn:1≤n) (Bn Ba s c:Nat) (hs:s+c≤128) (w:World) (hBn:w.cell? ⟨Bn,0,none⟩=some (.int .i64 (c:Int))) (hBa:w.cell? ⟨Ba,0,none⟩=some (.int .i64 ((s:Int)-128))) :
 SeqStopsK F n Tryz.prog 142 #[.pointer (some ⟨Bn,0,none⟩),.pointer (some ⟨Ba,0,none⟩)] encB (KpA Ba) (fun ys=>ys=upto s c) (fun pre=>∃k,k≤c/\pre=upto s k) c w:=fun l J Jx W hW _ _ hY h0=>
 each1_in F n h61 hro hn l Bn Ba s c hs J Jx hY W ((hW.cell (World.block_lt_of_cell? w _ hBn)).trans hBn) ((hW.cell (World.block_lt_of_cell? w _ hBa)).trans hBa) h0
theorem kpA_t {b:Nat} {A B C:World} (h:KpA b A B) (k:KpA b B C):KpA b A C:=Eq.trans k h
theorem kpA_b {b:Nat} {w:World} (hb:b<w.heap.size) (W:World) (l:Nat) (o o':Obj) (hl:w.heap.size≤l) (h:W.heap[l]? = some o) (_:o.isCells=false) (_:o.isWalk=false):KpA b W (W.putObj l o'):=by
 have:(W.putObj l o').heap[b]? = W.heap[b]? := World.putObj_heap_other (by omega)
 exact World.cell?_of_block this
end Go.Proofs.YtoeealkcacgcgaaGreatDoor.Eac
namespace Go.WE
open Go
open Go.RowKit (Below)
section
variable {cx:Cx} {Γ:Gam} {fuel n:Nat} {fp:Fp} {c:Code} {l l' l'':List (Nat×V)} {h:H} {ts:List Nat} {ok:A} {W:World} {ν:Nu} {a:Act} {w:World}
theorem At.growL {h2:H} (X:CxOK cx Γ) (hlam:fp.lam=fun _ _=>none) (hp:endOf fp.km ts (evalC cx (evalF cx Γ fuel n) fp fuel c (stOf l h)).pick=some ⟨.nrm,ok,l'⟩)
 (hh:((evalC cx (evalF cx Γ fuel n) fp fuel c (stOf l h)).pick.map fun p=>(p.2.h.m,p.2.h.next,p.2.h.gl))=some (h2.m,h2.next,h2.gl)) (hlo:h2.lo=h2.next) (hok:okB ok=true) (hgl:codeGl c []=[])
 (hI:At fp h W ν l a w):c.wp cx.P (fun x a' w'=>x = .normal/\∃ν',ν.le ν'/\At fp h2 W ν' l' a' w') a w:=by
 obtain ⟨hs,hbW⟩:=hI;obtain ⟨s,h1,h2',h3,h4,h5⟩:=endOf_some hp;refine phase X hlam h1 (by rw [h2'];exact hok) (gl_none hgl) hs fun ν' a' w' x hc hg hx => ?_
 have hb:=goes_below h4 hs.mem hg;rw [h1] at hh;simp only [Option.map_some,oI,pI] at hh;obtain ⟨e1,e2,e3⟩:=hh;have hm:=hc.mem;refine ⟨hx,ν',hg.le,⟨⟨⟨hm.nums.lt,by rw [← e1];exact hm.nums.inj,by rw [← e2];exact hm.nums.fresh,by rw [← e1,← e2];exact hm.nums.bound,by rw [hlo];exact Nat.le_refl _,by rw [← e3];exact hm.nums.glob⟩,?_⟩,fun t v htv => ?_,hc.size,?_⟩,Below.base hbW hb⟩
 · intro id b hid _;rw [← e1] at hid;exact hm.seen id b hid (.inl (.inl trivial))
 · have h6:=(hc.slots t).1;rw [vals_mem h3 t v htv] at h6;exact h6 trivial
 · have:=hc.defers;rw [h5] at this;cases hd:a'.defers with
   | nil=>rfl
   | cons _ _=>rw [hd] at this;exact this.elim
end
structure But (r n₀:Nat) (w w':World):Prop where
 os:w'.os=w.os
 tape:w'.tape=w.tape
 output:w'.output=w.output
 size:w.heap.size≤w'.heap.size
 block:∀k,k<n₀->k≠r->w'.heap[k]? = w.heap[k]?
theorem But.refl (r n₀:Nat) (w:World):But r n₀ w w:=⟨rfl,rfl,rfl,Nat.le_refl _,fun _ _ _=>rfl⟩
theorem But.trans {r n₀:Nat} {a b c:World} (h:But r n₀ a b) (k:But r n₀ b c):But r n₀ a c:=
 ⟨k.os.trans h.os,k.tape.trans h.tape,k.output.trans h.output,Nat.le_trans h.size k.size,fun i hi hr=>(k.block i hi hr).trans (h.block i hi hr)⟩
theorem But.of_below {r n₀:Nat} {a b:World} (h:Below n₀ a b):But r n₀ a b:=⟨h.os,h.tape,h.output,h.size,fun k hk _=>h.block k hk⟩
theorem But.le {r n₀ n₁:Nat} {a b:World} (h:But r n₁ a b) (hn:n₀≤n₁):But r n₀ a b:=⟨h.os,h.tape,h.output,h.size,fun k hk hr=>h.block k (Nat.lt_of_lt_of_le hk hn) hr⟩
theorem But.cell {r n₀:Nat} {a b:World} (h:But r n₀ a b) {k off:Nat} (hk:k<n₀) (hr:k≠r):b.cell? ⟨k,off,none⟩=a.cell? ⟨k,off,none⟩:=World.cell?_of_block (h.block k hk hr)
theorem But.grown {r n₀:Nat} {w W W':World} (h:But r n₀ w W) {row:Option Nat} (hg:W.grownBy W' row) (hn:n₀≤w.heap.size) (hr:∀k,row=some k->n₀≤k):But r n₀ w W':=
 ⟨hg.os.trans h.os,hg.tape.trans h.tape,hg.output.trans h.output,Nat.le_trans h.size hg.size,fun k hk hkr=>(hg.block k (Nat.lt_of_lt_of_le (Nat.lt_of_lt_of_le hk hn) h.size) (fun e=>by have:=hr k e.symm;omega)).trans (h.block k hk hkr)⟩
def Holds (W:World) (r:Nat) (t:T):Prop:=∃cs ty vs post,W.heap[r]? = some (.cells cs ty (0,0))/\cs.toList=vs++post/\t.rel nu0 vs
theorem Holds.lt {W:World} {r:Nat} {t:T} (h:Holds W r t):r<W.heap.size:=by
 obtain ⟨cs,ty,vs,post,h1,_⟩:=h;exact (Array.getElem?_eq_some_iff.1 h1).1
theorem Holds.cells {W:World} {r:Nat} {t:T} (h:Holds W r t):∃o:Obj,W.heap[r]? = some o/\o.isCells=true:=by
 obtain ⟨cs,ty,vs,post,h1,_⟩:=h;exact ⟨_,h1,rfl⟩
theorem Holds.same {W W':World} {r:Nat} {t:T} (h:Holds W r t) (e:W'.heap[r]? = W.heap[r]?):Holds W' r t:=by
 obtain ⟨cs,ty,vs,post,h1,h2,h3⟩:=h;exact ⟨cs,ty,vs,post,e.trans h1,h2,h3⟩
theorem Holds.less {W:World} {r:Nat} {t t':T} (h:Holds W r t) (hl:∀vs,t.rel nu0 vs->t'.rel nu0 vs):Holds W r t':=by
 obtain ⟨cs,ty,vs,post,h1,h2,h3⟩:=h;exact ⟨cs,ty,vs,post,h1,h2,hl _ h3⟩
theorem Holds.grown {W W':World} {r:Nat} {t:T} (h:Holds W r t) {row:Option Nat} (hg:W.grownBy W' row) (hrow:∀k,row=some k->∃o:Obj,W.heap[k]? = some o/\o.isCells=false):Holds W' r t:=by
 obtain ⟨o,h1,h2⟩:=h.cells;exact h.same (grownBy_keeps_cells hg hrow h1 h2)
def nuOne (r:Nat):Nu:=fun i=>if i=0 then some (r,0) else none
theorem nuOne_some {r i b base:Nat} (h:nuOne r i=some (b,base)):i=0/\b=r/\base=0:=by
 unfold nuOne at h;split at h
 · cases h;exact ⟨by assumption,rfl,rfl⟩
 · cases h
theorem mem_one {W:World} {r:Nat} {t:T} (h:Holds W r t):Mem (fun _=>True) (nuOne r) W (hM [(0,⟨true,t⟩)] 1):=by
 have hget:∀i x,(hM [(0,⟨true,t⟩)] 1).m.get i=some x->i=0/\x=⟨true,t⟩:=fun i x e=>by have:=get_memT _ i x e;simp only [List.mem_singleton,pI] at this;exact this
 refine ⟨⟨fun i r' b' e=>by obtain ⟨_,rfl,_⟩:=nuOne_some e;exact h.lt,fun i x e _ i' r' b1 b2 e1 e2 => ?_,fun i hi => ?_,fun i x e=>by obtain ⟨rfl,_⟩:=hget i x e;exact Nat.lt_succ_self _,Nat.le_refl _,fun g hg=>(by cases hg)⟩,fun i x e _ => ?_⟩
 · rw [(nuOne_some e1).1,(nuOne_some e2).1]
 · have hi:1≤i:=hi;unfold nuOne;rw [if_neg (by omega)]
 · obtain ⟨rfl,rfl⟩:=hget i x e;obtain ⟨cs,ty,vs,post,h1,h2,h3⟩:=h;refine .inl ⟨r,0,cs,ty,(0,0),[],vs,post,by simp [nuOne],h1,by simpa using h2,rfl,?_,fun _=>⟨rfl,rfl⟩⟩
   exact T.rel_mono (fun i p e=>by cases e) h3
theorem seen_holds {ν:Nu} {W:World} {id r:Nat} {t:T} (h:Seen ν W id ⟨true,t⟩) (hn:notMp t=true) (hf:t.free=true) (hν:ν id=some (r,0)):Holds W r t:=by
 obtain ⟨r',base,cs,ty,fr,pre,vs,post,h1,h2,h3,h4,h5,h6⟩:=h.cells hn;rw [hν] at h1;cases h1;obtain ⟨_,rfl⟩:=h6 rfl;obtain rfl:pre=[]:=List.length_eq_zero_iff.1 h4;exact ⟨cs,ty,vs,post,h2,by simpa using h3,T.rel_free hf h5⟩
theorem hM_get {b:Blk} {ms:List (Nat×Blk)} {n i:Nat}:(hM ((0,b)::ms) n).m.get i=if 0=i then some b else (memT ms).get i:=by
 show ((memT ms).set 0 b).get i=_;exact Tr.get_set _ _ _ _
theorem mem_but {ν:Nu} {w W:World} {r n:Nat} {t t':T} {ms:List (Nat×Blk)} (hm:Mem (fun _=>True) ν w (hM ((0,⟨true,t⟩)::ms) n)) (h0:ν 0=some (r,0)) (hb:But r w.heap.size w W) (hh:Holds W r t'):Mem (fun _=>True) ν W (hM ((0,⟨true,t'⟩)::ms) n):=by
 have hold:∀i b,(hM ((0,⟨true,t'⟩)::ms) n).m.get i=some b->(i=0/\b=⟨true,t'⟩)\/(i≠0/\(hM ((0,⟨true,t⟩)::ms) n).m.get i=some b):=fun i b h=>by
  rw [hM_get] at h;split at h
  · rename_i e;subst e;cases h;exact .inl ⟨rfl,rfl⟩
  · rename_i e;refine .inr ⟨fun e'=>e e'.symm,?_⟩;rw [hM_get,if_neg e];exact h
 have g0:(hM ((0,⟨true,t⟩)::ms) n).m.get 0=some ⟨true,t⟩:=by rw [hM_get,if_pos rfl]
 refine ⟨⟨fun i r' b e=>Nat.lt_of_lt_of_le (hm.nums.lt i r' b e) hb.size,fun i b hi hrw i' r' b1 b2 e1 e2 => ?_,hm.nums.fresh,fun i b hi => ?_,hm.nums.lo,hm.nums.glob⟩,fun i b hi _ => ?_⟩
 · rcases hold i b hi with ⟨rfl,rfl⟩|⟨_,h⟩
   · exact hm.nums.inj 0 _ g0 rfl i' r' b1 b2 e1 e2
   · exact hm.nums.inj i b h hrw i' r' b1 b2 e1 e2
 · rcases hold i b hi with ⟨rfl,rfl⟩|⟨_,h⟩
   · exact hm.nums.bound 0 _ g0
   · exact hm.nums.bound i b h
 · rcases hold i b hi with ⟨rfl,rfl⟩|⟨hne,h⟩
   · obtain ⟨cs,ty,vs,post,h1,h2,h3⟩:=hh;exact .inl ⟨r,0,cs,ty,(0,0),[],vs,post,h0,h1,by simpa using h2,rfl,T.rel_mono (fun i p e=>by cases e) h3,fun _=>⟨rfl,rfl⟩⟩
   · refine (hm.seen i b h trivial_or).mono (Nu.le_refl _) fun r' base e=>hb.block r' (hm.nums.lt i r' base e) fun e' => ?_;subst e';exact hne (hm.nums.inj 0 _ g0 rfl i r' 0 base h0 e)
where
 trivial_or {p:Prop}:True\/p :=.inl trivial
theorem seen_cell1 {ν:Nu} {w:World} {id:Nat} {x:A} (h:Seen ν w id ⟨true,.a x⟩):∃B v,ν id=some (B,0)/\w.cell? ⟨B,0,none⟩=some v/\x.rel ν v:=by
 obtain ⟨B,base,cs,ty,fr,pre,vs,post,h1,h2,h3,h4,h5,h6⟩:=h.cells rfl;obtain ⟨rfl,rfl⟩:=h6 rfl;obtain rfl:pre=[]:=List.length_eq_zero_iff.1 h4;simp only [T.rel] at h5;obtain ⟨v,rfl,h7,_⟩:=h5;refine ⟨B,v,h1,?_,h7⟩;have:cs[0]? = some v:=by rw [← Array.getElem?_toList,h3];rfl
 simp [World.cell?,h2,this]
theorem goes_but {S:Nat->Prop} {ν ν':Nu} {w w':World} {h h':H} {r:Nat} (hm:Mem S ν w h.mark) (h0:ν 0=some (r,0)) (hw:h'.wr=[0]\/h'.wr=[]) (g:Goes S ν w h.mark ν' w' h'):But r w.heap.size w w':=by
 refine ⟨g.frm.os,g.frm.tape,g.frm.output,g.frm.size,fun k hk hkr=>g.frm.block k hk fun id base hid=>⟨?_,?_⟩⟩
 · rw [g.ext.lo];show id<h.next;refine Classical.byContradiction fun hge => ?_;rw [hm.nums.fresh id (show h.next≤id by omega)] at hid
   cases hid
 · rcases hw with hw|hw
   · rw [hw];intro hm';simp at hm';subst hm';rw [h0] at hid;cases hid;exact hkr rfl
   · rw [hw];exact fun h=>by cases h
theorem But.others {r:Nat} {W W':World} (h:But r W.heap.size W W') (hc:∃o:Obj,W.heap[r]? = some o/\o.isCells=true):KeepsOthers W W':=by
 refine ⟨h.size,fun k o hk ho=>(h.block k (Array.getElem?_eq_some_iff.1 hk).1 ?_).trans hk⟩;rintro rfl;obtain ⟨o',h1,h2⟩:=hc;rw [hk] at h1;cases h1;rw [ho] at h2;cases h2
theorem At.enterA {fp:Fp} {h:H} {ν:Nu} {args:List V} {vs:List Value} {W:World} (hm:Mem (fun _=>True) ν W h) (hv:relV ν args vs) (hsz:args.length≤fp.nt) :
 At fp h W ν (argsL 0 args) { tmps:=vs.toArray++Array.replicate (fp.nt-vs.toArray.size) undef,defers:=[] } W:=by
 have hlen:=relV_length hv;refine ⟨⟨hm,fun t v h => ?_,by simp;omega,rfl⟩,Below.refl _ _⟩
 refine argsL_rel args vs 0 hv (fun j hj => ?_) t v h;simp [Array.getD_eq_getD_getElem?,Array.getElem?_append,hj]
theorem goes_butI {S:Nat->Prop} {ν ν':Nu} {w w':World} {h h':H} {r i:Nat} (hm:Mem S ν w h.mark) (h0:ν i=some (r,0)) (hw:h'.wr=[i]\/h'.wr=[]) (g:Goes S ν w h.mark ν' w' h'):But r w.heap.size w w':=by
 refine ⟨g.frm.os,g.frm.tape,g.frm.output,g.frm.size,fun k hk hkr=>g.frm.block k hk fun id base hid=>⟨?_,?_⟩⟩
 · rw [g.ext.lo];show id<h.next;refine Classical.byContradiction fun hge => ?_;rw [hm.nums.fresh id (show h.next≤id by omega)] at hid
   cases hid
 · rcases hw with hw|hw
   · rw [hw];intro hm';simp at hm';subst hm';rw [h0] at hid;cases hid;exact hkr rfl
   · rw [hw];exact fun h=>by cases h
def Out.nR:Out->Out
 | .node _ _ y=>y
 | _ =>.fail
theorem Out.nR_pick {o:Out} (h:o.cnd=some false):o.pick=o.nR.pick:=by
 cases o with
 | node y x z=>
   simp only [Out.cnd,oI] at h;subst h;rfl
 | _=>simp [Out.cnd] at h
section
variable {cx:Cx} {Γ:Gam} {fuel n:Nat} {fp:Fp} {c:Code} {l l' l'':List (Nat×V)} {h:H} {ts:List Nat} {ok:A} {W:World} {ν:Nu} {a:Act} {w:World}
theorem At.growN {h2:H} (X:CxOK cx Γ) (hlam:fp.lam=fun _ _=>none) (hp:endOf fp.km ts (evalC cx (evalF cx Γ fuel n) fp fuel c (stOf l h)).pick=some ⟨.nrm,ok,l'⟩)
 (hh:((evalC cx (evalF cx Γ fuel n) fp fuel c (stOf l h)).pick.map fun p=>(p.2.h.m,p.2.h.next,p.2.h.gl))=some (h2.m,h2.next,h2.gl)) (hlo:h2.lo=h2.next) (hok:okB ok=true) (hgl:codeGl c []=[])
 (hI:At fp h W ν l a w):c.wp cx.P (fun x a' w'=>x = .normal/\∃ν',(ν.le ν'/\∀id r base,ν id=none->ν' id=some (r,base)->W.heap.size≤r)/\At fp h2 W ν' l' a' w') a w:=by
 obtain ⟨hs,hbW⟩:=hI;obtain ⟨s,h1,h2',h3,h4,h5⟩:=endOf_some hp;refine phase X hlam h1 (by rw [h2'];exact hok) (gl_none hgl) hs fun ν' a' w' x hc hg hx => ?_
 have hb:=goes_below h4 hs.mem hg;rw [h1] at hh;simp only [Option.map_some,oI,pI] at hh;obtain ⟨e1,e2,e3⟩:=hh;have hm:=hc.mem;refine ⟨hx,ν',⟨hg.le,fun id r base e e'=>Nat.le_trans hbW.size (hg.new id r base e e')⟩,⟨⟨⟨hm.nums.lt,by rw [← e1];exact hm.nums.inj,by rw [← e2];exact hm.nums.fresh,by rw [← e1,← e2];exact hm.nums.bound,by rw [hlo];exact Nat.le_refl _,by rw [← e3];exact hm.nums.glob⟩,?_⟩,fun t v htv => ?_,hc.size,?_⟩,Below.base hbW hb⟩
 · intro id b hid _;rw [← e1] at hid;exact hm.seen id b hid (.inl (.inl trivial))
 · have h6:=(hc.slots t).1;rw [vals_mem h3 t v htv] at h6;exact h6 trivial
 · have:=hc.defers;rw [h5] at this;cases hd:a'.defers with
   | nil=>rfl
   | cons _ _=>rw [hd] at this;exact this.elim
end
theorem results_cell {P:Program} {fn:Func} {t:Tmp} {ty:TypeId} {tmps:Array Value} {adr:Addr} {v:Value} {w:World} (h:fn.results = #[.cell t ty]) (ht:tmps.getD t undef = .pointer (some adr)) (hy:isAggT P ty=some false) (hc:w.cell? adr=some v) :
 (results fn tmps).run P w = .ok v w:=by
 have:(loadVar ty adr).run P w = .ok v w:=by rw [loadVar,Sem.run_bind,run_isAgg' hy];simp only [Result.andThen_ok,Bool.false_eq_true,if_false];exact run_load_cell hc
 rw [Array.getD_eq_getD_getElem?] at ht;simp [results,h,ht,asAddr,this]
theorem But.below {r n₀ n₁:Nat} {w w':World} (h:But r n₁ w w') (hn:n₀≤n₁) (hr:n₀≤r):Below n₀ w w':=⟨h.os,h.tape,h.output,h.size,fun k hk=>h.block k (by omega) (by omega)⟩
end Go.WE
end
