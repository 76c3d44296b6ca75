/- A part of a proof of the helpers' law; no condition of its own. -/
import Derived.OwnWalk
import Derived.WalkSpells
import Derived.StillTactics
import Derived.Laws.Pointers
import Derived.Deep.RegionHeld3
import Derived.Deep.AppendLies
import Derived.Test.YtoeealkcacgcgaaGreatDoorK11
import Derived.Test.YtoeealkcacgcgaaGreatDoorK16
import Derived.Test.YtoeealkcacgcgaaGreatDoorK17
set_option linter.unusedVariables false
set_option maxRecDepth 100000
noncomputable section
namespace Go.WE
open Go Go.Proofs Go.RowKit
open Go.Proofs.YtoeealkcacgcgaaGreatDoor.Wor (bytesL bytes52)
def stackQ (v:VW) (n:Nat):U:=cond (v.k==K 0) (K 15) (cond (v.k != K 3) (K 14) (cond (!(cond (cond (BitVec.sle (K (-128)) v.n) (BitVec.sle v.n (K 0)) false) (BitVec.sle (K n) (BitVec.ofNat 64 0-v.n)) false)) (K 17) (K 0)))
def bytesQE (how:Nat->U) (v:VW) (n:Nat):U:=cond (stackQ v n==K 0) (readN how (posW v.n) n) (stackQ v n)
theorem bmod_small {a:Int} (h1 : -200≤a) (h2:a≤200):a.bmod (2 ^ 64)=a:=by
 refine Int.bmod_eq_of_le ?_ ?_
 · have:((2 ^ 64:Nat):Int) / 2=9223372036854775808:=by decide
   omega
 · have:(((2 ^ 64:Nat):Int)+1) / 2=9223372036854775808:=by decide
   omega
theorem neg_small {x:U} (h1 : -128≤x.toInt) (h2:x.toInt≤0):(BitVec.ofNat 64 0-x).toInt = - x.toInt:=by
 have e:BitVec.ofNat 64 0-x = -x:=BitVec.zero_sub x;rw [e,BitVec.toInt_neg];exact bmod_small (by omega) (by omega)
theorem inB_eq {x:U} {n:Nat} (h0:0<n) (h:n≤128):cond (cond (BitVec.sle (K (-128)) x) (BitVec.sle x (K 0)) false) (BitVec.sle (K n) (BitVec.ofNat 64 0-x)) false=inB x n:=by
 unfold inB;cases h1:BitVec.sle (K (-128)) x
 · simp only [cond_false]
 · rw [cond_true,cond_true];rw [BitVec.sle,decide_eq_true_eq] at h1;have e1:(K (-128)).toInt = -128:=rfl;have e0:(K 0).toInt=0:=rfl;have e2:(K (-(n:Int))).toInt = -(n:Int):=by
    unfold K;rw [BitVec.toInt_ofInt,Int.bmod_def];split<;>omega
   have e3:(K (n:Int)).toInt=(n:Int):=by unfold K;rw [BitVec.toInt_ofInt,Int.bmod_def];split<;>omega
   rw [e1] at h1;rw [BitVec.sle,BitVec.sle,BitVec.sle,e0,e2,e3];by_cases h2:x.toInt≤0
   · rw [decide_eq_true h2,cond_true];have e4:=neg_small h1 h2;rw [e4];exact decide_eq_decide.2 (by omega)
   · rw [decide_eq_false h2,cond_false];exact (decide_eq_false (by omega)).symm
theorem stackQ_eq (v:VW) {n:Nat} (h0:0<n) (h:n≤128):stackQ v n=stackE v n:=by
 unfold stackQ stackE;rw [inB_eq h0 h,bne];cases v.k==K 3<;>cases inB v.n n<;>rfl
theorem bytesQE_eq (how:Nat->U) (v:VW) {n:Nat} (h0:0<n) (h:n≤128):bytesQE how v n=bytesE how v n:=by
 unfold bytesQE bytesE;rw [stackQ_eq v h0 h]
theorem isSz_le {n:Nat} (h:isSz n=true):n≤128:=by
 rcases isSz_cases h with rfl|rfl|rfl|rfl|rfl<;>decide
def okBQ (v:VW) (n:Nat):Bool:=cond (stackQ v n==K 0) (Nat.ble ((v.n+K 128).toNat+n) 128) true
def RT.lft:RT->RT
 | .node x a _ =>.node x a .fail
 | r=>r
theorem lft_pick {r:RT} {p:A×V×List Nat×Option Blk×Option Blk} (h:r.lft.pick=some p):r.pick=some p:=by
 cases r with
 | node x a b=>
   cases x
   · cases h
   · exact h
 | _=>exact h
theorem bytQ_ev (s:QF) (v:VW) {n:Nat} (h:isSz n=true):(evalF cxK ΓE 400 20 52 [pt 0,.t v.t,one (.lit .i64 (.ofNat n))] (hM [(0,⟨true,s.t⟩)] 1)).rt.lft =
 .node (bytesQE s.how v n != K 0) (.leaf (.b (okBQ v n)) (.tup [.a .nils,.a (.i .i64 (bytesQE s.how v n))]) [] (some ⟨true,s.t⟩) none) .fail:=by
 rcases isSz_cases h with rfl|rfl|rfl|rfl|rfl<;>kernel_rfl
theorem st82_ev (v:VW) {n:Nat} (h:isSz n=true):(evalF cxK noΓ 400 20 82 [.t v.t,one (.lit .i64 (.ofNat n))] H.none).res=some (.tt,i64 (stackQ v n)):=by
 rcases isSz_cases h with rfl|rfl|rfl|rfl|rfl<;>kernel_rfl
theorem tup_ei {ν:Nu} {x:U} {u:Value} (h:(V.tup [.a .nils,.a (.i .i64 x)]).rel ν u):u = .tuple #[.slice none 0 0,.int .i64 (vof .i64 x)]:=by
 obtain ⟨us,rfl,hus⟩:=h
 match us,hus with
 | ⟨[u1,u2]⟩,hus=>
   obtain ⟨q1,q2,_⟩:=hus;have q1:(A.nils).rel ν u1:=q1;have q2:(A.i .i64 x).rel ν u2:=q2;simp only [A.rel] at q1 q2;subst q1 q2;rfl
theorem q_cell {w:World} {r:Nat} {s:QF} (hh:Holds w r s.t) {i:Nat} (hi:i<128):w.cell? ⟨r,76+2*i+1,none⟩=some (.int .u8 (vof .u8 (s.b i))):=by
 obtain ⟨cs,ty,vs,post,h1,h2,h3⟩:=hh;unfold QF.t at h3;simp only [T.rel,relTs] at h3;obtain ⟨a1,b1,rfl,q1,a2,b2,rfl,q2,a3,b3,rfl,q3,a4,b4,rfl,q4,rfl⟩:=h3;have l1:a1.length=44:=by simpa [Ix.val] using q1.1
 have l2:a2.length=32:=by simpa [ctxT] using (lst_each _ _ q2).1
 have l3:a3.length=256:=by simpa [Ix.val] using q3.1
 have hs:=q3.2 i hi;simp only [Sh.rel,relShs] at hs;obtain ⟨u1,w1,e1,r1,u2,w2,e2,r2,e3⟩:=hs;subst r1 r2 e3;have hc:a3[2*i+1]? = some (.int .u8 (vof .u8 (s.b i))):=by
  have h:=congrArg (fun l=>l[1]?) e1;simp only [List.getElem?_take_of_lt (show 1<2 by decide),List.getElem?_drop] at h
  rw [h,e2];rfl
 unfold World.cell?;rw [h1];simp only;rw [← Array.getElem?_toList,h2];have e:76+2*i+1=44+(32+(2*i+1)):=by omega
 rw [e,List.append_assoc,List.append_assoc,List.getElem?_append_right (by omega),l1,Nat.add_sub_cancel_left,List.append_assoc,List.getElem?_append_right (by omega),l2,Nat.add_sub_cancel_left,List.append_assoc,List.getElem?_append_left (by omega)]
 exact hc
theorem vw_val {v:VW} {vv:Value} (h:(V.t v.t).rel nu0 vv):vv = .agg #[.int .i64 (vof .i64 v.k),.int .u64 (vof .u64 v.n),.int .i64 (vof .i64 v.m),.int .i64 (vof .i64 v.i)]:=by
 obtain ⟨us,rfl,hr⟩:=h;unfold VW.t at hr;simp only [T.rel,relTs,A.rel] at hr;obtain ⟨a1,b1,e1,⟨x1,rfl,rfl,_⟩,a2,b2,e2,⟨x2,rfl,rfl,_⟩,a3,b3,e3,⟨x3,rfl,rfl,_⟩,a4,b4,e4,⟨x4,rfl,rfl,_⟩,rfl⟩:=hr;subst e4 e3 e2;congr 1;exact Array.toList_inj.1 (by rw [e1];rfl)
theorem wrap_uv (x:U):IntKind.i64.wrap (vof .u64 x)=vof .i64 x:=by
 rw [IntKind.wrap_i64];have h1:vof .u64 x=(x.toNat:Int):=by have:vof .u64 x=IntKind.u64.wrap (x.toNat:Int):=rfl;rw [this,IntKind.wrap_u64];have:=x.isLt;omega
 have h2:=BitVec.toInt_eq_toNat_cond x;have h3:=x.isLt;rw [h1,vof_toInt,h2];split<;>omega
theorem bytesL_arr {ν:Nu} {g:Nat->U} {n:Nat}:(T.arr 1 (.lit n) (.int .u8 g)).rel ν (bytesL (fun j=>vof .u8 (g j)) n):=by
 simp only [T.rel];refine ⟨by simp [bytesL,Ix.val],fun i hi => ?_⟩
 have hi:i<n:=hi;simp only [Sh.rel];rw [Nat.one_mul,List.drop_eq_getElem_cons (by simpa [bytesL] using hi),List.take_succ_cons,List.take_zero]
 simp [bytesL]
theorem bytes52_calls {w:World} {r n:Nat} {s:QF} {v:VW} {vv:Value} (hn:isSz n=true) (hh:Holds w r s.t) (hv:(V.t v.t).rel nu0 vv) :
 Calls Tryz.prog 52 #[.pointer (some ⟨r,0,none⟩),vv,.int .i64 (.ofNat n)] w (bytesP w s.how s.b v n):=by
 obtain ⟨hn0,hn63⟩:=isSz_lt hn;have hn128:=isSz_le hn;have hE:=bytesQE_eq s.how v hn0 hn128;cases he:bytesQE s.how v n != K 0
 · have hz:bytesE s.how v n=K 0:=by
    rw [← hE];simpa using he
   have hs0:stackE v n=K 0:=by
    unfold bytesE at hz;cases h:stackE v n==K 0
    · rw [h,cond_false] at hz;exact hz
    · exact eq_of_beq h
   have hr0:readN s.how (posW v.n) n=K 0:=by unfold bytesE at hz;rw [hs0] at hz;exact hz
   have hin:inB v.n n=true:=by unfold stackE at hs0;cases h0:v.k==K 0<;>cases h3:v.k==K 3<;>cases hi:inB v.n n<;>rw [h0] at hs0<;>simp only [cond_true,cond_false] at hs0<;>(try rw [h3] at hs0)<;>(try simp only [cond_true,cond_false] at hs0)<;>(try rw [hi] at hs0)<;>first|rfl|exact absurd hs0 (by decide)
   obtain ⟨hp1,hp2,hp3⟩:=inB_nat hin hn63;obtain rfl:=vw_val hv;refine (bytes52 r n (posW v.n) _ _ _ _ hn128 hp1 (by rw [wrap_uv];exact hp3) (fun j=>vof .u8 (byF s.b (posW v.n) j)) w hh.lt (fun w1 => ?_) (fun w1 hw1 => ?_) (fun j hj => ?_)).mono ?_
   · obtain ⟨h',hp⟩:=res_some (st82_ev v hn);obtain ⟨_,hfn⟩:=evalF_fn (XK noΓ_ok) rfl hp rfl;have hargs:relV nu0 [.t v.t,one (.lit .i64 (.ofNat n))] [_,.int .i64 (n:Int)]:=⟨hv,by
      show (A.lit .i64 (.ofNat n)).rel nu0 _;simp only [A.rel];exact ⟨rfl,by rcases isSz_cases hn with rfl|rfl|rfl|rfl|rfl<;>rfl⟩,trivial⟩
     refine (hfn (fun _=>True) nu0 w1 _ (fun _ _=>trivial) (fun _ _=>trivial) (mem_none _ w1) hargs).mono ?_;rintro e w' ⟨u,ν',rfl,hu,g⟩;have hu:(A.i .i64 (stackQ v n)).rel ν' u:=hu;simp only [A.rel] at hu;refine ⟨by rw [hu,stackQ_eq v hn0 hn128,hs0];rfl,g.frm.os,g.frm.tape,g.frm.output,g.frm.size,fun k hk=>g.frm.block k hk fun id base h=>by cases h⟩
   · have:=seen_calls (w:=w1) (x:=v.n) hp1 (by rw [BitVec.add_comm];exact hp2) (hh.same hw1)
     rw [vof_kk hn63,hp3,hr0] at this;exact this
   · exact q_cell hh (by omega)
   · rintro e w' ⟨l,rfl,hown,hb⟩;obtain ⟨_,hcase⟩:=hown;rcases hcase with ⟨_,e0⟩|⟨b',cap',cur,rfl,hge,hh',hncap,hcap',hsz,htake⟩
     · omega
     · rw [Nat.mul_one] at htake;refine ⟨hb,fun _=>⟨b',cap',hge,hncap,rfl,?_⟩,fun h=>absurd hz h⟩;exact ⟨cur,5,_,cur.toList.drop n,hh',by rw [← htake,List.take_append_drop],bytesL_arr (ν:=nu0) (g:=byF s.b (posW v.n)) (n:=n)⟩
 · have hne:bytesE s.how v n≠K 0:=by
    rw [← hE];simpa using he
   have hp:(RT.node (bytesQE s.how v n != K 0) (.leaf (.b (okBQ v n)) (.tup [.a .nils,.a (.i .i64 (bytesQE s.how v n))]) [] (some ⟨true,s.t⟩) none) .fail).pick=some (.b (okBQ v n),.tup [.a .nils,.a (.i .i64 (bytesQE s.how v n))],[],some ⟨true,s.t⟩,none):=by simp only [RT.pick,he,cond_true]
   rw [← bytQ_ev s v hn] at hp;have hp:=lft_pick hp;obtain ⟨h',hp,hw,_⟩:=rt_pick hp;have hok:okB (.b (okBQ v n))=true:=by
    show okBQ v n=true;unfold okBQ;cases h:stackQ v n==K 0
    · rfl
    · rw [cond_true];have hs0:stackE v n=K 0:=by rw [← stackQ_eq v hn0 hn128];exact eq_of_beq h
      have hin:inB v.n n=true:=by unfold stackE at hs0;cases h0:v.k==K 0<;>cases h3:v.k==K 3<;>cases hi:inB v.n n<;>rw [h0] at hs0<;>simp only [cond_true,cond_false] at hs0<;>(try rw [h3] at hs0)<;>(try simp only [cond_true,cond_false] at hs0)<;>(try rw [hi] at hs0)<;>first|rfl|exact absurd hs0 (by decide)
      exact nB (inB_nat hin hn63).1
   obtain ⟨_,hfn⟩:=evalF_fn (XK ΓE_ok) rfl hp hok;refine (call_calm hfn hw hh (args_bytes hv hn)).mono ?_;rintro e w' ⟨u,ν',rfl,hu,hb,_⟩;refine ⟨hb,fun h=>absurd h hne,fun _ => ?_⟩;rw [tup_ei hu,hE]
end Go.WE
namespace Go.WE
open Go Go.Proofs Go.RowKit
def vwOfT:T->Option VW
 | .st [.a k,.a n,.a m,.a i]=>match bvI .i64 k,bvI .u64 n,bvI .i64 m,bvI .i64 i with
   | some k,some n,some m,some i=>some ⟨k,n,m,i⟩
   | _,_,_,_=>none
 | _=>none
theorem vwOfT_rel {t:T} {v:VW} (h:vwOfT t=some v) {ν ν':Nu} {u:Value} (hr:t.relV ν u):v.t.relV ν' u:=by
 unfold vwOfT at h;split at h
 · split at h
   · rename_i h1 h2 h3 h4;cases h;obtain ⟨vs,rfl,hr⟩:=hr;refine ⟨vs,rfl,?_⟩;unfold VW.t;simp only [T.rel,relTs] at hr ⊢;obtain ⟨u1,w1,e1,r1,u2,w2,e2,r2,u3,w3,e3,r3,u4,w4,e4,r4,e5⟩:=hr;have c1:=bv_less1 (ν':=ν') h1 (ν:=ν) (vs:=u1) (by simpa only [T.rel] using r1)
     have c2:=bv_less1 (ν':=ν') h2 (ν:=ν) (vs:=u2) (by simpa only [T.rel] using r2)
     have c3:=bv_less1 (ν':=ν') h3 (ν:=ν) (vs:=u3) (by simpa only [T.rel] using r3)
     have c4:=bv_less1 (ν':=ν') h4 (ν:=ν) (vs:=u4) (by simpa only [T.rel] using r4)
     simp only [T.rel] at c1 c2 c3 c4;exact ⟨u1,w1,e1,c1,u2,w2,e2,c2,u3,w3,e3,c3,u4,w4,e4,c4,e5⟩
   · cases h
 · cases h
def errR (c:Int) (h:H):R :=.leaf .tt (.tup [.a .nils,.a (.lit .i64 c)]) h
def byR (how flat:Nat->U) (v:VW) (n id:Nat) (h:H):R:=
 .node (bytesE how v n==K 15) (errR 15 (h.sees [id])) (.node (bytesE how v n==K 14) (errR 14 (h.sees [id])) (.node (bytesE how v n==K 17) (errR 17 (h.sees [id]))
  (.leaf .tt (.tup [.a (.sl h.next [] 1 (.lit 0) (.lit n) none),.a (.lit .i64 0)]) ((h.sees [id]).new ⟨true,.arr 1 (.lit n) (.int .u8 (byF flat (posW v.n)))⟩))))
def bySp {σ:Type} (of:H->Nat->Option σ) (how flat:σ->Nat->U):List V->H->Option R
 | [.t (.a (.ptr id [])),.t vt,.t (.a (.lit .i64 (.ofNat n)))],h=>match of h id,vwOfT vt,isSz n with
   | some s,some v,true=>some (byR (how s) (flat s) v n id h)
   | _,_,_=>none
 | _,_=>none
theorem bytesE_vals (how:Nat->U) (v:VW) (n:Nat):bytesE how v n=K 0\/bytesE how v n=K 14\/bytesE how v n=K 15\/bytesE how v n=K 17:=by
 unfold bytesE stackE;cases v.k==K 0
 · cases v.k==K 3
   · exact .inr (.inl rfl)
   · cases inB v.n n
     · exact .inr (.inr (.inr rfl))
     · rcases readN_vals how (posW v.n) n with e|e|e
       · exact .inl e
       · exact .inr (.inl e)
       · exact .inr (.inr (.inl e))
 · exact .inr (.inr (.inl rfl))
theorem bytesOf_isfree {t:T} {p:Nat×(Nat->U)} (h:bytesOf t=some p):t.free=true:=by
 unfold bytesOf at h;split at h
 · rfl
 · rename_i ts;split at h
   · rename_i l hl;show freeTs ts=true;clear h
     induction ts generalizing l with
     | nil=>rfl
     | cons x xs ih=>
       unfold byteL at hl;split at hl
       · rename_i e;cases e
       · rename_i a r e;cases e;split at hl
         · rename_i y l' h1 h2;unfold bvI at h1;have hx:(T.a a).free=true:=by
            cases a<;>first|rfl|(simp [A.bv] at h1)
           show ((T.a a).free&&freeTs xs)=true;rw [hx,ih _ h2];rfl
         · cases hl
       · cases hl
   · cases h
 · cases h
def okLay (b n:Nat):A :=.b (Nat.ble (b+n) 128&&Nat.blt 0 n)
def laySp {σ:Type} (of:H->Nat->Option σ) (t:σ->T) (pos:U->Nat) (lay:σ->Nat->(Nat->U)->Nat->σ):List V->H->Option R
 | [.t (.a (.ptr id [])),.t (.a ak),.t (.a (.sl id2 [] 1 (.lit 0) len _))],h=>match of h id,i64Of ak,h.m.get id2 with
   | some s,some x,some ⟨_,t2⟩=>match bytesOf t2 with
     | some (m,c)=>match Nat.beq m len.val && !(Nat.beq id id2) with
       | true=>some (.leaf (okLay (pos x) m) (one .poison) ((h.sees [id,id2]).put id ⟨true,t (lay s (pos x) c m)⟩))
       | false=>none
     | none=>none
   | _,_,_=>none
 | _,_=>none
theorem laySp_inv {σ:Type} {of:H->Nat->Option σ} {t:σ->T} {pos:U->Nat} {lay:σ->Nat->(Nat->U)->Nat->σ} {args:List V} {h:H} {r:R} (e:laySp of t pos lay args h=some r) :
 ∃id ak id2 len cap s x rw t2 c,args=[.t (.a (.ptr id [])),.t (.a ak),.t (.a (.sl id2 [] 1 (.lit 0) len cap))]/\of h id=some s/\i64Of ak=some x/\h.m.get id2=some ⟨rw,t2⟩/\bytesOf t2=some (len.val,c)/\id≠id2 /\
  r = .leaf (okLay (pos x) len.val) (one .poison) ((h.sees [id,id2]).put id ⟨true,t (lay s (pos x) c len.val)⟩):=by
 unfold laySp at e;split at e
 · rename_i id ak id2 len cap;split at e
   · rename_i s x rw t2 h1 h2 h3;split at e
     · rename_i m c h4;split at e
       · rename_i h5;simp only [bA] at h5;have h6:=Nat.eq_of_beq_eq_true h5.1;subst h6;cases e;refine ⟨id,ak,id2,len,cap,s,x,rw,t2,c,rfl,h1,h2,h3,h4,fun e => ?_,rfl⟩;subst e;have:=h5.2;simp at this
       · cases e
     · cases e
   · cases e
 · cases e
theorem lay_ok {σ:Type} {of:H->Nat->Option σ} {t:σ->T} {pos:U->Nat} {lay:σ->Nat->(Nat->U)->Nat->σ} {f:Nat} (hof:∀{h id s},of h id=some s->h.m.get id=some ⟨true,t s⟩) (hn:∀s,notMp (t s)=true) (hf:∀s,(t s).free=true) (hent:Enters Tryz.prog f)
 (hc:∀{w:World} {r b off n cap:Nat} {s:σ} {c:Nat->U} {x:U},pos x+n≤128->n≤cap->r≠b->Holds w r (t s)->HoldsAt w b off (.arr 1 (.sym n) (.int .u8 c)) ->
   Calls Tryz.prog f #[.pointer (some ⟨r,0,none⟩),.int .i64 (vof .i64 x),.slice (some ⟨b,off,none⟩) n cap] w fun e w'=>(∃u,e = .returned u)/\Holds w' r (t (lay s (pos x) c n))/\But r w.heap.size w w'):AnyOK Tryz.prog f (laySp of t pos lay) where
 ent:=hent
 ok:=by
  intro args h r ok v0 h' he hp hok;obtain ⟨id,ak,id2,len,cap,s,x,rw,t2,c,rfl,hs,hx,hb2,hby,hne,rfl⟩:=laySp_inv he;simp only [R.pick,oI,pI] at hp;obtain ⟨rfl,rfl,rfl⟩:=hp;have hok:(Nat.ble (pos x+len.val) 128&&Nat.blt 0 len.val)=true:=hok;simp only [bA] at hok;have k1:=nL hok.1;have k2:0<len.val:=nL hok.2;refine fn_turn (hof hs) (hn s) (hf s) [id,id2] (.head _) fun S ν w r us hm hS hν hh hus => ?_
  match us,hus with
  | [u1,u2],⟨r1,r2,_⟩=>
    obtain rfl:=i64Of_rel hx r1;obtain ⟨B,off,cp,hid,hH,rfl,hcap⟩:=sl_here hm hb2 (hS id2 (.tail _ (.head _))) (bytesOf_free hby) (bytesOf_isfree hby) k2 r2;have hrB:r≠B:=by rintro rfl;exact hne (hm.nums.inj id _ (hof hs) rfl id2 r 0 off hν hid).symm
    refine (hc k1 hcap hrB hh (hH.less fun vs=>bytesOf_rel hby)).mono ?_;rintro e w' ⟨⟨u,rfl⟩,hh',hbut⟩;refine ⟨u,rfl,?_,hbut,hh'⟩;show A.poison.rel ν u;simp only [A.rel]
 pan:=by intro args h r ok v0 h' he hp hok;obtain ⟨id,ak,id2,len,cap,s,x,rw,t2,c,rfl,hs,hx,hb2,hby,hne,rfl⟩:=laySp_inv he;simp [R.pickP] at hp
 ext:=by intro args h r he hlo;obtain ⟨id,ak,id2,len,cap,s,x,rw,t2,c,rfl,hs,hx,hb2,hby,hne,rfl⟩:=laySp_inv he;exact (sees_ext [id,id2] h).trans (put_ext (h:=h.sees [id,id2]) (by rw [sees_m];exact hof hs) rfl rfl)
def layV:List V->H->Option R:=laySp vfOf VF.t BitVec.toNat layVN
def layQ:List V->H->Option R:=laySp qfOf QF.t posW layQN
theorem layV_ok:AnyOK Tryz.prog 80 layV:=lay_ok vfOf_some (fun _=>rfl) (fun _=>rfl) (enters_of entK 80 _ Tryz.func80 (by simp [Tryz.f80])) fun {w r b off n cap s c x} h1 h2 h3 h4 h5=>by
 have:=lay80 (bi:=x.toNat) h1 h2 h3 h4 h5;rw [kk_toNat] at this;exact this
theorem layQ_ok:AnyOK Tryz.prog 83 layQ:=lay_ok qfOf_some (fun _=>rfl) (fun _=>rfl) (enters_of entK 83 _ Tryz.func83 (by simp [Tryz.f83])) fun {w r b off n cap s c x} h1 h2 h3 h4 h5=>
 lay83 (x:=x) h1 (by unfold posW;rw [kk_toNat,BitVec.add_comm]) h2 h3 h4 h5
def byT {σ:Type} (T:Nat) (of:H->Nat->Option σ) (how flat:σ->Nat->U):List V->H->Option R
 | [.t (.a (.ptr id [])),.t vt,.t (.a (.lit .i64 (.ofNat n)))],h=>match of h id,vwOfT vt,isSz n with
   | some s,some v,true=>match Nat.blt h.next T with
     | true=>some (.leaf (.b (bytesE (how s) v n==K 0)) (.tup [.a (.sl h.next [] 1 (.lit 0) (.lit n) none),.a (.lit .i64 0)]) ((h.sees [id]).new ⟨true,.arr 1 (.lit n) (.int .u8 (byF (flat s) (posW v.n)))⟩))
     | false=>some (.leaf (.b (bytesE (how s) v n != K 0)) (.tup [.a .nils,.a (.i .i64 (bytesE (how s) v n))]) (h.sees [id]))
   | _,_,_=>none
 | _,_=>none
theorem byT_inv {σ:Type} {T:Nat} {of:H->Nat->Option σ} {how flat:σ->Nat->U} {args:List V} {h:H} {r:R} (e:byT T of how flat args h=some r):∃id vt n s v,args=[.t (.a (.ptr id [])),.t vt,.t (.a (.lit .i64 (.ofNat n)))]/\of h id=some s/\vwOfT vt=some v/\isSz n=true /\
 (r = .leaf (.b (bytesE (how s) v n==K 0)) (.tup [.a (.sl h.next [] 1 (.lit 0) (.lit n) none),.a (.lit .i64 0)]) ((h.sees [id]).new ⟨true,.arr 1 (.lit n) (.int .u8 (byF (flat s) (posW v.n)))⟩)\/r = .leaf (.b (bytesE (how s) v n != K 0)) (.tup [.a .nils,.a (.i .i64 (bytesE (how s) v n))]) (h.sees [id])):=by
 unfold byT at e;split at e
 · split at e
   · rename_i h1 h2 h3;split at e
     · cases e;exact ⟨_,_,_,_,_,rfl,h1,h2,h3,.inl rfl⟩
     · cases e;exact ⟨_,_,_,_,_,rfl,h1,h2,h3,.inr rfl⟩
   · cases e
 · cases e
theorem bytesT_fn {σ:Type} (T:Nat) {of:H->Nat->Option σ} {how flat:σ->Nat->U} {t:σ->Go.WE.T} {f:Nat} (hof:∀{h id s},of h id=some s->h.m.get id=some ⟨true,t s⟩) (hn:∀s,notMp (t s)=true) (hf:∀s,(t s).free=true) (hent:Enters Tryz.prog f)
 (hc:∀{w:World} {r n:Nat} {s:σ} {v:VW} {vv:Value},isSz n=true->Holds w r (t s)->(V.t v.t).rel nu0 vv->Calls Tryz.prog f #[.pointer (some ⟨r,0,none⟩),vv,.int .i64 (.ofNat n)] w (bytesP w (how s) (flat s) v n)):AnyOK Tryz.prog f (byT T of how flat) where
 ent:=hent
 ok:=by
  intro args h r ok v0 h' he hp hok;obtain ⟨id,vt,n,s,v,rfl,hs,hv,hsz,hr⟩:=byT_inv he;have call:∀S ν w us,Mem S ν w h->(∀i,i∈[id]->S i\/h.lo≤i)->relV ν [.t (.a (.ptr id [])),.t vt,.t (.a (.lit .i64 (.ofNat n)))] us->Calls Tryz.prog f us.toArray w (bytesP w (how s) (flat s) v n):=fun S ν w us hm hS hus=>by
   match us,hus with
   | [u0,u1,u2],⟨r0,r1,r2,_⟩=>
     obtain ⟨r,e1,hh,rfl⟩:=ptr_here hm (hof hs) (hS id (.head _)) (hn s) (hf s) r0;have r2:(A.lit .i64 (.ofNat n)).rel ν u2:=r2;simp only [A.rel] at r2;obtain ⟨rfl,_⟩:=r2;exact hc hsz hh (vwOfT_rel hv r1)
  rcases hr with rfl|rfl
  · simp only [R.pick,oI,pI] at hp;obtain ⟨rfl,rfl,rfl⟩:=hp;have hz:bytesE (how s) v n=K 0:=eq_of_beq hok;refine fn_made rfl [id] fun S ν w us hm hS hus=>(call S ν w us hm hS hus).mono ?_;rintro e w' ⟨hb,h1,_⟩;obtain ⟨B,cap,hB,hcap,rfl,hH⟩:=h1 hz;refine ⟨_,B,rfl,hB,hb,hH,fun ν' _ hν => ?_⟩;refine ⟨_,rfl,?_,?_,trivial⟩
    · show (A.sl h.next [] 1 (.lit 0) (.lit n) none).rel ν' _;simp only [A.rel];exact ⟨B,0,0,cap,hν,rfl,fun _=>by simp [pathOff,Ix.val],hcap,fun _ e=>by cases e⟩
    · show (A.lit .i64 0).rel ν' _;simp only [A.rel];exact ⟨trivial,rfl⟩
  · simp only [R.pick,oI,pI] at hp;obtain ⟨rfl,rfl,rfl⟩:=hp;have hz:bytesE (how s) v n≠K 0:=bne_iff_ne.1 hok;refine fn_calm [id] fun S ν w us hm hS hus=>(call S ν w us hm hS hus).mono ?_;rintro e w' ⟨hb,_,h2⟩;refine ⟨_,h2 hz,?_,hb⟩;refine ⟨_,rfl,?_,?_,trivial⟩
    · show A.nils.rel ν _;simp only [A.rel]
    · show (A.i .i64 _).rel ν _;simp only [A.rel]
 pan:=by intro args h r ok v0 h' he hp hok;obtain ⟨id,vt,n,s,v,rfl,hs,hv,hsz,rfl|rfl⟩:=byT_inv he<;>simp [R.pickP] at hp
 ext:=by
  intro args h r he hlo;obtain ⟨id,vt,n,s,v,rfl,hs,hv,hsz,rfl|rfl⟩:=byT_inv he
  · exact (sees_ext [id] h).trans (new_ext (by rw [sees_lo,sees_next];exact hlo) _)
  · exact sees_ext [id] h
def byTV (T:Nat):List V->H->Option R:=byT T vfOf VF.how VF.flat
def byTQ (T:Nat):List V->H->Option R:=byT T qfOf QF.how QF.b
theorem byTV_ok (T:Nat):AnyOK Tryz.prog 55 (byTV T):=bytesT_fn (t:=VF.t) T vfOf_some (fun _=>rfl) (fun _=>rfl) (enters_of entK 55 _ Tryz.func55 (by simp [Tryz.f55])) bytes55
theorem byTQ_ok (T:Nat):AnyOK Tryz.prog 52 (byTQ T):=bytesT_fn (t:=QF.t) T qfOf_some (fun _=>rfl) (fun _=>rfl) (enters_of entK 52 _ Tryz.func52 (by simp [Tryz.f52])) bytes52_calls
end Go.WE
namespace Go.Proofs.YtoeealkcacgcgaaGreatDoor.Wor
open Go Go.RowKit
theorem sc_ne (w:World) (b o:Nat) (v:Value) {r:Nat} (h:r≠b):(w.setCell ⟨b,o,none⟩ v).heap[r]? = w.heap[r]? := by
 unfold World.setCell;simp only [Array.getElem?_modify];rw [if_neg (fun e=>h e.symm)]
theorem sc_eq {w:World} {b:Nat} {c:Array Value} {e:TypeId} {f:Nat×Nat} (h:w.heap[b]? = some (.cells c e f)) (o:Nat) (v:Value):(w.setCell ⟨b,o,none⟩ v).heap[b]? = some (.cells (c.setIfInBounds o v) e f):=by
 unfold World.setCell;simp only [Array.getElem?_modify];rw [h];simp
theorem sc_size (w:World) (b o:Nat) (v:Value):(w.setCell ⟨b,o,none⟩ v).heap.size=w.heap.size:=by
 unfold World.setCell;simp
theorem ownsRow_far {B:Nat} {e:TypeId} {k:Nat} {v:Value} {n:Nat} {xs:List Value} {w w':World} (h:w.ownsRow B e k v n xs) (hb:∀r,B≤r->r<w.heap.size->w'.heap[r]? = w.heap[r]?):w'.ownsRow B e k v n xs:=by
 obtain ⟨h1,h2⟩:=h;refine ⟨h1,?_⟩;rcases h2 with h2|⟨g,cap,cur,r1,r2,r3,r4⟩
 · exact .inl h2
 · exact .inr ⟨g,cap,cur,r1,r2,by rw [hb g r2 (Array.getElem?_eq_some_iff.1 r3).1];exact r3,r4⟩
theorem own_set {B:Nat} {e:TypeId} {k:Nat} {v:Value} {n:Nat} {xs:List Value} {w:World} (h:w.ownsRow B e k v n xs) {b:Nat} (hb:b<B) (o:Nat) (u:Value):(w.setCell ⟨b,o,none⟩ u).ownsRow B e k v n xs:=ownsRow_far h fun r h1 _=>sc_ne _ _ _ _ (by omega)
theorem own_mono {B B':Nat} {e:TypeId} {k:Nat} {v:Value} {n:Nat} {xs:List Value} {w:World} (h:w.ownsRow B e k v n xs) (hB:B'≤B):w.ownsRow B' e k v n xs:=by
 obtain ⟨h1,h2⟩:=h;exact ⟨h1,h2.imp id (fun ⟨b,c,d,e1,e2,e3⟩=>⟨b,c,d,e1,Nat.le_trans hB e2,e3⟩)⟩
theorem below_set {B:Nat} {w w':World} (h:Below B w w') {b:Nat} (hb:B≤b) (o:Nat) (v:Value):Below B w (w'.setCell ⟨b,o,none⟩ v):=
 ⟨h.os,h.tape,h.output,by rw [sc_size];exact h.size,fun r hr=>(sc_ne _ _ _ _ (by omega)).trans (h.block r hr)⟩
set_option maxHeartbeats 1600000 in
set_option maxRecDepth 1000000 in
theorem fit_w (kd en bb inr rno el:Int) (B O N C M W:Nat) (vk:Value) (w:World) (hb:B<w.heap.size)
 (hm:1≤M) (hmn:M≤N) (hn:N≤10)
 (hW0:1≤W) (hW:W≤4) (vb:Option Addr) (vl vc:Nat) (vg:Nat->Int) (hvs:∀j,j<vl->∃vB vO,vb=some ⟨vB,vO,none⟩/\vB<w.heap.size/\w.cell? ⟨vB,vO+j,none⟩=some (.int .u64 (vg j))) (g:Nat->Int) (hg1:∀j,j<vl->g j=vg j) (hg2:∀j,vl≤j->j<4->g j=j)
 (h8:∀w1:World,Calls Tryz.prog 8 #[.int .i64 rno,.int .i64 22] w1 fun e w'=>e = .returned (.int .i64 0)/\Below w1.heap.size w1 w')
 (pe:Int) (hpe:0≤pe/\pe<1000) (h8b:∀w1:World,Calls Tryz.prog 8 #[.int .i64 el,.int .i64 1000] w1 fun e w'=>e = .returned (.int .i64 pe)/\Below w1.heap.size w1 w')
 (hd0:w.cell? ⟨B,O+(M-1)*5,none⟩=some (.int .i64 kd))
 (hd1:w.cell? ⟨B,O+(M-1)*5+1,none⟩=some (.int .i64 en))
 (hd2:w.cell? ⟨B,O+(M-1)*5+2,none⟩=some (.int .i64 W))
 (hd3:w.cell? ⟨B,O+(M-1)*5+3,none⟩=some (.int .i64 bb))
 (hd4:w.cell? ⟨B,O+(M-1)*5+4,none⟩=some (.int .i64 inr)) :
 Calls Tryz.prog 13 #[.slice (some ⟨B,O,none⟩) N C,.int .i64 M,.agg #[.int .i64 rno,.slice vb vl vc,vk,.int .i64 el]] w fun e w'=>
  ∃v,e = .returned (.agg #[.int .i64 0,v,.int .u64 0,.int .i64 (if kd=9\/kd=10 then inr else 1+pe)])/\w'.ownsRow w.heap.size 26 1 v W (numsL g W)/\Below w.heap.size w w':=by
 obtain ⟨i0,hi,hz0,hz1,hz2⟩:=info_parts info26
 go_enter Tryz.func13,Tryz.ntmps13
 go_wp2_with fail
 refine (h8 _).mono ?_;rintro e w1 ⟨rfl,hb1⟩;have hB1:w1.heap[B]? = w.heap[B]? := by
  refine (hb1.block B (by simp;omega)).trans ?_
  refine (Go.WE.heap_alloc_old (by simp;omega)).trans ?_
  exact Go.WE.heap_alloc_old hb
 have cB:∀o,w1.cell? ⟨B,o,none⟩=w.cell? ⟨B,o,none⟩:=fun o=>by unfold World.cell?;rw [hB1]
 have e0:=(cB _).trans hd0;have e1:=(cB _).trans hd1;have e2:=(cB _).trans hd2;have e3:=(cB _).trans hd3;have e4:=(cB _).trans hd4;have hx1:w1.heap[w.heap.size]? = some (.cells #[Value.int IntKind.i64 rno,Value.slice vb vl vc,vk,Value.int IntKind.i64 el] 28):=by
  refine (hb1.block w.heap.size (by simp<;>omega)).trans ?_
  refine (Go.WE.heap_alloc_old (by simp)).trans ?_
  exact Go.WE.heap_alloc_new _ _
 have hx2:w1.heap[w.heap.size+1]? = some (.cells #[Value.int IntKind.i64 0,Value.slice none 0 0,Value.int IntKind.u64 0,Value.int IntKind.i64 0] 28):=by
  refine (hb1.block (w.heap.size+1) (by simp<;>omega)).trans ?_
  have h:=Go.WE.heap_alloc_new (w.alloc (Obj.cells #[Value.int IntKind.i64 rno,Value.slice vb vl vc,vk,Value.int IntKind.i64 el] 28)) (Obj.cells #[Value.int IntKind.i64 0,Value.slice none 0 0,Value.int IntKind.u64 0,Value.int IntKind.i64 0] 28);simpa using h
 have hbel:Below w.heap.size w w1:=((Below.refl w.heap.size w).alloc (Nat.le_refl _) _).trans (((Below.refl w.heap.size _).alloc (by simp) _).trans (hb1.mono (by simp;omega)))
 have s0:w.heap.size+2≤w1.heap.size:=by have:=hb1.size;simp at this;omega
 have s1:B<w1.heap.size:=by omega
 have s2:w.heap.size<w1.heap.size:=by omega
 have s3:w.heap.size+1<w1.heap.size:=by omega
 clear hb1 hB1 cB hd0 hd1 hd2 hd3 hd4 h8
 go_wp2_with fail
 generalize hw2:((w1.alloc (Obj.cells #[Value.int IntKind.i64 0,Value.slice none 0 0,Value.int IntKind.u64 0,Value.int IntKind.i64 0] 28)).alloc (Obj.cells #[Value.int IntKind.i64 kd,Value.int IntKind.i64 en,Value.int IntKind.i64 ↑W,Value.int IntKind.i64 bb,Value.int IntKind.i64 inr] 56))=w2;have z:w2.heap.size=w1.heap.size+2:=by rw [← hw2];simp
 have q7:w2.heap[w1.heap.size]? = some (.cells #[Value.int IntKind.i64 0,Value.slice none 0 0,Value.int IntKind.u64 0,Value.int IntKind.i64 0] 28):=by rw [← hw2];exact (Go.WE.heap_alloc_old (by simp)).trans (Go.WE.heap_alloc_new _ _)
 have q8:w2.heap[w1.heap.size+1]? = some (.cells #[Value.int IntKind.i64 kd,Value.int IntKind.i64 en,Value.int IntKind.i64 ↑W,Value.int IntKind.i64 bb,Value.int IntKind.i64 inr] 56):=by rw [← hw2];have h:=Go.WE.heap_alloc_new (w1.alloc (Obj.cells #[Value.int IntKind.i64 0,Value.slice none 0 0,Value.int IntKind.u64 0,Value.int IntKind.i64 0] 28)) (Obj.cells #[Value.int IntKind.i64 kd,Value.int IntKind.i64 en,Value.int IntKind.i64 ↑W,Value.int IntKind.i64 bb,Value.int IntKind.i64 inr] 56);simpa using h
 have old:∀r,r<w1.heap.size->w2.heap[r]? = w1.heap[r]? := fun r hr=>by rw [← hw2];exact (Go.WE.heap_alloc_old (by simp;omega)).trans (Go.WE.heap_alloc_old hr)
 have hx1:=(old _ s2).trans hx1;have hx2:=(old _ s3).trans hx2;have hbel2:Below w.heap.size w w2:=by rw [← hw2];exact (hbel.alloc hbel.size _).alloc (by simp;omega) _
 clear old hbel hw2 e0 e1 e2 e3 e4;have hM1:decide ((M:Int)<1)=false:=decide_eq_false (by omega)
 have hM2:decide (N<M)=false:=decide_eq_false (by omega)
 simp only [hM1,hM2,Bool.or_self]
 go_loopw [9] (fun i wr=>∃(k:Nat) (v:Value),k≤W/\i = .int .i64 k/\wr.ownsRow w2.heap.size 26 1 v k (numsL g k)/\wr.heap[w1.heap.size]? = some (.cells #[Value.int IntKind.i64 0,v,Value.int IntKind.u64 0,Value.int IntKind.i64 0] 28) /\
  wr.heap[w1.heap.size+1]? = w2.heap[w1.heap.size+1]? /\ wr.heap[w.heap.size]? = w2.heap[w.heap.size]? /\ wr.heap[w.heap.size+1]? = w2.heap[w.heap.size+1]? /\ Below w.heap.size w wr/\w2.heap.size≤wr.heap.size) (fun i _=>W-(intOf i).toNat)
 case atStart=>
  exact ⟨0,.slice none 0 0,Nat.zero_le _,rfl,World.ownsRow_nil _ _ _ _,q7,rfl,rfl,rfl,hbel2,Nat.le_refl _⟩
 case round=>
  obtain ⟨k,v,hk,rfl,hown,k7,k8,k5,k6,hnx,hsz⟩:=hrel;have t8:∀o,wr.cell? ⟨w1.heap.size+1,o,none⟩=(#[Value.int IntKind.i64 kd,Value.int IntKind.i64 en,Value.int IntKind.i64 ↑W,Value.int IntKind.i64 bb,Value.int IntKind.i64 inr]:Array Value)[o]? := fun o=>by unfold World.cell?;rw [k8,q8];rfl
  have t5:∀o,wr.cell? ⟨w.heap.size,o,none⟩=(#[Value.int IntKind.i64 rno,Value.slice vb vl vc,vk,Value.int IntKind.i64 el]:Array Value)[o]? := fun o=>by unfold World.cell?;rw [k5,hx1];rfl
  have t7:∀o,wr.cell? ⟨w1.heap.size,o,none⟩=(#[Value.int IntKind.i64 0,v,Value.int IntKind.u64 0,Value.int IntKind.i64 0]:Array Value)[o]? := fun o=>by unfold World.cell?;rw [k7];rfl
  have c1:wr.cell? ⟨w1.heap.size,1,none⟩=some v:=t7 1;have d2:wr.cell? ⟨w1.heap.size+1,2,none⟩=some (.int .i64 W):=t8 2;have p1:wr.cell? ⟨w.heap.size,1,none⟩=some (.slice vb vl vc):=t5 1;by_cases hlt:k<W
  · by_cases hkl:k<vl
    · obtain ⟨vB,vO,rfl,hvB,hcv⟩:=hvs k hkl;have hcv':wr.cell? ⟨vB,vO+k,none⟩=some (.int .u64 (vg k)):=(hnx.cell hvB).trans hcv
      go_wp2_with (first
       | (at_builtin;refine wpList_append_own _ rfl _ _ 25 rfl w2.heap.size 26 i0 (.int .u64 0) 1 8 Tryz.underlying25 hi hz0 hz1 hz2 rfl (by decide) _ _ _ rfl (hown.alloc _) ⟨wr.heap.size,0,none⟩ 1 1 [.int .u64 (vg k)] rfl rfl ?c1 ?c2 ?c3 ?c4 ?c5 ?_)
       | go_in)
      case c1=>
       intro j u hj
       match j,hj with
       | 0,hj=>simp at hj;subst hj;simp [Addr.add]
      case c2=>intro u hu;simp at hu;subst hu;rfl
      case c3=>unfold maxLen;omega
      case c4=>omega
      case c5=>simp;omega
      intro v' w3 hown' hgrow _;have far:∀r,r<w1.heap.size+2->w3.heap[r]? = wr.heap[r]? := fun r hr=>by
       refine (hgrow.block r ?_ ?_).trans (Go.WE.heap_alloc_old (by omega))
       · simp;omega
       · intro e;have:=hown.lt r e.symm;omega
      have hb':Below w.heap.size w w3:=by
       refine (hnx.alloc hnx.size (.cells #[.int .u64 (vg k)] 26)).trans ⟨hgrow.os,hgrow.tape,hgrow.output,hgrow.size,fun r hr=>hgrow.block r ?_ ?_⟩
       · simp;omega
       · intro e;have:=hown.lt r e.symm;omega
      have f7:=(far w1.heap.size (by omega)).trans k7
      have f1:w3.cell? ⟨w1.heap.size,1,none⟩=some v:=by unfold World.cell?;rw [f7];rfl
      have f8:=(far (w1.heap.size+1) (by omega)).trans k8
      have f5:=(far w.heap.size (by omega)).trans k5
      have f6:=(far (w.heap.size+1) (by omega)).trans k6
      have fs:wr.heap.size≤w3.heap.size:=by have:=hgrow.size;simp at this;omega
      have ff:w3.frozen? ⟨w1.heap.size,1,none⟩=false:=by unfold World.frozen?;rw [f7];rfl
      obtain ⟨b',cap',rfl⟩:∃b' cap',v' = .slice (some ⟨b',0,none⟩) (k+1) cap':=by
       rcases hown'.2 with ⟨_,e0⟩|⟨b',cap',cur,e,_⟩
       · omega
       · exact ⟨b',cap',e⟩
      clear hgrow hown hnx far c1 k7 k8 k5 k6 t8 t5 t7 d2 p1
      go_wp2
      go_roundw
      case rel=>
       refine ⟨k+1,.slice (some ⟨b',0,none⟩) (k+1) cap',by omega,by go_num,?_,?_,?_,?_,?_,?_,?_⟩
       · rw [numsL_succ,hg1 k hkl];rw [z];exact ownsRow_far hown' fun r h1 h2=>sc_ne _ _ _ _ (by omega)
       · exact sc_eq f7 1 _
       · exact (sc_ne _ _ _ _ (by omega)).trans f8
       · exact (sc_ne _ _ _ _ (by omega)).trans f5
       · exact (sc_ne _ _ _ _ (by omega)).trans f6
       · exact below_set hb' (by omega) _ _
       · rw [sc_size];omega
      case measure=>simp [intOf];omega
    · go_wp2_with (first
       | (at_builtin;refine wpList_append_own _ rfl _ _ 25 rfl w2.heap.size 26 i0 (.int .u64 0) 1 8 Tryz.underlying25 hi hz0 hz1 hz2 rfl (by decide) _ _ _ rfl (hown.alloc _) ⟨wr.heap.size,0,none⟩ 1 1 [.int .u64 k] rfl rfl ?c1 ?c2 ?c3 ?c4 ?c5 ?_)
       | go_in)
      case c1=>
       intro j u hj
       match j,hj with
       | 0,hj=>simp at hj;subst hj;simp [Addr.add]
      case c2=>intro u hu;simp at hu;subst hu;rfl
      case c3=>unfold maxLen;omega
      case c4=>omega
      case c5=>simp;omega
      intro v' w3 hown' hgrow _;have far:∀r,r<w1.heap.size+2->w3.heap[r]? = wr.heap[r]? := fun r hr=>by
       refine (hgrow.block r ?_ ?_).trans (Go.WE.heap_alloc_old (by omega))
       · simp;omega
       · intro e;have:=hown.lt r e.symm;omega
      have hb':Below w.heap.size w w3:=by
       refine (hnx.alloc hnx.size (.cells #[.int .u64 k] 26)).trans ⟨hgrow.os,hgrow.tape,hgrow.output,hgrow.size,fun r hr=>hgrow.block r ?_ ?_⟩
       · simp;omega
       · intro e;have:=hown.lt r e.symm;omega
      have f7:=(far w1.heap.size (by omega)).trans k7
      have f1:w3.cell? ⟨w1.heap.size,1,none⟩=some v:=by unfold World.cell?;rw [f7];rfl
      have f8:=(far (w1.heap.size+1) (by omega)).trans k8
      have f5:=(far w.heap.size (by omega)).trans k5
      have f6:=(far (w.heap.size+1) (by omega)).trans k6
      have fs:wr.heap.size≤w3.heap.size:=by have:=hgrow.size;simp at this;omega
      have ff:w3.frozen? ⟨w1.heap.size,1,none⟩=false:=by unfold World.frozen?;rw [f7];rfl
      obtain ⟨b',cap',rfl⟩:∃b' cap',v' = .slice (some ⟨b',0,none⟩) (k+1) cap':=by
       rcases hown'.2 with ⟨_,e0⟩|⟨b',cap',cur,e,_⟩
       · omega
       · exact ⟨b',cap',e⟩
      clear hgrow hown hnx far c1 k7 k8 k5 k6 t8 t5 t7 d2 p1
      go_wp2
      go_roundw
      case rel=>
       refine ⟨k+1,.slice (some ⟨b',0,none⟩) (k+1) cap',by omega,by go_num,?_,?_,?_,?_,?_,?_,?_⟩
       · rw [numsL_succ,hg2 k (by omega) (by omega)]
         rw [z];exact ownsRow_far hown' fun r h1 h2=>sc_ne _ _ _ _ (by omega)
       · exact sc_eq f7 1 _
       · exact (sc_ne _ _ _ _ (by omega)).trans f8
       · exact (sc_ne _ _ _ _ (by omega)).trans f5
       · exact (sc_ne _ _ _ _ (by omega)).trans f6
       · exact below_set hb' (by omega) _ _
       · rw [sc_size];omega
      case measure=>simp [intOf];omega
  · obtain rfl:k=W:=by omega
    go_wp2_with fail
    refine (h8b _).mono ?_;rintro e w4 ⟨rfl,hb4⟩;have far:∀r,r<wr.heap.size->w4.heap[r]? = wr.heap[r]? := fun r hr=>hb4.block r hr;have f7:=(far w1.heap.size (by omega)).trans k7
    have f8:=((far (w1.heap.size+1) (by omega)).trans k8).trans q8
    have f6:=((far (w.heap.size+1) (by omega)).trans k6).trans hx2
    have own4:=ownsRow_below hown hb4;have hn4:Below w.heap.size w w4:=hnx.trans (hb4.mono hnx.size);obtain ⟨b',cap',rfl⟩:∃b' cap',v = .slice (some ⟨b',0,none⟩) k cap':=by
     rcases hown.2 with ⟨_,e0⟩|⟨b',cap',cur,e,_⟩
     · omega
     · exact ⟨b',cap',e⟩
    have c7:∀o,w4.cell? ⟨w1.heap.size,o,none⟩=(#[Value.int IntKind.i64 0,.slice (some ⟨b',0,none⟩) k cap',Value.int IntKind.u64 0,Value.int IntKind.i64 0]:Array Value)[o]? := fun o=>by unfold World.cell?;rw [f7];rfl
    have c8:∀o,w4.cell? ⟨w1.heap.size+1,o,none⟩=(#[Value.int IntKind.i64 kd,Value.int IntKind.i64 en,Value.int IntKind.i64 ↑k,Value.int IntKind.i64 bb,Value.int IntKind.i64 inr]:Array Value)[o]? := fun o=>by unfold World.cell?;rw [f8];rfl
    have c70:=c7 0;have c71:=c7 1;have c72:=c7 2;have c73:=c7 3;have c80:=c8 0;have c84:=c8 4;simp at c70 c71 c72 c73 c80 c84;have ff7:w4.frozen? ⟨w1.heap.size,3,none⟩=false:=by unfold World.frozen?;rw [f7];rfl
    have c6:∀o,w4.cell? ⟨w.heap.size+1,o,none⟩=(#[Value.int IntKind.i64 0,Value.slice none 0 0,Value.int IntKind.u64 0,Value.int IntKind.i64 0]:Array Value)[o]? := fun o=>by unfold World.cell?;rw [f6];rfl
    have c60:=c6 0;have c61:=c6 1;have c62:=c6 2;have c63:=c6 3;simp at c60 c61 c62 c63;have ff6:∀o,w4.frozen? ⟨w.heap.size+1,o,none⟩=false:=fun o=>by unfold World.frozen?;rw [f6];show (decide (0≤o)&&decide (o<0))=false;simp
    have ff60:=ff6 0;have ff61:=ff6 1;have ff62:=ff6 2;have ff63:=ff6 3;have ne67:w.heap.size+1≠w1.heap.size:=by omega
    have ne76:w1.heap.size≠w.heap.size+1:=by omega
    clear far c7 c8 c6 ff6 hown hnx hb4 k7 k8 k5 k6 t8 t5 t7 c1 d2 p1
    go_wp2_with fail
    all_goals
     (try simp only [Exit.inBlock,Exit.then])
     refine bodyPost_ret (by simp [results,Tryz.results13,go_sem,c60,c61,c62,c63];try rfl) rfl ?_
     first
      | (refine ⟨_,rfl,own_mono ?_ (show w.heap.size≤w2.heap.size by omega),?_⟩
         · repeat refine own_set ?_ (by omega) _ _
           exact own4
         · repeat refine below_set ?_ (by omega) _ _
           exact hn4)
      | (exfalso;simp_all;done)
      | trace_state
end Go.Proofs.YtoeealkcacgcgaaGreatDoor.Wor
namespace Go.WE
open Go Go.Proofs
open Go.RowKit (Below)
def blN (n:Nat):Nat:=if n=0 then 0 else n.log2+1
def lenTab:ByteArray:=⟨((List.range 256).map fun n=>UInt8.ofNat (blN n)).toArray⟩
def lenE (v:U):U:=
 let t0:Bool:=BitVec.ule (K 4294967296) v
 let t1:U:=v>>>(BitVec.toNat (K 32))
 let t2:Bool:=BitVec.ule (K 65536) (cond t0 t1 v)
 let t3:U:=(cond t0 t1 v)>>>(BitVec.toNat (K 16))
 let t4:U:=cond t2 t3 (cond t0 t1 v)
 let t5:Bool:=BitVec.ule (K 256) t4
 let t6:U:=cond t0 (K 32) (K 0)
 let t7:U:=cond t2 (t6+(K 16)) t6
 let t8:U:=cond t5 (t7+(K 8)) t7
 let t9:U:=t4>>>(BitVec.toNat (K 8))
 let t10:U:=nrm .u8 (cond t5 t9 t4)
 let t11:U:=nrm .u8 (strAt lenTab t10)
 t8+t11
def onesU (v:U):U:=((K 1)<<<(BitVec.toNat (lenE v)))-(K 1)
theorem ones_ev (v:U):(evalF cxK noΓ 400 20 189 [one (.i .u64 v)] H.none).res=some (.b (!(BitVec.msb (lenE v))),one (.i .u64 (onesU v))):=by kernel_rfl
theorem msb_small {a b:U} (ha:a.toNat≤56) (hb:b.toNat<256):(a+b).msb=false:=by
 rw [BitVec.msb_eq_decide];simp only [decide_eq_false_iff_not];rw [BitVec.toNat_add];omega
theorem nrm_u8 (x:U):(nrm .u8 x).toNat<256:=by
 show ((x.setWidth 8).setWidth 64).toNat<256;rw [BitVec.toNat_setWidth,BitVec.toNat_setWidth];omega
theorem len_msb (v:U):BitVec.msb (lenE v)=false:=by
 unfold lenE;refine msb_small ?_ (nrm_u8 _);generalize BitVec.ule (K 4294967296) v=p;generalize BitVec.ule (K 65536) _=q;generalize BitVec.ule (K 256) _=r;cases p<;>cases q<;>cases r<;>decide
theorem PureOK.more {P:Program} {f:FuncId} {args args':List V} {v:V} (h:PureOK P f args' v) (ha:∀ν vs,relV ν args vs->relV ν args' vs):PureOK P f args v:=by
 rcases h with ⟨h1,h2⟩|h
 · exact .inl ⟨h1,fun h S ν w vs hr hw hm hv=>h2 h S ν w vs hr hw hm (ha _ _ hv)⟩
 · exact .inr fun ν w vs hv=>h ν w vs (ha _ _ hv)
def onesS:List V->Option (A×V)
 | [.t (.a x)]=>match x.bv with
   | some (.u64,v)=>some (.tt,one (.i .u64 (onesU v)))
   | _=>none
 | _=>none
theorem ones_ok {Γ:Gam} (hΓ:ΓOK Tryz.prog Γ):ΓOK Tryz.prog (specG 189 onesS Γ):=by
 refine specG_ok (fun args ok v hs hok => ?_) hΓ;unfold onesS at hs;split at hs
 · rename_i x;split at hs
   · rename_i v' hx;simp only [oI,pI] at hs;obtain ⟨rfl,rfl⟩:=hs;have h1:okB (.b (!(BitVec.msb (lenE v'))))=true:=by rw [len_msb];rfl
     refine PureOK.more (pure_of_eval (XK noΓ_ok) rfl (ones_ev v') h1 rfl rfl) fun ν vs hv => ?_
     match vs,hv with
     | [u],⟨h,_⟩=>
       refine ⟨?_,trivial⟩;have h:x.rel ν u:=h;show (A.i .u64 v').rel ν u;simp only [A.rel];exact bv_val hx h
   · cases hs
 · cases hs
def ΓO:Gam:=specG 189 onesS noΓ
theorem ΓO_ok:ΓOK Tryz.prog ΓO:=ones_ok noΓ_ok
end Go.WE
namespace Go.WE
open Go Go.Proofs
structure DF where
 k:Nat->U
 e:Nat->U
 w:Nat->U
 b:Nat->U
 i:Nat->U
def DF.s (f:DF):Sh :=.st [.int .i64 f.k,.int .i64 f.e,.int .i64 f.w,.int .i64 f.b,.int .i64 f.i]
abbrev DF.arr (f:DF) (n:Nat):T :=.arr 5 (.sym n) f.s
def dT (k e w b i:A):V :=.t (.st [.a k,.a e,.a w,.a b,.a i])
structure TF where
 k:Nat->U
 o:Nat->U
 m:Nat->U
 w:Nat->U
 b:Nat->U
 v:Nat->U
 l:Nat->U
 r:Nat->U
def TF.s (f:TF):Sh :=.st [.int .i64 f.k,.int .i64 f.o,.int .i64 f.m,.int .i64 f.w,.int .i64 f.b,.int .u64 f.v,.int .u64 f.l,.int .u64 f.r]
abbrev TF.arr (f:TF) (n:Nat):T :=.arr 8 (.sym n) f.s
def shDF:Sh->Option DF
 | .st [.int .i64 k,.int .i64 e,.int .i64 w,.int .i64 b,.int .i64 i]=>some ⟨k,e,w,b,i⟩
 | _=>none
theorem shDF_some {s:Sh} {f:DF} (h:shDF s=some f):s=f.s:=by
 unfold shDF at h;split at h
 · cases h;rfl
 · cases h
def asDF:T->Option (Nat×DF)
 | .arr 5 (.sym n) s=>match shDF s with
   | some f=>some (n,f)
   | none=>none
 | _=>none
theorem asDF_some {t:T} {n:Nat} {f:DF} (h:asDF t=some (n,f)):t=f.arr n:=by
 unfold asDF at h;split at h
 · split at h
   · rename_i h1;cases h;rw [shDF_some h1]
   · cases h
 · cases h
def dfOf (h:H):A->Option (Nat×Nat×DF×Bool)
 | .sl id [] 5 (.lit 0) (.sym n) _=>match h.m.get id with
   | some ⟨_,t⟩=>match asDF t with
     | some (m,f)=>some (id,n,f,Nat.beq m n)
     | none=>none
   | none=>none
 | _=>none
end Go.WE
namespace Go.WE
open Go Go.Proofs Go.RowKit
theorem dfOf_some {h:H} {la:A} {id n:Nat} {D:DF} {o:Bool} (e:dfOf h la=some (id,n,D,o)) (ho:o=true):∃c rw,la = .sl id [] 5 (.lit 0) (.sym n) c/\h.m.get id=some ⟨rw,D.arr n⟩:=by
 unfold dfOf at e;split at e
 · rename_i id' n' c;split at e
   · rename_i rw t hg;split at e
     · rename_i m f ht;cases e;have hb:=Nat.eq_of_beq_eq_true ho;subst hb;exact ⟨c,rw,rfl,by rw [hg,asDF_some ht]⟩
     · cases e
   · cases e
 · cases e
theorem df_here {S:Nat->Prop} {ν:Nu} {w:World} {h:H} {id n:Nat} {D:DF} {o:Bool} {la:A} {v:Value} (hm:Mem S ν w h) (e:dfOf h la=some (id,n,D,o)) (ho:o=true) (hS:S id\/h.lo≤id) (h0:0<n) (hv:(V.t (.a la)).rel ν v) :
 ∃B off c,HoldsAt w B off (D.arr n)/\v = .slice (some ⟨B,off,none⟩) n c/\n≤c/\ν id=some (B,off):=by
 obtain ⟨c,rw,rfl,hg⟩:=dfOf_some e ho;obtain ⟨B,off,cp,hid,hH,rfl,hcap⟩:=sl_here hm hg hS rfl rfl (len :=.sym n) h0 hv;exact ⟨B,off,cp,hH,rfl,hcap,hid⟩
abbrev slD (n:Nat):V:=one (.sl 0 [] 5 (.lit 0) (.sym n) none)
theorem slD_rel {B off n c:Nat} (hc:n≤c):(slD n).rel (nuAt B off) (.slice (some ⟨B,off,none⟩) n c):=by
 show (A.sl 0 [] 5 (.lit 0) (.sym n) none).rel _ _;simp only [A.rel];exact ⟨B,off,off,c,by simp [nuAt],rfl,fun _=>by simp [pathOff,Ix.val],hc,fun _ e=>by cases e⟩
structure TW where
 k:U
 o:U
 m:U
 w:U
 b:U
 v:U
 l:U
 r:U
def TW.t (t:TW):T :=.st [.a (.i .i64 t.k),.a (.i .i64 t.o),.a (.i .i64 t.m),.a (.i .i64 t.w),.a (.i .i64 t.b),.a (.i .u64 t.v),.a (.i .u64 t.l),.a (.i .u64 t.r)]
def TF.at (f:TF) (j:Nat):TW:=⟨f.k j,f.o j,f.m j,f.w j,f.b j,f.v j,f.l j,f.r j⟩
def twOf:T->Option TW
 | .st [.a k,.a o,.a m,.a w,.a b,.a v,.a l,.a r]=>match bvI .i64 k,bvI .i64 o,bvI .i64 m,bvI .i64 w,bvI .i64 b,bvI .u64 v,bvI .u64 l,bvI .u64 r with
   | some k,some o,some m,some w,some b,some v,some l,some r=>some ⟨k,o,m,w,b,v,l,r⟩
   | _,_,_,_,_,_,_,_=>none
 | _=>none
theorem twOf_rel {t:T} {x:TW} (h:twOf t=some x) {ν ν':Nu} {u:Value} (hr:t.relV ν u):x.t.relV ν' u:=by
 unfold twOf at h;split at h
 · split at h
   · rename_i h1 h2 h3 h4 h5 h6 h7 h8;cases h;obtain ⟨vs,rfl,hr⟩:=hr;refine ⟨vs,rfl,?_⟩;unfold TW.t;simp only [T.rel,relTs] at hr ⊢;obtain ⟨u1,w1,e1,r1,u2,w2,e2,r2,u3,w3,e3,r3,u4,w4,e4,r4,u5,w5,e5,r5,u6,w6,e6,r6,u7,w7,e7,r7,u8,w8,e8,r8,e9⟩:=hr;have c1:=bv_less1 (ν':=ν') h1 (ν:=ν) (vs:=u1) (by simpa only [T.rel] using r1)
     have c2:=bv_less1 (ν':=ν') h2 (ν:=ν) (vs:=u2) (by simpa only [T.rel] using r2)
     have c3:=bv_less1 (ν':=ν') h3 (ν:=ν) (vs:=u3) (by simpa only [T.rel] using r3)
     have c4:=bv_less1 (ν':=ν') h4 (ν:=ν) (vs:=u4) (by simpa only [T.rel] using r4)
     have c5:=bv_less1 (ν':=ν') h5 (ν:=ν) (vs:=u5) (by simpa only [T.rel] using r5)
     have c6:=bv_less1 (ν':=ν') h6 (ν:=ν) (vs:=u6) (by simpa only [T.rel] using r6)
     have c7:=bv_less1 (ν':=ν') h7 (ν:=ν) (vs:=u7) (by simpa only [T.rel] using r7)
     have c8:=bv_less1 (ν':=ν') h8 (ν:=ν) (vs:=u8) (by simpa only [T.rel] using r8)
     simp only [T.rel] at c1 c2 c3 c4 c5 c6 c7 c8;exact ⟨u1,w1,e1,c1,u2,w2,e2,c2,u3,w3,e3,c3,u4,w4,e4,c4,u5,w5,e5,c5,u6,w6,e6,c6,u7,w7,e7,c7,u8,w8,e8,c8,e9⟩
   · cases h
 · cases h
def kdU (k:U):U:=cond (k==K 0) (K 0) (cond (k==K 2) (K 2) (cond (k==K 3) (K 3) (cond (k==K 4) (K 4) (K 1))))
def cutU (o:U):U:=cond (BitVec.slt (K (-200)) (cond (BitVec.slt (K 8) o) (K 8) o)) (cond (BitVec.slt (K 8) o) (K 8) o) (K (-200))
def pickU (m n:U):U:=cond (BitVec.slt n (K 1)) (K 0) (cond (BitVec.slt (BitVec.srem m n) (K 0)) (BitVec.srem m n+n) (BitVec.srem m n))
def valW (t:TW) (n:Nat):VW:=
 ⟨kdU t.k,cond (t.k==K 0) (K 0) (cond (t.k==K 2) (K 0) (cond (t.k==K 3) (cutU t.o) (cond (t.k==K 4) (K 0) t.v))),K 0,
  cond (t.k==K 0) (K 0) (cond (t.k==K 2) (K 0) (cond (t.k==K 3) (K 0) (cond (t.k==K 4) (K 1+pickU t.m (kk n)) (K 0))))⟩
def okT (t:TW) (n:Nat):Bool:=cond (t.k==K 0) true (cond (t.k==K 2) true (cond (t.k==K 3) true (cond (t.k==K 4) (Nat.blt n (2 ^ 63)&&cond (BitVec.slt (kk n) (K 1)) true (cond (BitVec.slt (BitVec.srem t.m (kk n)) (K 0)) (kk n != kk 0) (kk n != kk 0))) true)))
def vwT0 (v:VW):T :=.st [.a (.i .i64 v.k),.a (.i .u64 v.n),.a (.lit .i64 0),.a (.i .i64 v.i)]
def vEv (t:TW) (n:Nat) (D:DF):Option (A×V):=(evalF cxK ΓO 400 20 29 [.t t.t,slD n] (hM [(0,⟨false,D.arr n⟩)] 1)).res
def kEv (t:TW) (n:Nat) (D:DF):Option (A×V):=(evalF cxK ΓO 400 20 30 [.t t.t,slD n] (hM [(0,⟨false,D.arr n⟩)] 1)).res
def dz:DF:=⟨fun _=>K 0,fun _=>K 0,fun _=>K 0,fun _=>K 0,fun _=>K 0⟩
def knoT (t:TW) (n:Nat):T:=match kEv t n dz with
 | some (_,.t x)=>x
 | _ =>.bad
def knoW (t:TW) (n:Nat):RW:=match rwOfT (knoT t n) with
 | some r=>r
 | none=>zRW
theorem val_ev (t:TW) (n:Nat) (D:DF):vEv t n D=some (.b (okT t n),.t (vwT0 (valW t n))):=by kernel_rfl
theorem kno_ev (t:TW) (n:Nat) (D:DF):kEv t n D=some (.b (okT t n),.t (knoT t n)):=by kernel_rfl
theorem kno_w (t:TW) (n:Nat):rwOfT (knoT t n)=some (knoW t n):=by kernel_rfl
theorem kno_k (t:TW) (n:Nat):(knoW t n).k=kdU t.k:=by kernel_rfl
theorem kno_free (t:TW) (n:Nat):(knoT t n).free=true:=by kernel_rfl
def mustSp (b:Bool):List V->H->Option R
 | [.t (.a (.b c)),.t (.a (.lit .i64 (.ofNat 17)))],h=>match b with
   | true=>some (.leaf (.b c) ((.tup [])) h)
   | false=>some (.pan (.b (!c)) (.iface 24 (.lit .i64 17)) h)
 | _,_=>none
def resR:R->Option (Bool×A×V×A×A)
 | .node c (.pan o1 v1 _) (.leaf o2 v2 _)=>some (c,o1,v2,v1,o2)
 | _=>none
theorem must_ev (c:Bool):resR (evalF cxK noΓ 400 20 61 [one (.b c),one (.lit .i64 17)] H.none)=some (!c,.tt,(.tup []),.iface 24 (.lit .i64 17),.tt):=by kernel_rfl
theorem resR_some {r:R} {c:Bool} {o1 o2 v1:A} {v2:V} (h:resR r=some (c,o1,v2,v1,o2)):∃h1 h2,r = .node c (.pan o1 v1 h1) (.leaf o2 v2 h2):=by
 unfold resR at h;split at h
 · cases h;exact ⟨_,_,rfl⟩
 · cases h
theorem fnPan_any {P:Program} {f:FuncId} {args:List V} {v:A} {h':H} (h0:FnPan P f args H.none v h') (ha:freeVs args=true) (hv:v.free=true):∀h,FnPan P f args h v h:=by
 intro h S ν w vs _ _ hm hargs;refine (h0 (fun _=>True) nu0 w vs (fun _ _=>trivial) (fun _ _=>trivial) (mem_none _ w) (relV_free ha hargs)).mono ?_;rintro e w' ⟨u,ν',rfl,hu,g⟩;have hb:∀r,r<w.heap.size->w'.heap[r]? = w.heap[r]? := fun r hr=>g.frm.block r hr (fun id base h=>by cases h)
 have hu':v.rel ν u:=by have:=V.rel_free (x :=.t (.a v)) (ν':=ν) hv hu;exact this
 exact ⟨u,ν,rfl,hu',goes_calm hm ⟨g.frm.os,g.frm.tape,g.frm.output,g.frm.size,hb⟩⟩
theorem must_ok (b:Bool):AnyOK Tryz.prog 61 (mustSp b) where
 ent:=enters_of entK 61 _ Tryz.func61 (by simp [Tryz.f61])
 ok:=by
  intro args h r ok v h' he hp hok;unfold mustSp at he;split at he
  · rename_i c;split at he
    · cases he;simp only [R.pick,oI,pI] at hp;obtain ⟨rfl,rfl,rfl⟩:=hp;have hc:c=true:=hok;subst hc;obtain ⟨h1,h2,e⟩:=resR_some (must_ev true);have hp:(evalF cxK noΓ 400 20 61 [one (.b true),one (.lit .i64 17)] H.none).pick=some (.tt,(.tup []),h2):=by rw [e];rfl
      obtain ⟨_,hfn⟩:=evalF_fn (XK noΓ_ok) rfl hp rfl;exact fnOK_any hfn rfl rfl h
    · cases he;cases hp
  · cases he
 pan:=by
  intro args h r ok v h' he hp hok;unfold mustSp at he;split at he
  · rename_i c;split at he
    · cases he;cases hp
    · cases he;simp only [R.pickP,oI,pI] at hp;obtain ⟨rfl,rfl,rfl⟩:=hp;have hc:c=false:=by
       have:(!c)=true:=hok;simpa using this
      subst hc;obtain ⟨h1,h2,e⟩:=resR_some (must_ev false);have hp:(evalF cxK noΓ 400 20 61 [one (.b false),one (.lit .i64 17)] H.none).pickP=some (.tt,.iface 24 (.lit .i64 17),h1):=by rw [e];rfl
      have hfn:=((evalF_sound (XK noΓ_ok).eq (XK noΓ_ok).gam (XK noΓ_ok).dfr (XK noΓ_ok).lam (XK noΓ_ok).ent (fuel:=400) 20).pan _ _ _ _ _ _ hp rfl).2;exact fnPan_any hfn rfl rfl h
  · cases he
 ext:=by
  intro args h r he hlo;unfold mustSp at he;split at he
  · split at he<;>(cases he;exact Ext.refl _)
  · cases he
noncomputable abbrev cxP (j w:Int):Cx:={ P:=Tryz.prog,eqT:=eqTab eqsK,dfr:=dfrC,pinL:=some (1,[some j,none,some w,none,none]) }
theorem noLamL (P:Program) (eqT:TypeId->Option (List Bool)) (it:Nat) (dfr:DfrE) (l:Option (Nat×List (Option Int))):LamsOK { P:=P,eqT:=eqT,it:=it,dfr:=dfr,pinL:=l }:=fun _ _ _ _ _ fp hfp id d s o h=>by
 rw [hfp] at h;cases h
theorem XP {Γ:Gam} (j w:Int) (h:ΓOK Tryz.prog Γ):CxOK (cxP j w) Γ:=⟨eqOK_of eqsKOk rfl,h,dfrC_ok,noLamL _ _ _ _ _,enters_of entK⟩
def ΓP (b:Bool) (T:Nat):Gam:=anyΓ 61 (mustSp b) (anyΓ 55 (byTV T) (anyΓ 52 (byTQ T) (anyΓ 103 wordsSp (anyΓ 53 wordsSp noΓ))))
theorem ΓP_ok (b:Bool) (T:Nat):ΓOK Tryz.prog (ΓP b T):=anyΓ_ok (must_ok b) (anyΓ_ok (byTV_ok T) (anyΓ_ok (byTQ_ok T) (anyΓ_ok words103_ok (anyΓ_ok words53_ok noΓ_ok))))
abbrev slDP (n:Nat):V:=one (.sl 1 [] 5 (.lit 0) (.sym n) none)
def mP (t:T) (n:Nat) (D:DF):List (Nat×Blk):=[(0,⟨true,t⟩),(1,⟨false,D.arr n⟩),(2,⟨false,.lst 7777 []⟩)]
def ev9 (b:Bool) (T:Nat) (j w a:Int) (s:VF) (n:Nat) (D:DF) (cpu:U):R:=evalF (cxP j w) (ΓP b T) 400 20 9 [slDP n,pt 0,one (.lit .i64 a),i64 cpu] (hM (mP s.t n D) 3)
def ev10 (T:Nat) (j w a:Int) (s:QF) (n:Nat) (D:DF) (cpu:U):R:=evalF (cxP j w) (ΓP true T) 400 20 10 [slDP n,pt 0,one (.lit .i64 a),i64 cpu] (hM (mP s.t n D) 3)
inductive PO where
 | err (c:U)
 | ok (m op key flag cpu:U) (val:Option (Nat×(Nat->U)))
def argsOf:Nat->Nat->Option (Nat×List Nat)
 | 1,j=>match j with
   | 1=>some (1,[0])|2=>some (1,[0])|4=>some (1,[0])|5=>some (1,[0])|9=>some (1,[0])|10=>some (1,[0])|_=>none
 | 2,j=>match j with
   | 1=>some (2,[0,1,2])|2=>some (2,[0,1,2])|3=>some (2,[0,1,2])|4=>some (2,[0,1,2])|5=>some (2,[0,1,2])|_=>none
 | 3,j=>match j with
   | 4=>some (3,[0])|5=>some (3,[0])|_=>none
 | 4,j=>match j with
   | 6=>some (6,[1,2])|7=>some (6,[1,2])|8=>some (6,[1,2])|_=>none
 | 5,j=>match j with
   | 6=>some (7,[3])|7=>some (7,[3])|_=>none
 | 6,j=>match j with
   | 6=>some (8,[3])|7=>some (8,[3])|8=>some (8,[1])|_=>none
 | 8,j=>match j with
   | 3=>some (1,[0,3])|_=>none
 | _,_=>none
def roomB (x:U) (n:Nat):Bool:=cond (BitVec.sle (K (-128)) x) (BitVec.sle x (K (-(n:Int)))) false
def argsF (regs:VV) (how flat:Nat->U) (w:Nat) (m op cpu:U):List Nat->Nat->U->U->Option (Nat×(Nat->U))->PO
 | [],_,key,flag,val =>.ok m op key flag cpu val
 | 0::L,r,key,flag,val=>bif regs.k r==K 0 then .err (K 15) else bif bytesE how (regs.at r) 8 != K 0 then .err (bytesE how (regs.at r) 8) else argsF regs how flat w m op cpu L (r+1) (getW (byF flat (posW (regs.n r))) (8*0)) flag val
 | 1::L,r,key,flag,val=>bif regs.k r==K 0 then .err (K 15) else bif bytesE how (regs.at r) (8*w) != K 0 then .err (bytesE how (regs.at r) (8*w)) else argsF regs how flat w m op cpu L (r+1) key flag (some (w,wordsF (byF flat (posW (regs.n r)))))
 | 2::L,r,key,flag,val=>bif regs.k r==K 0 then .err (K 15) else bif regs.k r != K 1 then .err (K 14) else argsF regs how flat w m op cpu L (r+1) key (regs.n r) val
 | _::L,r,key,flag,val=>bif regs.k r==K 0 then .err (K 15) else bif regs.k r != K 3 then .err (K 14) else bif !(roomB (regs.n r) (8*w)) then .err (K 17) else argsF regs how flat w m op cpu L (r+1) key flag val
def ixU (regs:VV):Nat:=(regs.i 1-K 1).toNat
def planL (regs:VV) (how flat:Nat->U) (cpu:U) (j w:Nat):Option (Nat×List Nat)->PO
 | none =>.err (K 18)
 | some (op,L)=>argsF regs how flat w (regs.i 1) (K op) (bif Nat.beq j 2 then cpu else K 0) L 2 (K 0) (K 0) none
def inM (n:Nat) (m:U):Bool:=cond (BitVec.sle (K 1) m) (BitVec.sle m (kk n)) false
def planF (n:Nat) (D:DF) (regs:VV) (how flat:Nat->U) (no cpu:U):PO:=
 bif !(cond (BitVec.sle (K 1) no) (BitVec.sle no (K 8)) false) then .err (K 18) else
 bif no==K 7 then .ok (K 0) (K 0) (K 0) (K 0) (K 0) none else
 bif regs.k 1==K 0 then .err (K 15) else bif regs.k 1 != K 4 then .err (K 14) else bif !(inM n (regs.i 1)) then .err (K 18) else
 planL regs how flat cpu (D.k (ixU regs)).toNat (D.w (ixU regs)).toNat (argsOf no.toNat (D.k (ixU regs)).toNat)
def PO.code:PO->U
 | .err c=>c
 | .ok .. => K 0
def PO.m:PO->U
 | .err _=>K 0
 | .ok m _ _ _ _ _=>m
def PO.op:PO->U
 | .err _=>K 0
 | .ok _ x _ _ _ _=>x
def PO.key:PO->U
 | .err _=>K 0
 | .ok _ _ x _ _ _=>x
def PO.flag:PO->U
 | .err _=>K 0
 | .ok _ _ _ x _ _=>x
def PO.cpu:PO->U
 | .err _=>K 0
 | .ok _ _ _ _ x _=>x
def PO.val:PO->Option (Nat×(Nat->U))
 | .err _=>none
 | .ok _ _ _ _ _ x=>x
abbrev Ob:=List A×Option (Nat×T)
def obsV (v:V) (h:H):Option Ob:=match v with
 | .tup [.a m,.st [.a op,.a key,.a val,.a flag,.a cpu],.a e]=>match val with
   | .nils=>some ([m,op,key,flag,cpu,e],none)
   | .sl id [] 1 (.lit 0) (.lit w) none=>match Nat.ble 3 id,h.m.get id with
     | true,some ⟨true,t⟩=>some ([m,op,key,flag,cpu,e],some (w,t))
     | _,_=>none
   | _=>none
 | _=>none
inductive PQ where
 | fail
 | leaf (ok:A) (wr:List Nat) (o:Option Ob)
 | node (c:Bool) (a b:PQ)
def R.pq:R->PQ
 | .fail =>.fail
 | .leaf ok v h =>.leaf ok h.wr (obsV v h)
 | .pan _ _ _ =>.fail
 | .node c a b =>.node c a.pq b.pq
def PQ.pick:PQ->Option (A×List Nat×Ob)
 | .fail=>none
 | .leaf ok wr (some o)=>some (ok,wr,o)
 | .leaf _ _ none=>none
 | .node c a b=>bif c then a.pick else b.pick
def PQ.cut:List Bool->PQ->PQ
 | [],_ =>.fail
 | true::p,.node c a b =>.node c (a.cut p) b
 | false::p,.node c a b =>.node c a (b.cut p)
 | _,q=>q
theorem cut_pick {x:A×List Nat×Ob}:∀(p:List Bool) (q:PQ),(q.cut p).pick=some x->q.pick=some x
 | [],q,h=>by cases q<;>cases h
 | true::p,.node c a b,h=>by
   cases c
   · exact h
   · exact cut_pick p a h
 | false::p,.node c a b,h=>by
   cases c
   · exact cut_pick p b h
   · exact h
 | true::p,.fail,h=>h
 | true::p,.leaf _ _ _,h=>h
 | false::p,.fail,h=>h
 | false::p,.leaf _ _ _,h=>h
theorem pq_pick:∀{r:R} {ok:A} {wr:List Nat} {o:Ob},r.pq.pick=some (ok,wr,o)->∃v h',r.pick=some (ok,v,h')/\h'.wr=wr/\obsV v h'=some o
 | .fail,_,_,_,h=>by cases h
 | .pan _ _ _,_,_,_,h=>by cases h
 | .leaf ok v h,ok',wr,o,e=>by
   simp only [R.pq] at e;cases ho:obsV v h with
   | none=>rw [ho] at e;cases e
   | some o'=>
     rw [ho] at e;simp only [PQ.pick,oI,pI] at e;obtain ⟨rfl,rfl,rfl⟩:=e;exact ⟨v,h,rfl,rfl,ho⟩
 | .node c a b,ok,wr,o,e=>by
   simp only [R.pq,PQ.pick] at e;cases c
   · simpa [R.pick] using pq_pick (r:=b) e
   · simpa [R.pick] using pq_pick (r:=a) e
def z64:A :=.lit .i64 0
def errQ (ok:A) (c:A):PQ :=.leaf ok [] (some ([z64,z64,.lit .u64 0,z64,z64,c],none))
def l64 (n:Nat):A :=.lit .i64 (.ofNat n)
def n63 (n:Nat):Bool:=Nat.blt n (2 ^ 63)
def mOK (regs:VV) (n:Nat):Bool:=(!(BitVec.msb (regs.i 1-K 1)))&&Nat.blt (regs.i 1-K 1).toNat n
def ix0 (regs:VV):Nat:=0+(regs.i 1-K 1).toNat
def okK (D:DF) (regs:VV) (n j:Nat):Bool:=((n63 n&&mOK regs n)&&(Nat.blt (ix0 regs) n&&(D.k (ix0 regs)==K j)))
def okI (D:DF) (regs:VV) (n j w:Nat):Bool:=(okK D regs n j&&mOK regs n)&&(Nat.blt (ix0 regs) n&&((D.k (ix0 regs)==K j)&&(D.w (ix0 regs)==K w)))
def headV (regs:VV) (n:Nat) (rest:PQ):PQ:=
 .node (!(regs.k 1 != K 0)) (errQ .tt (l64 15)) (.node (!(regs.k 1==K 4)) (errQ .tt (l64 14)) (.node (BitVec.sle (K 1) (regs.i 1)) (.node (!(BitVec.sle (regs.i 1) (kk n))) (errQ (.b (n63 n)) (l64 18)) rest) (errQ .tt (l64 18))))
def headQ (regs:VV) (n:Nat) (rest:PQ):PQ:=
 .node (regs.k 1==K 0) (errQ .tt (l64 15)) (.node (regs.k 1 != K 4) (errQ .tt (l64 14)) (.node (BitVec.slt (regs.i 1) (K 1)) (errQ .tt (l64 18)) (.node (BitVec.slt (kk n) (regs.i 1)) (errQ (.b (n63 n)) (l64 18)) rest)))
def argsV (b:Bool) (regs:VV) (how flat:Nat->U) (w op:Nat) (cpu:A):List Nat->Nat->Nat->Bool->A->A->Option (Nat×T)->PQ
 | [],r,B,o,key,flag,val =>.leaf (.b o) [] (some ([.i .i64 (regs.i 1),l64 op,key,flag,cpu,z64],val))
 | 0::L,r,B,o,key,flag,val =>.node (!(regs.k r != K 0)) (errQ (.b o) (l64 15)) (match B with
   | 0 =>.node (!(bytesE how (regs.at r) 8==K 0)) (errQ (.b (o&&(bytesE how (regs.at r) 8 != K 0))) (.i .i64 (bytesE how (regs.at r) 8))) .fail
   | B+1=>argsV b regs how flat w op cpu L (r+1) B (o&&(bytesE how (regs.at r) 8==K 0)) (.i .u64 (wordsF (byF flat (posW (regs.n r))) 0)) flag val)
 | 1::L,r,B,o,key,flag,val =>.node (!(regs.k r != K 0)) (errQ (.b o) (l64 15)) (match B with
   | 0 =>.node (!(bytesE how (regs.at r) (8*w)==K 0)) (errQ (.b (o&&(bytesE how (regs.at r) (8*w) != K 0))) (.i .i64 (bytesE how (regs.at r) (8*w)))) .fail
   | B+1=>argsV b regs how flat w op cpu L (r+1) B (o&&(bytesE how (regs.at r) (8*w)==K 0)) key flag (some (w,.arr 1 (.lit w) (.int .u64 (wordsF (byF flat (posW (regs.n r)))))) ))
 | 2::L,r,B,o,key,flag,val =>.node (!(regs.k r != K 0)) (errQ (.b o) (l64 15)) (.node (!(regs.k r==K 1)) (errQ (.b o) (l64 14)) (argsV b regs how flat w op cpu L (r+1) B o key (.i .i64 (regs.n r)) val))
 | _::L,r,B,o,key,flag,val =>.node (!(regs.k r != K 0)) (errQ (.b o) (l64 15)) (.node (!(regs.k r==K 3)) (errQ (.b o) (l64 14)) (match b with
   | true=>argsV b regs how flat w op cpu L (r+1) B (o&&roomB (regs.n r) (8*w)) key flag val
   | false=>errQ (.b (o && !(roomB (regs.n r) (8*w)))) (l64 17)))
def argsQ (regs:VV) (how flat:Nat->U) (w op:Nat) (cpu:A):List Nat->Nat->Nat->Bool->A->A->Option (Nat×T)->PQ
 | [],r,B,o,key,flag,val =>.leaf (.b o) [] (some ([.i .i64 (regs.i 1),l64 op,key,flag,cpu,z64],val))
 | 0::L,r,B,o,key,flag,val =>.node (regs.k r==K 0) (errQ (.b o) (l64 15)) (match B with
   | 0 =>.node (bytesE how (regs.at r) 8 != K 0) (errQ (.b (o&&(bytesE how (regs.at r) 8 != K 0))) (.i .i64 (bytesE how (regs.at r) 8))) .fail
   | B+1=>argsQ regs how flat w op cpu L (r+1) B (o&&(bytesE how (regs.at r) 8==K 0)) (.i .u64 (wordsF (byF flat (posW (regs.n r))) 0)) flag val)
 | 1::L,r,B,o,key,flag,val =>.node (regs.k r==K 0) (errQ (.b o) (l64 15)) (match B with
   | 0 =>.node (bytesE how (regs.at r) (8*w) != K 0) (errQ (.b (o&&(bytesE how (regs.at r) (8*w) != K 0))) (.i .i64 (bytesE how (regs.at r) (8*w)))) .fail
   | B+1=>argsQ regs how flat w op cpu L (r+1) B (o&&(bytesE how (regs.at r) (8*w)==K 0)) key flag (some (w,.arr 1 (.lit w) (.int .u64 (wordsF (byF flat (posW (regs.n r)))))) ))
 | 2::L,r,B,o,key,flag,val =>.node (regs.k r==K 0) (errQ (.b o) (l64 15)) (.node (regs.k r != K 1) (errQ (.b o) (l64 14)) (argsQ regs how flat w op cpu L (r+1) B o key (.i .i64 (regs.n r)) val))
 | _::L,r,B,o,key,flag,val =>.node (regs.k r==K 0) (errQ (.b o) (l64 15)) (.node (regs.k r != K 3) (errQ (.b o) (l64 14)) (.node (!(roomB (regs.n r) (8*w))) (errQ (.b o) (l64 17)) (argsQ regs how flat w op cpu L (r+1) B o key flag val)))
def cutA:List Nat->Nat->List Bool->List Bool
 | [],_,p=>[]
 | 0::L,B,p=>match B with
   | 0=>p++[false,false]
   | B+1=>cutA L B (p++[false])
 | 1::L,B,p=>match B with
   | 0=>p++[false,false]
   | B+1=>cutA L B (p++[false])
 | 2::L,B,p=>cutA L B (p++[false,false])
 | _::L,B,p=>cutA L B (p++[false,false,false])
inductive Sel where
 | all|e0|e1|nr
def Sel.b:Sel->Bool
 | .nr=>false
 | _=>true
def Sel.B:Sel->Nat
 | .e0=>0
 | .e1=>1
 | _=>1000
def selV:List Nat->Sel->Bool
 | _,.all=>true
 | [0],.e0=>true
 | [1],.e0=>true
 | [1,2],.e0=>true
 | [0,1,2],.e0=>true
 | [0,1,2],.e1=>true
 | [0,3],.e0=>true
 | [3],.nr=>true
 | [0,3],.nr=>true
 | _,_=>false
def selQ:List Nat->Sel->Bool
 | _,.all=>true
 | [0],.e0=>true
 | [1],.e0=>true
 | [1,2],.e0=>true
 | [0,1,2],.e0=>true
 | [0,1,2],.e1=>true
 | [0,3],.e0=>true
 | _,_=>false
def wOK:Nat->Nat->Bool
 | 3,w=>Nat.ble 1 w&&Nat.ble w 4
 | 6,w=>Nat.ble 1 w&&Nat.ble w 4
 | 7,w=>Nat.ble 1 w&&Nat.ble w 4
 | _,w=>Nat.beq w 1
theorem w_one {w:Nat} (h:Nat.beq w 1=true):w=1:=Nat.eq_of_beq_eq_true h
theorem w_four {w:Nat} (h:(Nat.ble 1 w&&Nat.ble w 4)=true):w=1\/w=2\/w=3\/w=4:=by
 simp only [bA] at h;have h1:=nL h.1;have h2:=nL h.2;omega
def cpuA (j:Nat) (cpu:U):A:=match j with
 | 2 =>.i .i64 cpu
 | _=>z64
def restV (S:Sel) (j w op:Nat) (L:List Nat) (s:VF) (n:Nat) (D:DF) (cpu:U):PQ:=argsV S.b s.regs s.how s.flat w op (cpuA j cpu) L 2 S.B (okI D s.regs n j w) (.lit .u64 0) z64 none
def restQ (S:Sel) (j w op:Nat) (L:List Nat) (s:QF) (n:Nat) (D:DF) (cpu:U):PQ:=argsQ s.regs s.how s.b w op (cpuA j cpu) L 2 S.B (okI D s.regs n j w) (.lit .u64 0) z64 none
structure EvV (b:Bool) (T j w a:Nat) (rest:VF->Nat->DF->U->PQ):Prop where
 pick:∀s n D cpu x,(headV s.regs n (rest s n D cpu)).pick=some x->(ev9 b T j w a s n D cpu).pq.pick=some x
structure EvQ (T j w a:Nat) (rest:QF->Nat->DF->U->PQ):Prop where
 pick:∀s n D cpu x,(headQ s.regs n (rest s n D cpu)).pick=some x->(ev10 T j w a s n D cpu).pq.pick=some x
theorem evV_of {b:Bool} {T j w a:Nat} {rest:VF->Nat->DF->U->PQ} (h:∀s n D cpu,(ev9 b T j w a s n D cpu).pq=headV s.regs n (rest s n D cpu)):EvV b T j w a rest:=⟨fun s n D cpu x e=>by rw [h];exact e⟩
theorem evV_cut {b:Bool} {T j w a:Nat} {rest:VF->Nat->DF->U->PQ} (p:List Bool) (h:∀s n D cpu,(ev9 b T j w a s n D cpu).pq.cut p=headV s.regs n (rest s n D cpu)):EvV b T j w a rest:=⟨fun s n D cpu x e=>by rw [← h] at e;exact cut_pick _ _ e⟩
theorem evQ_of {T j w a:Nat} {rest:QF->Nat->DF->U->PQ} (h:∀s n D cpu,(ev10 T j w a s n D cpu).pq=headQ s.regs n (rest s n D cpu)):EvQ T j w a rest:=⟨fun s n D cpu x e=>by rw [h];exact e⟩
theorem evQ_cut {T j w a:Nat} {rest:QF->Nat->DF->U->PQ} (p:List Bool) (h:∀s n D cpu,(ev10 T j w a s n D cpu).pq.cut p=headQ s.regs n (rest s n D cpu)):EvQ T j w a rest:=⟨fun s n D cpu x e=>by rw [← h] at e;exact cut_pick _ _ e⟩
def noneV (j:Nat) (s:VF) (n:Nat) (D:DF) (cpu:U):PQ:=errQ (.b (okK D s.regs n j)) (l64 18)
def noneQ (j:Nat) (s:QF) (n:Nat) (D:DF) (cpu:U):PQ:=errQ (.b (okK D s.regs n j)) (l64 18)
end Go.WE
end
