/- A part of a proof of the helpers' law; no condition of its own. -/
import Derived.Test.YtoeealkcacgcgaaGreatDoorK35
set_option linter.unusedVariables false
set_option maxRecDepth 100000
noncomputable section
namespace Go.WE
open Go Go.Proofs Go.RowKit
def callT (w:A):T :=.st [.a .poison,.st [.a .poison,.a .poison,.a w,.a .poison,.a .poison],.st [.a .poison,.a .poison]]
def Γ65 (k0:Nat):Gam:=anyΓ 61 (mustA k0) ΓL
theorem Γ65_ok (k0:Nat):ΓOK Tryz.prog (Γ65 k0):=anyΓ_ok (mustA_ok k0) ΓL_ok
def ev65 (k0:Nat) (s:FSt) (r:RW) (w:A) (x:Nat):R:=evalF cxK (Γ65 k0) 400 20 65 [.t (callT w),pt 0,.t r.t,one (.lit .i64 (.ofNat x))] (hM [(0,⟨true,s.t⟩)] 1)
def xwOK (x w:Nat):Bool:=Nat.ble x 3&&(Nat.ble 1 w&&Nat.ble w 4)
theorem xw_cases {x w:Nat} (h:xwOK x w=true):(x=0\/x=1\/x=2\/x=3)/\(w=1\/w=2\/w=3\/w=4):=by
 unfold xwOK at h;simp only [bA] at h;have h1:=nL h.1;have h2:=nL h.2.1;have h3:=nL h.2.2;omega
def wA (x w:Nat):A:=match x with
 | 0 =>.poison
 | 2 =>.poison
 | _ =>.lit .i64 (.ofNat w)
def szA (x w:Nat):Nat:=match x with
 | 0=>8
 | _=>8*w
def okC (s:FSt) (r:RW) (n:Nat):Nat->Bool
 | 2=>(r.k != K 0)&&(r.k==K 1)
 | 3=>((r.k != K 0)&&(r.k==K 3))&&roomB r.o n
 | _=>((r.k != K 0)&&(r.k==K 3))&&(readR s.g r.o (K n)==K 0)
def kd14:Nat->U
 | 2=>K 1
 | _=>K 3
def obsP (r:R):Option (A×A×List Nat):=match r.pickP with
 | some (ok,v,h)=>some (ok,v,h.wr)
 | none=>none
theorem obsP_some {r:R} {ok v:A} {wr:List Nat} (h:obsP r=some (ok,v,wr)):∃h',r.pickP=some (ok,v,h')/\h'.wr=wr:=by
 unfold obsP at h;split at h
 · rename_i ok v h' hp;simp only [oI,pI] at h;obtain ⟨rfl,rfl,rfl⟩:=h;exact ⟨h',hp,rfl⟩
 · cases h
theorem e65h (s:FSt) (r:RW) {x w:Nat} (h:xwOK x w=true):obsW (ev65 1000 s r (wA x w) x)=some (.b (okC s r (szA x w) x),.tup [],[]):=by
 obtain ⟨rfl|rfl|rfl|rfl,rfl|rfl|rfl|rfl⟩:=xw_cases h
 · kernel_rfl
 · kernel_rfl
 · kernel_rfl
 · kernel_rfl
 · kernel_rfl
 · kernel_rfl
 · kernel_rfl
 · kernel_rfl
 · kernel_rfl
 · kernel_rfl
 · kernel_rfl
 · kernel_rfl
 · kernel_rfl
 · kernel_rfl
 · kernel_rfl
 · kernel_rfl
theorem e65_15 (s:FSt) (r:RW) {x w:Nat} (h:xwOK x w=true):obsP (ev65 15 s r (wA x w) x)=some (.b (!(r.k != K 0)),.iface 24 (.lit .i64 15),[]):=by
 obtain ⟨rfl|rfl|rfl|rfl,rfl|rfl|rfl|rfl⟩:=xw_cases h
 · kernel_rfl
 · kernel_rfl
 · kernel_rfl
 · kernel_rfl
 · kernel_rfl
 · kernel_rfl
 · kernel_rfl
 · kernel_rfl
 · kernel_rfl
 · kernel_rfl
 · kernel_rfl
 · kernel_rfl
 · kernel_rfl
 · kernel_rfl
 · kernel_rfl
 · kernel_rfl
theorem e65_14 (s:FSt) (r:RW) {x w:Nat} (h:xwOK x w=true):obsP (ev65 14 s r (wA x w) x)=some (.b ((r.k != K 0)&&(!(r.k==kd14 x))),.iface 24 (.lit .i64 14),[]):=by
 obtain ⟨rfl|rfl|rfl|rfl,rfl|rfl|rfl|rfl⟩:=xw_cases h
 · kernel_rfl
 · kernel_rfl
 · kernel_rfl
 · kernel_rfl
 · kernel_rfl
 · kernel_rfl
 · kernel_rfl
 · kernel_rfl
 · kernel_rfl
 · kernel_rfl
 · kernel_rfl
 · kernel_rfl
 · kernel_rfl
 · kernel_rfl
 · kernel_rfl
 · kernel_rfl
theorem e65_17 (s:FSt) (r:RW) {x w:Nat} (h:xwOK x w=true) (hx:x=3):obsP (ev65 17 s r (wA x w) x)=some (.b (((r.k != K 0)&&(r.k==K 3))&&(!(roomB r.o (szA x w)))),.iface 24 (.lit .i64 17),[]):=by
 obtain ⟨_,hw⟩:=xw_cases h;subst hx;rcases hw with rfl|rfl|rfl|rfl
 · kernel_rfl
 · kernel_rfl
 · kernel_rfl
 · kernel_rfl
theorem e65_99 (s:FSt) (r:RW) {x w:Nat} (h:xwOK x w=true) (hx:x=0\/x=1):obsP (ev65 99 s r (wA x w) x)=some (.b (((r.k != K 0)&&(r.k==K 3))&&(!(readR s.g r.o (K (szA x w))==K 0))),.iface 24 (.i .i64 (readR s.g r.o (K (szA x w)))),[]):=by
 obtain ⟨_,hw⟩:=xw_cases h;rcases hx with rfl|rfl<;>rcases hw with rfl|rfl|rfl|rfl
 · kernel_rfl
 · kernel_rfl
 · kernel_rfl
 · kernel_rfl
 · kernel_rfl
 · kernel_rfl
 · kernel_rfl
 · kernel_rfl
theorem calls_readP {P:Program} {f:FuncId} {args:List V} {v:A} {ms:List (Nat×Blk)} {m:Nat} {h':H} (hf:FnPan P f args (hM ms m) v h') {ν:Nu} {w:World} (hm:Mem (fun _=>True) ν w (hM ms m)) (hw:h'.wr=[]) (hv:v.free=true) {us:List Value} (ha:relV ν args us) (ν2:Nu) :
 Calls P f us.toArray w fun e w'=>∃u,e = .panicked [{ v:=u,recovered:=false }]/\v.rel ν2 u/\Below w.heap.size w w':=by
 refine (hf (fun _=>True) ν w us (fun _ _=>trivial) (fun _ _=>trivial) hm ha).mono ?_;rintro e w' ⟨u,ν',rfl,hu,g⟩;have hu':(V.t (.a v)).rel ν2 u:=V.rel_free (x :=.t (.a v)) hv hu;refine ⟨u,rfl,hu',g.frm.os,g.frm.tape,g.frm.output,g.frm.size,fun r hr=>g.frm.block r hr fun id base hid=>⟨?_,by rw [hw];intro h;cases h⟩⟩
 rw [g.ext.lo];refine Classical.byContradiction fun hge => ?_;have hge:¬id<m:=hge;rw [hm.nums.fresh id (show m≤id by omega)] at hid
 cases hid
theorem callT_rel {ν ν':Nu} {m0 b1 b2 b4 b5 r1 r2:A} {x w:Nat} {u:Value} (h:(V.t (.st [.a m0,.st [.a b1,.a b2,.a (.lit .i64 (.ofNat w)),.a b4,.a b5],.st [.a r1,.a r2]])).rel ν u):(V.t (callT (wA x w))).rel ν' u:=by
 obtain ⟨vs,rfl,hr⟩:=h;refine ⟨vs,rfl,?_⟩;unfold callT;simp only [T.rel,relTs,A.rel] at hr ⊢;obtain ⟨u0,w0,e0,⟨x0,f0,_,c0⟩,u1,w1,e1,⟨v1,y1,g1,⟨x1,h1,_,d1⟩,v2,y2,g2,⟨x2,h2,_,d2⟩,v3,y3,g3,⟨x3,h3,hw,d3⟩,v4,y4,g4,⟨x4,h4,_,d4⟩,v5,y5,g5,⟨x5,h5,_,d5⟩,g6⟩,u2,w2,e2,⟨z1,t1,k1,⟨x6,h6,_,d6⟩,z2,t2,k2,⟨x7,h7,_,d7⟩,k3⟩,e3⟩:=hr;refine ⟨u0,w0,e0,⟨x0,f0,trivial,c0⟩,u1,w1,e1,⟨v1,y1,g1,⟨x1,h1,trivial,d1⟩,v2,y2,g2,⟨x2,h2,trivial,d2⟩,v3,y3,g3,⟨x3,h3,?_,d3⟩,v4,y4,g4,⟨x4,h4,trivial,d4⟩,v5,y5,g5,⟨x5,h5,trivial,d5⟩,g6⟩,u2,w2,e2,⟨z1,t1,k1,⟨x6,h6,trivial,d6⟩,z2,t2,k2,⟨x7,h7,trivial,d7⟩,k3⟩,e3⟩;unfold wA;split<;>simp only [A.rel]
 exact hw
theorem okC_true {s:FSt} {r:RW} {n x:Nat} (h:argN s r n x=K 0):okC s r n x=true:=by
 unfold argN at h;unfold okC;split at h
 · cases h0:r.k==K 0<;>simp only [h0,cond_true,cond_false] at h
   · cases h1:r.k==K 1
     · rw [bne,h1] at h;exact absurd h (by simp only [Bool.not_false,cond_true];decide)
     · rw [bne,h0];rfl
   · exact absurd h (by decide)
 · cases h0:r.k==K 0<;>simp only [h0,cond_true,cond_false] at h
   · cases h1:r.k==K 3
     · rw [bne,h1] at h;exact absurd h (by simp only [Bool.not_false,cond_true];decide)
     · rw [bne,h1] at h;cases h2:roomB r.o n
       · rw [h2] at h;exact absurd h (by simp only [Bool.not_false,Bool.not_true,cond_true,cond_false];decide)
       · rw [bne,h0];rfl
   · exact absurd h (by decide)
 · rename_i n2 n3;cases h0:r.k==K 0<;>simp only [h0,cond_true,cond_false] at h
   · cases h1:r.k==K 3
     · rw [bne,h1] at h;exact absurd h (by simp only [Bool.not_false,cond_true];decide)
     · rw [bne,h1] at h;simp only [Bool.not_true,cond_false] at h;split
       · exact absurd rfl n2
       · exact absurd rfl n3
       · rw [bne,h0,h];rfl
   · exact absurd h (by decide)
theorem argN_bad {s:FSt} {r:RW} {n x:Nat} (h:argN s r n x≠K 0):(argN s r n x=K 15/\(!(r.k != K 0))=true)\/(argN s r n x=K 14/\((r.k != K 0)&&(!(r.k==kd14 x)))=true)\/(x=3/\argN s r n x=K 17/\(((r.k != K 0)&&(r.k==K 3))&&(!(roomB r.o n)))=true)\/(x≠2/\x≠3/\argN s r n x=readR s.g r.o (K n)/\(((r.k != K 0)&&(r.k==K 3))&&(!(readR s.g r.o (K n)==K 0)))=true):=by
 unfold argN at h ⊢;split at h
 · cases h0:r.k==K 0
   · cases h1:r.k==K 1
     · right;left;simp only [bne,h0,h1,kd14,Bool.not_false,Bool.and_self,cond_true,cond_false,and_self]
     · exact absurd (by simp only [bne,h0,h1,Bool.not_true,cond_false]) h
   · left;simp only [bne,h0,Bool.not_true,Bool.not_false,cond_true,and_self]
 · cases h0:r.k==K 0
   · cases h1:r.k==K 3
     · right;left;simp only [bne,h0,h1,kd14,Bool.not_false,Bool.and_self,cond_true,cond_false,and_self]
     · cases h2:roomB r.o n
       · right;right;left;simp only [bne,h0,h1,Bool.not_false,Bool.not_true,Bool.and_self,cond_true,cond_false,and_self]
       · exact absurd (by simp only [bne,h0,h1,h2,Bool.not_true,cond_false]) h
   · left;simp only [bne,h0,Bool.not_true,Bool.not_false,cond_true,and_self]
 · rename_i n2 n3;cases h0:r.k==K 0
   · cases h1:r.k==K 3
     · right;left;have:kd14 x=K 3:=by
        unfold kd14;split
        · exact absurd rfl n2
        · rfl
       simp only [bne,h0,h1,this,Bool.not_false,Bool.and_self,cond_true,cond_false,and_self]
     · right;right;right;simp only [bne,h0,h1,Bool.not_true,cond_false] at h;have h4:(readR s.g r.o (K n)==K 0)=false:=beq_eq_false_iff_ne.2 h;refine ⟨n2,n3,?_⟩;simp only [bne,h0,h1,h4,Bool.not_false,Bool.not_true,Bool.and_self,cond_false,and_self]
   · left;simp only [bne,h0,Bool.not_true,Bool.not_false,cond_true,and_self]
def isBad (bad:Option Nat) (x:Nat):Bool:=match bad with
 | some y=>Nat.beq y x
 | none=>false
def chk65R (b:Bool) (s:FSt) (r:RW) (x w id:Nat) (h:H):R:=match b with
 | true =>.pan (.b (argN s r (szA x w) x != K 0)) (.iface 24 (.i .i64 (argN s r (szA x w) x))) (h.sees [id])
 | false =>.leaf (.b (argN s r (szA x w) x==K 0)) (.tup []) (h.sees [id])
def chk65 (bad:Option Nat):List V->H->Option R
 | [.t (.st [.a m0,.st [.a b1,.a b2,.a (.lit .i64 (.ofNat w)),.a b4,.a b5],.st [.a r1,.a r2]]),.t (.a (.ptr id [])),.t t,.t (.a (.lit .i64 (.ofNat x)))],h=>match stateOf h id,rwOfT t,xwOK x w with
   | some s,some r,true=>some (chk65R (isBad bad x) s r x w id h)
   | _,_,_=>none
 | _,_=>none
theorem chk65_inv {bad:Option Nat} {args:List V} {h:H} {q:R} (e:chk65 bad args h=some q):∃m0 b1 b2 w b4 b5 r1 r2 id t x s r,args=[.t (.st [.a m0,.st [.a b1,.a b2,.a (.lit .i64 (.ofNat w)),.a b4,.a b5],.st [.a r1,.a r2]]),.t (.a (.ptr id [])),.t t,.t (.a (.lit .i64 (.ofNat x)))]/\stateOf h id=some s/\rwOfT t=some r/\xwOK x w=true/\q=chk65R (isBad bad x) s r x w id h:=by
 unfold chk65 at e;split at e
 · split at e
   · rename_i h1 h2 h3;cases e;exact ⟨_,_,_,_,_,_,_,_,_,_,_,_,_,rfl,h1,h2,h3,rfl⟩
   · cases e
 · cases e
theorem lit_nat {ν ν':Nu} {n:Nat} {u:Value} (h:(one (.lit .i64 (.ofNat n))).rel ν u):(one (.lit .i64 (.ofNat n))).rel ν' u:=by
 have h:(A.lit .i64 (.ofNat n)).rel ν u:=h;show (A.lit .i64 (.ofNat n)).rel ν' u;simpa only [A.rel] using h
theorem chk65_ok (bad:Option Nat):AnyOK Tryz.prog 65 (chk65 bad) where
 ent:=enters_of entK 65 _ Tryz.func65 (by simp [Tryz.f65])
 ok:=by
  intro args h q ok v h' he hp hok;obtain ⟨m0,b1,b2,w,b4,b5,r1,r2,id,t,x,s,r,rfl,hs,hr,hxw,rfl⟩:=chk65_inv he;unfold chk65R at hp;split at hp
  · cases hp
  · simp only [R.pick,oI,pI] at hp;obtain ⟨rfl,rfl,rfl⟩:=hp;have hz:argN s r (szA x w) x=K 0:=eq_of_beq hok;refine fn_calm [id] fun S ν W us hm hS hus => ?_
    match us,hus with
    | [u0,u1,u2,u3],⟨q0,q1,q2,q3,_⟩=>
      obtain ⟨rr,e1,hh,rfl⟩:=ptr_here hm (stateOf_some hs) (hS id (.head _)) rfl rfl q1;obtain ⟨h',hp,hw⟩:=obsW_some (e65h s r hxw);obtain ⟨_,hfn⟩:=evalF_fn (XK (Γ65_ok 1000)) rfl hp (okC_true hz);exact calls_read hfn (mem_one hh) hw rfl (us:=[u0,.pointer (some ⟨rr,0,none⟩),u2,u3]) ⟨callT_rel q0,pt_rel rr,rwOfT_rel hr q2,lit_nat q3,trivial⟩ ν
 pan:=by
  intro args h q ok v h' he hp hok;obtain ⟨m0,b1,b2,w,b4,b5,r1,r2,id,t,x,s,r,rfl,hs,hr,hxw,rfl⟩:=chk65_inv he;unfold chk65R at hp;split at hp
  · simp only [R.pickP,oI,pI] at hp;obtain ⟨rfl,rfl,rfl⟩:=hp;have hz:argN s r (szA x w) x≠K 0:=bne_iff_ne.1 hok;refine fn_pan [id] fun S ν W us hm hS hus => ?_
    match us,hus with
    | [u0,u1,u2,u3],⟨q0,q1,q2,q3,_⟩=>
      obtain ⟨rr,e1,hh,rfl⟩:=ptr_here hm (stateOf_some hs) (hS id (.head _)) rfl rfl q1;have go:∀{k0:Nat} {o v':A},obsP (ev65 k0 s r (wA x w) x)=some (o,v',[])->okB o=true->v'.free=true->(∀u,v'.rel ν u->(A.iface 24 (.i .i64 (argN s r (szA x w) x))).rel ν u) ->
       Calls Tryz.prog 65 [u0,.pointer (some ⟨rr,0,none⟩),u2,u3].toArray W fun e w'=>∃u,e = .panicked [{ v:=u,recovered:=false }]/\(A.iface 24 (.i .i64 (argN s r (szA x w) x))).rel ν u/\Below W.heap.size W w':=fun {k0 o v'} ho hko hf hv=>by
       obtain ⟨h',hp,hw⟩:=obsP_some ho;have hfn:=((evalF_sound (XK (Γ65_ok k0)).eq (XK (Γ65_ok k0)).gam (XK (Γ65_ok k0)).dfr (XK (Γ65_ok k0)).lam (XK (Γ65_ok k0)).ent (fuel:=400) 20).pan _ _ _ _ _ _ hp hko).2;refine (calls_readP hfn (mem_one hh) hw hf (us:=[u0,.pointer (some ⟨rr,0,none⟩),u2,u3]) ⟨callT_rel q0,pt_rel rr,rwOfT_rel hr q2,lit_nat q3,trivial⟩ ν).mono ?_;rintro e w' ⟨u,rfl,hu,hb⟩;exact ⟨u,rfl,hv u hu,hb⟩
      have lt:∀{k:Nat} {y:U} {u:Value},vof .i64 y=(k:Int)->(A.iface 24 (.lit .i64 (.ofNat k))).rel ν u->(A.iface 24 (.i .i64 y)).rel ν u:=fun {k y u} hy hu=>by simp only [A.rel] at hu ⊢;obtain ⟨z,hz1,hz2⟩:=hu;refine ⟨z,hz1,?_⟩;rw [hy];exact hz2.1
      rcases argN_bad hz with ⟨e,ho⟩|⟨e,ho⟩|⟨rfl,e,ho⟩|⟨n2,n3,e,ho⟩
      · exact go (e65_15 s r hxw) ho rfl fun u hu=>by rw [e];exact lt rfl hu
      · exact go (e65_14 s r hxw) ho rfl fun u hu=>by rw [e];exact lt rfl hu
      · exact go (e65_17 s r hxw rfl) ho rfl fun u hu=>by rw [e];exact lt rfl hu
      · refine go (e65_99 s r hxw ?_) ho rfl fun u hu=>by rw [e];exact hu
        obtain ⟨hx,_⟩:=xw_cases hxw;omega
  · cases hp
 ext:=by intro args h q he hlo;obtain ⟨m0,b1,b2,w,b4,b5,r1,r2,id,t,x,s,r,rfl,hs,hr,hxw,rfl⟩:=chk65_inv he;unfold chk65R;split<;>exact sees_ext _ h
def xOf:Nat->Option Nat
 | 107=>some 0|118=>some 1|102=>some 2|112=>some 3|_=>none
def nOK (x n:Nat):Bool:=match x with
 | 0=>Nat.beq n 8
 | _=>match n with
   | 8=>true|16=>true|24=>true|32=>true|_=>false
def chk68:List V->H->Option R
 | [.t (.a (.ptr id [])),.t t,.t (.a (.lit .u8 (.ofNat b))),.t (.a (.lit .i64 (.ofNat n)))],h=>match stateOf h id,rwOfT t,xOf b with
   | some s,some r,some x=>match nOK x n with
     | true=>some (.leaf .tt (i64 (argN s r n x)) (h.sees [id]))
     | false=>none
   | _,_,_=>none
 | _,_=>none
theorem chk68_inv {args:List V} {h:H} {q:R} (e:chk68 args h=some q):∃id t b n s r x,args=[.t (.a (.ptr id [])),.t t,.t (.a (.lit .u8 (.ofNat b))),.t (.a (.lit .i64 (.ofNat n)))]/\stateOf h id=some s/\rwOfT t=some r/\xOf b=some x/\nOK x n=true/\q = .leaf .tt (i64 (argN s r n x)) (h.sees [id]):=by
 unfold chk68 at e;split at e
 · split at e
   · rename_i h1 h2 h3;split at e
     · rename_i h4;cases e;exact ⟨_,_,_,_,_,_,_,rfl,h1,h2,h3,h4,rfl⟩
     · cases e
   · cases e
 · cases e
theorem e68 (s:FSt) (r:RW) {b n x:Nat} (hb:xOf b=some x) (hn:nOK x n=true):obsW (ev68 s r (.ofNat b) (.ofNat n))=some (.tt,i64 (argN s r n x),[]):=by
 unfold xOf at hb;split at hb
 · cases hb;obtain rfl:=Nat.eq_of_beq_eq_true hn;exact e68_k s r
 · cases hb;unfold nOK at hn;split at hn
   · rename_i hx;cases hx
   · split at hn
     · exact e68_v8 s r
     · exact e68_v16 s r
     · exact e68_v24 s r
     · exact e68_v32 s r
     · cases hn
 · cases hb;unfold nOK at hn;split at hn
   · rename_i hx;cases hx
   · split at hn
     · exact e68_f8 s r
     · exact e68_f16 s r
     · exact e68_f24 s r
     · exact e68_f32 s r
     · cases hn
 · cases hb;unfold nOK at hn;split at hn
   · rename_i hx;cases hx
   · split at hn
     · exact e68_p8 s r
     · exact e68_p16 s r
     · exact e68_p24 s r
     · exact e68_p32 s r
     · cases hn
 · cases hb
theorem chk68_ok:AnyOK Tryz.prog 68 chk68 where
 ent:=enters_of entK 68 _ Tryz.func68 (by simp [Tryz.f68])
 ok:=by
  intro args h q ok v h' he hp hok;obtain ⟨id,t,b,n,s,r,x,rfl,hs,hr,hb,hn,rfl⟩:=chk68_inv he;simp only [R.pick,oI,pI] at hp;obtain ⟨rfl,rfl,rfl⟩:=hp;refine fn_calm [id] fun S ν W us hm hS hus => ?_
  match us,hus with
  | [u0,u1,u2,u3],⟨q0,q1,q2,q3,_⟩=>
    obtain ⟨rr,e1,hh,rfl⟩:=ptr_here hm (stateOf_some hs) (hS id (.head _)) rfl rfl q0;obtain ⟨h',hp,hw⟩:=obsW_some (e68 s r hb hn);obtain ⟨_,hfn⟩:=evalF_fn (XK ΓL_ok) rfl hp rfl;have q2:(A.lit .u8 (.ofNat b)).rel ν u2:=q2;refine calls_read hfn (mem_one hh) hw rfl (us:=[.pointer (some ⟨rr,0,none⟩),u1,u2,u3]) ⟨pt_rel rr,rwOfT_rel hr q1,?_,lit_nat q3,trivial⟩ ν;show (A.lit .u8 (.ofNat b)).rel (nuOne rr) u2;simpa only [A.rel] using q2
 pan:=by intro args h q ok v h' he hp hok;obtain ⟨id,t,b,n,s,r,x,rfl,hs,hr,hb,hn,rfl⟩:=chk68_inv he;simp [R.pickP] at hp
 ext:=by intro args h q he hlo;obtain ⟨id,t,b,n,s,r,x,rfl,hs,hr,hb,hn,rfl⟩:=chk68_inv he;exact sees_ext _ h
end Go.WE
end
