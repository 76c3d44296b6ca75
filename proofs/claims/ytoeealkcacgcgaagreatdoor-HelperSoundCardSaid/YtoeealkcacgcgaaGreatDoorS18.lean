/- A part of a proof of the helpers' law; no condition of its own. -/
import Derived.OwnWalk
import Derived.WalkSpells
import Derived.StillTactics
import Derived.Laws.Pointers
import Derived.Deep.RegionHeld3
import Derived.Deep.AppendLies
import Derived.Test.YtoeealkcacgcgaaGreatDoorS11
import Derived.Test.YtoeealkcacgcgaaGreatDoorS16
import Derived.Test.YtoeealkcacgcgaaGreatDoorS17
set_option linter.unusedVariables false
set_option maxRecDepth 100000
noncomputable section
namespace Go.WE
open Go Go.Proofs Go.RowKit
def vwOfT:T->Option VW
 | .st [.a k,.a n,.a m,.a i]=>match bvI .i64 k,bvI .u64 n,bvI .i64 m,bvI .i64 i with
   | some k,some n,some m,some i=>some ⟨k,n,m,i⟩
   | _,_,_,_=>none
 | _=>none
theorem vwOfT_rel {t:T} {v:VW} (h:vwOfT t=some v) {ν ν':Nu} {u:Value} (hr:t.relV ν u):v.t.relV ν' u:=by
 unfold vwOfT at h;split at h
 · split at h
   · rename_i h1 h2 h3 h4;cases h;obtain ⟨vs,rfl,hr⟩:=hr;refine ⟨vs,rfl,?_⟩;unfold VW.t;simp only [T.rel,relTs] at hr ⊢;obtain ⟨u1,w1,e1,r1,u2,w2,e2,r2,u3,w3,e3,r3,u4,w4,e4,r4,e5⟩:=hr;have c1:=bv_less1 (ν':=ν') h1 (ν:=ν) (vs:=u1) (by simpa only [T.rel] using r1)
     have c2:=bv_less1 (ν':=ν') h2 (ν:=ν) (vs:=u2) (by simpa only [T.rel] using r2)
     have c3:=bv_less1 (ν':=ν') h3 (ν:=ν) (vs:=u3) (by simpa only [T.rel] using r3)
     have c4:=bv_less1 (ν':=ν') h4 (ν:=ν) (vs:=u4) (by simpa only [T.rel] using r4)
     simp only [T.rel] at c1 c2 c3 c4;exact ⟨u1,w1,e1,c1,u2,w2,e2,c2,u3,w3,e3,c3,u4,w4,e4,c4,e5⟩
   · cases h
 · cases h
def errR (c:Int) (h:H):R :=.leaf .tt (.tup [.a .nils,.a (.lit .i64 c)]) h
def byR (how flat:Nat->U) (v:VW) (n id:Nat) (h:H):R:=
 .node (bytesE how v n==K 15) (errR 15 (h.sees [id])) (.node (bytesE how v n==K 14) (errR 14 (h.sees [id])) (.node (bytesE how v n==K 17) (errR 17 (h.sees [id]))
  (.leaf .tt (.tup [.a (.sl h.next [] 1 (.lit 0) (.lit n) none),.a (.lit .i64 0)]) ((h.sees [id]).new ⟨true,.arr 1 (.lit n) (.int .u8 (byF flat (posW v.n)))⟩))))
def bySp {σ:Type} (of:H->Nat->Option σ) (how flat:σ->Nat->U):List V->H->Option R
 | [.t (.a (.ptr id [])),.t vt,.t (.a (.lit .i64 (.ofNat n)))],h=>match of h id,vwOfT vt,isSz n with
   | some s,some v,true=>some (byR (how s) (flat s) v n id h)
   | _,_,_=>none
 | _,_=>none
theorem bytesOf_isfree {t:T} {p:Nat×(Nat->U)} (h:bytesOf t=some p):t.free=true:=by
 unfold bytesOf at h;split at h
 · rfl
 · rename_i ts;split at h
   · rename_i l hl;show freeTs ts=true;clear h
     induction ts generalizing l with
     | nil=>rfl
     | cons x xs ih=>
       unfold byteL at hl;split at hl
       · rename_i e;cases e
       · rename_i a r e;cases e;split at hl
         · rename_i y l' h1 h2;unfold bvI at h1;have hx:(T.a a).free=true:=by
            cases a<;>first|rfl|(simp [A.bv] at h1)
           show ((T.a a).free&&freeTs xs)=true;rw [hx,ih _ h2];rfl
         · cases hl
       · cases hl
   · cases h
 · cases h
def okLay (b n:Nat):A :=.b (Nat.ble (b+n) 128&&Nat.blt 0 n)
def laySp {σ:Type} (of:H->Nat->Option σ) (t:σ->T) (pos:U->Nat) (lay:σ->Nat->(Nat->U)->Nat->σ):List V->H->Option R
 | [.t (.a (.ptr id [])),.t (.a ak),.t (.a (.sl id2 [] 1 (.lit 0) len _))],h=>match of h id,i64Of ak,h.m.get id2 with
   | some s,some x,some ⟨_,t2⟩=>match bytesOf t2 with
     | some (m,c)=>match Nat.beq m len.val && !(Nat.beq id id2) with
       | true=>some (.leaf (okLay (pos x) m) (one .poison) ((h.sees [id,id2]).put id ⟨true,t (lay s (pos x) c m)⟩))
       | false=>none
     | none=>none
   | _,_,_=>none
 | _,_=>none
theorem laySp_inv {σ:Type} {of:H->Nat->Option σ} {t:σ->T} {pos:U->Nat} {lay:σ->Nat->(Nat->U)->Nat->σ} {args:List V} {h:H} {r:R} (e:laySp of t pos lay args h=some r) :
 ∃id ak id2 len cap s x rw t2 c,args=[.t (.a (.ptr id [])),.t (.a ak),.t (.a (.sl id2 [] 1 (.lit 0) len cap))]/\of h id=some s/\i64Of ak=some x/\h.m.get id2=some ⟨rw,t2⟩/\bytesOf t2=some (len.val,c)/\id≠id2 /\
  r = .leaf (okLay (pos x) len.val) (one .poison) ((h.sees [id,id2]).put id ⟨true,t (lay s (pos x) c len.val)⟩):=by
 unfold laySp at e;split at e
 · rename_i id ak id2 len cap;split at e
   · rename_i s x rw t2 h1 h2 h3;split at e
     · rename_i m c h4;split at e
       · rename_i h5;simp only [bA] at h5;have h6:=Nat.eq_of_beq_eq_true h5.1;subst h6;cases e;refine ⟨id,ak,id2,len,cap,s,x,rw,t2,c,rfl,h1,h2,h3,h4,fun e => ?_,rfl⟩;subst e;have:=h5.2;simp at this
       · cases e
     · cases e
   · cases e
 · cases e
theorem lay_ok {σ:Type} {of:H->Nat->Option σ} {t:σ->T} {pos:U->Nat} {lay:σ->Nat->(Nat->U)->Nat->σ} {f:Nat} (hof:∀{h id s},of h id=some s->h.m.get id=some ⟨true,t s⟩) (hn:∀s,notMp (t s)=true) (hf:∀s,(t s).free=true) (hent:Enters Tryz.prog f)
 (hc:∀{w:World} {r b off n cap:Nat} {s:σ} {c:Nat->U} {x:U},pos x+n≤128->n≤cap->r≠b->Holds w r (t s)->HoldsAt w b off (.arr 1 (.sym n) (.int .u8 c)) ->
   Calls Tryz.prog f #[.pointer (some ⟨r,0,none⟩),.int .i64 (vof .i64 x),.slice (some ⟨b,off,none⟩) n cap] w fun e w'=>(∃u,e = .returned u)/\Holds w' r (t (lay s (pos x) c n))/\But r w.heap.size w w'):AnyOK Tryz.prog f (laySp of t pos lay) where
 ent:=hent
 ok:=by
  intro args h r ok v0 h' he hp hok;obtain ⟨id,ak,id2,len,cap,s,x,rw,t2,c,rfl,hs,hx,hb2,hby,hne,rfl⟩:=laySp_inv he;simp only [R.pick,oI,pI] at hp;obtain ⟨rfl,rfl,rfl⟩:=hp;have hok:(Nat.ble (pos x+len.val) 128&&Nat.blt 0 len.val)=true:=hok;simp only [bA] at hok;have k1:=nL hok.1;have k2:0<len.val:=nL hok.2;refine fn_turn (hof hs) (hn s) (hf s) [id,id2] (.head _) fun S ν w r us hm hS hν hh hus => ?_
  match us,hus with
  | [u1,u2],⟨r1,r2,_⟩=>
    obtain rfl:=i64Of_rel hx r1;obtain ⟨B,off,cp,hid,hH,rfl,hcap⟩:=sl_here hm hb2 (hS id2 (.tail _ (.head _))) (bytesOf_free hby) (bytesOf_isfree hby) k2 r2;have hrB:r≠B:=by rintro rfl;exact hne (hm.nums.inj id _ (hof hs) rfl id2 r 0 off hν hid).symm
    refine (hc k1 hcap hrB hh (hH.less fun vs=>bytesOf_rel hby)).mono ?_;rintro e w' ⟨⟨u,rfl⟩,hh',hbut⟩;refine ⟨u,rfl,?_,hbut,hh'⟩;show A.poison.rel ν u;simp only [A.rel]
 pan:=by intro args h r ok v0 h' he hp hok;obtain ⟨id,ak,id2,len,cap,s,x,rw,t2,c,rfl,hs,hx,hb2,hby,hne,rfl⟩:=laySp_inv he;simp [R.pickP] at hp
 ext:=by intro args h r he hlo;obtain ⟨id,ak,id2,len,cap,s,x,rw,t2,c,rfl,hs,hx,hb2,hby,hne,rfl⟩:=laySp_inv he;exact (sees_ext [id,id2] h).trans (put_ext (h:=h.sees [id,id2]) (by rw [sees_m];exact hof hs) rfl rfl)
def layV:List V->H->Option R:=laySp vfOf VF.t BitVec.toNat layVN
def layQ:List V->H->Option R:=laySp qfOf QF.t posW layQN
theorem layV_ok:AnyOK Tryz.prog 80 layV:=lay_ok vfOf_some (fun _=>rfl) (fun _=>rfl) (enters_of entK 80 _ Tryz.func80 (by simp [Tryz.f80])) fun {w r b off n cap s c x} h1 h2 h3 h4 h5=>by
 have:=lay80 (bi:=x.toNat) h1 h2 h3 h4 h5;rw [kk_toNat] at this;exact this
theorem layQ_ok:AnyOK Tryz.prog 83 layQ:=lay_ok qfOf_some (fun _=>rfl) (fun _=>rfl) (enters_of entK 83 _ Tryz.func83 (by simp [Tryz.f83])) fun {w r b off n cap s c x} h1 h2 h3 h4 h5=>
 lay83 (x:=x) h1 (by unfold posW;rw [kk_toNat,BitVec.add_comm]) h2 h3 h4 h5
theorem dfOf_some {h:H} {la:A} {id n:Nat} {D:DF} {o:Bool} (e:dfOf h la=some (id,n,D,o)) (ho:o=true):∃c rw,la = .sl id [] 5 (.lit 0) (.sym n) c/\h.m.get id=some ⟨rw,D.arr n⟩:=by
 unfold dfOf at e;split at e
 · rename_i id' n' c;split at e
   · rename_i rw t hg;split at e
     · rename_i m f ht;cases e;have hb:=Nat.eq_of_beq_eq_true ho;subst hb;exact ⟨c,rw,rfl,by rw [hg,asDF_some ht]⟩
     · cases e
   · cases e
 · cases e
theorem df_here {S:Nat->Prop} {ν:Nu} {w:World} {h:H} {id n:Nat} {D:DF} {o:Bool} {la:A} {v:Value} (hm:Mem S ν w h) (e:dfOf h la=some (id,n,D,o)) (ho:o=true) (hS:S id\/h.lo≤id) (h0:0<n) (hv:(V.t (.a la)).rel ν v) :
 ∃B off c,HoldsAt w B off (D.arr n)/\v = .slice (some ⟨B,off,none⟩) n c/\n≤c/\ν id=some (B,off):=by
 obtain ⟨c,rw,rfl,hg⟩:=dfOf_some e ho;obtain ⟨B,off,cp,hid,hH,rfl,hcap⟩:=sl_here hm hg hS rfl rfl (len :=.sym n) h0 hv;exact ⟨B,off,cp,hH,rfl,hcap,hid⟩
abbrev slD (n:Nat):V:=one (.sl 0 [] 5 (.lit 0) (.sym n) none)
theorem slD_rel {B off n c:Nat} (hc:n≤c):(slD n).rel (nuAt B off) (.slice (some ⟨B,off,none⟩) n c):=by
 show (A.sl 0 [] 5 (.lit 0) (.sym n) none).rel _ _;simp only [A.rel];exact ⟨B,off,off,c,by simp [nuAt],rfl,fun _=>by simp [pathOff,Ix.val],hc,fun _ e=>by cases e⟩
structure TW where
 k:U
 o:U
 m:U
 w:U
 b:U
 v:U
 l:U
 r:U
def TW.t (t:TW):T :=.st [.a (.i .i64 t.k),.a (.i .i64 t.o),.a (.i .i64 t.m),.a (.i .i64 t.w),.a (.i .i64 t.b),.a (.i .u64 t.v),.a (.i .u64 t.l),.a (.i .u64 t.r)]
def TF.at (f:TF) (j:Nat):TW:=⟨f.k j,f.o j,f.m j,f.w j,f.b j,f.v j,f.l j,f.r j⟩
def twOf:T->Option TW
 | .st [.a k,.a o,.a m,.a w,.a b,.a v,.a l,.a r]=>match bvI .i64 k,bvI .i64 o,bvI .i64 m,bvI .i64 w,bvI .i64 b,bvI .u64 v,bvI .u64 l,bvI .u64 r with
   | some k,some o,some m,some w,some b,some v,some l,some r=>some ⟨k,o,m,w,b,v,l,r⟩
   | _,_,_,_,_,_,_,_=>none
 | _=>none
theorem twOf_rel {t:T} {x:TW} (h:twOf t=some x) {ν ν':Nu} {u:Value} (hr:t.relV ν u):x.t.relV ν' u:=by
 unfold twOf at h;split at h
 · split at h
   · rename_i h1 h2 h3 h4 h5 h6 h7 h8;cases h;obtain ⟨vs,rfl,hr⟩:=hr;refine ⟨vs,rfl,?_⟩;unfold TW.t;simp only [T.rel,relTs] at hr ⊢;obtain ⟨u1,w1,e1,r1,u2,w2,e2,r2,u3,w3,e3,r3,u4,w4,e4,r4,u5,w5,e5,r5,u6,w6,e6,r6,u7,w7,e7,r7,u8,w8,e8,r8,e9⟩:=hr;have c1:=bv_less1 (ν':=ν') h1 (ν:=ν) (vs:=u1) (by simpa only [T.rel] using r1)
     have c2:=bv_less1 (ν':=ν') h2 (ν:=ν) (vs:=u2) (by simpa only [T.rel] using r2)
     have c3:=bv_less1 (ν':=ν') h3 (ν:=ν) (vs:=u3) (by simpa only [T.rel] using r3)
     have c4:=bv_less1 (ν':=ν') h4 (ν:=ν) (vs:=u4) (by simpa only [T.rel] using r4)
     have c5:=bv_less1 (ν':=ν') h5 (ν:=ν) (vs:=u5) (by simpa only [T.rel] using r5)
     have c6:=bv_less1 (ν':=ν') h6 (ν:=ν) (vs:=u6) (by simpa only [T.rel] using r6)
     have c7:=bv_less1 (ν':=ν') h7 (ν:=ν) (vs:=u7) (by simpa only [T.rel] using r7)
     have c8:=bv_less1 (ν':=ν') h8 (ν:=ν) (vs:=u8) (by simpa only [T.rel] using r8)
     simp only [T.rel] at c1 c2 c3 c4 c5 c6 c7 c8;exact ⟨u1,w1,e1,c1,u2,w2,e2,c2,u3,w3,e3,c3,u4,w4,e4,c4,u5,w5,e5,c5,u6,w6,e6,c6,u7,w7,e7,c7,u8,w8,e8,c8,e9⟩
   · cases h
 · cases h
def kdU (k:U):U:=cond (k==K 0) (K 0) (cond (k==K 2) (K 2) (cond (k==K 3) (K 3) (cond (k==K 4) (K 4) (K 1))))
def cutU (o:U):U:=cond (BitVec.slt (K (-200)) (cond (BitVec.slt (K 8) o) (K 8) o)) (cond (BitVec.slt (K 8) o) (K 8) o) (K (-200))
def pickU (m n:U):U:=cond (BitVec.slt n (K 1)) (K 0) (cond (BitVec.slt (BitVec.srem m n) (K 0)) (BitVec.srem m n+n) (BitVec.srem m n))
def valW (t:TW) (n:Nat):VW:=
 ⟨kdU t.k,cond (t.k==K 0) (K 0) (cond (t.k==K 2) (K 0) (cond (t.k==K 3) (cutU t.o) (cond (t.k==K 4) (K 0) t.v))),K 0,
  cond (t.k==K 0) (K 0) (cond (t.k==K 2) (K 0) (cond (t.k==K 3) (K 0) (cond (t.k==K 4) (K 1+pickU t.m (kk n)) (K 0))))⟩
def okT (t:TW) (n:Nat):Bool:=cond (t.k==K 0) true (cond (t.k==K 2) true (cond (t.k==K 3) true (cond (t.k==K 4) (Nat.blt n (2 ^ 63)&&cond (BitVec.slt (kk n) (K 1)) true (cond (BitVec.slt (BitVec.srem t.m (kk n)) (K 0)) (kk n != kk 0) (kk n != kk 0))) true)))
def vwT0 (v:VW):T :=.st [.a (.i .i64 v.k),.a (.i .u64 v.n),.a (.lit .i64 0),.a (.i .i64 v.i)]
def vEv (t:TW) (n:Nat) (D:DF):Option (A×V):=(evalF cxK ΓO 400 20 29 [.t t.t,slD n] (hM [(0,⟨false,D.arr n⟩)] 1)).res
def dz:DF:=⟨fun _=>K 0,fun _=>K 0,fun _=>K 0,fun _=>K 0,fun _=>K 0⟩
theorem val_ev (t:TW) (n:Nat) (D:DF):vEv t n D=some (.b (okT t n),.t (vwT0 (valW t n))):=by kernel_rfl
structure NS where
 ok:Bool
 tv:U
 tm:U
 ul:U
 uh:U
 sl:U
 sh:U
def NS.go (s:NS) (f:Bool) (tv tm ul uh sl sh:U):NS:=⟨cond s.ok f false,cond s.ok tv s.tv,cond s.ok tm s.tm,cond s.ok ul s.ul,cond s.ok uh s.uh,cond s.ok sl s.sl,cond s.ok sh s.sh⟩
def loU (a c:U):U:=cond (BitVec.ult a c) c a
def hiU (b d:U):U:=cond (BitVec.ult d b) d b
def loS (a c:U):U:=cond (BitVec.slt a c) c a
def hiS (b d:U):U:=cond (BitVec.slt d b) d b
def badU (s:NS) (c d:U):Bool:=BitVec.ult (hiU s.uh d) (loU s.ul c)
def badS (s:NS) (c d:U):Bool:=BitVec.slt (hiS s.sh d) (loS s.sl c)
def NS.mU (s:NS) (c d:U):NS:=s.go (cond (badU s c d) false true) s.tv s.tm (cond (badU s c d) (K 0) (loU s.ul c)) (cond (badU s c d) (K 0) (hiU s.uh d)) s.sl s.sh
def NS.mS (s:NS) (c d:U):NS:=s.go (cond (badS s c d) false true) s.tv s.tm s.ul s.uh (cond (badS s c d) (K 0) (loS s.sl c)) (cond (badS s c d) (K 0) (hiS s.sh d))
def NS.n1 (s:NS):NS:=s.mU s.tv (s.tv|||s.tm)
def NS.n2 (s:NS):NS:=s.mS (s.tv|||(s.tm&&&K 9223372036854775808)) ((s.tv|||s.tm) &&& ~~~(s.tm&&&K 9223372036854775808))
def NS.n3 (s:NS):NS:=s.mU (cond (BitVec.slt (s.sl^^^s.sh) (K 0)) (K 0) s.sl) (cond (BitVec.slt (s.sl^^^s.sh) (K 0)) (K 18446744073709551615) s.sh)
def NS.n4 (s:NS):NS:=s.mS (cond (((s.ul^^^s.uh)&&&K 9223372036854775808) != K 0) (K (-9223372036854775808)) s.ul) (cond (((s.ul^^^s.uh)&&&K 9223372036854775808) != K 0) (K 9223372036854775807) s.uh)
def NS.o (s:NS):U:=onesU (s.ul^^^s.uh)
def NS.v (s:NS):U:=s.ul &&& ~~~s.o
def NS.bad (s:NS):Bool:=((s.tv^^^s.v) &&& ~~~((K 0|||s.tm)|||s.o)) != K 0
def NS.n5 (s:NS):NS:=s.go (cond s.bad false true) (cond s.bad (K 0) (((s.tv &&& ~~~s.tm)|||(s.v &&& ~~~s.o)) &&& ~~~(s.tm&&&s.o))) (cond s.bad (K 0) (s.tm&&&s.o)) s.ul s.uh s.sl s.sh
def NS.turn (s:NS):NS:=s.n1.n2.n3.n4.n5
def NS.start (r:RW):NS:=⟨true,r.tv,r.tm,r.ul,r.uh,r.sl,r.sh⟩
def NS.fin (s:NS):RW:=⟨K 0,K 0,K 0,K 0,cond (!s.ok) (K 0) s.tv,cond (!s.ok) (K 18446744073709551615) s.tm,cond (!s.ok) (K 0) s.ul,cond (!s.ok) (K 18446744073709551615) s.uh,cond (!s.ok) (K (-9223372036854775808)) s.sl,cond (!s.ok) (K 9223372036854775807) s.sh⟩
def scT (r:RW):T :=.st [.st [.a (.i .u64 r.tv),.a (.i .u64 r.tm)],.st [.a (.i .u64 r.ul),.a (.i .u64 r.uh)],.st [.a (.i .i64 r.sl),.a (.i .i64 r.sh)]]
def nmT (s:NS):V :=.tup [scT s.fin,.a (.b (cond (!s.ok) false true))]
theorem norm_ev (r:RW):(evalF cxK ΓO 400 20 77 [.t (scT r)] (hM [] 0)).res=some (.tt,nmT (NS.start r).turn.turn):=by kernel_rfl
theorem lenE_eq (v:U):lenE v=len64 v:=(show lenE v=lenT v from rfl).trans (lenT_eq v)
theorem onesU_eq (v:U):onesU v=onesB v:=by
 unfold onesU;rw [lenE_eq];exact ones_eq v
structure InS (s:NS) (x:U):Prop where
 t:∀i,i<64->s.tm.getLsbD i=false->s.tv.getLsbD i=x.getLsbD i
 z:∀i,i<64->s.tm.getLsbD i=true->s.tv.getLsbD i=false
 ul:s.ul.toNat≤x.toNat
 uh:x.toNat≤s.uh.toNat
 sl:s.sl.toInt≤x.toInt
 sh:x.toInt≤s.sh.toInt
theorem go_true {s:NS} (h:s.ok=true) (f:Bool) (a b c d e g:U):s.go f a b c d e g=⟨f,a,b,c,d,e,g⟩:=by
 unfold NS.go;rw [h];rfl
theorem lo_toNat (a c:U):(loU a c).toNat=max a.toNat c.toNat:=by
 unfold loU;cases h:a.ult c
 · simp [BitVec.ult] at h;simp;omega
 · simp [BitVec.ult] at h;simp;omega
theorem hi_toNat (b d:U):(hiU b d).toNat=min b.toNat d.toNat:=by
 unfold hiU;cases h:d.ult b
 · simp [BitVec.ult] at h;simp;omega
 · simp [BitVec.ult] at h;simp;omega
theorem lo_toInt (a c:U):(loS a c).toInt=max a.toInt c.toInt:=by
 unfold loS;cases h:a.slt c
 · simp [BitVec.slt] at h;simp;omega
 · simp [BitVec.slt] at h;simp;omega
theorem hi_toInt (b d:U):(hiS b d).toInt=min b.toInt d.toInt:=by
 unfold hiS;cases h:d.slt b
 · simp [BitVec.slt] at h;simp;omega
 · simp [BitVec.slt] at h;simp;omega
theorem mU_in {s:NS} {c d x:U} (ho:s.ok=true) (h:InS s x) (h1:c.toNat≤x.toNat) (h2:x.toNat≤d.toNat):(s.mU c d).ok=true/\InS (s.mU c d) x:=by
 have hl:=lo_toNat s.ul c;have hh:=hi_toNat s.uh d;have a1:=h.ul;have a2:=h.uh;have hb:badU s c d=false:=by unfold badU BitVec.ult;rw [decide_eq_false_iff_not];omega
 unfold NS.mU;rw [go_true ho,hb];exact ⟨rfl,h.t,h.z,by show (loU s.ul c).toNat≤_;omega,by show _≤(hiU s.uh d).toNat;omega,h.sl,h.sh⟩
theorem mS_in {s:NS} {c d x:U} (ho:s.ok=true) (h:InS s x) (h1:c.toInt≤x.toInt) (h2:x.toInt≤d.toInt):(s.mS c d).ok=true/\InS (s.mS c d) x:=by
 have hl:=lo_toInt s.sl c;have hh:=hi_toInt s.sh d;have a1:=h.sl;have a2:=h.sh;have hb:badS s c d=false:=by unfold badS BitVec.slt;rw [decide_eq_false_iff_not];omega
 unfold NS.mS;rw [go_true ho,hb];exact ⟨rfl,h.t,h.z,h.ul,h.uh,by show (loS s.sl c).toInt≤_;omega,by show _≤(hiS s.sh d).toInt;omega⟩
theorem sub_le {a b:U} (h:∀i,i<64->a.getLsbD i=true->b.getLsbD i=true):a.toNat≤b.toNat:=by
 have e:a=a&&&b:=by
  refine BitVec.eq_of_getLsbD_eq (fun i hi => ?_);rw [BitVec.getLsbD_and];cases ha:a.getLsbD i
  · rfl
  · rw [h i hi ha];rfl
 rw [e,BitVec.toNat_and];exact Nat.and_le_right
theorem int_of (x:U):x.toInt=if x.msb=true then (x.toNat:Int)-18446744073709551616 else x.toNat:=by
 have h:=BitVec.toInt_eq_toNat_cond x;rw [BitVec.msb_eq_decide];simp only [decide_eq_true_eq];split at h<;>split<;>omega
theorem neg_lt (x:U):x.msb=true->x.toInt<0:=fun h=>by
 have:=int_of x;rw [if_pos h] at this;have:=x.isLt;omega
theorem pos_le (x:U):x.msb=false->0≤x.toInt:=fun h=>by
 have:=int_of x;rw [h,if_neg (by decide)] at this
 omega
theorem same_le {a b:U} (h:a.msb=b.msb):a.toInt≤b.toInt↔a.toNat≤b.toNat:=by
 have h1:=int_of a;have h2:=int_of b;rw [h] at h1;split at h1<;>rename_i e
 · rw [if_pos e] at h2;omega
 · rw [if_neg e] at h2;omega
theorem bit63 (x:U):x.getLsbD 63=x.msb:=(BitVec.msb_eq_getLsbD_last x).symm
theorem bits_and {s:NS} {x:U} (h:InS s x):s.tv.toNat≤x.toNat/\x.toNat≤(s.tv|||s.tm).toNat:=by
 refine ⟨sub_le fun i hi e => ?_,sub_le fun i hi e => ?_⟩
 · cases hm:s.tm.getLsbD i
   · rw [← h.t i hi hm];exact e
   · rw [h.z i hi hm] at e;cases e
 · rw [BitVec.getLsbD_or];cases hm:s.tm.getLsbD i
   · rw [h.t i hi hm,e];rfl
   · exact Bool.or_true _
theorem n1_in {s:NS} {x:U} (ho:s.ok=true) (h:InS s x):s.n1.ok=true/\InS s.n1 x:=mU_in ho h (bits_and h).1 (bits_and h).2
theorem n2_in {s:NS} {x:U} (ho:s.ok=true) (h:InS s x):s.n2.ok=true/\InS s.n2 x:=by
 obtain ⟨b1,b2⟩:=bits_and h;have t63:=h.t 63 (by decide)
 have z63:=h.z 63 (by decide)
 rw [bit63,bit63,bit63] at t63;rw [bit63,bit63] at z63;have es:s.tm&&&K 9223372036854775808=cond s.tm.msb sgn 0#64:=and_sgn s.tm;unfold NS.n2;rw [es];cases hm:s.tm.msb
 · have e:=t63 hm;rw [cond_false,show s.tv|||0#64=s.tv from BitVec.or_zero,show (s.tv|||s.tm) &&& ~~~(0#64)=s.tv|||s.tm by
    refine BitVec.eq_of_getLsbD_eq (fun i hi => ?_);rw [BitVec.getLsbD_and,BitVec.getLsbD_not,BitVec.getLsbD_zero,decide_eq_true hi];simp only [Bool.not_false,Bool.and_self,Bool.and_true]]
   refine mS_in ho h ((same_le e).2 b1) ((same_le ?_).2 b2);rw [BitVec.msb_or,hm,e,Bool.or_false]
 · rw [cond_true];have ez:=z63 hm;have m1:(s.tv|||sgn).msb=true:=by rw [BitVec.msb_or];exact Bool.or_true _
   have m2:((s.tv|||s.tm) &&& ~~~sgn).msb=false:=by rw [BitVec.msb_and];exact Bool.and_false _
   refine mS_in ho h ?_ ?_
   · cases hx:x.msb
     · exact Int.le_trans (Int.le_of_lt (neg_lt _ m1)) (pos_le _ hx)
     · refine (same_le (m1.trans hx.symm)).2 (sub_le fun i hi e => ?_);rw [BitVec.getLsbD_or,sgn_bit] at e;by_cases h3:i=63
       · subst h3;rw [bit63];exact hx
       · rw [decide_eq_false h3,Bool.or_false] at e;cases hmi:s.tm.getLsbD i
         · rw [← h.t i hi hmi];exact e
         · rw [h.z i hi hmi] at e;cases e
   · cases hx:x.msb
     · refine (same_le (hx.trans m2.symm)).2 (sub_le fun i hi e => ?_);rw [BitVec.getLsbD_and,BitVec.getLsbD_or,BitVec.getLsbD_not,sgn_bit];by_cases h3:i=63
       · subst h3;rw [bit63,hx] at e;cases e
       · rw [decide_eq_false h3];cases hmi:s.tm.getLsbD i
         · rw [h.t i hi hmi,e];simp [hi]
         · simp [hi]
     · exact Int.le_trans (Int.le_of_lt (neg_lt _ hx)) (pos_le _ m2)
theorem slt_xor (a b:U):BitVec.slt (a^^^b) (K 0)=(a.msb != b.msb):=by
 have:BitVec.slt (a^^^b) (K 0)=(a^^^b).slt zer:=rfl;rw [this,slt_zer,BitVec.msb_xor]
theorem and_xor (a b:U):(((a^^^b)&&&K 9223372036854775808) != K 0)=(a.msb != b.msb):=by
 have:(((a^^^b)&&&K 9223372036854775808) != K 0)=(((a^^^b)&&&sgn) != zer):=rfl;rw [this,and_sgn,BitVec.msb_xor];cases a.msb<;>cases b.msb<;>decide
theorem n3_in {s:NS} {x:U} (ho:s.ok=true) (h:InS s x):s.n3.ok=true/\InS s.n3 x:=by
 have a1:=h.sl;have a2:=h.sh;unfold NS.n3;rw [slt_xor];cases e:s.sl.msb != s.sh.msb
 · have e':s.sl.msb=s.sh.msb:=by simpa using e
   have em:s.sl.msb=x.msb:=by
    cases h1:s.sl.msb<;>cases h2:x.msb
    · rfl
    · have:=pos_le _ h1;have:=neg_lt _ h2;omega
    · have:=neg_lt _ (e'.symm.trans h1);have:=pos_le _ h2;omega
    · rfl
   exact mU_in ho h ((same_le em).1 a1) ((same_le (em.symm.trans e')).1 a2)
 · refine mU_in ho h (Nat.zero_le _) ?_;have:=x.isLt;have e1:(K 18446744073709551615).toNat=18446744073709551615:=rfl;rw [cond_true,e1];omega
theorem n4_in {s:NS} {x:U} (ho:s.ok=true) (h:InS s x):s.n4.ok=true/\InS s.n4 x:=by
 have a1:=h.ul;have a2:=h.uh;unfold NS.n4;rw [and_xor];cases e:s.ul.msb != s.uh.msb
 · have e':s.ul.msb=s.uh.msb:=by simpa using e
   have em:s.ul.msb=x.msb:=by have q1:=BitVec.msb_eq_decide s.ul;have q2:=BitVec.msb_eq_decide s.uh;have q3:=BitVec.msb_eq_decide x;rw [q1,q2,decide_eq_decide] at e';rw [q1,q3,decide_eq_decide];omega
   exact mS_in ho h ((same_le em).2 a1) ((same_le (em.symm.trans e')).2 a2)
 · have q:=int_of x;have:=x.isLt;have e1:(K (-9223372036854775808)).toInt = -9223372036854775808:=rfl;have e2:(K 9223372036854775807).toInt=9223372036854775807:=rfl;have q3:=BitVec.msb_eq_decide x;refine mS_in ho h ?_ ?_
   · rw [cond_true,e1];split at q<;>rename_i h4
     · rw [q3,decide_eq_true_eq] at h4;omega
     · omega
   · rw [cond_true,e2];split at q<;>rename_i h4
     · omega
     · rw [q3,decide_eq_true_eq] at h4;omega
theorem cut_same {a b x:U} (h1:a.toNat≤x.toNat) (h2:x.toNat≤b.toNat):x &&& ~~~(onesB (a^^^b))=a &&& ~~~(onesB (a^^^b)):=by
 apply BitVec.eq_of_toNat_eq;rw [cut_toNat,cut_toNat];have hlt:(a^^^b).toNat<2 ^ bl (a^^^b).toNat:=(bl_le _ _).1 (Nat.le_refl _);have e1:a.toNat / 2 ^ bl (a^^^b).toNat=b.toNat / 2 ^ bl (a^^^b).toNat:=by have:=xor_div a.toNat b.toNat (bl (a^^^b).toNat);rw [← BitVec.toNat_xor,Nat.div_eq_of_lt hlt] at this;exact xor_zero.1 this.symm
 have e2:a.toNat / 2 ^ bl (a^^^b).toNat≤x.toNat / 2 ^ bl (a^^^b).toNat:=Nat.div_le_div_right h1;have e3:x.toNat / 2 ^ bl (a^^^b).toNat≤b.toNat / 2 ^ bl (a^^^b).toNat:=Nat.div_le_div_right h2;rw [show x.toNat / 2 ^ bl (a^^^b).toNat=a.toNat / 2 ^ bl (a^^^b).toNat by omega]
theorem n5_in {s:NS} {x:U} (ho:s.ok=true) (h:InS s x):s.n5.ok=true/\InS s.n5 x:=by
 have hc:=cut_same h.ul h.uh;rw [← onesU_eq] at hc;have hv:∀i,i<64->s.o.getLsbD i=false->s.v.getLsbD i=x.getLsbD i:=fun i hi ho=>by have e:(x &&& ~~~s.o).getLsbD i=s.v.getLsbD i:=congrArg (·.getLsbD i) hc;rw [BitVec.getLsbD_and,BitVec.getLsbD_not,ho] at e;rw [← e];simp [hi]
 have hz:∀i,i<64->s.o.getLsbD i=true->s.v.getLsbD i=false:=fun i hi ho=>by unfold NS.v;rw [BitVec.getLsbD_and,BitVec.getLsbD_not,ho];simp
 have hb:s.bad=false:=by
  unfold NS.bad;have:(s.tv^^^s.v) &&& ~~~((K 0|||s.tm)|||s.o)=K 0:=by
   refine BitVec.eq_of_getLsbD_eq (fun i hi => ?_);have k0:(K 0).getLsbD i=false:=by show (0#64).getLsbD i=false;simp
   rw [BitVec.getLsbD_and,BitVec.getLsbD_xor,BitVec.getLsbD_not,BitVec.getLsbD_or,BitVec.getLsbD_or,k0];cases h1:s.tm.getLsbD i<;>cases h2:s.o.getLsbD i
   · rw [h.t i hi h1,hv i hi h2];simp
   · simp
   · simp
   · simp
  rw [this];rfl
 unfold NS.n5;rw [go_true ho,hb];refine ⟨rfl,fun i hi e => ?_,fun i hi e => ?_,h.ul,h.uh,h.sl,h.sh⟩
 · have e:(s.tm&&&s.o).getLsbD i=false:=e;show (((s.tv &&& ~~~s.tm)|||(s.v &&& ~~~s.o)) &&& ~~~(s.tm&&&s.o)).getLsbD i=_;rw [BitVec.getLsbD_and] at e;rw [BitVec.getLsbD_and,BitVec.getLsbD_not,BitVec.getLsbD_or,BitVec.getLsbD_and,BitVec.getLsbD_and,BitVec.getLsbD_and,BitVec.getLsbD_not,BitVec.getLsbD_not,e];cases h1:s.tm.getLsbD i<;>cases h2:s.o.getLsbD i
   · rw [h.t i hi h1,hv i hi h2];simp [hi]
   · rw [h.t i hi h1,hz i hi h2];simp [hi]
   · rw [h.z i hi h1,hv i hi h2];simp [hi]
   · rw [h1,h2] at e;cases e
 · have e:(s.tm&&&s.o).getLsbD i=true:=e;show (((s.tv &&& ~~~s.tm)|||(s.v &&& ~~~s.o)) &&& ~~~(s.tm&&&s.o)).getLsbD i=false;rw [BitVec.getLsbD_and,BitVec.getLsbD_not,e];simp
theorem turn_in {s:NS} {x:U} (ho:s.ok=true) (h:InS s x):s.turn.ok=true/\InS s.turn x:=by
 obtain ⟨o1,h1⟩:=n1_in ho h;obtain ⟨o2,h2⟩:=n2_in o1 h1;obtain ⟨o3,h3⟩:=n3_in o2 h2;obtain ⟨o4,h4⟩:=n4_in o3 h3;exact n5_in o4 h4
def okH (t:TW) (n:Nat) (o:Bool):Bool:=(okT t n&&Nat.blt 0 n)&&o
def thSp (out:TW->Nat->T):List V->H->Option R
 | [.t tt,.t (.a la)],h=>match twOf tt,dfOf h la with
   | some t,some (id,n,_,o)=>some (.leaf (.b (okH t n o)) (.t (out t n)) (h.sees [id]))
   | _,_=>none
 | _,_=>none
theorem thSp_inv {out:TW->Nat->T} {args:List V} {h:H} {r:R} (e:thSp out args h=some r):∃tt la t id n D o,args=[.t tt,.t (.a la)]/\twOf tt=some t/\dfOf h la=some (id,n,D,o)/\r = .leaf (.b (okH t n o)) (.t (out t n)) (h.sees [id]):=by
 unfold thSp at e;split at e
 · split at e
   · rename_i h1 h2;cases e;exact ⟨_,_,_,_,_,_,_,rfl,h1,h2,rfl⟩
   · cases e
 · cases e
theorem th_ok {f:Nat} {out0 out:TW->Nat->T} (hent:Enters Tryz.prog f) (hΓ:∀args,ΓO f args (hM [(0,⟨false,(dz.arr 0)⟩)] 1)=none\/True) (he:∀t n (D:DF),(evalF cxK ΓO 400 20 f [.t t.t,slD n] (hM [(0,⟨false,D.arr n⟩)] 1)).res=some (.b (okT t n),.t (out0 t n))) (hg:∀(t:TW) n (D:DF),ΓO f [.t t.t,slD n] (hM [(0,⟨false,D.arr n⟩)] 1)=none)
 (hf:∀t n,(out0 t n).free=true) (hr:∀t n ν u,(V.t (out0 t n)).rel ν u->(V.t (out t n)).rel ν u):AnyOK Tryz.prog f (thSp out) where
 ent:=hent
 ok:=by
  intro args h r ok v h' he' hp hok;obtain ⟨tt,la,t,id,n,D,o,rfl,h1,h2,rfl⟩:=thSp_inv he';simp only [R.pick,oI,pI] at hp;obtain ⟨rfl,rfl,rfl⟩:=hp;have hok:((okT t n&&Nat.blt 0 n)&&o)=true:=hok;rw [bA,bA] at hok;obtain ⟨hok,ho⟩:=hok;have h0:0<n:=nL hok.2;refine fn_calm [id] fun S ν w us hm hS hus => ?_
  match us,hus with
  | [u0,u1],⟨r0,r1,_⟩=>
    obtain ⟨B,off,c,hH,rfl,hc,_⟩:=df_here hm h2 ho (hS id (.head _)) h0 r1;obtain ⟨h',hp⟩:=res_some (he t n D);obtain ⟨_,hfn⟩:=evalF_fn (XK ΓO_ok) (hg t n D) hp hok.1;refine (call_at hfn hH (vs:=[u0,.slice (some ⟨B,off,none⟩) n c]) ⟨twOf_rel h1 r0,slD_rel hc,trivial⟩ (hf t n) ν).mono ?_;rintro e w' ⟨u,rfl,hu,hb⟩;exact ⟨u,rfl,hr _ _ _ _ hu,hb⟩
 pan:=by intro args h r ok v h' he' hp hok;obtain ⟨tt,la,t,id,n,D,o,rfl,h1,h2,rfl⟩:=thSp_inv he';simp [R.pickP] at hp
 ext:=by intro args h r he' hlo;obtain ⟨tt,la,t,id,n,D,o,rfl,h1,h2,rfl⟩:=thSp_inv he';exact sees_ext [id] h
theorem vwT0_rel {v:VW} (hm:v.m=K 0) {ν:Nu} {u:Value} (h:(V.t (vwT0 v)).rel ν u):(V.t v.t).rel ν u:=by
 obtain ⟨vs,rfl,hr⟩:=h;refine ⟨vs,rfl,?_⟩;unfold vwT0 at hr;unfold VW.t;simp only [T.rel,relTs,A.rel,hm] at hr ⊢;obtain ⟨a1,b1,e1,q1,a2,b2,e2,q2,a3,b3,e3,⟨x3,y3,⟨z3,_⟩,c3⟩,r4⟩:=hr;exact ⟨a1,b1,e1,q1,a2,b2,e2,q2,a3,b3,e3,⟨x3,y3,z3,c3⟩,r4⟩
theorem okT_true (t:TW) {n:Nat} (h1:1≤n) (h2:n≤10):okH t n (Nat.beq n n)=true:=by
 have a0:Nat.beq n n=true:=Nat.beq_refl n;have a1:Nat.blt n (2 ^ 63)=true:=nB (by omega)
 have a2:Nat.blt 0 n=true:=nB h1;have a3:(kk n != kk 0)=true:=bne_iff_ne.2 fun e=>by
  have:=congrArg BitVec.toNat e;rw [kk_nat (by omega),kk_nat (by omega)] at this
  omega
 unfold okH okT;rw [a0,a1,a2,a3];cases t.k==K 0<;>cases t.k==K 2<;>cases t.k==K 3<;>cases t.k==K 4<;>cases BitVec.slt (kk n) (K 1)<;>cases BitVec.slt (BitVec.srem t.m (kk n)) (K 0)<;>rfl
def valSp:List V->H->Option R:=thSp fun t n=>(valW t n).t
def knoSp (kn:TW->Nat->RW):List V->H->Option R:=thSp fun t n=>(kn t n).t
theorem val29_ok:AnyOK Tryz.prog 29 valSp:=th_ok (enters_of entK 29 _ Tryz.func29 (by simp [Tryz.f29])) (fun _ =>.inr trivial) val_ev (fun _ _ _=>rfl) (fun _ _=>rfl) fun t n ν u h=>vwT0_rel rfl h
end Go.WE
namespace Go.WE
open Go Go.Proofs
def R.way:R->List Bool->Option (Bool×R)
 | r,[]=>some (true,r)
 | .node c a b,true::p=>match a.way p with
   | some (d,r)=>some (c&&d,r)
   | none=>none
 | .node c a b,false::p=>match b.way p with
   | some (d,r)=>some (!c&&d,r)
   | none=>none
 | _,_::_=>none
theorem way_pick:∀{p:List Bool} {r r':R} {c:Bool},r.way p=some (c,r')->c=true->r.pick=r'.pick/\r.pickP=r'.pickP
 | [],r,r',c,h,hc=>by cases r<;>(simp only [R.way,oI,pI] at h;obtain ⟨_,rfl⟩:=h;exact ⟨rfl,rfl⟩)
 | b::p,r,r',c,h,hc=>by
   cases r with
   | node x a' b'=>
     cases b
     · simp only [R.way] at h;split at h
       · rename_i d r2 h2;simp only [oI,pI] at h;obtain ⟨rfl,rfl⟩:=h;simp only [bA,Bool.not_eq_true'] at hc;have:=way_pick h2 hc.2;simp only [R.pick,R.pickP,hc.1];exact this
       · cases h
     · simp only [R.way] at h;split at h
       · rename_i d r2 h2;simp only [oI,pI] at h;obtain ⟨rfl,rfl⟩:=h;simp only [bA] at hc;have:=way_pick h2 hc.2;simp only [R.pick,R.pickP,hc.1];exact this
       · cases h
   | _=>simp [R.way] at h
theorem fn_weak {P:Program} {f:FuncId} {args:List V} {v v':V} {h h':H} (hf:FnOK P f args h v h') (hv:∀ν u,v.rel ν u->v'.rel ν u):FnOK P f args h v' h':=by
 intro S ν w us h1 h2 hm ha;refine (hf S ν w us h1 h2 hm ha).mono ?_;rintro e w' ⟨u,ν',rfl,hu,hg⟩;exact ⟨u,ν',rfl,hv _ _ hu,hg⟩
end Go.WE
namespace Go.WE
open Go Go.Proofs Go.RowKit
def byT {σ:Type} (T:Nat) (of:H->Nat->Option σ) (how flat:σ->Nat->U):List V->H->Option R
 | [.t (.a (.ptr id [])),.t vt,.t (.a (.lit .i64 (.ofNat n)))],h=>match of h id,vwOfT vt,isSz n with
   | some s,some v,true=>match Nat.blt h.next T with
     | true=>some (.leaf (.b (bytesE (how s) v n==K 0)) (.tup [.a (.sl h.next [] 1 (.lit 0) (.lit n) none),.a (.lit .i64 0)]) ((h.sees [id]).new ⟨true,.arr 1 (.lit n) (.int .u8 (byF (flat s) (posW v.n)))⟩))
     | false=>some (.leaf (.b (bytesE (how s) v n != K 0)) (.tup [.a .nils,.a (.i .i64 (bytesE (how s) v n))]) (h.sees [id]))
   | _,_,_=>none
 | _,_=>none
theorem byT_inv {σ:Type} {T:Nat} {of:H->Nat->Option σ} {how flat:σ->Nat->U} {args:List V} {h:H} {r:R} (e:byT T of how flat args h=some r):∃id vt n s v,args=[.t (.a (.ptr id [])),.t vt,.t (.a (.lit .i64 (.ofNat n)))]/\of h id=some s/\vwOfT vt=some v/\isSz n=true /\
 (r = .leaf (.b (bytesE (how s) v n==K 0)) (.tup [.a (.sl h.next [] 1 (.lit 0) (.lit n) none),.a (.lit .i64 0)]) ((h.sees [id]).new ⟨true,.arr 1 (.lit n) (.int .u8 (byF (flat s) (posW v.n)))⟩)\/r = .leaf (.b (bytesE (how s) v n != K 0)) (.tup [.a .nils,.a (.i .i64 (bytesE (how s) v n))]) (h.sees [id])):=by
 unfold byT at e;split at e
 · split at e
   · rename_i h1 h2 h3;split at e
     · cases e;exact ⟨_,_,_,_,_,rfl,h1,h2,h3,.inl rfl⟩
     · cases e;exact ⟨_,_,_,_,_,rfl,h1,h2,h3,.inr rfl⟩
   · cases e
 · cases e
theorem bytesT_fn {σ:Type} (T:Nat) {of:H->Nat->Option σ} {how flat:σ->Nat->U} {t:σ->Go.WE.T} {f:Nat} (hof:∀{h id s},of h id=some s->h.m.get id=some ⟨true,t s⟩) (hn:∀s,notMp (t s)=true) (hf:∀s,(t s).free=true) (hent:Enters Tryz.prog f)
 (hc:∀{w:World} {r n:Nat} {s:σ} {v:VW} {vv:Value},isSz n=true->Holds w r (t s)->(V.t v.t).rel nu0 vv->Calls Tryz.prog f #[.pointer (some ⟨r,0,none⟩),vv,.int .i64 (.ofNat n)] w (bytesP w (how s) (flat s) v n)):AnyOK Tryz.prog f (byT T of how flat) where
 ent:=hent
 ok:=by
  intro args h r ok v0 h' he hp hok;obtain ⟨id,vt,n,s,v,rfl,hs,hv,hsz,hr⟩:=byT_inv he;have call:∀S ν w us,Mem S ν w h->(∀i,i∈[id]->S i\/h.lo≤i)->relV ν [.t (.a (.ptr id [])),.t vt,.t (.a (.lit .i64 (.ofNat n)))] us->Calls Tryz.prog f us.toArray w (bytesP w (how s) (flat s) v n):=fun S ν w us hm hS hus=>by
   match us,hus with
   | [u0,u1,u2],⟨r0,r1,r2,_⟩=>
     obtain ⟨r,e1,hh,rfl⟩:=ptr_here hm (hof hs) (hS id (.head _)) (hn s) (hf s) r0;have r2:(A.lit .i64 (.ofNat n)).rel ν u2:=r2;simp only [A.rel] at r2;obtain ⟨rfl,_⟩:=r2;exact hc hsz hh (vwOfT_rel hv r1)
  rcases hr with rfl|rfl
  · simp only [R.pick,oI,pI] at hp;obtain ⟨rfl,rfl,rfl⟩:=hp;have hz:bytesE (how s) v n=K 0:=eq_of_beq hok;refine fn_made rfl [id] fun S ν w us hm hS hus=>(call S ν w us hm hS hus).mono ?_;rintro e w' ⟨hb,h1,_⟩;obtain ⟨B,cap,hB,hcap,rfl,hH⟩:=h1 hz;refine ⟨_,B,rfl,hB,hb,hH,fun ν' _ hν => ?_⟩;refine ⟨_,rfl,?_,?_,trivial⟩
    · show (A.sl h.next [] 1 (.lit 0) (.lit n) none).rel ν' _;simp only [A.rel];exact ⟨B,0,0,cap,hν,rfl,fun _=>by simp [pathOff,Ix.val],hcap,fun _ e=>by cases e⟩
    · show (A.lit .i64 0).rel ν' _;simp only [A.rel];exact ⟨trivial,rfl⟩
  · simp only [R.pick,oI,pI] at hp;obtain ⟨rfl,rfl,rfl⟩:=hp;have hz:bytesE (how s) v n≠K 0:=bne_iff_ne.1 hok;refine fn_calm [id] fun S ν w us hm hS hus=>(call S ν w us hm hS hus).mono ?_;rintro e w' ⟨hb,_,h2⟩;refine ⟨_,h2 hz,?_,hb⟩;refine ⟨_,rfl,?_,?_,trivial⟩
    · show A.nils.rel ν _;simp only [A.rel]
    · show (A.i .i64 _).rel ν _;simp only [A.rel]
 pan:=by intro args h r ok v0 h' he hp hok;obtain ⟨id,vt,n,s,v,rfl,hs,hv,hsz,rfl|rfl⟩:=byT_inv he<;>simp [R.pickP] at hp
 ext:=by
  intro args h r he hlo;obtain ⟨id,vt,n,s,v,rfl,hs,hv,hsz,rfl|rfl⟩:=byT_inv he
  · exact (sees_ext [id] h).trans (new_ext (by rw [sees_lo,sees_next];exact hlo) _)
  · exact sees_ext [id] h
def byTV (T:Nat):List V->H->Option R:=byT T vfOf VF.how VF.flat
def byTQ (T:Nat):List V->H->Option R:=byT T qfOf QF.how QF.b
theorem byTV_ok (T:Nat):AnyOK Tryz.prog 55 (byTV T):=bytesT_fn (t:=VF.t) T vfOf_some (fun _=>rfl) (fun _=>rfl) (enters_of entK 55 _ Tryz.func55 (by simp [Tryz.f55])) bytes55
theorem byTQ_ok (T:Nat):AnyOK Tryz.prog 52 (byTQ T):=bytesT_fn (t:=QF.t) T qfOf_some (fun _=>rfl) (fun _=>rfl) (enters_of entK 52 _ Tryz.func52 (by simp [Tryz.f52])) bytes52_calls
end Go.WE
namespace Go.Proofs.YtoeealkcacgcgaaGreatDoor.Wor
open Go Go.RowKit
theorem sc_ne (w:World) (b o:Nat) (v:Value) {r:Nat} (h:r≠b):(w.setCell ⟨b,o,none⟩ v).heap[r]? = w.heap[r]? := by
 unfold World.setCell;simp only [Array.getElem?_modify];rw [if_neg (fun e=>h e.symm)]
theorem sc_eq {w:World} {b:Nat} {c:Array Value} {e:TypeId} {f:Nat×Nat} (h:w.heap[b]? = some (.cells c e f)) (o:Nat) (v:Value):(w.setCell ⟨b,o,none⟩ v).heap[b]? = some (.cells (c.setIfInBounds o v) e f):=by
 unfold World.setCell;simp only [Array.getElem?_modify];rw [h];simp
theorem sc_size (w:World) (b o:Nat) (v:Value):(w.setCell ⟨b,o,none⟩ v).heap.size=w.heap.size:=by
 unfold World.setCell;simp
theorem ownsRow_far {B:Nat} {e:TypeId} {k:Nat} {v:Value} {n:Nat} {xs:List Value} {w w':World} (h:w.ownsRow B e k v n xs) (hb:∀r,B≤r->r<w.heap.size->w'.heap[r]? = w.heap[r]?):w'.ownsRow B e k v n xs:=by
 obtain ⟨h1,h2⟩:=h;refine ⟨h1,?_⟩;rcases h2 with h2|⟨g,cap,cur,r1,r2,r3,r4⟩
 · exact .inl h2
 · exact .inr ⟨g,cap,cur,r1,r2,by rw [hb g r2 (Array.getElem?_eq_some_iff.1 r3).1];exact r3,r4⟩
theorem own_set {B:Nat} {e:TypeId} {k:Nat} {v:Value} {n:Nat} {xs:List Value} {w:World} (h:w.ownsRow B e k v n xs) {b:Nat} (hb:b<B) (o:Nat) (u:Value):(w.setCell ⟨b,o,none⟩ u).ownsRow B e k v n xs:=ownsRow_far h fun r h1 _=>sc_ne _ _ _ _ (by omega)
theorem own_mono {B B':Nat} {e:TypeId} {k:Nat} {v:Value} {n:Nat} {xs:List Value} {w:World} (h:w.ownsRow B e k v n xs) (hB:B'≤B):w.ownsRow B' e k v n xs:=by
 obtain ⟨h1,h2⟩:=h;exact ⟨h1,h2.imp id (fun ⟨b,c,d,e1,e2,e3⟩=>⟨b,c,d,e1,Nat.le_trans hB e2,e3⟩)⟩
theorem below_set {B:Nat} {w w':World} (h:Below B w w') {b:Nat} (hb:B≤b) (o:Nat) (v:Value):Below B w (w'.setCell ⟨b,o,none⟩ v):=
 ⟨h.os,h.tape,h.output,by rw [sc_size];exact h.size,fun r hr=>(sc_ne _ _ _ _ (by omega)).trans (h.block r hr)⟩
set_option maxHeartbeats 1600000 in
set_option maxRecDepth 1000000 in
theorem fit_w (kd en bb inr rno el:Int) (B O N C M W:Nat) (vk:Value) (w:World) (hb:B<w.heap.size)
 (hm:1≤M) (hmn:M≤N) (hn:N≤10)
 (hW0:1≤W) (hW:W≤4) (vb:Option Addr) (vl vc:Nat) (vg:Nat->Int) (hvs:∀j,j<vl->∃vB vO,vb=some ⟨vB,vO,none⟩/\vB<w.heap.size/\w.cell? ⟨vB,vO+j,none⟩=some (.int .u64 (vg j))) (g:Nat->Int) (hg1:∀j,j<vl->g j=vg j) (hg2:∀j,vl≤j->j<4->g j=j)
 (h8:∀w1:World,Calls Tryz.prog 8 #[.int .i64 rno,.int .i64 22] w1 fun e w'=>e = .returned (.int .i64 0)/\Below w1.heap.size w1 w')
 (pe:Int) (hpe:0≤pe/\pe<1000) (h8b:∀w1:World,Calls Tryz.prog 8 #[.int .i64 el,.int .i64 1000] w1 fun e w'=>e = .returned (.int .i64 pe)/\Below w1.heap.size w1 w')
 (hd0:w.cell? ⟨B,O+(M-1)*5,none⟩=some (.int .i64 kd))
 (hd1:w.cell? ⟨B,O+(M-1)*5+1,none⟩=some (.int .i64 en))
 (hd2:w.cell? ⟨B,O+(M-1)*5+2,none⟩=some (.int .i64 W))
 (hd3:w.cell? ⟨B,O+(M-1)*5+3,none⟩=some (.int .i64 bb))
 (hd4:w.cell? ⟨B,O+(M-1)*5+4,none⟩=some (.int .i64 inr)) :
 Calls Tryz.prog 13 #[.slice (some ⟨B,O,none⟩) N C,.int .i64 M,.agg #[.int .i64 rno,.slice vb vl vc,vk,.int .i64 el]] w fun e w'=>
  ∃v,e = .returned (.agg #[.int .i64 0,v,.int .u64 0,.int .i64 (if kd=9\/kd=10 then inr else 1+pe)])/\w'.ownsRow w.heap.size 26 1 v W (numsL g W)/\Below w.heap.size w w':=by
 obtain ⟨i0,hi,hz0,hz1,hz2⟩:=info_parts info26
 go_enter Tryz.func13,Tryz.ntmps13
 go_wp2_with fail
 refine (h8 _).mono ?_;rintro e w1 ⟨rfl,hb1⟩;have hB1:w1.heap[B]? = w.heap[B]? := by
  refine (hb1.block B (by simp;omega)).trans ?_
  refine (Go.WE.heap_alloc_old (by simp;omega)).trans ?_
  exact Go.WE.heap_alloc_old hb
 have cB:∀o,w1.cell? ⟨B,o,none⟩=w.cell? ⟨B,o,none⟩:=fun o=>by unfold World.cell?;rw [hB1]
 have e0:=(cB _).trans hd0;have e1:=(cB _).trans hd1;have e2:=(cB _).trans hd2;have e3:=(cB _).trans hd3;have e4:=(cB _).trans hd4;have hx1:w1.heap[w.heap.size]? = some (.cells #[Value.int IntKind.i64 rno,Value.slice vb vl vc,vk,Value.int IntKind.i64 el] 28):=by
  refine (hb1.block w.heap.size (by simp<;>omega)).trans ?_
  refine (Go.WE.heap_alloc_old (by simp)).trans ?_
  exact Go.WE.heap_alloc_new _ _
 have hx2:w1.heap[w.heap.size+1]? = some (.cells #[Value.int IntKind.i64 0,Value.slice none 0 0,Value.int IntKind.u64 0,Value.int IntKind.i64 0] 28):=by
  refine (hb1.block (w.heap.size+1) (by simp<;>omega)).trans ?_
  have h:=Go.WE.heap_alloc_new (w.alloc (Obj.cells #[Value.int IntKind.i64 rno,Value.slice vb vl vc,vk,Value.int IntKind.i64 el] 28)) (Obj.cells #[Value.int IntKind.i64 0,Value.slice none 0 0,Value.int IntKind.u64 0,Value.int IntKind.i64 0] 28);simpa using h
 have hbel:Below w.heap.size w w1:=((Below.refl w.heap.size w).alloc (Nat.le_refl _) _).trans (((Below.refl w.heap.size _).alloc (by simp) _).trans (hb1.mono (by simp;omega)))
 have s0:w.heap.size+2≤w1.heap.size:=by have:=hb1.size;simp at this;omega
 have s1:B<w1.heap.size:=by omega
 have s2:w.heap.size<w1.heap.size:=by omega
 have s3:w.heap.size+1<w1.heap.size:=by omega
 clear hb1 hB1 cB hd0 hd1 hd2 hd3 hd4 h8
 go_wp2_with fail
 generalize hw2:((w1.alloc (Obj.cells #[Value.int IntKind.i64 0,Value.slice none 0 0,Value.int IntKind.u64 0,Value.int IntKind.i64 0] 28)).alloc (Obj.cells #[Value.int IntKind.i64 kd,Value.int IntKind.i64 en,Value.int IntKind.i64 ↑W,Value.int IntKind.i64 bb,Value.int IntKind.i64 inr] 56))=w2;have z:w2.heap.size=w1.heap.size+2:=by rw [← hw2];simp
 have q7:w2.heap[w1.heap.size]? = some (.cells #[Value.int IntKind.i64 0,Value.slice none 0 0,Value.int IntKind.u64 0,Value.int IntKind.i64 0] 28):=by rw [← hw2];exact (Go.WE.heap_alloc_old (by simp)).trans (Go.WE.heap_alloc_new _ _)
 have q8:w2.heap[w1.heap.size+1]? = some (.cells #[Value.int IntKind.i64 kd,Value.int IntKind.i64 en,Value.int IntKind.i64 ↑W,Value.int IntKind.i64 bb,Value.int IntKind.i64 inr] 56):=by rw [← hw2];have h:=Go.WE.heap_alloc_new (w1.alloc (Obj.cells #[Value.int IntKind.i64 0,Value.slice none 0 0,Value.int IntKind.u64 0,Value.int IntKind.i64 0] 28)) (Obj.cells #[Value.int IntKind.i64 kd,Value.int IntKind.i64 en,Value.int IntKind.i64 ↑W,Value.int IntKind.i64 bb,Value.int IntKind.i64 inr] 56);simpa using h
 have old:∀r,r<w1.heap.size->w2.heap[r]? = w1.heap[r]? := fun r hr=>by rw [← hw2];exact (Go.WE.heap_alloc_old (by simp;omega)).trans (Go.WE.heap_alloc_old hr)
 have hx1:=(old _ s2).trans hx1;have hx2:=(old _ s3).trans hx2;have hbel2:Below w.heap.size w w2:=by rw [← hw2];exact (hbel.alloc hbel.size _).alloc (by simp;omega) _
 clear old hbel hw2 e0 e1 e2 e3 e4;have hM1:decide ((M:Int)<1)=false:=decide_eq_false (by omega)
 have hM2:decide (N<M)=false:=decide_eq_false (by omega)
 simp only [hM1,hM2,Bool.or_self]
 go_loopw [9] (fun i wr=>∃(k:Nat) (v:Value),k≤W/\i = .int .i64 k/\wr.ownsRow w2.heap.size 26 1 v k (numsL g k)/\wr.heap[w1.heap.size]? = some (.cells #[Value.int IntKind.i64 0,v,Value.int IntKind.u64 0,Value.int IntKind.i64 0] 28) /\
  wr.heap[w1.heap.size+1]? = w2.heap[w1.heap.size+1]? /\ wr.heap[w.heap.size]? = w2.heap[w.heap.size]? /\ wr.heap[w.heap.size+1]? = w2.heap[w.heap.size+1]? /\ Below w.heap.size w wr/\w2.heap.size≤wr.heap.size) (fun i _=>W-(intOf i).toNat)
 case atStart=>
  exact ⟨0,.slice none 0 0,Nat.zero_le _,rfl,World.ownsRow_nil _ _ _ _,q7,rfl,rfl,rfl,hbel2,Nat.le_refl _⟩
 case round=>
  obtain ⟨k,v,hk,rfl,hown,k7,k8,k5,k6,hnx,hsz⟩:=hrel;have t8:∀o,wr.cell? ⟨w1.heap.size+1,o,none⟩=(#[Value.int IntKind.i64 kd,Value.int IntKind.i64 en,Value.int IntKind.i64 ↑W,Value.int IntKind.i64 bb,Value.int IntKind.i64 inr]:Array Value)[o]? := fun o=>by unfold World.cell?;rw [k8,q8];rfl
  have t5:∀o,wr.cell? ⟨w.heap.size,o,none⟩=(#[Value.int IntKind.i64 rno,Value.slice vb vl vc,vk,Value.int IntKind.i64 el]:Array Value)[o]? := fun o=>by unfold World.cell?;rw [k5,hx1];rfl
  have t7:∀o,wr.cell? ⟨w1.heap.size,o,none⟩=(#[Value.int IntKind.i64 0,v,Value.int IntKind.u64 0,Value.int IntKind.i64 0]:Array Value)[o]? := fun o=>by unfold World.cell?;rw [k7];rfl
  have c1:wr.cell? ⟨w1.heap.size,1,none⟩=some v:=t7 1;have d2:wr.cell? ⟨w1.heap.size+1,2,none⟩=some (.int .i64 W):=t8 2;have p1:wr.cell? ⟨w.heap.size,1,none⟩=some (.slice vb vl vc):=t5 1;by_cases hlt:k<W
  · by_cases hkl:k<vl
    · obtain ⟨vB,vO,rfl,hvB,hcv⟩:=hvs k hkl;have hcv':wr.cell? ⟨vB,vO+k,none⟩=some (.int .u64 (vg k)):=(hnx.cell hvB).trans hcv
      go_wp2_with (first
       | (at_builtin;refine wpList_append_own _ rfl _ _ 25 rfl w2.heap.size 26 i0 (.int .u64 0) 1 8 Tryz.underlying25 hi hz0 hz1 hz2 rfl (by decide) _ _ _ rfl (hown.alloc _) ⟨wr.heap.size,0,none⟩ 1 1 [.int .u64 (vg k)] rfl rfl ?c1 ?c2 ?c3 ?c4 ?c5 ?_)
       | go_in)
      case c1=>
       intro j u hj
       match j,hj with
       | 0,hj=>simp at hj;subst hj;simp [Addr.add]
      case c2=>intro u hu;simp at hu;subst hu;rfl
      case c3=>unfold maxLen;omega
      case c4=>omega
      case c5=>simp;omega
      intro v' w3 hown' hgrow _;have far:∀r,r<w1.heap.size+2->w3.heap[r]? = wr.heap[r]? := fun r hr=>by
       refine (hgrow.block r ?_ ?_).trans (Go.WE.heap_alloc_old (by omega))
       · simp;omega
       · intro e;have:=hown.lt r e.symm;omega
      have hb':Below w.heap.size w w3:=by
       refine (hnx.alloc hnx.size (.cells #[.int .u64 (vg k)] 26)).trans ⟨hgrow.os,hgrow.tape,hgrow.output,hgrow.size,fun r hr=>hgrow.block r ?_ ?_⟩
       · simp;omega
       · intro e;have:=hown.lt r e.symm;omega
      have f7:=(far w1.heap.size (by omega)).trans k7
      have f1:w3.cell? ⟨w1.heap.size,1,none⟩=some v:=by unfold World.cell?;rw [f7];rfl
      have f8:=(far (w1.heap.size+1) (by omega)).trans k8
      have f5:=(far w.heap.size (by omega)).trans k5
      have f6:=(far (w.heap.size+1) (by omega)).trans k6
      have fs:wr.heap.size≤w3.heap.size:=by have:=hgrow.size;simp at this;omega
      have ff:w3.frozen? ⟨w1.heap.size,1,none⟩=false:=by unfold World.frozen?;rw [f7];rfl
      obtain ⟨b',cap',rfl⟩:∃b' cap',v' = .slice (some ⟨b',0,none⟩) (k+1) cap':=by
       rcases hown'.2 with ⟨_,e0⟩|⟨b',cap',cur,e,_⟩
       · omega
       · exact ⟨b',cap',e⟩
      clear hgrow hown hnx far c1 k7 k8 k5 k6 t8 t5 t7 d2 p1
      go_wp2
      go_roundw
      case rel=>
       refine ⟨k+1,.slice (some ⟨b',0,none⟩) (k+1) cap',by omega,by go_num,?_,?_,?_,?_,?_,?_,?_⟩
       · rw [numsL_succ,hg1 k hkl];rw [z];exact ownsRow_far hown' fun r h1 h2=>sc_ne _ _ _ _ (by omega)
       · exact sc_eq f7 1 _
       · exact (sc_ne _ _ _ _ (by omega)).trans f8
       · exact (sc_ne _ _ _ _ (by omega)).trans f5
       · exact (sc_ne _ _ _ _ (by omega)).trans f6
       · exact below_set hb' (by omega) _ _
       · rw [sc_size];omega
      case measure=>simp [intOf];omega
    · go_wp2_with (first
       | (at_builtin;refine wpList_append_own _ rfl _ _ 25 rfl w2.heap.size 26 i0 (.int .u64 0) 1 8 Tryz.underlying25 hi hz0 hz1 hz2 rfl (by decide) _ _ _ rfl (hown.alloc _) ⟨wr.heap.size,0,none⟩ 1 1 [.int .u64 k] rfl rfl ?c1 ?c2 ?c3 ?c4 ?c5 ?_)
       | go_in)
      case c1=>
       intro j u hj
       match j,hj with
       | 0,hj=>simp at hj;subst hj;simp [Addr.add]
      case c2=>intro u hu;simp at hu;subst hu;rfl
      case c3=>unfold maxLen;omega
      case c4=>omega
      case c5=>simp;omega
      intro v' w3 hown' hgrow _;have far:∀r,r<w1.heap.size+2->w3.heap[r]? = wr.heap[r]? := fun r hr=>by
       refine (hgrow.block r ?_ ?_).trans (Go.WE.heap_alloc_old (by omega))
       · simp;omega
       · intro e;have:=hown.lt r e.symm;omega
      have hb':Below w.heap.size w w3:=by
       refine (hnx.alloc hnx.size (.cells #[.int .u64 k] 26)).trans ⟨hgrow.os,hgrow.tape,hgrow.output,hgrow.size,fun r hr=>hgrow.block r ?_ ?_⟩
       · simp;omega
       · intro e;have:=hown.lt r e.symm;omega
      have f7:=(far w1.heap.size (by omega)).trans k7
      have f1:w3.cell? ⟨w1.heap.size,1,none⟩=some v:=by unfold World.cell?;rw [f7];rfl
      have f8:=(far (w1.heap.size+1) (by omega)).trans k8
      have f5:=(far w.heap.size (by omega)).trans k5
      have f6:=(far (w.heap.size+1) (by omega)).trans k6
      have fs:wr.heap.size≤w3.heap.size:=by have:=hgrow.size;simp at this;omega
      have ff:w3.frozen? ⟨w1.heap.size,1,none⟩=false:=by unfold World.frozen?;rw [f7];rfl
      obtain ⟨b',cap',rfl⟩:∃b' cap',v' = .slice (some ⟨b',0,none⟩) (k+1) cap':=by
       rcases hown'.2 with ⟨_,e0⟩|⟨b',cap',cur,e,_⟩
       · omega
       · exact ⟨b',cap',e⟩
      clear hgrow hown hnx far c1 k7 k8 k5 k6 t8 t5 t7 d2 p1
      go_wp2
      go_roundw
      case rel=>
       refine ⟨k+1,.slice (some ⟨b',0,none⟩) (k+1) cap',by omega,by go_num,?_,?_,?_,?_,?_,?_,?_⟩
       · rw [numsL_succ,hg2 k (by omega) (by omega)]
         rw [z];exact ownsRow_far hown' fun r h1 h2=>sc_ne _ _ _ _ (by omega)
       · exact sc_eq f7 1 _
       · exact (sc_ne _ _ _ _ (by omega)).trans f8
       · exact (sc_ne _ _ _ _ (by omega)).trans f5
       · exact (sc_ne _ _ _ _ (by omega)).trans f6
       · exact below_set hb' (by omega) _ _
       · rw [sc_size];omega
      case measure=>simp [intOf];omega
  · obtain rfl:k=W:=by omega
    go_wp2_with fail
    refine (h8b _).mono ?_;rintro e w4 ⟨rfl,hb4⟩;have far:∀r,r<wr.heap.size->w4.heap[r]? = wr.heap[r]? := fun r hr=>hb4.block r hr;have f7:=(far w1.heap.size (by omega)).trans k7
    have f8:=((far (w1.heap.size+1) (by omega)).trans k8).trans q8
    have f6:=((far (w.heap.size+1) (by omega)).trans k6).trans hx2
    have own4:=ownsRow_below hown hb4;have hn4:Below w.heap.size w w4:=hnx.trans (hb4.mono hnx.size);obtain ⟨b',cap',rfl⟩:∃b' cap',v = .slice (some ⟨b',0,none⟩) k cap':=by
     rcases hown.2 with ⟨_,e0⟩|⟨b',cap',cur,e,_⟩
     · omega
     · exact ⟨b',cap',e⟩
    have c7:∀o,w4.cell? ⟨w1.heap.size,o,none⟩=(#[Value.int IntKind.i64 0,.slice (some ⟨b',0,none⟩) k cap',Value.int IntKind.u64 0,Value.int IntKind.i64 0]:Array Value)[o]? := fun o=>by unfold World.cell?;rw [f7];rfl
    have c8:∀o,w4.cell? ⟨w1.heap.size+1,o,none⟩=(#[Value.int IntKind.i64 kd,Value.int IntKind.i64 en,Value.int IntKind.i64 ↑k,Value.int IntKind.i64 bb,Value.int IntKind.i64 inr]:Array Value)[o]? := fun o=>by unfold World.cell?;rw [f8];rfl
    have c70:=c7 0;have c71:=c7 1;have c72:=c7 2;have c73:=c7 3;have c80:=c8 0;have c84:=c8 4;simp at c70 c71 c72 c73 c80 c84;have ff7:w4.frozen? ⟨w1.heap.size,3,none⟩=false:=by unfold World.frozen?;rw [f7];rfl
    have c6:∀o,w4.cell? ⟨w.heap.size+1,o,none⟩=(#[Value.int IntKind.i64 0,Value.slice none 0 0,Value.int IntKind.u64 0,Value.int IntKind.i64 0]:Array Value)[o]? := fun o=>by unfold World.cell?;rw [f6];rfl
    have c60:=c6 0;have c61:=c6 1;have c62:=c6 2;have c63:=c6 3;simp at c60 c61 c62 c63;have ff6:∀o,w4.frozen? ⟨w.heap.size+1,o,none⟩=false:=fun o=>by unfold World.frozen?;rw [f6];show (decide (0≤o)&&decide (o<0))=false;simp
    have ff60:=ff6 0;have ff61:=ff6 1;have ff62:=ff6 2;have ff63:=ff6 3;have ne67:w.heap.size+1≠w1.heap.size:=by omega
    have ne76:w1.heap.size≠w.heap.size+1:=by omega
    clear far c7 c8 c6 ff6 hown hnx hb4 k7 k8 k5 k6 t8 t5 t7 c1 d2 p1
    go_wp2_with fail
    all_goals
     (try simp only [Exit.inBlock,Exit.then])
     refine bodyPost_ret (by simp [results,Tryz.results13,go_sem,c60,c61,c62,c63];try rfl) rfl ?_
     first
      | (refine ⟨_,rfl,own_mono ?_ (show w.heap.size≤w2.heap.size by omega),?_⟩
         · repeat refine own_set ?_ (by omega) _ _
           exact own4
         · repeat refine below_set ?_ (by omega) _ _
           exact hn4)
      | (exfalso;simp_all;done)
      | trace_state
end Go.Proofs.YtoeealkcacgcgaaGreatDoor.Wor
namespace Go.WE
open Go Go.Proofs Go.RowKit
def mustSp (b:Bool):List V->H->Option R
 | [.t (.a (.b c)),.t (.a (.lit .i64 (.ofNat 17)))],h=>match b with
   | true=>some (.leaf (.b c) ((.tup [])) h)
   | false=>some (.pan (.b (!c)) (.iface 24 (.lit .i64 17)) h)
 | _,_=>none
def resR:R->Option (Bool×A×V×A×A)
 | .node c (.pan o1 v1 _) (.leaf o2 v2 _)=>some (c,o1,v2,v1,o2)
 | _=>none
theorem must_ev (c:Bool):resR (evalF cxK noΓ 400 20 61 [one (.b c),one (.lit .i64 17)] H.none)=some (!c,.tt,(.tup []),.iface 24 (.lit .i64 17),.tt):=by kernel_rfl
theorem resR_some {r:R} {c:Bool} {o1 o2 v1:A} {v2:V} (h:resR r=some (c,o1,v2,v1,o2)):∃h1 h2,r = .node c (.pan o1 v1 h1) (.leaf o2 v2 h2):=by
 unfold resR at h;split at h
 · cases h;exact ⟨_,_,rfl⟩
 · cases h
theorem fnPan_any {P:Program} {f:FuncId} {args:List V} {v:A} {h':H} (h0:FnPan P f args H.none v h') (ha:freeVs args=true) (hv:v.free=true):∀h,FnPan P f args h v h:=by
 intro h S ν w vs _ _ hm hargs;refine (h0 (fun _=>True) nu0 w vs (fun _ _=>trivial) (fun _ _=>trivial) (mem_none _ w) (relV_free ha hargs)).mono ?_;rintro e w' ⟨u,ν',rfl,hu,g⟩;have hb:∀r,r<w.heap.size->w'.heap[r]? = w.heap[r]? := fun r hr=>g.frm.block r hr (fun id base h=>by cases h)
 have hu':v.rel ν u:=by have:=V.rel_free (x :=.t (.a v)) (ν':=ν) hv hu;exact this
 exact ⟨u,ν,rfl,hu',goes_calm hm ⟨g.frm.os,g.frm.tape,g.frm.output,g.frm.size,hb⟩⟩
theorem must_ok (b:Bool):AnyOK Tryz.prog 61 (mustSp b) where
 ent:=enters_of entK 61 _ Tryz.func61 (by simp [Tryz.f61])
 ok:=by
  intro args h r ok v h' he hp hok;unfold mustSp at he;split at he
  · rename_i c;split at he
    · cases he;simp only [R.pick,oI,pI] at hp;obtain ⟨rfl,rfl,rfl⟩:=hp;have hc:c=true:=hok;subst hc;obtain ⟨h1,h2,e⟩:=resR_some (must_ev true);have hp:(evalF cxK noΓ 400 20 61 [one (.b true),one (.lit .i64 17)] H.none).pick=some (.tt,(.tup []),h2):=by rw [e];rfl
      obtain ⟨_,hfn⟩:=evalF_fn (XK noΓ_ok) rfl hp rfl;exact fnOK_any hfn rfl rfl h
    · cases he;cases hp
  · cases he
 pan:=by
  intro args h r ok v h' he hp hok;unfold mustSp at he;split at he
  · rename_i c;split at he
    · cases he;cases hp
    · cases he;simp only [R.pickP,oI,pI] at hp;obtain ⟨rfl,rfl,rfl⟩:=hp;have hc:c=false:=by
       have:(!c)=true:=hok;simpa using this
      subst hc;obtain ⟨h1,h2,e⟩:=resR_some (must_ev false);have hp:(evalF cxK noΓ 400 20 61 [one (.b false),one (.lit .i64 17)] H.none).pickP=some (.tt,.iface 24 (.lit .i64 17),h1):=by rw [e];rfl
      have hfn:=((evalF_sound (XK noΓ_ok).eq (XK noΓ_ok).gam (XK noΓ_ok).dfr (XK noΓ_ok).lam (XK noΓ_ok).ent (fuel:=400) 20).pan _ _ _ _ _ _ hp rfl).2;exact fnPan_any hfn rfl rfl h
  · cases he
 ext:=by
  intro args h r he hlo;unfold mustSp at he;split at he
  · split at he<;>(cases he;exact Ext.refl _)
  · cases he
noncomputable abbrev cxP (j w:Int):Cx:={ P:=Tryz.prog,eqT:=eqTab eqsK,dfr:=dfrC,pinL:=some (1,[some j,none,some w,none,none]) }
theorem noLamL (P:Program) (eqT:TypeId->Option (List Bool)) (it:Nat) (dfr:DfrE) (l:Option (Nat×List (Option Int))):LamsOK { P:=P,eqT:=eqT,it:=it,dfr:=dfr,pinL:=l }:=fun _ _ _ _ _ fp hfp id d s o h=>by
 rw [hfp] at h;cases h
theorem XP {Γ:Gam} (j w:Int) (h:ΓOK Tryz.prog Γ):CxOK (cxP j w) Γ:=⟨eqOK_of eqsKOk rfl,h,dfrC_ok,noLamL _ _ _ _ _,enters_of entK⟩
def ΓP (b:Bool) (T:Nat):Gam:=anyΓ 61 (mustSp b) (anyΓ 55 (byTV T) (anyΓ 52 (byTQ T) (anyΓ 103 wordsSp (anyΓ 53 wordsSp noΓ))))
theorem ΓP_ok (b:Bool) (T:Nat):ΓOK Tryz.prog (ΓP b T):=anyΓ_ok (must_ok b) (anyΓ_ok (byTV_ok T) (anyΓ_ok (byTQ_ok T) (anyΓ_ok words103_ok (anyΓ_ok words53_ok noΓ_ok))))
abbrev slDP (n:Nat):V:=one (.sl 1 [] 5 (.lit 0) (.sym n) none)
def mP (t:T) (n:Nat) (D:DF):List (Nat×Blk):=[(0,⟨true,t⟩),(1,⟨false,D.arr n⟩),(2,⟨false,.lst 7777 []⟩)]
def ev9 (b:Bool) (T:Nat) (j w a:Int) (s:VF) (n:Nat) (D:DF) (cpu:U):R:=evalF (cxP j w) (ΓP b T) 400 20 9 [slDP n,pt 0,one (.lit .i64 a),i64 cpu] (hM (mP s.t n D) 3)
def ev10 (T:Nat) (j w a:Int) (s:QF) (n:Nat) (D:DF) (cpu:U):R:=evalF (cxP j w) (ΓP true T) 400 20 10 [slDP n,pt 0,one (.lit .i64 a),i64 cpu] (hM (mP s.t n D) 3)
inductive PO where
 | err (c:U)
 | ok (m op key flag cpu:U) (val:Option (Nat×(Nat->U)))
def argsOf:Nat->Nat->Option (Nat×List Nat)
 | 1,j=>match j with
   | 1=>some (1,[0])|2=>some (1,[0])|4=>some (1,[0])|5=>some (1,[0])|9=>some (1,[0])|10=>some (1,[0])|_=>none
 | 2,j=>match j with
   | 1=>some (2,[0,1,2])|2=>some (2,[0,1,2])|3=>some (2,[0,1,2])|4=>some (2,[0,1,2])|5=>some (2,[0,1,2])|_=>none
 | 3,j=>match j with
   | 4=>some (3,[0])|5=>some (3,[0])|_=>none
 | 4,j=>match j with
   | 6=>some (6,[1,2])|7=>some (6,[1,2])|8=>some (6,[1,2])|_=>none
 | 5,j=>match j with
   | 6=>some (7,[3])|7=>some (7,[3])|_=>none
 | 6,j=>match j with
   | 6=>some (8,[3])|7=>some (8,[3])|8=>some (8,[1])|_=>none
 | 8,j=>match j with
   | 3=>some (1,[0,3])|_=>none
 | _,_=>none
def roomB (x:U) (n:Nat):Bool:=cond (BitVec.sle (K (-128)) x) (BitVec.sle x (K (-(n:Int)))) false
def argsF (regs:VV) (how flat:Nat->U) (w:Nat) (m op cpu:U):List Nat->Nat->U->U->Option (Nat×(Nat->U))->PO
 | [],_,key,flag,val =>.ok m op key flag cpu val
 | 0::L,r,key,flag,val=>bif regs.k r==K 0 then .err (K 15) else bif bytesE how (regs.at r) 8 != K 0 then .err (bytesE how (regs.at r) 8) else argsF regs how flat w m op cpu L (r+1) (getW (byF flat (posW (regs.n r))) (8*0)) flag val
 | 1::L,r,key,flag,val=>bif regs.k r==K 0 then .err (K 15) else bif bytesE how (regs.at r) (8*w) != K 0 then .err (bytesE how (regs.at r) (8*w)) else argsF regs how flat w m op cpu L (r+1) key flag (some (w,wordsF (byF flat (posW (regs.n r)))))
 | 2::L,r,key,flag,val=>bif regs.k r==K 0 then .err (K 15) else bif regs.k r != K 1 then .err (K 14) else argsF regs how flat w m op cpu L (r+1) key (regs.n r) val
 | _::L,r,key,flag,val=>bif regs.k r==K 0 then .err (K 15) else bif regs.k r != K 3 then .err (K 14) else bif !(roomB (regs.n r) (8*w)) then .err (K 17) else argsF regs how flat w m op cpu L (r+1) key flag val
def ixU (regs:VV):Nat:=(regs.i 1-K 1).toNat
def planL (regs:VV) (how flat:Nat->U) (cpu:U) (j w:Nat):Option (Nat×List Nat)->PO
 | none =>.err (K 18)
 | some (op,L)=>argsF regs how flat w (regs.i 1) (K op) (bif Nat.beq j 2 then cpu else K 0) L 2 (K 0) (K 0) none
def inM (n:Nat) (m:U):Bool:=cond (BitVec.sle (K 1) m) (BitVec.sle m (kk n)) false
def planF (n:Nat) (D:DF) (regs:VV) (how flat:Nat->U) (no cpu:U):PO:=
 bif !(cond (BitVec.sle (K 1) no) (BitVec.sle no (K 8)) false) then .err (K 18) else
 bif no==K 7 then .ok (K 0) (K 0) (K 0) (K 0) (K 0) none else
 bif regs.k 1==K 0 then .err (K 15) else bif regs.k 1 != K 4 then .err (K 14) else bif !(inM n (regs.i 1)) then .err (K 18) else
 planL regs how flat cpu (D.k (ixU regs)).toNat (D.w (ixU regs)).toNat (argsOf no.toNat (D.k (ixU regs)).toNat)
def PO.code:PO->U
 | .err c=>c
 | .ok .. => K 0
def PO.m:PO->U
 | .err _=>K 0
 | .ok m _ _ _ _ _=>m
def PO.op:PO->U
 | .err _=>K 0
 | .ok _ x _ _ _ _=>x
def PO.key:PO->U
 | .err _=>K 0
 | .ok _ _ x _ _ _=>x
def PO.flag:PO->U
 | .err _=>K 0
 | .ok _ _ _ x _ _=>x
def PO.cpu:PO->U
 | .err _=>K 0
 | .ok _ _ _ _ x _=>x
def PO.val:PO->Option (Nat×(Nat->U))
 | .err _=>none
 | .ok _ _ _ _ _ x=>x
abbrev Ob:=List A×Option (Nat×T)
def obsV (v:V) (h:H):Option Ob:=match v with
 | .tup [.a m,.st [.a op,.a key,.a val,.a flag,.a cpu],.a e]=>match val with
   | .nils=>some ([m,op,key,flag,cpu,e],none)
   | .sl id [] 1 (.lit 0) (.lit w) none=>match Nat.ble 3 id,h.m.get id with
     | true,some ⟨true,t⟩=>some ([m,op,key,flag,cpu,e],some (w,t))
     | _,_=>none
   | _=>none
 | _=>none
inductive PQ where
 | fail
 | leaf (ok:A) (wr:List Nat) (o:Option Ob)
 | node (c:Bool) (a b:PQ)
def R.pq:R->PQ
 | .fail =>.fail
 | .leaf ok v h =>.leaf ok h.wr (obsV v h)
 | .pan _ _ _ =>.fail
 | .node c a b =>.node c a.pq b.pq
def PQ.pick:PQ->Option (A×List Nat×Ob)
 | .fail=>none
 | .leaf ok wr (some o)=>some (ok,wr,o)
 | .leaf _ _ none=>none
 | .node c a b=>bif c then a.pick else b.pick
def PQ.cut:List Bool->PQ->PQ
 | [],_ =>.fail
 | true::p,.node c a b =>.node c (a.cut p) b
 | false::p,.node c a b =>.node c a (b.cut p)
 | _,q=>q
theorem cut_pick {x:A×List Nat×Ob}:∀(p:List Bool) (q:PQ),(q.cut p).pick=some x->q.pick=some x
 | [],q,h=>by cases q<;>cases h
 | true::p,.node c a b,h=>by
   cases c
   · exact h
   · exact cut_pick p a h
 | false::p,.node c a b,h=>by
   cases c
   · exact cut_pick p b h
   · exact h
 | true::p,.fail,h=>h
 | true::p,.leaf _ _ _,h=>h
 | false::p,.fail,h=>h
 | false::p,.leaf _ _ _,h=>h
theorem pq_pick:∀{r:R} {ok:A} {wr:List Nat} {o:Ob},r.pq.pick=some (ok,wr,o)->∃v h',r.pick=some (ok,v,h')/\h'.wr=wr/\obsV v h'=some o
 | .fail,_,_,_,h=>by cases h
 | .pan _ _ _,_,_,_,h=>by cases h
 | .leaf ok v h,ok',wr,o,e=>by
   simp only [R.pq] at e;cases ho:obsV v h with
   | none=>rw [ho] at e;cases e
   | some o'=>
     rw [ho] at e;simp only [PQ.pick,oI,pI] at e;obtain ⟨rfl,rfl,rfl⟩:=e;exact ⟨v,h,rfl,rfl,ho⟩
 | .node c a b,ok,wr,o,e=>by
   simp only [R.pq,PQ.pick] at e;cases c
   · simpa [R.pick] using pq_pick (r:=b) e
   · simpa [R.pick] using pq_pick (r:=a) e
def z64:A :=.lit .i64 0
def errQ (ok:A) (c:A):PQ :=.leaf ok [] (some ([z64,z64,.lit .u64 0,z64,z64,c],none))
def l64 (n:Nat):A :=.lit .i64 (.ofNat n)
def n63 (n:Nat):Bool:=Nat.blt n (2 ^ 63)
def mOK (regs:VV) (n:Nat):Bool:=(!(BitVec.msb (regs.i 1-K 1)))&&Nat.blt (regs.i 1-K 1).toNat n
def ix0 (regs:VV):Nat:=0+(regs.i 1-K 1).toNat
def okK (D:DF) (regs:VV) (n j:Nat):Bool:=((n63 n&&mOK regs n)&&(Nat.blt (ix0 regs) n&&(D.k (ix0 regs)==K j)))
def okI (D:DF) (regs:VV) (n j w:Nat):Bool:=(okK D regs n j&&mOK regs n)&&(Nat.blt (ix0 regs) n&&((D.k (ix0 regs)==K j)&&(D.w (ix0 regs)==K w)))
def headV (regs:VV) (n:Nat) (rest:PQ):PQ:=
 .node (!(regs.k 1 != K 0)) (errQ .tt (l64 15)) (.node (!(regs.k 1==K 4)) (errQ .tt (l64 14)) (.node (BitVec.sle (K 1) (regs.i 1)) (.node (!(BitVec.sle (regs.i 1) (kk n))) (errQ (.b (n63 n)) (l64 18)) rest) (errQ .tt (l64 18))))
def argsV (b:Bool) (regs:VV) (how flat:Nat->U) (w op:Nat) (cpu:A):List Nat->Nat->Nat->Bool->A->A->Option (Nat×T)->PQ
 | [],r,B,o,key,flag,val =>.leaf (.b o) [] (some ([.i .i64 (regs.i 1),l64 op,key,flag,cpu,z64],val))
 | 0::L,r,B,o,key,flag,val =>.node (!(regs.k r != K 0)) (errQ (.b o) (l64 15)) (match B with
   | 0 =>.node (!(bytesE how (regs.at r) 8==K 0)) (errQ (.b (o&&(bytesE how (regs.at r) 8 != K 0))) (.i .i64 (bytesE how (regs.at r) 8))) .fail
   | B+1=>argsV b regs how flat w op cpu L (r+1) B (o&&(bytesE how (regs.at r) 8==K 0)) (.i .u64 (wordsF (byF flat (posW (regs.n r))) 0)) flag val)
 | 1::L,r,B,o,key,flag,val =>.node (!(regs.k r != K 0)) (errQ (.b o) (l64 15)) (match B with
   | 0 =>.node (!(bytesE how (regs.at r) (8*w)==K 0)) (errQ (.b (o&&(bytesE how (regs.at r) (8*w) != K 0))) (.i .i64 (bytesE how (regs.at r) (8*w)))) .fail
   | B+1=>argsV b regs how flat w op cpu L (r+1) B (o&&(bytesE how (regs.at r) (8*w)==K 0)) key flag (some (w,.arr 1 (.lit w) (.int .u64 (wordsF (byF flat (posW (regs.n r)))))) ))
 | 2::L,r,B,o,key,flag,val =>.node (!(regs.k r != K 0)) (errQ (.b o) (l64 15)) (.node (!(regs.k r==K 1)) (errQ (.b o) (l64 14)) (argsV b regs how flat w op cpu L (r+1) B o key (.i .i64 (regs.n r)) val))
 | _::L,r,B,o,key,flag,val =>.node (!(regs.k r != K 0)) (errQ (.b o) (l64 15)) (.node (!(regs.k r==K 3)) (errQ (.b o) (l64 14)) (match b with
   | true=>argsV b regs how flat w op cpu L (r+1) B (o&&roomB (regs.n r) (8*w)) key flag val
   | false=>errQ (.b (o && !(roomB (regs.n r) (8*w)))) (l64 17)))
def cutA:List Nat->Nat->List Bool->List Bool
 | [],_,p=>[]
 | 0::L,B,p=>match B with
   | 0=>p++[false,false]
   | B+1=>cutA L B (p++[false])
 | 1::L,B,p=>match B with
   | 0=>p++[false,false]
   | B+1=>cutA L B (p++[false])
 | 2::L,B,p=>cutA L B (p++[false,false])
 | _::L,B,p=>cutA L B (p++[false,false,false])
inductive Sel where
 | all|e0|e1|nr
def Sel.b:Sel->Bool
 | .nr=>false
 | _=>true
def Sel.B:Sel->Nat
 | .e0=>0
 | .e1=>1
 | _=>1000
def selV:List Nat->Sel->Bool
 | _,.all=>true
 | [0],.e0=>true
 | [1],.e0=>true
 | [1,2],.e0=>true
 | [0,1,2],.e0=>true
 | [0,1,2],.e1=>true
 | [0,3],.e0=>true
 | [3],.nr=>true
 | [0,3],.nr=>true
 | _,_=>false
def wOK:Nat->Nat->Bool
 | 3,w=>Nat.ble 1 w&&Nat.ble w 4
 | 6,w=>Nat.ble 1 w&&Nat.ble w 4
 | 7,w=>Nat.ble 1 w&&Nat.ble w 4
 | _,w=>Nat.beq w 1
theorem w_one {w:Nat} (h:Nat.beq w 1=true):w=1:=Nat.eq_of_beq_eq_true h
theorem w_four {w:Nat} (h:(Nat.ble 1 w&&Nat.ble w 4)=true):w=1\/w=2\/w=3\/w=4:=by
 simp only [bA] at h;have h1:=nL h.1;have h2:=nL h.2;omega
def cpuA (j:Nat) (cpu:U):A:=match j with
 | 2 =>.i .i64 cpu
 | _=>z64
def restV (S:Sel) (j w op:Nat) (L:List Nat) (s:VF) (n:Nat) (D:DF) (cpu:U):PQ:=argsV S.b s.regs s.how s.flat w op (cpuA j cpu) L 2 S.B (okI D s.regs n j w) (.lit .u64 0) z64 none
structure EvV (b:Bool) (T j w a:Nat) (rest:VF->Nat->DF->U->PQ):Prop where
 pick:∀s n D cpu x,(headV s.regs n (rest s n D cpu)).pick=some x->(ev9 b T j w a s n D cpu).pq.pick=some x
theorem evV_of {b:Bool} {T j w a:Nat} {rest:VF->Nat->DF->U->PQ} (h:∀s n D cpu,(ev9 b T j w a s n D cpu).pq=headV s.regs n (rest s n D cpu)):EvV b T j w a rest:=⟨fun s n D cpu x e=>by rw [h];exact e⟩
theorem evV_cut {b:Bool} {T j w a:Nat} {rest:VF->Nat->DF->U->PQ} (p:List Bool) (h:∀s n D cpu,(ev9 b T j w a s n D cpu).pq.cut p=headV s.regs n (rest s n D cpu)):EvV b T j w a rest:=⟨fun s n D cpu x e=>by rw [← h] at e;exact cut_pick _ _ e⟩
def noneV (j:Nat) (s:VF) (n:Nat) (D:DF) (cpu:U):PQ:=errQ (.b (okK D s.regs n j)) (l64 18)
end Go.WE
end
