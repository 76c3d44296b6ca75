/- A part of a proof of the helpers' law; no condition of its own. -/
import Derived.Test.YtoeealkcacgcgaaGreatDoorK18
import Derived.Test.YtoeealkcacgcgaaGreatDoorK32
set_option linter.unusedVariables false
set_option maxRecDepth 100000
noncomputable section
namespace Go.WE
open Go Go.Proofs Go.RowKit
def evW54 (n:Nat) (g:Nat->U):R:=evalF cxK noΓ 400 20 54 [one (.sl 0 [] 1 (.lit 0) (.lit n) none),one (.sl 1 [] 1 (.lit 0) (.lit n) none)] (hM [(0,⟨false,.arr 1 (.lit n) (.int .u64 g)⟩),(1,⟨false,.arr 1 (.lit n) (.int .u64 g)⟩)] 2)
def sameN (g:Nat->U):Nat->Nat->Bool
 | _,0=>true
 | j,n+1=>cond (g j != g j) false (sameN g (j+1) n)
theorem sameN_true (g:Nat->U):∀n j,sameN g j n=true
 | 0,_=>rfl
 | n+1,j=>by unfold sameN;rw [bne_self_eq_false];exact sameN_true g n (j+1)
def obsW (r:R):Option (A×V×List Nat):=match r.pick with
 | some (ok,v,h)=>some (ok,v,h.wr)
 | none=>none
theorem obsW_some {r:R} {ok:A} {v:V} {wr:List Nat} (h:obsW r=some (ok,v,wr)):∃h',r.pick=some (ok,v,h')/\h'.wr=wr:=by
 unfold obsW at h;split at h
 · rename_i ok v h' hp;simp only [oI,pI] at h;obtain ⟨rfl,rfl,rfl⟩:=h;exact ⟨h',hp,rfl⟩
 · cases h
theorem w54_n (g:Nat->U):∀n,1≤n->n≤4->obsW (evW54 n g)=some (.tt,one (.b (sameN g 0 n)),[])
 | 0,h,_=>absurd h (by omega)|1,_,_=>by kernel_rfl|2,_,_=>by kernel_rfl|3,_,_=>by kernel_rfl|4,_,_=>by kernel_rfl|n+5,_,h=>absurd h (by omega)
theorem calls_read {P:Program} {f:FuncId} {args:List V} {v:V} {ms:List (Nat×Blk)} {m:Nat} {h':H} (hf:FnOK P f args (hM ms m) v h') {ν:Nu} {w:World} (hm:Mem (fun _=>True) ν w (hM ms m)) (hw:h'.wr=[]) (hv:v.free=true) {us:List Value} (ha:relV ν args us) (ν2:Nu) :
 Calls P f us.toArray w fun e w'=>∃u,e = .returned u/\v.rel ν2 u/\Below w.heap.size w w':=by
 refine (hf (fun _=>True) ν w us (fun _ _=>trivial) (fun _ _=>trivial) hm ha).mono ?_;rintro e w' ⟨u,ν',rfl,hu,g⟩;refine ⟨u,rfl,V.rel_free hv hu,g.frm.os,g.frm.tape,g.frm.output,g.frm.size,fun r hr=>g.frm.block r hr fun id base hid=>⟨?_,by rw [hw];intro h;cases h⟩⟩
 rw [g.ext.lo];refine Classical.byContradiction fun hge => ?_;have hge:¬id<m:=hge;rw [hm.nums.fresh id (show m≤id by omega)] at hid
 cases hid
theorem sl1_rel {ν:Nu} {i B o k c:Nat} (hν:ν i=some (B,o)) (hc:k≤c):(one (.sl i [] 1 (.lit 0) (.lit k) none)).rel ν (.slice (some ⟨B,o,none⟩) k c):=by
 show (A.sl i [] 1 (.lit 0) (.lit k) none).rel _ _;simp only [A.rel];exact ⟨B,o,o,c,hν,rfl,fun _=>by simp [pathOff,Ix.val],hc,fun _ e=>by cases e⟩
theorem sw54 {k:Nat} {g:Nat->U} (h1:1≤k) (h4:k≤4) {w:World} {b0 o0 c0 b1 o1 c1:Nat} (hc0:k≤c0) (hc1:k≤c1) (H0:HoldsAt w b0 o0 (.arr 1 (.lit k) (.int .u64 g))) (H1:HoldsAt w b1 o1 (.arr 1 (.lit k) (.int .u64 g))) :
 Calls Tryz.prog 54 #[.slice (some ⟨b0,o0,none⟩) k c0,.slice (some ⟨b1,o1,none⟩) k c1] w fun e w'=>e = .returned (.bool true)/\Below w.heap.size w w':=by
 obtain ⟨h',hp,hw⟩:=obsW_some (w54_n g k h1 h4);obtain ⟨_,hfn⟩:=evalF_fn (XK noΓ_ok) rfl hp rfl;refine (calls_read hfn (mem_l2 H0 H1) hw rfl (us:=[_,_]) ⟨sl1_rel rfl hc0,sl1_rel rfl hc1,trivial⟩ nu0).mono ?_;rintro e w' ⟨u,rfl,hu,hb⟩;have hu:(A.b (sameN g 0 k)).rel nu0 u:=hu;simp only [A.rel,sameN_true] at hu;exact ⟨by rw [hu],hb⟩
theorem sw54_nil:obsW (evalF cxK noΓ 400 20 54 [one .nils,one .nils] (hM [] 0))=some (.tt,one .tt,[]):=by kernel_rfl
def swSp:List V->H->Option R
 | [.t (.a a),.t (.a b)],h=>match wordsOf h a,wordsOf h b with
   | some (l1,v1,o1),some (l2,v2,o2)=>some (.leaf (.b ((o1&&o2)&&dec (v1=v2/\∀k g,v1=some (k,g)->1≤k/\k≤4))) (one .tt) (h.sees (l1++l2)))
   | _,_=>none
 | _,_=>none
theorem swSp_inv {args:List V} {h:H} {r:R} (e:swSp args h=some r):∃a b l1 v1 o1 l2 v2 o2,args=[one a,one b]/\wordsOf h a=some (l1,v1,o1)/\wordsOf h b=some (l2,v2,o2)/\r = .leaf (.b ((o1&&o2)&&dec (v1=v2/\∀k g,v1=some (k,g)->1≤k/\k≤4))) (one .tt) (h.sees (l1++l2)):=by
 unfold swSp at e;split at e
 · split at e
   · rename_i h1 h2;cases e;exact ⟨_,_,_,_,_,_,_,_,rfl,h1,h2,rfl⟩
   · cases e
 · cases e
theorem words_at {S:Nat->Prop} {ν:Nu} {w:World} {h:H} {x:A} {l:List Nat} {k:Nat} {g:Nat->U} {o:Bool} (e:wordsOf h x=some (l,some (k,g),o)) (ho:o=true) (hm:Mem S ν w h) (hS:∀i,i∈l->S i\/h.lo≤i) (h0:0<k) {u:Value} (hu:x.rel ν u):∃B off c,u = .slice (some ⟨B,off,none⟩) k c/\k≤c/\HoldsAt w B off (.arr 1 (.lit k) (.int .u64 g)):=by
 unfold wordsOf at e;split at e
 · cases e
 · rename_i id3 k' c;split at e
   · rename_i rw m g' hg;cases e;have hmk:=Nat.eq_of_beq_eq_true ho;subst hmk;obtain ⟨B,off,cc,hid,hH,rfl,hc⟩:=sl_here hm hg (hS id3 (.head _)) rfl rfl (len :=.sym m) h0 hu;refine ⟨B,off,cc,rfl,hc,?_⟩;refine hH.less fun vs hv => ?_;simp only [T.rel] at hv ⊢;exact hv
   · cases e
 · cases e
theorem words_nil {ν:Nu} {h:H} {x:A} {l:List Nat} {o:Bool} (e:wordsOf h x=some (l,none,o)) {u:Value} (hu:x.rel ν u):u = .slice none 0 0:=by
 unfold wordsOf at e;split at e
 · simpa only [A.rel] using hu
 · split at e
   · cases e
   · cases e
 · cases e
theorem sw54_ok:AnyOK Tryz.prog 54 swSp where
 ent:=enters_of entK 54 _ Tryz.func54 (by simp [Tryz.f54])
 ok:=by
  intro args h r ok v h' he hp hok;obtain ⟨a,b,l1,v1,o1,l2,v2,o2,rfl,h1,h2,rfl⟩:=swSp_inv he;simp only [R.pick,oI,pI] at hp;obtain ⟨rfl,rfl,rfl⟩:=hp;have hok:((o1&&o2)&&dec (v1=v2/\∀k g,v1=some (k,g)->1≤k/\k≤4))=true:=hok;simp only [bA] at hok;obtain ⟨⟨q1,q2⟩,q3⟩:=hok;obtain ⟨rfl,q4⟩:=of_dec q3;have key:∀S ν w us,Mem S ν w h->(∀i,i∈l1++l2->S i\/h.lo≤i)->relV ν [one a,one b] us->Calls Tryz.prog 54 us.toArray w fun e w'=>e = .returned (.bool true)/\Below w.heap.size w w':=fun S ν w us hm hS hus=>by
   match us,hus with
   | [u0,u1],⟨r0,r1,_⟩=>
     cases v1 with
     | none=>
       obtain rfl:=words_nil h1 r0;obtain rfl:=words_nil h2 r1;obtain ⟨h',hp,hw⟩:=obsW_some sw54_nil;obtain ⟨_,hfn⟩:=evalF_fn (XK noΓ_ok) rfl hp rfl;refine (calls_read hfn (mem_z0 w) hw rfl (us:=[.slice none 0 0,.slice none 0 0]) ⟨?_,?_,trivial⟩ nu0).mono ?_
       · show A.nils.rel nuE _;simp only [A.rel]
       · show A.nils.rel nuE _;simp only [A.rel]
       · rintro e w' ⟨u,rfl,hu,hb⟩;have hu:A.tt.rel nu0 u:=hu;simp only [A.rel] at hu;exact ⟨by rw [hu],hb⟩
     | some p=>
       obtain ⟨k,g⟩:=p;obtain ⟨p1,p2⟩:=q4 k g rfl;obtain ⟨B0,o0,c0,rfl,hc0,H0⟩:=words_at h1 q1 hm (fun i hi=>hS i (List.mem_append_left _ hi)) (by omega) r0
       obtain ⟨B1,o1,c1,rfl,hc1,H1⟩:=words_at h2 q2 hm (fun i hi=>hS i (List.mem_append_right _ hi)) (by omega) r1
       exact sw54 p1 p2 hc0 hc1 H0 H1
  refine fn_calm (l1++l2) fun S ν w us hm hS hus=>(key S ν w us hm hS hus).mono ?_;rintro e w' ⟨rfl,hb⟩;refine ⟨_,rfl,?_,hb⟩;show A.tt.rel ν _;simp only [A.rel]
 pan:=by intro args h r ok v h' he hp hok;obtain ⟨a,b,l1,v1,o1,l2,v2,o2,rfl,h1,h2,rfl⟩:=swSp_inv he;simp [R.pickP] at hp
 ext:=by intro args h r he hlo;obtain ⟨a,b,l1,v1,o1,l2,v2,o2,rfl,h1,h2,rfl⟩:=swSp_inv he;exact sees_ext _ h
end Go.WE
namespace Go.WE
open Go Go.Proofs Go.RowKit
open Go.Proofs.YtoeealkcacgcgaaGreatDoor.Wor (numsL fit_w)
theorem pick22 (x:U):obsW (evalF cxK noΓ 400 20 8 [i64 x,one (.lit .i64 22)] (hM [] 0))=some (.tt,i64 (pickU x (K 22)),[]):=by kernel_rfl
theorem pick1000 (x:U):obsW (evalF cxK noΓ 400 20 8 [i64 x,one (.lit .i64 1000)] (hM [] 0))=some (.tt,i64 (pickU x (K 1000)),[]):=by kernel_rfl
theorem pick_at {n:Int} (hn:IntKind.i64.wrap n=n) {x:U} (h:obsW (evalF cxK noΓ 400 20 8 [i64 x,one (.lit .i64 n)] (hM [] 0))=some (.tt,i64 (pickU x (K n)),[])) (w:World):Calls Tryz.prog 8 #[.int .i64 (vof .i64 x),.int .i64 n] w fun e w'=>e = .returned (.int .i64 (vof .i64 (pickU x (K n))))/\Below w.heap.size w w':=by
 obtain ⟨h',hp,hw⟩:=obsW_some h;obtain ⟨_,hfn⟩:=evalF_fn (XK noΓ_ok) rfl hp rfl;refine (calls_read hfn (mem_z0 w) hw rfl (us:=[.int .i64 (vof .i64 x),.int .i64 n]) ⟨?_,?_,trivial⟩ nu0).mono ?_
 · show (A.i .i64 x).rel nuE _;simp only [A.rel]
 · show (A.lit .i64 n).rel nuE _;simp only [A.rel];exact ⟨trivial,hn⟩
 · rintro e w' ⟨u,rfl,hu,hb⟩;have hu:(A.i .i64 (pickU x (K n))).rel nu0 u:=hu;simp only [A.rel] at hu;exact ⟨by rw [hu],hb⟩
def ev13 (n:Nat) (D:DF) (m rno elem:U):R:=evalF cxK noΓ 400 20 13 [one (.sl 0 [] 5 (.lit 0) (.sym n) none),i64 m,resT (.i .i64 rno) .poison (.i .i64 elem)] (hM [(0,⟨false,D.arr n⟩)] 1)
def R.lft:R->Option (Bool×A×V×List Nat)
 | .node c (.leaf ok v h) _=>some (c,ok,v,h.wr)
 | _=>none
theorem lft_some {r:R} {c:Bool} {ok:A} {v:V} {wr:List Nat} (h:r.lft=some (c,ok,v,wr)) (hc:c=true):∃h',r.pick=some (ok,v,h')/\h'.wr=wr:=by
 unfold R.lft at h;split at h
 · simp only [oI,pI] at h;obtain ⟨rfl,rfl,rfl,rfl⟩:=h;subst hc;exact ⟨_,rfl,rfl⟩
 · cases h
def bad4 (m rno:U):Bool:=cond (pickU rno (K 22) != K 0) true (BitVec.slt m (K 1))
def bad6 (n:Nat) (m rno:U):Bool:=cond (bad4 m rno) true (BitVec.slt (kk n) m)
def ixM (m:U):Nat:=0+(m-K 1).toNat
def k910 (D:DF) (m:U):Bool:=cond (D.k (ixM m)==K 9) true (D.k (ixM m)==K 10)
def ok13 (n:Nat) (D:DF) (m rno:U):Bool:=
 let t11:=cond (bad4 m rno) true (Nat.blt n (2 ^ 63))
 let t18:=(t11&&((!(BitVec.msb (m-K 1)))&&Nat.blt (m-K 1).toNat n))&&Nat.blt (ixM m) n
 cond (bad6 n m rno) t11 (cond (k910 D m) t18 t18)
theorem ev13_eq (n:Nat) (D:DF) (m rno elem:U):(ev13 n D m rno elem).lft=some (cond (bad6 n m rno) true ((!(BitVec.slt (K 0) (D.w (ixM m))))&&true),.b (ok13 n D m rno),
 .t (.st [.a (.i .i64 (cond (bad6 n m rno) (pickU rno (K 22)) (cond (k910 D m) (pickU rno (K 22)) (pickU rno (K 22))))),.a .nils,.a (.lit .u64 0),.a (.i .i64 (cond (bad6 n m rno) (K 0) (cond (k910 D m) (D.i (ixM m)) (K 1+pickU elem (K 1000)))))]),[]):=by kernel_rfl
def fitT (no:A) (val:A) (elem:U):V :=.t (.st [.a no,.a val,.a (.lit .u64 0),.a (.i .i64 elem)])
theorem fitT_rel {ν:Nu} {no val:A} {rno el:U} {vv:Value} (h1:no.rel ν (.int .i64 (vof .i64 rno))) (h2:val.rel ν vv) (c2:Cell vv):(fitT no val el).rel ν (resVal rno el vv (.int .u64 0)):=by
 refine ⟨_,rfl,?_⟩;simp only [T.rel,relTs];exact ⟨_,_,rfl,⟨_,rfl,h1,trivial⟩,_,_,rfl,⟨_,rfl,h2,c2⟩,_,_,rfl,⟨.int .u64 0,rfl,by simp only [A.rel];exact ⟨trivial,rfl⟩,trivial⟩,_,_,rfl,⟨.int .i64 (vof .i64 el),rfl,by simp only [A.rel],trivial⟩,rfl⟩
theorem early13 {n:Nat} {D:DF} {m rno elem:U} (hn:n≤10) (hbad:bad6 n m rno=true) {w:World} {b off c:Nat} {vv vk:Value} (cv:Cell vv) (ck:Cell vk) (hc:n≤c) (hH:HoldsAt w b off (D.arr n)) :
 Calls Tryz.prog 13 #[.slice (some ⟨b,off,none⟩) n c,.int .i64 (vof .i64 m),resVal rno elem vv vk] w fun e w'=>e = .returned (resVal (pickU rno (K 22)) (K 0) (.slice none 0 0) (.int .u64 0))/\Below w.heap.size w w':=by
 have he:=ev13_eq n D m rno elem;obtain ⟨h',hp,hw⟩:=lft_some he (by rw [hbad];rfl)
 rw [hbad] at hp;simp only [cond_true] at hp;have hok:okB (.b (ok13 n D m rno))=true:=by
  show ok13 n D m rno=true;unfold ok13;have h63:Nat.blt n (2 ^ 63)=true:=nB (by omega)
  rw [hbad,h63];cases bad4 m rno<;>rfl
 obtain ⟨_,hfn⟩:=evalF_fn (XK noΓ_ok) rfl hp hok;refine (calls_read hfn (mem_at hH) hw rfl (us:=[_,_,_]) ⟨slD_rel hc,?_,resT_rel (by simp only [A.rel]) (by simp only [A.rel]) (by simp only [A.rel]) cv ck,trivial⟩ nu0).mono ?_
 · show (A.i .i64 m).rel (nuAt b off) _;simp only [A.rel]
 · rintro e w' ⟨u,rfl,hu,hb⟩;refine ⟨congrArg Ending.returned ?_,hb⟩;obtain ⟨vs,rfl,hr⟩:=hu;simp only [T.rel,relTs,A.rel] at hr;obtain ⟨u1,w1,e1,⟨x1,f1,r1,c1⟩,u2,w2,e2,⟨x2,f2,r2,c2⟩,u3,w3,e3,⟨x3,f3,r3,c3⟩,u4,w4,e4,⟨x4,f4,r4,c4⟩,e5⟩:=hr;obtain ⟨r3,_⟩:=r3;subst f1 f2 f3 f4 r1 r2 r3 r4 e5 e4 e3 e2
   match vs,e1 with
   | ⟨_⟩,rfl=>rfl
def valIn (h:H):A->Option (List Nat×Nat×(Nat->U)×Bool)
 | .nils=>some ([],0,fun _=>K 0,true)
 | .sl _ [] 1 (.lit 0) (.lit 0) _=>some ([],0,fun _=>K 0,true)
 | .sl id [] 1 (.lit 0) (.sym l) _=>match h.m.get id with
   | some ⟨_,.arr 1 (.sym m) (.int .u64 g)⟩=>some ([id],l,g,Nat.beq m l&&Nat.blt 0 l)
   | _=>none
 | _=>none
theorem word_cell {w:World} {b off n:Nat} {g:Nat->U} (h:HoldsAt w b off (.arr 1 (.sym n) (.int .u64 g))):∀j,j<n->w.cell? ⟨b,off+j,none⟩=some (.int .u64 (vof .u64 (g j))):=fun j hj=>by
 obtain ⟨cs,ty,fr,pre,vs,post,h1,h2,h3,h4⟩:=h;simp only [T.rel] at h4;have h5:=h4.2 j hj;simp only [Sh.rel,Nat.one_mul] at h5;have hl:vs.length=n:=by simpa [Ix.val] using h4.1
 have h6:vs[j]? = some (.int .u64 (vof .u64 (g j))):=by have:=congrArg (fun l=>l[0]?) h5;simpa [List.getElem?_take,List.getElem?_drop] using this
 unfold World.cell?;rw [h1];simp only;rw [← Array.getElem?_toList,h2,List.append_assoc,List.getElem?_append_right (by omega),← h3,Nat.add_sub_cancel_left,List.getElem?_append_left (by omega)]
 exact h6
theorem decl_cell {w:World} {b off n:Nat} {D:DF} (h:HoldsAt w b off (D.arr n)) {i:Nat} (hi:i<n):∀j u,[Value.int .i64 (vof .i64 (D.k i)),.int .i64 (vof .i64 (D.e i)),.int .i64 (vof .i64 (D.w i)),.int .i64 (vof .i64 (D.b i)),.int .i64 (vof .i64 (D.i i))][j]? = some u->w.cell? ⟨b,off+i*5+j,none⟩=some u:=fun j u hu=>by
 obtain ⟨cs,ty,fr,pre,vs,post,h1,h2,h3,h4⟩:=h;simp only [T.rel] at h4;have h5:=h4.2 i hi;unfold DF.s at h5;simp only [Sh.rel,relShs] at h5;obtain ⟨u1,w1,e1,f1,u2,w2,e2,f2,u3,w3,e3,f3,u4,w4,e4,f4,u5,w5,e5,f5,e6⟩:=h5;subst f1 f2 f3 f4 f5 e6 e5 e4 e3 e2;have hl:vs.length=5*n:=by simpa [Ix.val] using h4.1
 have hj:j<5:=by have:=(List.getElem?_eq_some_iff.1 hu).1;simpa using this
 have h6:vs[i*5+j]? = some u:=by have:=congrArg (fun l=>l[j]?) e1;simp only [List.getElem?_take,List.getElem?_drop,if_pos hj] at this;rw [Nat.mul_comm 5 i] at this;rw [this];exact hu
 unfold World.cell?;rw [h1];simp only;have hlt:i*5+j<vs.length:=by omega
 rw [← Array.getElem?_toList,h2,List.append_assoc,List.getElem?_append_right (by omega),← h3,Nat.add_assoc,Nat.add_sub_cancel_left,List.getElem?_append_left hlt]
 exact h6
def ValLies (w:World) (l:Nat) (g:Nat->U) (u:Value):Prop:=∃vb vc,u = .slice vb l vc/\∀j,j<l->∃vB vO,vb=some ⟨vB,vO,none⟩/\vB<w.heap.size/\w.cell? ⟨vB,vO+j,none⟩=some (.int .u64 (vof .u64 (g j)))
theorem valIn_here {S:Nat->Prop} {ν:Nu} {w:World} {h:H} {x:A} {ids:List Nat} {l:Nat} {g:Nat->U} {o:Bool} (e:valIn h x=some (ids,l,g,o)) (ho:o=true) (hm:Mem S ν w h) (hS:∀i,i∈ids->S i\/h.lo≤i) {u:Value} (hu:x.rel ν u):ValLies w l g u:=by
 unfold valIn at e;split at e
 · cases e;simp only [A.rel] at hu;subst hu;exact ⟨none,0,rfl,fun j hj=>absurd hj (Nat.not_lt_zero j)⟩
 · cases e;simp only [A.rel] at hu;obtain ⟨b,base,o,c,h1,rfl,h3,h4,h5⟩:=hu;exact ⟨some ⟨b,o,none⟩,c,rfl,fun j hj=>absurd hj (Nat.not_lt_zero j)⟩
 · rename_i id l' c;split at e
   · rename_i rw m g' hg;cases e;simp only [bA] at ho;have hml:=Nat.eq_of_beq_eq_true ho.1;have h0:0<l:=nL ho.2;subst hml;obtain ⟨B,off,cc,hid,hH,rfl,hc⟩:=sl_here hm hg (hS id (.head _)) rfl rfl (len :=.sym m) h0 hu;exact ⟨some ⟨B,off,none⟩,cc,rfl,fun j hj=>⟨B,off,rfl,hH.lt,word_cell hH j hj⟩⟩
   · cases e
 · cases e
theorem ValLies.cell {w:World} {l:Nat} {g:Nat->U} {u:Value} (h:ValLies w l g u):Cell u:=by
 obtain ⟨vb,vc,rfl,_⟩:=h;trivial
def fitEl (D:DF) (ix:Nat) (elem:U):U:=cond (D.k ix==K 9) (D.i ix) (cond (D.k ix==K 10) (D.i ix) (K 1+pickU elem (K 1000)))
def fitG (l:Nat) (g:Nat->U) (j:Nat):U:=cond (Nat.blt j l) (g j) (kk j)
theorem vof_small {x:U} (h:x.toNat<2 ^ 63):vof .i64 x=(x.toNat:Int):=by
 unfold vof;rw [IntKind.wrap_i64];omega
theorem ne_toNat {x:U} {k:Nat} (hk:k<2 ^ 63) (h:(x==kk k)=false):x.toNat≠k:=fun e=>by
 have:x=kk k:=by apply BitVec.eq_of_toNat_eq;rw [e,kk_nat (by omega)]
 rw [this,beq_self_eq_true] at h;cases h
theorem list13 {n:Nat} {D:DF} {m rno elem:U} (h1:1≤n) (hn:n≤10) (hD:OKD n D) (hM:inM n m=true) (hno:pickU rno (K 22)=K 0) {w:World} {b off c l:Nat} {g:Nat->U} {vv vk:Value} (hv:ValLies w l g vv) (hc:n≤c) (hH:HoldsAt w b off (D.arr n)) :
 Calls Tryz.prog 13 #[.slice (some ⟨b,off,none⟩) n c,.int .i64 (vof .i64 m),resVal rno elem vv vk] w fun e w'=>∃B cc,w.heap.size≤B/\(D.w (m-K 1).toNat).toNat≤cc/\e = .returned (resVal (K 0) (fitEl D (m-K 1).toNat elem) (.slice (some ⟨B,0,none⟩) (D.w (m-K 1).toNat).toNat cc) (.int .u64 0))/\Below w.heap.size w w'/\Holds w' B (.arr 1 (.sym (D.w (m-K 1).toNat).toNat) (.int .u64 (fitG l g))):=by
 obtain ⟨m1,m2,_,m4⟩:=inM_nat hn hM;have hix:(m-K 1).toNat<n:=by omega
 obtain ⟨d1,d2,d3⟩:=hD _ hix;have hw:=wOK_le d3;obtain ⟨vb,vc,rfl,hvs⟩:=hv;have em:vof .i64 m=(m.toNat:Int):=vof_small (by omega)
 have ew:vof .i64 (D.w (m-K 1).toNat)=((D.w (m-K 1).toNat).toNat:Int):=vof_small (by omega)
 have ek:vof .i64 (D.k (m-K 1).toNat)=((D.k (m-K 1).toNat).toNat:Int):=vof_small (by omega)
 have hp:=pick_lt 1000 (by decide) (by decide) elem
 have hp:(pickU elem (K 1000)).toNat<1000:=hp;have ep:vof .i64 (pickU elem (K 1000))=((pickU elem (K 1000)).toNat:Int):=vof_small (by omega)
 have e5:off+(m-K 1).toNat*5=off+(m.toNat-1)*5:=by rw [m4]
 have dc:=decl_cell hH hix;rw [e5] at dc;have H:=fit_w (vof .i64 (D.k (m-K 1).toNat)) (vof .i64 (D.e (m-K 1).toNat)) (vof .i64 (D.b (m-K 1).toNat)) (vof .i64 (D.i (m-K 1).toNat)) (vof .i64 rno) (vof .i64 elem) b off n c m.toNat (D.w (m-K 1).toNat).toNat vk w hH.lt m1 m2 hn (by omega) (by omega) vb l vc (fun j=>vof .u64 (g j)) hvs (fun j=>vof .u64 (fitG l g j)) (fun j hj=>by
  unfold fitG;rw [show Nat.blt j l=true from nB hj];rfl) (fun j hj hj4=>by
  unfold fitG;rw [show Nat.blt j l=false from by
   cases e:Nat.blt j l
   · rfl
   · have:=nL e;omega]
  show IntKind.u64.wrap ((kk j).toNat:Int)=j;rw [kk_nat (by omega),IntKind.wrap_u64]
  omega) (fun w1=>by
  have:=pick_at (n:=22) rfl (pick22 rno) w1;rw [hno] at this;exact this) (vof .i64 (pickU elem (K 1000))) ⟨by omega,by omega⟩ (fun w1=>pick_at (n:=1000) rfl (pick1000 elem) w1) ?_ ?_ ?_ ?_ ?_
 · rw [em];refine H.mono ?_;rintro e w' ⟨v,rfl,hown,hbel⟩;obtain ⟨_,hcase⟩:=hown;rcases hcase with ⟨_,e0⟩|⟨b',cap',cur,rfl,hge,hh',hncap,hcap',hsz,htake⟩
   · omega
   · rw [Nat.mul_one] at htake;have htake:List.take (D.w (m-K 1).toNat).toNat cur.toList=numsL (fun j=>vof .u64 (fitG l g j)) (D.w (m-K 1).toNat).toNat:=htake;refine ⟨b',cap',hge,hncap,congrArg Ending.returned ?_,hbel,⟨cur,26,_,cur.toList.drop _,hh',(by
      have:=List.take_append_drop (D.w (m-K 1).toNat).toNat cur.toList;rw [htake] at this;exact this.symm),?_⟩⟩
     · have:vof .i64 (fitEl D (m-K 1).toNat elem)=if vof .i64 (D.k (m-K 1).toNat)=9\/vof .i64 (D.k (m-K 1).toNat)=10 then vof .i64 (D.i (m-K 1).toNat) else 1+vof .i64 (pickU elem (K 1000)):=by
        unfold fitEl;rw [ek];cases e9:D.k (m-K 1).toNat==K 9
        · have n9:=ne_toNat (k:=9) (by decide) e9
          cases e10:D.k (m-K 1).toNat==K 10
          · have n10:=ne_toNat (k:=10) (by decide) e10
            rw [if_neg (by omega),cond_false,cond_false,ep,vof_small]
            · rw [BitVec.toNat_add,show (K 1:U).toNat=1 from rfl]
              omega
            · rw [BitVec.toNat_add,show (K 1:U).toNat=1 from rfl]
              omega
          · rw [cond_false,cond_true,if_pos];have e10:=eq_of_beq e10;rw [e10];exact .inr rfl
        · rw [cond_true,if_pos];have e9:=eq_of_beq e9;rw [e9];exact .inl rfl
       unfold resVal;rw [this];rfl
     · have:=nums_arr (ν:=nu0) (g:=fitG l g) (m:=(D.w (m-K 1).toNat).toNat);simp only [T.rel] at this ⊢;exact this
 · exact dc 0 _ rfl
 · exact dc 1 _ rfl
 · rw [← ew];exact dc 2 _ rfl
 · exact dc 3 _ rfl
 · exact dc 4 _ rfl
def fitR (sh:Bool) (n:Nat) (D:DF) (o:Bool) (m rno:U) (idl:Nat) (ids:List Nat) (l:Nat) (g:Nat->U) (ov:Bool) (elem:U) (h:H):R:=match sh with
 | false =>.leaf (.b (okPl n D o&&(ov&&bad6 n m rno))) (fitT (.i .i64 (pickU rno (K 22))) .nils (K 0)) (h.sees (idl::ids))
 | true =>.leaf (.b (okPl n D o&&(ov&&(inM n m&&(pickU rno (K 22)==K 0))))) (fitT z64 (.sl h.next [] 1 (.lit 0) (.sym (D.w (m-K 1).toNat).toNat) none) (fitEl D (m-K 1).toNat elem)) ((h.sees (idl::ids)).new ⟨true,.arr 1 (.sym (D.w (m-K 1).toNat).toNat) (.int .u64 (fitG l g))⟩)
def fitSp (sh:Bool):List V->H->Option R
 | [.t (.a la),.t (.a am),.t (.st [.a ano,.a av,.a ak,.a ae])],h=>match dfOf h la,i64Of am,i64Of ano,valIn h av,i64Of ae with
   | some (idl,n,D,o),some m,some rno,some (ids,l,g,ov),some elem=>some (fitR sh n D o m rno idl ids l g ov elem h)
   | _,_,_,_,_=>none
 | _,_=>none
theorem fitSp_inv {sh:Bool} {args:List V} {h:H} {r:R} (e:fitSp sh args h=some r):∃la am ano av ak ae idl n D o m rno ids l g ov elem,args=[.t (.a la),.t (.a am),.t (.st [.a ano,.a av,.a ak,.a ae])]/\dfOf h la=some (idl,n,D,o)/\i64Of am=some m/\i64Of ano=some rno/\valIn h av=some (ids,l,g,ov)/\i64Of ae=some elem/\r=fitR sh n D o m rno idl ids l g ov elem h:=by
 unfold fitSp at e;split at e
 · split at e
   · rename_i h1 h2 h3 h4 h5;cases e;exact ⟨_,_,_,_,_,_,_,_,_,_,_,_,_,_,_,_,_,rfl,h1,h2,h3,h4,h5,rfl⟩
   · cases e
 · cases e
theorem fit13_ok (sh:Bool):AnyOK Tryz.prog 13 (fitSp sh) where
 ent:=enters_of entK 13 _ Tryz.func13 (by simp [Tryz.f13])
 ok:=by
  intro args h r ok v h' he hp hok;obtain ⟨la,am,ano,av,ak,ae,idl,n,D,o,m,rno,ids,l,g,ov,elem,rfl,e1,e2,e3,e4,e5,hr⟩:=fitSp_inv he;have setup:okPl n D o=true->ov=true->∀S ν w us,Mem S ν w h->(∀i,i∈idl::ids->S i\/h.lo≤i)->relV ν [.t (.a la),.t (.a am),.t (.st [.a ano,.a av,.a ak,.a ae])] us->∃b off c vv vk,us=[.slice (some ⟨b,off,none⟩) n c,.int .i64 (vof .i64 m),resVal rno elem vv vk]/\n≤c/\HoldsAt w b off (D.arr n)/\ValLies w l g vv/\Cell vk/\1≤n/\n≤10/\OKD n D:=fun ho hv S ν w us hm hS hus=>by
   unfold okPl at ho;simp only [bA] at ho;obtain ⟨⟨o1,o2⟩,o3,o4⟩:=ho;have o1:=nL o1;have o2:=nL o2
   match us,hus with
   | [u0,u1,u2],⟨r0,r1,r2,_⟩=>
     obtain ⟨B,off,c,hH,rfl,hcc,_⟩:=df_here hm e1 o3 (hS idl (.head _)) (by omega) r0
     obtain rfl:=i64Of_rel e2 r1;obtain ⟨x1,x2,x3,x4,rfl,q1,q2,q3,q4⟩:=st4_rel r2;obtain rfl:=i64Of_rel e3 q1;obtain rfl:=i64Of_rel e5 q4;exact ⟨B,off,c,x2,x3,rfl,hcc,hH,valIn_here e4 hv hm (fun i hi=>hS i (.tail _ hi)) q2,q3,o1,o2,of_dec o4⟩
  cases sh
  · subst hr;simp only [fitR,R.pick,oI,pI] at hp;obtain ⟨rfl,rfl,rfl⟩:=hp;have hok:(okPl n D o&&(ov&&bad6 n m rno))=true:=hok;simp only [bA] at hok;obtain ⟨p1,p2,p3⟩:=hok;refine fn_calm (idl::ids) fun S ν w us hm hS hus => ?_;obtain ⟨b,off,c,vv,vk,rfl,hc,hH,hv,ck,n1,n2,hD⟩:=setup p1 p2 S ν w us hm hS hus;refine (early13 n2 p3 hv.cell ck hc hH).mono ?_;rintro e w' ⟨rfl,hb⟩;exact ⟨_,rfl,fitT_rel (by simp only [A.rel]) (by simp only [A.rel]) trivial,hb⟩
  · subst hr;simp only [fitR,R.pick,oI,pI] at hp;obtain ⟨rfl,rfl,rfl⟩:=hp;have hok:(okPl n D o&&(ov&&(inM n m&&(pickU rno (K 22)==K 0))))=true:=hok;simp only [bA] at hok;obtain ⟨p1,p2,p3,p4⟩:=hok;refine fn_made rfl (idl::ids) fun S ν w us hm hS hus => ?_;obtain ⟨b,off,c,vv,vk,rfl,hc,hH,hv,ck,n1,n2,hD⟩:=setup p1 p2 S ν w us hm hS hus;refine (list13 n1 n2 hD p3 (eq_of_beq p4) hv hc hH).mono ?_;rintro e w' ⟨B,cc,hB,hcc,rfl,hb,hh⟩;refine ⟨_,B,rfl,hB,hb,hh,fun ν' _ hν=>fitT_rel (rno:=K 0) ?_ ?_ trivial⟩
    · unfold z64;simp only [A.rel];exact ⟨rfl,rfl⟩
    · simp only [A.rel];exact ⟨B,0,0,cc,hν,rfl,fun _=>by simp [pathOff,Ix.val],hcc,fun _ e=>by cases e⟩
 pan:=by intro args h r ok v h' he hp hok;obtain ⟨la,am,ano,av,ak,ae,idl,n,D,o,m,rno,ids,l,g,ov,elem,rfl,e1,e2,e3,e4,e5,hr⟩:=fitSp_inv he;subst hr;cases sh<;>simp [fitR,R.pickP] at hp
 ext:=by
  intro args h r he hlo;obtain ⟨la,am,ano,av,ak,ae,idl,n,D,o,m,rno,ids,l,g,ov,elem,rfl,e1,e2,e3,e4,e5,hr⟩:=fitSp_inv he;cases sh
  · subst hr;exact sees_ext _ h
  · subst hr;exact (sees_ext _ h).trans (new_ext (by rw [sees_lo,sees_next];exact hlo) _)
end Go.WE
namespace Go.WE
open Go Go.Proofs Go.RowKit
def c12:Code:=bodyOf Tryz.prog 12
def mq0:Code:=c12.sA
def mq1:Code:=c12.sB.sA.sA
def mqL:Code:=c12.sB.sA.sB.inn.inn
def mq6:Code:=c12.sB.sB.sA.sA
def mqM:Code:=c12.sB.sB.sA.sB.inn.inn
def mq14:Code:=c12.sB.sB.sB
theorem c12_eq:c12 = .seq mq0 (.seq (.seq mq1 (.block 0 (.loop mqL))) (.seq (.seq mq6 (.block 2 (.loop mqM))) mq14)):=by kernel_rfl
def mqh:Code:=mqL.sA
def mqb:Code:=mqL.sB.sA.inn
def mqi:Code:=mqL.sB.sB
theorem mqL_eq:mqL = .seq mqh (.seq (.block 1 mqb) mqi):=by kernel_rfl
def mqH:Code:=mqM.sA
def mqB:Code:=mqM.sB.sA.inn
def mqI:Code:=mqM.sB.sB
theorem mqM_eq:mqM = .seq mqH (.seq (.block 3 mqB) mqI):=by kernel_rfl
theorem body12:Tryz.f12.body=some c12:=by kernel_rfl
def fp12:Fp:=⟨1125899927826419,51,66,fun _ _=>none⟩
def ΓB2 (T:Nat):Gam:=anyΓ 55 (byTV T) (anyΓ 52 (byTQ T) noΓ)
theorem ΓB2_ok (T:Nat):ΓOK Tryz.prog (ΓB2 T):=anyΓ_ok (byTV_ok T) (anyΓ_ok (byTQ_ok T) noΓ_ok)
def evS2 (T:Nat) (c:Code) (l:List (Nat×V)) (s:VF) (q:QF):Out:=evalC cxK (evalF cxK (ΓB2 T) 400 20) fp12 400 c (stOf l (hM [(0,⟨true,s.t⟩),(1,⟨true,q.t⟩)] 2))
def mS2 (s:VF) (q:QF):List (Nat×Blk):=[(0,⟨true,s.t⟩),(1,⟨true,q.t⟩)]
def vS2:List (Nat×V):=[(0,pt 0),(1,pt 1)]
def vS2i (j:Nat) (x:A):List (Nat×V):=[(0,pt 0),(1,pt 1),(j,one x)]
def regEq (f g:VV) (x:U):Bool:=
 let t2:=cond (BitVec.slt x (K 0)) true (BitVec.sle (K 11) x)
 let t5:=cond (BitVec.slt x (K 0)) true (BitVec.slt (K 10) x)
 (cond t2 (K 0) (f.k x.toNat)==cond t5 (K 0) (g.k x.toNat))&&((cond t2 (K 0) (f.n x.toNat)==cond t5 (K 0) (g.n x.toNat))&&((cond t2 (K 0) (f.m x.toNat)==cond t5 (K 0) (g.m x.toNat))&&(cond t2 (K 0) (f.i x.toNat)==cond t5 (K 0) (g.i x.toNat))))
def regOk (x:U):Bool:=
 let t19:=((!(BitVec.msb x))&&Nat.blt x.toNat 11)&&Nat.blt x.toNat 11
 cond (cond (BitVec.slt x (K 0)) true (BitVec.sle (K 11) x)) true t19&&cond (cond (BitVec.slt x (K 0)) true (BitVec.slt (K 10) x)) true t19
theorem reg_kk:∀k:Fin 11,cond (BitVec.slt (kk k.val) (K 0)) true (BitVec.sle (K 11) (kk k.val))=false/\cond (BitVec.slt (kk k.val) (K 0)) true (BitVec.slt (K 10) (kk k.val))=false/\regOk (kk k.val)=true/\BitVec.slt (kk k.val) (K 11)=true:=by decide +kernel
theorem regEq_true (f:VV) {k:Nat} (hk:k<11):regEq f f (kk k)=true:=by
 obtain ⟨h1,h2,_⟩:=reg_kk ⟨k,hk⟩;have h1:cond (BitVec.slt (kk k) (K 0)) true (BitVec.sle (K 11) (kk k))=false:=h1;have h2:cond (BitVec.slt (kk k) (K 0)) true (BitVec.slt (K 10) (kk k))=false:=h2;unfold regEq;simp only [h1,h2,cond_false,beq_self_eq_true,Bool.and_self]
def atX (x:U):VW:=⟨K 3,x,K 0,K 0⟩
section
variable (s:VF) (q:QF) (x:U)
theorem mq0_ev:endM fp12.km [0,1] [0,1] 2 (evS2 0 mq0 vS2 s q).pick=some ⟨.nrm,.tt,vS2,mS2 s q⟩:=by kernel_rfl
theorem mq0_w:wrOk [] (evS2 0 mq0 vS2 s q).pick=true:=by kernel_rfl
theorem mq1_ev:endM fp12.km [0,1,5] [0,1] 2 (evS2 0 mq1 vS2 s q).pick=some ⟨.nrm,.tt,vS2i 5 (.lit .i64 0),mS2 s q⟩:=by kernel_rfl
theorem mq1_w:wrOk [] (evS2 0 mq1 vS2 s q).pick=true:=by kernel_rfl
theorem mqh_c:(evS2 0 mqh (vS2i 5 (.i .i64 x)) s q).cnd=some (BitVec.slt x (K 11)):=by kernel_rfl
theorem mqh_t:endM fp12.km [0,1,5] [0,1] 2 ((evS2 0 mqh (vS2i 5 (.i .i64 x)) s q).at true)=some ⟨.nrm,.tt,vS2i 5 (.i .i64 x),mS2 s q⟩:=by kernel_rfl
theorem mqh_tw:wrOk [] ((evS2 0 mqh (vS2i 5 (.i .i64 x)) s q).at true)=true:=by kernel_rfl
theorem mqh_f:endM fp12.km [0,1] [0,1] 2 ((evS2 0 mqh (vS2i 5 (.i .i64 x)) s q).at false)=some ⟨.exit 0,.tt,vS2,mS2 s q⟩:=by kernel_rfl
theorem mqh_fw:wrOk [] ((evS2 0 mqh (vS2i 5 (.i .i64 x)) s q).at false)=true:=by kernel_rfl
theorem mqb_c:(evS2 0 mqb (vS2i 5 (.i .i64 x)) s q).cnd=some (!(regEq s.regs q.regs x)):=by kernel_rfl
theorem mqb_f:endM fp12.km [0,1,5] [0,1] 2 ((evS2 0 mqb (vS2i 5 (.i .i64 x)) s q).at false)=some ⟨.nrm,.b (regOk x),vS2i 5 (.i .i64 x),mS2 s q⟩:=by kernel_rfl
theorem mqb_w:wrOk [] ((evS2 0 mqb (vS2i 5 (.i .i64 x)) s q).at false)=true:=by kernel_rfl
theorem mqi_ev:endM fp12.km [0,1,5] [0,1] 2 (evS2 0 mqi (vS2i 5 (.i .i64 x)) s q).pick=some ⟨.nrm,.tt,vS2i 5 (.i .i64 (x+K 1)),mS2 s q⟩:=by kernel_rfl
theorem mqi_w:wrOk [] (evS2 0 mqi (vS2i 5 (.i .i64 x)) s q).pick=true:=by kernel_rfl
theorem mq6_ev:endM fp12.km [0,1,6] [0,1] 2 (evS2 0 mq6 vS2 s q).pick=some ⟨.nrm,.tt,vS2i 6 (.lit .i64 (-128)),mS2 s q⟩:=by kernel_rfl
theorem mq6_w:wrOk [] (evS2 0 mq6 vS2 s q).pick=true:=by kernel_rfl
theorem mqH_c:(evS2 0 mqH (vS2i 6 (.i .i64 x)) s q).cnd=some (BitVec.slt x (K 0)):=by kernel_rfl
theorem mqH_t:endM fp12.km [0,1,6] [0,1] 2 ((evS2 0 mqH (vS2i 6 (.i .i64 x)) s q).at true)=some ⟨.nrm,.tt,vS2i 6 (.i .i64 x),mS2 s q⟩:=by kernel_rfl
theorem mqH_tw:wrOk [] ((evS2 0 mqH (vS2i 6 (.i .i64 x)) s q).at true)=true:=by kernel_rfl
theorem mqH_f:endM fp12.km [0,1] [0,1] 2 ((evS2 0 mqH (vS2i 6 (.i .i64 x)) s q).at false)=some ⟨.exit 2,.tt,vS2,mS2 s q⟩:=by kernel_rfl
theorem mqH_fw:wrOk [] ((evS2 0 mqH (vS2i 6 (.i .i64 x)) s q).at false)=true:=by kernel_rfl
theorem mqB_c0:(evS2 1000 mqB (vS2i 6 (.i .i64 x)) s q).cnd=some (!(cond (nrm .u8 (byF s.flat (posW x) 0) != nrm .u8 (byF q.b (posW x) 0)) false true)):=by kernel_rfl
theorem mqB_f0:endM fp12.km [0,1,6] [0,1] 2 ((evS2 1000 mqB (vS2i 6 (.i .i64 x)) s q).at false)=some ⟨.nrm,.b ((bytesE s.how (atX x) 1==K 0)&&(bytesE q.how (atX x) 1==K 0)),vS2i 6 (.i .i64 x),mS2 s q⟩:=by kernel_rfl
theorem mqB_w0:wrOk [] ((evS2 1000 mqB (vS2i 6 (.i .i64 x)) s q).at false)=true:=by kernel_rfl
theorem mqB_c1:(evS2 0 mqB (vS2i 6 (.i .i64 x)) s q).cnd=some (cond (bytesE s.how (atX x) 1 != bytesE q.how (atX x) 1) true false):=by kernel_rfl
theorem mqB_f1:endM fp12.km [0,1,6] [0,1] 2 ((evS2 0 mqB (vS2i 6 (.i .i64 x)) s q).at false)=some ⟨.nrm,.b (cond (bytesE s.how (atX x) 1 != bytesE q.how (atX x) 1) ((bytesE s.how (atX x) 1 != K 0)&&(bytesE q.how (atX x) 1 != K 0)) ((bytesE s.how (atX x) 1 != K 0)&&(bytesE q.how (atX x) 1 != K 0))),vS2i 6 (.i .i64 x),mS2 s q⟩:=by kernel_rfl
theorem mqB_w1:wrOk [] ((evS2 0 mqB (vS2i 6 (.i .i64 x)) s q).at false)=true:=by kernel_rfl
theorem mqI_ev:endM fp12.km [0,1,6] [0,1] 2 (evS2 0 mqI (vS2i 6 (.i .i64 x)) s q).pick=some ⟨.nrm,.tt,vS2i 6 (.i .i64 (x+K 1)),mS2 s q⟩:=by kernel_rfl
theorem mqI_w:wrOk [] (evS2 0 mqI (vS2i 6 (.i .i64 x)) s q).pick=true:=by kernel_rfl
theorem mq14_ev:retOf Tryz.prog fp12.km Tryz.f12.results.toList (evS2 0 mq14 vS2 s q).pick=some (.tt,.tt,one .tt):=by kernel_rfl
theorem mq14_w:wrOk [] (evS2 0 mq14 vS2 s q).pick=true:=by kernel_rfl
end
def nuP2 (r1 r2:Nat):Nu:=fun i=>if i=0 then some (r1,0) else if i=1 then some (r2,0) else none
theorem nuP2_some {r1 r2 i r base:Nat} (h:nuP2 r1 r2 i=some (r,base)):(i=0/\r=r1/\base=0)\/(i=1/\r=r2/\base=0):=by
 unfold nuP2 at h;split at h
 · simp at h;exact .inl ⟨by assumption,h.1.symm,h.2.symm⟩
 · split at h
   · simp at h;exact .inr ⟨by assumption,h.1.symm,h.2.symm⟩
   · cases h
theorem mem_pp {w:World} {r1 r2:Nat} {t1 t2:T} (hne:r1≠r2) (h0:Holds w r1 t1) (h1:Holds w r2 t2):Mem (fun _=>True) (nuP2 r1 r2) w (hM [(0,⟨true,t1⟩),(1,⟨true,t2⟩)] 2):=by
 have hget:∀i x,(hM [(0,⟨true,t1⟩),(1,⟨true,t2⟩)] 2).m.get i=some x->(i=0/\x=⟨true,t1⟩)\/(i=1/\x=⟨true,t2⟩):=fun i x e=>by have:=get_memT _ i x e;simp only [List.mem_cons,List.not_mem_nil,or_false,pI] at this;exact this
 refine ⟨⟨fun i r' b' e => ?_,fun i x e hrw i' r' b1 b2 e1 e2 => ?_,fun i hi => ?_,fun i x e => ?_,Nat.le_refl _,fun g hg=>(by cases hg)⟩,fun i x e _ => ?_⟩
 · rcases nuP2_some e with ⟨_,rfl,_⟩|⟨_,rfl,_⟩
   · exact h0.lt
   · exact h1.lt
 · rcases nuP2_some e1 with ⟨a1,a2,_⟩|⟨a1,a2,_⟩<;>rcases nuP2_some e2 with ⟨c1,c2,_⟩|⟨c1,c2,_⟩
   · rw [a1,c1]
   · exact absurd (a2.symm.trans c2) hne
   · exact absurd (c2.symm.trans a2) hne
   · rw [a1,c1]
 · have hi:2≤i:=hi;unfold nuP2;rw [if_neg (by omega),if_neg (by omega)]
 · rcases hget i x e with ⟨rfl,_⟩|⟨rfl,_⟩<;>(show _<2;decide)
 · rcases hget i x e with ⟨rfl,rfl⟩|⟨rfl,rfl⟩
   · obtain ⟨cs,ty,vs,post,q1,q2,q3⟩:=h0;exact .inl ⟨r1,0,cs,ty,(0,0),[],vs,post,by simp [nuP2],q1,by simpa using q2,rfl,T.rel_mono (fun i p e=>by cases e) q3,fun _=>⟨rfl,rfl⟩⟩
   · obtain ⟨cs,ty,vs,post,q1,q2,q3⟩:=h1;exact .inl ⟨r2,0,cs,ty,(0,0),[],vs,post,by simp [nuP2],q1,by simpa using q2,rfl,T.rel_mono (fun i p e=>by cases e) q3,fun _=>⟨rfl,rfl⟩⟩
def xm (k:Nat):U:=K (-128)+kk k
theorem xm_one (k:Nat):xm k+K 1=xm (k+1):=by
 unfold xm;rw [BitVec.add_assoc,kk_one]
theorem xm_lt:∀k:Fin 128,BitVec.slt (xm k.val) (K 0)=true:=by decide +kernel
theorem same12 {w:World} {r1 r2:Nat} {s:VF} {q:QF} (hR:Rel23 s q) (hne:r1≠r2) (h0:Holds w r1 s.t) (h1:Holds w r2 q.t):Calls Tryz.prog 12 #[.pointer (some ⟨r1,0,none⟩),.pointer (some ⟨r2,0,none⟩)] w fun e w'=>e = .returned (.bool true)/\Below w.heap.size w w':=by
 have X:=fun T=>XK (ΓB2_ok T);have st:OwnG fp12 2 (mS2 s q) w [(0,r1),(1,r2)] [] vS2 { tmps := #[.pointer (some ⟨r1,0,none⟩),.pointer (some ⟨r2,0,none⟩)]++Array.replicate (Tryz.f12.ntmps-2) undef,defers:=[] } w:=
  OwnG.enterA (fp:=fp12) (args:=[pt 0,pt 1]) (vs:=[.pointer (some ⟨r1,0,none⟩),.pointer (some ⟨r2,0,none⟩)]) [] (mem_pp hne h0 h1) (fun p hp=>by
   simp only [List.mem_cons,List.not_mem_nil,or_false] at hp;rcases hp with rfl|rfl<;>rfl) (fun id q base h=>by
   rcases nuP2_some h with ⟨rfl,rfl,_⟩|⟨rfl,rfl,_⟩
   · exact .inl (.head _)
   · exact .inl (.tail _ (.head _))) ⟨by
     show (A.ptr 0 []).rel _ _;simp only [A.rel];exact ⟨r1,0,rfl,rfl⟩,by
     show (A.ptr 1 []).rel _ _;simp only [A.rel];exact ⟨r2,0,rfl,rfl⟩,trivial⟩ (by show 2≤51;decide)
 have hK:∀p,p∈[(0,r1),(1,r2)]->p.1<2:=fun p hp=>by
  simp only [List.mem_cons,List.not_mem_nil,or_false] at hp;rcases hp with rfl|rfl
  · show 0<2;decide
  · show 1<2;decide
 have l5:LessA (vS2i 5 (.lit .i64 0)) (vS2i 5 (.i .i64 (kk 0))):=fun ν=>⟨rfl,same_rel,rfl,same_rel,rfl,lit_less rfl,trivial⟩;have l6:LessA (vS2i 6 (.lit .i64 (-128))) (vS2i 6 (.i .i64 (xm 0))):=fun ν=>⟨rfl,same_rel,rfl,same_rel,rfl,lit_less rfl,trivial⟩;refine calls_phases Tryz.func12 body12 ?_;rw [c12_eq];refine wp_two (OwnG.go (X 0) rfl (mq0_ev s q) (mq0_w s q) rfl rfl rfl hK (by kernel_rfl) (LessA.refl _) (LessM.refl _) st) fun a w1 hI => ?_
 refine wp_then (K:=fun a w1=>OwnG fp12 2 (mS2 s q) w [(0,r1),(1,r2)] [] vS2 a w1) ?_ fun a w1 hI => ?_
 · refine wp_two (OwnG.go (X 0) rfl (mq1_ev s q) (mq1_w s q) rfl rfl rfl hK (by kernel_rfl) l5 (LessM.refl _) hI) fun a w1 hI => ?_
   refine for_any (fun k a w1=>OwnG fp12 2 (mS2 s q) w [(0,r1),(1,r2)] [] (vS2i 5 (.i .i64 (kk k))) a w1) 11 ?_ hI;intro k hk a w1 hI;rw [mqL_eq];by_cases hlt:k<11
   · obtain ⟨_,_,e3,e4⟩:=reg_kk ⟨k,hlt⟩;refine wp_two (OwnG.goB (X 0) rfl ((mqh_c s q (kk k)).trans (congrArg some e4)) (mqh_t s q _) (mqh_tw s q _) rfl rfl rfl hK (by kernel_rfl) (LessA.refl _) (LessM.refl _) hI) fun a w1 hI => ?_
     refine wp_two (wp_in (OwnG.goB (X 0) rfl ((mqb_c s q (kk k)).trans (by rw [hR.regs,regEq_true s.regs hlt];rfl)) (mqb_f s q _) (mqb_w s q _) e3 rfl rfl hK (by kernel_rfl) (LessA.refl _) (LessM.refl _) hI)) fun a w1 hI => ?_
     refine wp_mono (OwnG.go (X 0) rfl (mqi_ev s q _) (mqi_w s q _) rfl rfl rfl hK (by kernel_rfl) (LessA.refl _) (LessM.refl _) hI) ?_
     rintro x' a' w' ⟨rfl,hI⟩;refine ⟨hlt,?_⟩;rw [← kk_one];exact hI
   · obtain rfl:k=11:=by omega
     refine wp_seq (wp_mono (OwnG.outB (X 0) rfl ((mqh_c s q (kk 11)).trans rfl) (mqh_f s q _) (mqh_fw s q _) rfl rfl rfl hK (by kernel_rfl) (LessA.refl _) (LessM.refl _) hI) ?_)
     rintro x' a' w' ⟨rfl,hI⟩;exact hI
 refine wp_then (K:=fun a w1=>OwnG fp12 2 (mS2 s q) w [(0,r1),(1,r2)] [] vS2 a w1) ?_ fun a w1 hI => ?_
 · refine wp_two (OwnG.go (X 0) rfl (mq6_ev s q) (mq6_w s q) rfl rfl rfl hK (by kernel_rfl) l6 (LessM.refl _) hI) fun a w1 hI => ?_
   refine for_any (fun k a w1=>OwnG fp12 2 (mS2 s q) w [(0,r1),(1,r2)] [] (vS2i 6 (.i .i64 (xm k))) a w1) 128 ?_ hI;intro k hk a w1 hI;rw [mqM_eq];by_cases hlt:k<128
   · refine wp_two (OwnG.goB (X 0) rfl ((mqH_c s q (xm k)).trans (congrArg some (xm_lt ⟨k,hlt⟩))) (mqH_t s q _) (mqH_tw s q _) rfl rfl rfl hK (by kernel_rfl) (LessA.refl _) (LessM.refl _) hI) fun a w1 hI => ?_
     refine wp_then (K:=fun a w1=>OwnG fp12 2 (mS2 s q) w [(0,r1),(1,r2)] [] (vS2i 6 (.i .i64 (xm k))) a w1) ?_ fun a w1 hI => ?_
     · by_cases hz:bytesE s.how (atX (xm k)) 1=K 0
       · refine wp_mono (wp_in (OwnG.goB (X 1000) rfl ((mqB_c0 s q (xm k)).trans (by rw [rel_flat hR,bne_self_eq_false];rfl)) (mqB_f0 s q _) (mqB_w0 s q _) (by
          show ((bytesE s.how (atX (xm k)) 1==K 0)&&(bytesE q.how (atX (xm k)) 1==K 0))=true;rw [rel_how hR,hz];rfl) rfl rfl hK (by kernel_rfl) (LessA.refl _) (LessM.refl _) hI)) ?_
         rintro x' a' w' ⟨rfl,hI⟩;exact hI
       · have hz':(bytesE s.how (atX (xm k)) 1 != K 0)=true:=bne_iff_ne.2 hz;refine wp_mono (wp_in (OwnG.goB (X 0) rfl ((mqB_c1 s q (xm k)).trans (by rw [rel_how hR,bne_self_eq_false];rfl)) (mqB_f1 s q _) (mqB_w1 s q _) (by
          show cond (bytesE s.how (atX (xm k)) 1 != bytesE q.how (atX (xm k)) 1) _ _=true;rw [rel_how hR,hz',bne_self_eq_false];rfl) rfl rfl hK (by kernel_rfl) (LessA.refl _) (LessM.refl _) hI)) ?_
         rintro x' a' w' ⟨rfl,hI⟩;exact hI
     refine wp_mono (OwnG.go (X 0) rfl (mqI_ev s q _) (mqI_w s q _) rfl rfl rfl hK (by kernel_rfl) (LessA.refl _) (LessM.refl _) hI) ?_
     rintro x' a' w' ⟨rfl,hI⟩;refine ⟨hlt,?_⟩;rw [← xm_one];exact hI
   · obtain rfl:k=128:=by omega
     refine wp_seq (wp_mono (OwnG.outB (X 0) rfl ((mqH_c s q (xm 128)).trans rfl) (mqH_f s q _) (mqH_fw s q _) rfl rfl rfl hK (by kernel_rfl) (LessA.refl _) (LessM.refl _) hI) ?_)
     rintro x' a' w' ⟨rfl,hI⟩;exact hI
 refine OwnG.retP (X 0) rfl rfl (mq14_w s q) (mq14_ev s q) rfl rfl (by kernel_rfl) hI fun ν u w' hu hb _ => ?_
 have hu:A.tt.rel ν u:=hu;simp only [A.rel] at hu;subst hu;exact ⟨rfl,hb.below⟩
def sameSp:List V->H->Option R
 | [.t (.a (.ptr i [])),.t (.a (.ptr j []))],h=>match vfOf h i,qfOf h j,Nat.beq i j with
   | some s,some q,false=>some (.leaf (.b (dec (Rel23 s q))) (one .tt) (h.sees [i,j]))
   | _,_,_=>none
 | _,_=>none
theorem sameSp_inv {args:List V} {h:H} {r:R} (e:sameSp args h=some r):∃i j s q,args=[pt i,pt j]/\vfOf h i=some s/\qfOf h j=some q/\i≠j/\r = .leaf (.b (dec (Rel23 s q))) (one .tt) (h.sees [i,j]):=by
 unfold sameSp at e;split at e
 · split at e
   · rename_i h1 h2 h3;cases e;exact ⟨_,_,_,_,rfl,h1,h2,(fun e=>by rw [e,Nat.beq_refl] at h3;cases h3),rfl⟩
   · cases e
 · cases e
theorem same12_ok:AnyOK Tryz.prog 12 sameSp where
 ent:=enters_of entK 12 _ Tryz.func12 (by simp [Tryz.f12])
 ok:=by
  intro args h r ok v h' he hp hok;obtain ⟨i,j,s,q,rfl,h1,h2,hne,rfl⟩:=sameSp_inv he;simp only [R.pick,oI,pI] at hp;obtain ⟨rfl,rfl,rfl⟩:=hp;have hR:Rel23 s q:=of_dec hok;refine fn_calm [i,j] fun S ν w us hm hS hus => ?_
  match us,hus with
  | [u0,u1],⟨q0,q1,_⟩=>
    obtain ⟨r1,e1,hh1,rfl⟩:=ptr_here hm (vfOf_some h1) (hS i (.head _)) rfl rfl q0;obtain ⟨r2,e2,hh2,rfl⟩:=ptr_here hm (qfOf_some h2) (hS j (.tail _ (.head _))) rfl rfl q1;have hrr:r1≠r2:=by rintro rfl;exact hne (hm.nums.inj i _ (vfOf_some h1) rfl j r1 0 0 e1 e2).symm
    refine (same12 hR hrr hh1 hh2).mono ?_;rintro e w' ⟨rfl,hb⟩;refine ⟨_,rfl,?_,hb⟩;show A.tt.rel ν _;simp only [A.rel]
 pan:=by intro args h r ok v h' he hp hok;obtain ⟨i,j,s,q,rfl,h1,h2,hne,rfl⟩:=sameSp_inv he;simp [R.pickP] at hp
 ext:=by intro args h r he hlo;obtain ⟨i,j,s,q,rfl,h1,h2,hne,rfl⟩:=sameSp_inv he;exact sees_ext _ h
end Go.WE
end
