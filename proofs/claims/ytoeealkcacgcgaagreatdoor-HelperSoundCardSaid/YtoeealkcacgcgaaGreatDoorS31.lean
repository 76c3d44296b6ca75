/- A part of a proof of the helpers' law; no condition of its own. -/
import Derived.Test.YtoeealkcacgcgaaGreatDoorS18
import Derived.Test.YtoeealkcacgcgaaGreatDoorS30
set_option linter.unusedVariables false
set_option maxRecDepth 100000
noncomputable section
namespace Go.WE
open Go Go.Proofs Go.RowKit
theorem goes_add {S:Nat->Prop} {ν ν1:Nu} {w w':World} {h h1:H} {b:Nat} {t:T} (hf:t.free=true) (g:Goes S ν w h ν1 w' h1) (hge:w.heap.size≤b) (hh:Holds w' b t) (hfree:∀id base,ν1 id≠some (b,base)):Goes S ν w h (upd ν1 h1.next (b,0)) w' (h1.new ⟨true,t⟩):=by
 obtain ⟨cs,ty,vs,post,hcell,hcs,ht⟩:=hh;have hm:=g.mem;have hlt:b<w'.heap.size:=(Array.getElem?_eq_some_iff.1 hcell).1;have hn:ν1 h1.next=none:=hm.nums.fresh _ (Nat.le_refl _);have hle:=le_upd (p:=(b,0)) hn;have hget:∀id,(h1.new ⟨true,t⟩).m.get id=if h1.next=id then some ⟨true,t⟩ else h1.m.get id:=fun id=>Tr.get_set _ _ _ _
 have hnx:h.next≤h1.next:=g.ext.next;refine ⟨fun id p hi=>hle _ _ (g.le id p hi),⟨⟨?_,?_,?_,?_,?_,fun g' hg=>hle _ _ (hm.nums.glob g' hg)⟩,?_⟩,⟨g.frm.os,g.frm.tape,g.frm.output,g.frm.size,fun r hr hx=>g.frm.block r hr fun id base hi=>hx id base hi⟩,?_,g.ext.trans (new_ext hm.nums.lo _),?_⟩
 · intro id r base hi;unfold upd at hi;split at hi
   · simp at hi;omega
   · exact hm.nums.lt id r base hi
 · intro id b' hb' hrw id' r base base' h1' h2';rw [hget] at hb';unfold upd at h1' h2';split at h1'<;>split at h2'
   · omega
   · simp at h1';obtain ⟨rfl,rfl⟩:=h1';exact absurd h2' (hfree _ _)
   · simp at h2';obtain ⟨rfl,rfl⟩:=h2';exact absurd h1' (hfree _ _)
   · rename_i e1 e2;rw [if_neg (fun e=>e1 e.symm)] at hb';exact hm.nums.inj id b' hb' hrw id' r base base' h1' h2'
 · intro id hi;have hi:h1.next+1≤id:=hi;unfold upd;rw [if_neg (by omega)]
   exact hm.nums.fresh id (by omega)
 · intro id b hb;show id<h1.next+1;rw [hget] at hb;split at hb
   · omega
   · have:=hm.nums.bound id b hb;omega
 · have:=hm.nums.lo;show h1.lo≤h1.next+1;omega
 · intro id b' hb' hS;rw [hget] at hb';split at hb'
   · rename_i e;subst e;simp at hb';subst hb';exact .inl ⟨b,0,cs,ty,(0,0),[],vs,post,by simp [upd],hcell,by simpa using hcs,rfl,T.rel_free hf ht,fun _=>⟨rfl,rfl⟩⟩
   · exact (hm.seen id b' hb' hS).mono hle fun r base hi=>rfl
 · intro id r base hn' hi;unfold upd at hi;split at hi
   · simp at hi;omega
   · exact g.new id r base hn' hi
 · intro id hi;unfold upd;rw [if_neg (by omega)]
   exact g.old id hi
theorem fn_made4 {P:Program} {f:Nat} {args:List V} {h:H} {t1 t2 t3 t4:T} (f1:t1.free=true) (f2:t2.free=true) (f3:t3.free=true) (f4:t4.free=true) (ids:List Nat)
 (H:∀S ν w us,Mem S ν w h->(∀i,i∈ids->S i\/h.lo≤i)->relV ν args us->Calls P f us.toArray w fun e w'=>∃B1 B2 B3 B4,e = .returned (.tuple #[.pointer (some ⟨B1,0,none⟩),.pointer (some ⟨B2,0,none⟩),.pointer (some ⟨B3,0,none⟩),.pointer (some ⟨B4,0,none⟩)])/\Below w.heap.size w w' /\
   (w.heap.size≤B1/\w.heap.size≤B2/\w.heap.size≤B3/\w.heap.size≤B4)/\(B1≠B2/\B1≠B3/\B1≠B4/\B2≠B3/\B2≠B4/\B3≠B4)/\Holds w' B1 t1/\Holds w' B2 t2/\Holds w' B3 t3/\Holds w' B4 t4) :
 FnOK P f args h (.tup [.a (.ptr h.next []),.a (.ptr (h.next+1) []),.a (.ptr (h.next+2) []),.a (.ptr (h.next+3) [])]) (((((h.sees ids).new ⟨true,t1⟩).new ⟨true,t2⟩).new ⟨true,t3⟩).new ⟨true,t4⟩):=by
 intro S ν w us hrd _ hm hv;have hrd':∀i,i∈(h.sees ids).rd->S i:=hrd;refine (H S ν w us hm (sees_seen hrd') hv).mono ?_;rintro e w' ⟨B1,B2,B3,B4,rfl,hb,⟨l1,l2,l3,l4⟩,⟨n12,n13,n14,n23,n24,n34⟩,H1,H2,H3,H4⟩;have g0:=(goes_calm hm hb).trans ((goes_calm hm hb).mem.sees ids);have hx:=sees_next ids h;have nb:∀id base B,w.heap.size≤B->ν id≠some (B,base):=fun id base B hB e=>by have:=hm.nums.lt id B base e;omega
 have g1:=goes_add f1 g0 l1 H1 (fun id base=>nb id base B1 l1);have g2:=goes_add f2 g1 l2 H2 (fun id base=>by
  unfold upd;split
  · simp;intro e;exact absurd e n12
  · exact nb id base B2 l2)
 have g3:=goes_add f3 g2 l3 H3 (fun id base=>by
  unfold upd;split
  · simp;intro e;exact absurd e n23
  · split
    · simp;intro e;exact absurd e n13
    · exact nb id base B3 l3)
 have g4:=goes_add f4 g3 l4 H4 (fun id base=>by
  unfold upd;split
  · simp;intro e;exact absurd e n34
  · split
    · simp;intro e;exact absurd e n24
    · split
      · simp;intro e;exact absurd e n14
      · exact nb id base B4 l4)
 have e1:((h.sees ids).new ⟨true,t1⟩).next=h.next+1:=by show (h.sees ids).next+1=_;rw [hx]
 have e2:(((h.sees ids).new ⟨true,t1⟩).new ⟨true,t2⟩).next=h.next+2:=by show ((h.sees ids).new ⟨true,t1⟩).next+1=_;rw [e1]
 have e3:((((h.sees ids).new ⟨true,t1⟩).new ⟨true,t2⟩).new ⟨true,t3⟩).next=h.next+3:=by show (((h.sees ids).new ⟨true,t1⟩).new ⟨true,t2⟩).next+1=_;rw [e2]
 refine ⟨_,_,rfl,?_,g4⟩;rw [e1,e2,e3,hx];refine ⟨_,rfl,?_,?_,?_,?_,trivial⟩
 · show (A.ptr h.next []).rel _ _;simp only [A.rel];exact ⟨B1,0,by simp [upd],by simp [pathOff]⟩
 · show (A.ptr (h.next+1) []).rel _ _;simp only [A.rel];exact ⟨B2,0,by simp [upd],by simp [pathOff]⟩
 · show (A.ptr (h.next+2) []).rel _ _;simp only [A.rel];exact ⟨B3,0,by simp [upd],by simp [pathOff]⟩
 · show (A.ptr (h.next+3) []).rel _ _;simp only [A.rel];exact ⟨B4,0,by simp [upd],by simp [pathOff]⟩
theorem y39_ev (kn:TW->Nat->RW) (n:Nat) (D:DF) (nt:Nat) (F:TF) (s:VF) (q:QF) (f g:FSt):endM fp7.km [4,5,6,7] [0,1,2,3,4,5] 6 (ev7 kn 0 y39 (vS n nt) (mS n D nt F s q f g) 6).pick=some ⟨.ret,.tt,[(4,pt 2),(5,pt 3),(6,pt 4),(7,pt 5)],mS n D nt F s q f g⟩:=by kernel_rfl
theorem body7:Tryz.f7.body=some c7:=by kernel_rfl
theorem OwnL.block {fp:Fp} {n:Nat} {ms:List (Nat×Blk)} {W:World} {ν:Nu} {l:List (Nat×V)} {a:Act} {w:World} (hs:Stand fp ν (hM ms n) l a w) (hn:∀id r base,ν id=some (r,base)->W.heap.size≤r\/∀b,(hM ms n).m.get id=some b->b.rw=false) {id:Nat} {t:T} (hg:(hM ms n).m.get id=some ⟨true,t⟩) (hmp:notMp t=true) (hf:t.free=true) {u:Value} (hu:(pt id).rel ν u) :
 ∃r,u = .pointer (some ⟨r,0,none⟩)/\W.heap.size≤r/\Holds w r t/\ν id=some (r,0):=by
 have hu:(A.ptr id []).rel ν u:=hu;simp only [A.rel] at hu;obtain ⟨r,base,e1,rfl⟩:=hu;have hsn:=hs.mem.seen id _ hg (.inl trivial);obtain ⟨r',base',cs,ty,fr,pre,vs,post,q1,q2,q3,q4,q5,q6⟩:=hsn.cells hmp;rw [e1] at q1;cases q1;obtain ⟨rfl,rfl⟩:=q6 rfl;refine ⟨r,rfl,?_,seen_holds hsn hmp hf e1,e1⟩;rcases hn id r _ e1 with h|h
 · exact h
 · have:=h _ hg;cases this
theorem OwnL.left4 {P:Program} {fn:Func} {fp:Fp} {n:Nat} {ms:List (Nat×Blk)} {W:World} {i1 i2 i3 i4:Nat} {t1 t2 t3 t4:T} {a:Act} {w:World} {R:Ending->World->Prop} (h:OwnL fp n ms W [(4,pt i1),(5,pt i2),(6,pt i3),(7,pt i4)] a w) (hr:fn.results = #[.tmp 4,.tmp 5,.tmp 6,.tmp 7])
 (g1:(hM ms n).m.get i1=some ⟨true,t1⟩) (g2:(hM ms n).m.get i2=some ⟨true,t2⟩) (g3:(hM ms n).m.get i3=some ⟨true,t3⟩) (g4:(hM ms n).m.get i4=some ⟨true,t4⟩) (m1:notMp t1=true) (m2:notMp t2=true) (m3:notMp t3=true) (m4:notMp t4=true) (f1:t1.free=true) (f2:t2.free=true) (f3:t3.free=true) (f4:t4.free=true)
 (hd:i1≠i2/\i1≠i3/\i1≠i4/\i2≠i3/\i2≠i4/\i3≠i4)
 (hR:∀B1 B2 B3 B4,Below W.heap.size W w->(W.heap.size≤B1/\W.heap.size≤B2/\W.heap.size≤B3/\W.heap.size≤B4)->(B1≠B2/\B1≠B3/\B1≠B4/\B2≠B3/\B2≠B4/\B3≠B4)->Holds w B1 t1->Holds w B2 t2->Holds w B3 t3->Holds w B4 t4 ->
   R (.returned (.tuple #[.pointer (some ⟨B1,0,none⟩),.pointer (some ⟨B2,0,none⟩),.pointer (some ⟨B3,0,none⟩),.pointer (some ⟨B4,0,none⟩)])) w):bodyPostD P fn R .ret a w:=by
 obtain ⟨ν,hs,hb,hn⟩:=h;obtain ⟨B1,e1,l1,H1,v1⟩:=OwnL.block hs hn g1 m1 f1 (hs.slots 4 _ (.head _));obtain ⟨B2,e2,l2,H2,v2⟩:=OwnL.block hs hn g2 m2 f2 (hs.slots 5 _ (.tail _ (.head _)));obtain ⟨B3,e3,l3,H3,v3⟩:=OwnL.block hs hn g3 m3 f3 (hs.slots 6 _ (.tail _ (.tail _ (.head _))));obtain ⟨B4,e4,l4,H4,v4⟩:=OwnL.block hs hn g4 m4 f4 (hs.slots 7 _ (.tail _ (.tail _ (.tail _ (.head _)))));have ne:∀{i j r r':Nat} {t:T},(hM ms n).m.get i=some ⟨true,t⟩->i≠j->ν i=some (r,0)->ν j=some (r',0)->r≠r':=fun {i j r r' t} hg hij h1 h2 e=>by subst e;exact hij (hs.mem.nums.inj i _ hg rfl j r 0 0 h1 h2).symm
 have hl:Leaves P fn a.tmps R a.defers .returning w:=by rw [hs.defers];refine ⟨_,?_,hR B1 B2 B3 B4 hb ⟨l1,l2,l3,l4⟩ ⟨ne g1 hd.1 v1 v2,ne g1 hd.2.1 v1 v3,ne g1 hd.2.2.1 v1 v4,ne g2 hd.2.2.2.1 v2 v3,ne g2 hd.2.2.2.2.1 v2 v4,ne g3 hd.2.2.2.2.2 v3 v4⟩ H1 H2 H3 H4⟩;rw [← e1,← e2,← e3,← e4];simp [results,hr]
 exact hl
def nuL2 (b0 o0 b1 o1:Nat):Nu:=fun i=>if i=0 then some (b0,o0) else if i=1 then some (b1,o1) else none
theorem nuL2_some {b0 o0 b1 o1 i r base:Nat} (h:nuL2 b0 o0 b1 o1 i=some (r,base)):(i=0/\r=b0/\base=o0)\/(i=1/\r=b1/\base=o1):=by
 unfold nuL2 at h;split at h
 · simp at h;exact .inl ⟨by assumption,h.1.symm,h.2.symm⟩
 · split at h
   · simp at h;exact .inr ⟨by assumption,h.1.symm,h.2.symm⟩
   · cases h
theorem mem_l2 {w:World} {b0 o0 b1 o1:Nat} {t0 t1:T} (h0:HoldsAt w b0 o0 t0) (h1:HoldsAt w b1 o1 t1):Mem (fun _=>True) (nuL2 b0 o0 b1 o1) w (hM [(0,⟨false,t0⟩),(1,⟨false,t1⟩)] 2):=by
 have hget:∀i x,(hM [(0,⟨false,t0⟩),(1,⟨false,t1⟩)] 2).m.get i=some x->(i=0/\x=⟨false,t0⟩)\/(i=1/\x=⟨false,t1⟩):=fun i x e=>by have:=get_memT _ i x e;simp only [List.mem_cons,List.not_mem_nil,or_false,pI] at this;exact this
 refine ⟨⟨fun i r' b' e => ?_,fun i x e hrw => ?_,fun i hi => ?_,fun i x e => ?_,Nat.le_refl _,fun g hg=>(by cases hg)⟩,fun i x e _ => ?_⟩
 · rcases nuL2_some e with ⟨_,rfl,_⟩|⟨_,rfl,_⟩
   · exact h0.lt
   · exact h1.lt
 · rcases hget i x e with ⟨_,rfl⟩|⟨_,rfl⟩<;>cases hrw
 · have hi:2≤i:=hi;unfold nuL2;rw [if_neg (by omega),if_neg (by omega)]
 · rcases hget i x e with ⟨rfl,_⟩|⟨rfl,_⟩<;>(show _<2;decide)
 · rcases hget i x e with ⟨rfl,rfl⟩|⟨rfl,rfl⟩
   · obtain ⟨cs,ty,fr,pre,vs,post,q1,q2,q3,q4⟩:=h0;exact .inl ⟨b0,o0,cs,ty,fr,pre,vs,post,by simp [nuL2],q1,q2,q3,T.rel_mono (fun i p e=>by cases e) q4,fun h=>by cases h⟩
   · obtain ⟨cs,ty,fr,pre,vs,post,q1,q2,q3,q4⟩:=h1;exact .inl ⟨b1,o1,cs,ty,fr,pre,vs,post,by simp [nuL2],q1,q2,q3,T.rel_mono (fun i p e=>by cases e) q4,fun h=>by cases h⟩
theorem mem_mD {n:Nat} {D:DF} {nt:Nat} {F:TF} (id:Nat) (b:Blk) (h:(hM (mD n D nt F) 2).m.get id=some b):b.rw=false:=by
 have:=get_memT _ id b h;unfold mD at this;simp only [List.mem_cons,List.not_mem_nil,or_false,pI] at this;rcases this with ⟨_,rfl⟩|⟨_,rfl⟩<;>rfl
section
variable {kn:TW->Nat->RW}
theorem states7 (hK:AnyOK Tryz.prog 30 (knoSp kn)) (hk:∀t n,(kn t n).k=kdU t.k) {n nt:Nat} {D:DF} {F:TF} (h1:1≤n) (h2:n≤10) (hnt:nt≤60) {w:World} {b0 o0 c0 b1 o1 c1:Nat} (hc0:n≤c0) (hc1:nt≤c1) (H0:HoldsAt w b0 o0 (D.arr n)) (H1:HoldsAt w b1 o1 (F.arr nt)) :
 Calls Tryz.prog 7 #[.slice (some ⟨b0,o0,none⟩) n c0,.slice (some ⟨b1,o1,none⟩) nt c1] w fun e w'=>∃B1 B2 B3 B4,e = .returned (.tuple #[.pointer (some ⟨B1,0,none⟩),.pointer (some ⟨B2,0,none⟩),.pointer (some ⟨B3,0,none⟩),.pointer (some ⟨B4,0,none⟩)])/\Below w.heap.size w w' /\
  (w.heap.size≤B1/\w.heap.size≤B2/\w.heap.size≤B3/\w.heap.size≤B4)/\(B1≠B2/\B1≠B3/\B1≠B4/\B2≠B3/\B2≠B4/\B3≠B4)/\Holds w' B1 (foldV n F nt).t/\Holds w' B2 (foldQ n F nt).t/\Holds w' B3 (foldF kn n F nt).t/\Holds w' B4 (foldF kn n F nt).t:=by
 have X:=XK (ΓS0_ok hK (j:=0) (by decide))
 have st:OwnL fp7 2 (mD n D nt F) w (vA n nt) { tmps := #[.slice (some ⟨b0,o0,none⟩) n c0,.slice (some ⟨b1,o1,none⟩) nt c1]++Array.replicate (Tryz.f7.ntmps-2) undef,defers:=[] } w:=
  OwnL.enterA (fp:=fp7) (args:=[slD n,slT nt]) (vs:=[.slice (some ⟨b0,o0,none⟩) n c0,.slice (some ⟨b1,o1,none⟩) nt c1]) (mem_l2 H0 H1) (fun id q base h b hb=>mem_mD (n:=n) (D:=D) (nt:=nt) (F:=F) id b hb) ⟨by
   show (A.sl 0 [] 5 (.lit 0) (.sym n) none).rel _ _;simp only [A.rel];exact ⟨b0,o0,o0,c0,by simp [nuL2],rfl,fun _=>by simp [pathOff,Ix.val],hc0,fun _ e=>by cases e⟩,by
   show (A.sl 1 [] 8 (.lit 0) (.sym nt) none).rel _ _;simp only [A.rel];exact ⟨b1,o1,o1,c1,by simp [nuL2],rfl,fun _=>by simp [pathOff,Ix.val],hc1,fun _ e=>by cases e⟩,trivial⟩ (by show 2≤158;decide)
 refine calls_phases Tryz.func7 body7 ?_;rw [c7_eq];refine wp_two (OwnL.go X rfl (y0_ev kn n D nt F) rfl rfl rfl (by kernel_rfl) (LessA.refl _) (LessM.refl _) st) fun a w1 hI => ?_
 refine wp_two (OwnL.go X rfl (y1_ev kn n D nt F) rfl rfl rfl (by kernel_rfl) (LessA.refl _) (LessM.refl _) hI) fun a w1 hI => ?_
 refine wp_two (OwnL.go X rfl (y2_ev kn n D nt F) rfl rfl rfl (by kernel_rfl) (LessA.refl _) (LessM.refl _) hI) fun a w1 hI => ?_
 refine wp_two (OwnL.go X rfl (y3_ev kn n D nt F) rfl rfl rfl (by kernel_rfl) (LessA.refl _) (LessM.refl _) hI) fun a w1 hI => ?_
 refine wp_two (OwnL.go X rfl (y4_ev kn n D nt F) rfl rfl rfl (by kernel_rfl) (LessA.refl _) (LessM.refl _) hI) fun a w1 hI => ?_
 have lI:LessA (vI n nt (.lit .i64 0)) (vI n nt (.i .i64 (kk 0))):=fun ν=>⟨rfl,same_rel,rfl,same_rel,rfl,same_rel,rfl,same_rel,rfl,same_rel,rfl,same_rel,rfl,lit_less rfl,trivial⟩;have ont:okB (.b (Nat.blt nt (2 ^ 63)))=true:=nB (by omega)
 refine wp_then (K:=fun a w1=>OwnL fp7 6 (mS n D nt F (foldV n F nt) (foldQ n F nt) (foldF kn n F nt) (foldF kn n F nt)) w (vS n nt) a w1) ?_ fun a w1 hI => ?_
 · refine wp_two (OwnL.go X rfl (y5_ev kn n D nt F _ _ _ _) rfl rfl rfl (by kernel_rfl) lI (LessM.refl _) hI) fun a w1 hI => ?_
   refine for_any (fun k a w1=>OwnL fp7 6 (mS n D nt F (foldV n F k) (foldQ n F k) (foldF kn n F k) (foldF kn n F k)) w (vI n nt (.i .i64 (kk k))) a w1) nt ?_ hI;intro k hkn a w1 hI;rw [yL_eq];by_cases hlt:k<nt
   · refine wp_two (OwnL.goB X rfl ((yh_c kn n D nt F _ _ _ _ (kk k)).trans (by rw [slt_kk (by omega) (by omega),decide_eq_true hlt])) (yh_t kn n D nt F _ _ _ _ _) ont rfl rfl (by kernel_rfl) (LessA.refl _) (LessM.refl _) hI) fun a w1 hI => ?_
     refine wp_two (round7 hK hk h1 h2 hlt hnt (fold_I hk n F k) hI) fun a w1 hI => ?_;refine wp_mono (OwnL.go X rfl (yi_ev kn n D nt F _ _ _ _ _) rfl rfl rfl (by kernel_rfl) (LessA.refl _) (LessM.refl _) hI) ?_
     rintro x' a' w' ⟨rfl,hI⟩;refine ⟨hlt,?_⟩;rw [← kk_one];exact hI
   · obtain rfl:k=nt:=by omega
     refine wp_seq (wp_mono (OwnL.outB X rfl ((yh_c kn n D _ F _ _ _ _ _).trans (by rw [slt_kk (by omega) (by omega),decide_eq_false (by omega)])) (yh_f kn n D _ F _ _ _ _ _) ont rfl rfl (by kernel_rfl) (LessA.refl _) (LessM.refl _) hI) ?_)
     rintro x' a' w' ⟨rfl,hI⟩;exact hI
 · refine OwnL.phase (r:=⟨.ret,.tt,[(4,pt 2),(5,pt 3),(6,pt 4),(7,pt 5)],_⟩) X rfl (y39_ev kn n D nt F _ _ _ _) rfl rfl rfl (by kernel_rfl) (LessA.refl _) (LessM.refl _) hI fun ν' a' w' x' hx' h => ?_
   have hx':x' = .ret:=hx';subst hx';refine OwnL.left4 h rfl (t1:=(foldV n F nt).t) (t2:=(foldQ n F nt).t) (t3:=(foldF kn n F nt).t) (t4:=(foldF kn n F nt).t) rfl rfl rfl rfl rfl rfl rfl rfl rfl rfl rfl rfl (by decide) fun B1 B2 B3 B4 hb hl hd G1 G2 G3 G4 => ?_
   exact ⟨B1,B2,B3,B4,rfl,hb,hl,hd,G1,G2,G3,G4⟩
end
def Made4 (w:World) (t1 t2 t3 t4:T) (e:Ending) (w':World):Prop:=∃B1 B2 B3 B4,e = .returned (.tuple #[.pointer (some ⟨B1,0,none⟩),.pointer (some ⟨B2,0,none⟩),.pointer (some ⟨B3,0,none⟩),.pointer (some ⟨B4,0,none⟩)])/\Below w.heap.size w w' /\
 (w.heap.size≤B1/\w.heap.size≤B2/\w.heap.size≤B3/\w.heap.size≤B4)/\(B1≠B2/\B1≠B3/\B1≠B4/\B2≠B3/\B2≠B4/\B3≠B4)/\Holds w' B1 t1/\Holds w' B2 t2/\Holds w' B3 t3/\Holds w' B4 t4
def get4 (m:Nat) (r:R):Option (A×V×List Nat×List (Option Blk)):=match r.pick with
 | some (ok,v,h)=>some (ok,v,h.wr,[h.m.get m,h.m.get (m+1),h.m.get (m+2),h.m.get (m+3)])
 | none=>none
theorem get4_some {m:Nat} {r:R} {ok:A} {v:V} {wr:List Nat} {l:List (Option Blk)} (h:get4 m r=some (ok,v,wr,l)):∃h',r.pick=some (ok,v,h')/\h'.wr=wr/\[h'.m.get m,h'.m.get (m+1),h'.m.get (m+2),h'.m.get (m+3)]=l:=by
 unfold get4 at h;split at h
 · rename_i ok v h' hp;simp only [oI,pI] at h;obtain ⟨rfl,rfl,rfl,rfl⟩:=h;exact ⟨h',hp,rfl,rfl⟩
 · cases h
theorem calls_made4 {P:Program} {f m:Nat} {args:List V} {h':H} {t1 t2 t3 t4:T} (hf:FnOK P f args (hM [] m) (.tup [.a (.ptr m []),.a (.ptr (m+1) []),.a (.ptr (m+2) []),.a (.ptr (m+3) [])]) h')
 (g1:h'.m.get m=some ⟨true,t1⟩) (g2:h'.m.get (m+1)=some ⟨true,t2⟩) (g3:h'.m.get (m+2)=some ⟨true,t3⟩) (g4:h'.m.get (m+3)=some ⟨true,t4⟩) (n1:notMp t1=true) (n2:notMp t2=true) (n3:notMp t3=true) (n4:notMp t4=true) (f1:t1.free=true) (f2:t2.free=true) (f3:t3.free=true) (f4:t4.free=true)
 {ν:Nu} {w:World} (hm:Mem (fun _=>True) ν w (hM [] m)) (hw:h'.wr=[]) {us:List Value} (ha:relV ν args us):Calls P f us.toArray w (Made4 w t1 t2 t3 t4):=by
 refine (hf (fun _=>True) ν w us (fun _ _=>trivial) (fun _ _=>trivial) hm ha).mono ?_;rintro e w' ⟨u,ν',rfl,hu,g⟩;obtain ⟨xs,rfl,hx⟩:=hu
 match xs,hx with
 | ⟨[u1,u2,u3,u4]⟩,hx=>
   obtain ⟨r1,r2,r3,r4,_⟩:=hx;have key:∀{i:Nat} {t:T} {u:Value},h'.m.get i=some ⟨true,t⟩->notMp t=true->t.free=true->m≤i->(V.t (.a (.ptr i []))).rel ν' u->∃B,u = .pointer (some ⟨B,0,none⟩)/\w.heap.size≤B/\Holds w' B t/\ν' i=some (B,0):=fun {i t u} hg hn hf hi hr=>by have hr:(A.ptr i []).rel ν' u:=hr;simp only [A.rel] at hr;obtain ⟨r,base,e1,rfl⟩:=hr;have hsn:=g.mem.seen i _ hg (.inl trivial);obtain ⟨r',base',cs,ty,fr,pre,vs,post,q1,q2,q3,q4,q5,q6⟩:=hsn.cells hn;rw [e1] at q1;cases q1;obtain ⟨rfl,rfl⟩:=q6 rfl;exact ⟨r,rfl,g.new i r 0 (hm.nums.fresh i hi) e1,seen_holds hsn hn hf e1,e1⟩
   obtain ⟨B1,e1,l1,H1,v1⟩:=key g1 n1 f1 (by omega) r1
   obtain ⟨B2,e2,l2,H2,v2⟩:=key g2 n2 f2 (by omega) r2
   obtain ⟨B3,e3,l3,H3,v3⟩:=key g3 n3 f3 (by omega) r3
   obtain ⟨B4,e4,l4,H4,v4⟩:=key g4 n4 f4 (by omega) r4
   have ne:∀{i j r r':Nat} {t:T},h'.m.get i=some ⟨true,t⟩->i≠j->ν' i=some (r,0)->ν' j=some (r',0)->r≠r':=fun {i j r r' t} hg hij h1 h2 e=>by subst e;exact hij (g.mem.nums.inj i _ hg rfl j r 0 0 h1 h2).symm
   subst e1 e2 e3 e4;refine ⟨B1,B2,B3,B4,rfl,⟨g.frm.os,g.frm.tape,g.frm.output,g.frm.size,fun r hr=>g.frm.block r hr fun id base hid=>⟨?_,by rw [hw];intro h;cases h⟩⟩,⟨l1,l2,l3,l4⟩,⟨ne g1 (by omega) v1 v2,ne g1 (by omega) v1 v3,ne g1 (by omega) v1 v4,ne g2 (by omega) v2 v3,ne g2 (by omega) v2 v4,ne g3 (by omega) v3 v4⟩,H1,H2,H3,H4⟩
   rw [g.ext.lo];refine Classical.byContradiction fun hge => ?_;have hge:¬id<m:=hge;rw [hm.nums.fresh id (show m≤id by omega)] at hid
   cases hid
def ΓS1:Gam:=newΓ 25 (newS1 newVF.t) (newΓ 26 (newS1 newQF.t) (newΓ 27 newS (newΓ 28 newS ΓL)))
theorem ΓS1_ok:ΓOK Tryz.prog ΓS1:=new25_ok (new26_ok (new_ok (new22_ok ΓL_ok)))
abbrev slZ:V:=one (.sl 0 [] 8 (.lit 0) (.lit 0) none)
theorem st_nil:get4 0 (evalF cxK ΓS1 400 20 7 [one .poison,one .nils] (hM [] 0))=some (.tt,.tup [.a (.ptr 0 []),.a (.ptr 1 []),.a (.ptr 2 []),.a (.ptr 3 [])],[],[some ⟨true,newVF.t⟩,some ⟨true,newQF.t⟩,some ⟨true,newFS.t⟩,some ⟨true,newFS.t⟩]):=by kernel_rfl
theorem st_zero:get4 1 (evalF cxK ΓS1 400 20 7 [one .poison,slZ] (hM [] 1))=some (.tt,.tup [.a (.ptr 1 []),.a (.ptr 2 []),.a (.ptr 3 []),.a (.ptr 4 [])],[],[some ⟨true,newVF.t⟩,some ⟨true,newQF.t⟩,some ⟨true,newFS.t⟩,some ⟨true,newFS.t⟩]):=by kernel_rfl
def nuE:Nu:=fun _=>none
theorem mem_z0 (w:World):Mem (fun _=>True) nuE w (hM [] 0):=by
 have hget:∀i x,(hM [] 0).m.get i=some x->False:=fun i x e=>by have:=get_memT [] i x e;cases this
 refine ⟨⟨fun i r b e=>(by cases e),fun i x e=>(hget i x e).elim,fun i hi=>rfl,fun i x e=>(hget i x e).elim,Nat.le_refl _,fun g hg=>(by cases hg)⟩,fun i x e=>(hget i x e).elim⟩
theorem mem_z1 {w:World} {b o:Nat} (hb:b<w.heap.size):Mem (fun _=>True) (nuAt b o) w (hM [] 1):=by
 have hget:∀i x,(hM [] 1).m.get i=some x->False:=fun i x e=>by have:=get_memT [] i x e;cases this
 refine ⟨⟨fun i r b e=>by obtain ⟨_,rfl,_⟩:=nuAt_some e;exact hb,fun i x e=>(hget i x e).elim,fun i hi => ?_,fun i x e=>(hget i x e).elim,Nat.le_refl _,fun g hg=>by cases hg⟩,fun i x e=>(hget i x e).elim⟩
 have hi:1≤i:=hi;unfold nuAt;rw [if_neg (by omega)]
def zeroSl:A->Bool
 | .nils=>true
 | .sl _ [] 8 (.lit 0) (.lit 0) _=>true
 | _=>false
theorem states_zero {S:Nat->Prop} {ν:Nu} {w:World} {h:H} {ta:A} (hz:zeroSl ta=true) (hm:Mem S ν w h) {u0 u1:Value} (hr:ta.rel ν u1):Calls Tryz.prog 7 #[u0,u1] w (Made4 w newVF.t newQF.t newFS.t newFS.t):=by
 unfold zeroSl at hz;split at hz
 · simp only [A.rel] at hr;subst hr;obtain ⟨h',hp,hw,hl⟩:=get4_some st_nil;simp only [List.cons.injEq] at hl;obtain ⟨_,hfn⟩:=evalF_fn (XK ΓS1_ok) rfl hp rfl;refine calls_made4 hfn hl.1 hl.2.1 hl.2.2.1 hl.2.2.2.1 rfl rfl rfl rfl rfl rfl rfl rfl (mem_z0 w) hw (us:=[u0,.slice none 0 0]) ⟨?_,?_,trivial⟩
   · show A.poison.rel nuE u0;simp only [A.rel]
   · show A.nils.rel nuE (.slice none 0 0);simp only [A.rel]
 · simp only [A.rel] at hr;obtain ⟨b,base,o,c,h1,rfl,h3,h4,h5⟩:=hr;obtain ⟨h',hp,hw,hl⟩:=get4_some st_zero;simp only [List.cons.injEq] at hl;obtain ⟨_,hfn⟩:=evalF_fn (XK ΓS1_ok) rfl hp rfl;refine calls_made4 hfn hl.1 hl.2.1 hl.2.2.1 hl.2.2.2.1 rfl rfl rfl rfl rfl rfl rfl rfl (mem_z1 (b:=b) (o:=o) (hm.nums.lt _ _ _ h1)) hw (us:=[u0,.slice (some ⟨b,o,none⟩) 0 c]) ⟨?_,?_,trivial⟩
   · show A.poison.rel (nuAt b o) u0;simp only [A.rel]
   · show (A.sl 0 [] 8 (.lit 0) (.lit 0) none).rel (nuAt b o) (.slice (some ⟨b,o,none⟩) 0 c);simp only [A.rel];exact ⟨b,o,o,c,by simp [nuAt],rfl,fun _=>by simp [pathOff,Ix.val],Nat.zero_le _,fun _ e=>by cases e⟩
 · cases hz
def shTF:Sh->Option TF
 | .st [.int .i64 k,.int .i64 o,.int .i64 m,.int .i64 w,.int .i64 b,.int .u64 v,.int .u64 l,.int .u64 r]=>some ⟨k,o,m,w,b,v,l,r⟩
 | _=>none
theorem shTF_some {s:Sh} {f:TF} (h:shTF s=some f):s=f.s:=by
 unfold shTF at h;split at h
 · cases h;rfl
 · cases h
def tfOf (h:H):A->Option (Nat×Nat×TF×Bool)
 | .sl id [] 8 (.lit 0) (.sym n) _=>match h.m.get id with
   | some ⟨_,.arr 8 (.sym m) s⟩=>match shTF s with
     | some f=>some (id,n,f,Nat.beq m n)
     | none=>none
   | _=>none
 | _=>none
theorem tfOf_some {h:H} {la:A} {id n:Nat} {F:TF} {o:Bool} (e:tfOf h la=some (id,n,F,o)) (ho:o=true):∃c rw,la = .sl id [] 8 (.lit 0) (.sym n) c/\h.m.get id=some ⟨rw,F.arr n⟩:=by
 unfold tfOf at e;split at e
 · rename_i id' n' c;split at e
   · rename_i rw m s hg;split at e
     · rename_i f ht;cases e;have hb:=Nat.eq_of_beq_eq_true ho;subst hb;exact ⟨c,rw,rfl,by rw [hg,shTF_some ht]⟩
     · cases e
   · cases e
 · cases e
structure Sig where
 v:Nat->TF->Nat->VF
 q:Nat->TF->Nat->QF
 f:Nat->TF->Nat->FSt
def new4 (h:H) (a b c d:T):H:=((((h.new ⟨true,a⟩).new ⟨true,b⟩).new ⟨true,c⟩).new ⟨true,d⟩)
def tup4 (n:Nat):V :=.tup [.a (.ptr n []),.a (.ptr (n+1) []),.a (.ptr (n+2) []),.a (.ptr (n+3) [])]
def okSt (n nt:Nat) (o p:Bool):Bool:=(Nat.ble 1 n&&Nat.ble n 10)&&((Nat.ble 1 nt&&Nat.ble nt 60)&&(o&&p))
def stSp (σ:Sig):List V->H->Option R
 | [.t (.a la),.t (.a ta)],h=>match zeroSl ta with
   | true=>some (.leaf .tt (tup4 h.next) (new4 (h.sees []) newVF.t newQF.t newFS.t newFS.t))
   | false=>match dfOf h la,tfOf h ta with
     | some (id,n,_,o),some (id2,nt,F,p)=>some (.leaf (.b (okSt n nt o p)) (tup4 h.next) (new4 (h.sees [id,id2]) (σ.v n F nt).t (σ.q n F nt).t (σ.f n F nt).t (σ.f n F nt).t))
     | _,_=>none
 | _,_=>none
def sigK (kn:TW->Nat->RW):Sig:=⟨foldV,foldQ,foldF kn⟩
theorem new4_ext {h:H} {a b c d:T} (hlo:h.lo≤h.next):Ext h (new4 h a b c d):=by
 have e1:=new_ext hlo ⟨true,a⟩;have e2:=new_ext (h:=h.new ⟨true,a⟩) (by show h.lo≤h.next+1;omega) ⟨true,b⟩
 have e3:=new_ext (h:=(h.new ⟨true,a⟩).new ⟨true,b⟩) (by show h.lo≤h.next+1+1;omega) ⟨true,c⟩
 have e4:=new_ext (h:=((h.new ⟨true,a⟩).new ⟨true,b⟩).new ⟨true,c⟩) (by show h.lo≤h.next+1+1+1;omega) ⟨true,d⟩
 exact ((e1.trans e2).trans e3).trans e4
theorem states_ok {kn:TW->Nat->RW} (hK:AnyOK Tryz.prog 30 (knoSp kn)) (hk:∀t n,(kn t n).k=kdU t.k):AnyOK Tryz.prog 7 (stSp (sigK kn)) where
 ent:=enters_of entK 7 _ Tryz.func7 (by simp [Tryz.f7])
 ok:=by
  intro args h r ok v h' he hp hok;unfold stSp at he;split at he
  · rename_i la ta;split at he
    · rename_i hz;cases he;simp only [R.pick,oI,pI] at hp;obtain ⟨rfl,rfl,rfl⟩:=hp;refine fn_made4 rfl rfl rfl rfl [] fun S ν w us hm hS hus => ?_
      match us,hus with
      | [u0,u1],⟨r0,r1,_⟩=>exact states_zero hz hm r1
    · split at he
      · rename_i id n D o id2 nt F p h1 h2;cases he;simp only [R.pick,oI,pI] at hp;obtain ⟨rfl,rfl,rfl⟩:=hp;have hok:okSt n nt o p=true:=hok;unfold okSt at hok;simp only [bA] at hok;obtain ⟨⟨a1,a2⟩,⟨a3,a4⟩,a5,a6⟩:=hok;have a1:=nL a1;have a2:=nL a2;have a3:=nL a3;have a4:=nL a4;refine fn_made4 rfl rfl rfl rfl [id,id2] fun S ν w us hm hS hus => ?_
        match us,hus with
        | [u0,u1],⟨r0,r1,_⟩=>
          obtain ⟨B0,o0,c0,H0,rfl,hc0,_⟩:=df_here hm h1 a5 (hS id (.head _)) (by omega) r0
          obtain ⟨c,rw,rfl,hg⟩:=tfOf_some h2 a6;obtain ⟨B1,o1,c1,hid,H1,rfl,hc1⟩:=sl_here hm hg (hS id2 (.tail _ (.head _))) rfl rfl (len :=.sym nt) (by show 0<nt;omega) r1
          exact states7 hK hk a1 a2 a4 hc0 hc1 H0 H1
      · cases he
  · cases he
 pan:=by
  intro args h r ok v h' he hp hok;unfold stSp at he;split at he
  · split at he
    · cases he;simp [R.pickP] at hp
    · split at he
      · cases he;simp [R.pickP] at hp
      · cases he
  · cases he
 ext:=by
  intro args h r he hlo;unfold stSp at he;split at he
  · split at he
    · cases he;exact new4_ext hlo
    · split at he
      · cases he;exact (sees_ext _ h).trans (new4_ext (by rw [sees_lo,sees_next];exact hlo))
      · cases he
  · cases he
def obsW (r:R):Option (A×V×List Nat):=match r.pick with
 | some (ok,v,h)=>some (ok,v,h.wr)
 | none=>none
theorem obsW_some {r:R} {ok:A} {v:V} {wr:List Nat} (h:obsW r=some (ok,v,wr)):∃h',r.pick=some (ok,v,h')/\h'.wr=wr:=by
 unfold obsW at h;split at h
 · rename_i ok v h' hp;simp only [oI,pI] at h;obtain ⟨rfl,rfl,rfl⟩:=h;exact ⟨h',hp,rfl⟩
 · cases h
theorem calls_read {P:Program} {f:FuncId} {args:List V} {v:V} {ms:List (Nat×Blk)} {m:Nat} {h':H} (hf:FnOK P f args (hM ms m) v h') {ν:Nu} {w:World} (hm:Mem (fun _=>True) ν w (hM ms m)) (hw:h'.wr=[]) (hv:v.free=true) {us:List Value} (ha:relV ν args us) (ν2:Nu) :
 Calls P f us.toArray w fun e w'=>∃u,e = .returned u/\v.rel ν2 u/\Below w.heap.size w w':=by
 refine (hf (fun _=>True) ν w us (fun _ _=>trivial) (fun _ _=>trivial) hm ha).mono ?_;rintro e w' ⟨u,ν',rfl,hu,g⟩;refine ⟨u,rfl,V.rel_free hv hu,g.frm.os,g.frm.tape,g.frm.output,g.frm.size,fun r hr=>g.frm.block r hr fun id base hid=>⟨?_,by rw [hw];intro h;cases h⟩⟩
 rw [g.ext.lo];refine Classical.byContradiction fun hge => ?_;have hge:¬id<m:=hge;rw [hm.nums.fresh id (show m≤id by omega)] at hid
 cases hid
end Go.WE
namespace Go.WE
open Go Go.Proofs Go.RowKit
open Go.Proofs.YtoeealkcacgcgaaGreatDoor.Wor (numsL fit_w)
theorem pick22 (x:U):obsW (evalF cxK noΓ 400 20 8 [i64 x,one (.lit .i64 22)] (hM [] 0))=some (.tt,i64 (pickU x (K 22)),[]):=by kernel_rfl
theorem pick1000 (x:U):obsW (evalF cxK noΓ 400 20 8 [i64 x,one (.lit .i64 1000)] (hM [] 0))=some (.tt,i64 (pickU x (K 1000)),[]):=by kernel_rfl
theorem pick_at {n:Int} (hn:IntKind.i64.wrap n=n) {x:U} (h:obsW (evalF cxK noΓ 400 20 8 [i64 x,one (.lit .i64 n)] (hM [] 0))=some (.tt,i64 (pickU x (K n)),[])) (w:World):Calls Tryz.prog 8 #[.int .i64 (vof .i64 x),.int .i64 n] w fun e w'=>e = .returned (.int .i64 (vof .i64 (pickU x (K n))))/\Below w.heap.size w w':=by
 obtain ⟨h',hp,hw⟩:=obsW_some h;obtain ⟨_,hfn⟩:=evalF_fn (XK noΓ_ok) rfl hp rfl;refine (calls_read hfn (mem_z0 w) hw rfl (us:=[.int .i64 (vof .i64 x),.int .i64 n]) ⟨?_,?_,trivial⟩ nu0).mono ?_
 · show (A.i .i64 x).rel nuE _;simp only [A.rel]
 · show (A.lit .i64 n).rel nuE _;simp only [A.rel];exact ⟨trivial,hn⟩
 · rintro e w' ⟨u,rfl,hu,hb⟩;have hu:(A.i .i64 (pickU x (K n))).rel nu0 u:=hu;simp only [A.rel] at hu;exact ⟨by rw [hu],hb⟩
def ev13 (n:Nat) (D:DF) (m rno elem:U):R:=evalF cxK noΓ 400 20 13 [one (.sl 0 [] 5 (.lit 0) (.sym n) none),i64 m,resT (.i .i64 rno) .poison (.i .i64 elem)] (hM [(0,⟨false,D.arr n⟩)] 1)
def R.lft:R->Option (Bool×A×V×List Nat)
 | .node c (.leaf ok v h) _=>some (c,ok,v,h.wr)
 | _=>none
theorem lft_some {r:R} {c:Bool} {ok:A} {v:V} {wr:List Nat} (h:r.lft=some (c,ok,v,wr)) (hc:c=true):∃h',r.pick=some (ok,v,h')/\h'.wr=wr:=by
 unfold R.lft at h;split at h
 · simp only [oI,pI] at h;obtain ⟨rfl,rfl,rfl,rfl⟩:=h;subst hc;exact ⟨_,rfl,rfl⟩
 · cases h
def bad4 (m rno:U):Bool:=cond (pickU rno (K 22) != K 0) true (BitVec.slt m (K 1))
def bad6 (n:Nat) (m rno:U):Bool:=cond (bad4 m rno) true (BitVec.slt (kk n) m)
def ixM (m:U):Nat:=0+(m-K 1).toNat
def k910 (D:DF) (m:U):Bool:=cond (D.k (ixM m)==K 9) true (D.k (ixM m)==K 10)
def ok13 (n:Nat) (D:DF) (m rno:U):Bool:=
 let t11:=cond (bad4 m rno) true (Nat.blt n (2 ^ 63))
 let t18:=(t11&&((!(BitVec.msb (m-K 1)))&&Nat.blt (m-K 1).toNat n))&&Nat.blt (ixM m) n
 cond (bad6 n m rno) t11 (cond (k910 D m) t18 t18)
theorem ev13_eq (n:Nat) (D:DF) (m rno elem:U):(ev13 n D m rno elem).lft=some (cond (bad6 n m rno) true ((!(BitVec.slt (K 0) (D.w (ixM m))))&&true),.b (ok13 n D m rno),
 .t (.st [.a (.i .i64 (cond (bad6 n m rno) (pickU rno (K 22)) (cond (k910 D m) (pickU rno (K 22)) (pickU rno (K 22))))),.a .nils,.a (.lit .u64 0),.a (.i .i64 (cond (bad6 n m rno) (K 0) (cond (k910 D m) (D.i (ixM m)) (K 1+pickU elem (K 1000)))))]),[]):=by kernel_rfl
def fitT (no:A) (val:A) (elem:U):V :=.t (.st [.a no,.a val,.a (.lit .u64 0),.a (.i .i64 elem)])
theorem fitT_rel {ν:Nu} {no val:A} {rno el:U} {vv:Value} (h1:no.rel ν (.int .i64 (vof .i64 rno))) (h2:val.rel ν vv) (c2:Cell vv):(fitT no val el).rel ν (resVal rno el vv (.int .u64 0)):=by
 refine ⟨_,rfl,?_⟩;simp only [T.rel,relTs];exact ⟨_,_,rfl,⟨_,rfl,h1,trivial⟩,_,_,rfl,⟨_,rfl,h2,c2⟩,_,_,rfl,⟨.int .u64 0,rfl,by simp only [A.rel];exact ⟨trivial,rfl⟩,trivial⟩,_,_,rfl,⟨.int .i64 (vof .i64 el),rfl,by simp only [A.rel],trivial⟩,rfl⟩
theorem early13 {n:Nat} {D:DF} {m rno elem:U} (hn:n≤10) (hbad:bad6 n m rno=true) {w:World} {b off c:Nat} {vv vk:Value} (cv:Cell vv) (ck:Cell vk) (hc:n≤c) (hH:HoldsAt w b off (D.arr n)) :
 Calls Tryz.prog 13 #[.slice (some ⟨b,off,none⟩) n c,.int .i64 (vof .i64 m),resVal rno elem vv vk] w fun e w'=>e = .returned (resVal (pickU rno (K 22)) (K 0) (.slice none 0 0) (.int .u64 0))/\Below w.heap.size w w':=by
 have he:=ev13_eq n D m rno elem;obtain ⟨h',hp,hw⟩:=lft_some he (by rw [hbad];rfl)
 rw [hbad] at hp;simp only [cond_true] at hp;have hok:okB (.b (ok13 n D m rno))=true:=by
  show ok13 n D m rno=true;unfold ok13;have h63:Nat.blt n (2 ^ 63)=true:=nB (by omega)
  rw [hbad,h63];cases bad4 m rno<;>rfl
 obtain ⟨_,hfn⟩:=evalF_fn (XK noΓ_ok) rfl hp hok;refine (calls_read hfn (mem_at hH) hw rfl (us:=[_,_,_]) ⟨slD_rel hc,?_,resT_rel (by simp only [A.rel]) (by simp only [A.rel]) (by simp only [A.rel]) cv ck,trivial⟩ nu0).mono ?_
 · show (A.i .i64 m).rel (nuAt b off) _;simp only [A.rel]
 · rintro e w' ⟨u,rfl,hu,hb⟩;refine ⟨congrArg Ending.returned ?_,hb⟩;obtain ⟨vs,rfl,hr⟩:=hu;simp only [T.rel,relTs,A.rel] at hr;obtain ⟨u1,w1,e1,⟨x1,f1,r1,c1⟩,u2,w2,e2,⟨x2,f2,r2,c2⟩,u3,w3,e3,⟨x3,f3,r3,c3⟩,u4,w4,e4,⟨x4,f4,r4,c4⟩,e5⟩:=hr;obtain ⟨r3,_⟩:=r3;subst f1 f2 f3 f4 r1 r2 r3 r4 e5 e4 e3 e2
   match vs,e1 with
   | ⟨_⟩,rfl=>rfl
def valIn (h:H):A->Option (List Nat×Nat×(Nat->U)×Bool)
 | .nils=>some ([],0,fun _=>K 0,true)
 | .sl _ [] 1 (.lit 0) (.lit 0) _=>some ([],0,fun _=>K 0,true)
 | .sl id [] 1 (.lit 0) (.sym l) _=>match h.m.get id with
   | some ⟨_,.arr 1 (.sym m) (.int .u64 g)⟩=>some ([id],l,g,Nat.beq m l&&Nat.blt 0 l)
   | _=>none
 | _=>none
theorem word_cell {w:World} {b off n:Nat} {g:Nat->U} (h:HoldsAt w b off (.arr 1 (.sym n) (.int .u64 g))):∀j,j<n->w.cell? ⟨b,off+j,none⟩=some (.int .u64 (vof .u64 (g j))):=fun j hj=>by
 obtain ⟨cs,ty,fr,pre,vs,post,h1,h2,h3,h4⟩:=h;simp only [T.rel] at h4;have h5:=h4.2 j hj;simp only [Sh.rel,Nat.one_mul] at h5;have hl:vs.length=n:=by simpa [Ix.val] using h4.1
 have h6:vs[j]? = some (.int .u64 (vof .u64 (g j))):=by have:=congrArg (fun l=>l[0]?) h5;simpa [List.getElem?_take,List.getElem?_drop] using this
 unfold World.cell?;rw [h1];simp only;rw [← Array.getElem?_toList,h2,List.append_assoc,List.getElem?_append_right (by omega),← h3,Nat.add_sub_cancel_left,List.getElem?_append_left (by omega)]
 exact h6
theorem decl_cell {w:World} {b off n:Nat} {D:DF} (h:HoldsAt w b off (D.arr n)) {i:Nat} (hi:i<n):∀j u,[Value.int .i64 (vof .i64 (D.k i)),.int .i64 (vof .i64 (D.e i)),.int .i64 (vof .i64 (D.w i)),.int .i64 (vof .i64 (D.b i)),.int .i64 (vof .i64 (D.i i))][j]? = some u->w.cell? ⟨b,off+i*5+j,none⟩=some u:=fun j u hu=>by
 obtain ⟨cs,ty,fr,pre,vs,post,h1,h2,h3,h4⟩:=h;simp only [T.rel] at h4;have h5:=h4.2 i hi;unfold DF.s at h5;simp only [Sh.rel,relShs] at h5;obtain ⟨u1,w1,e1,f1,u2,w2,e2,f2,u3,w3,e3,f3,u4,w4,e4,f4,u5,w5,e5,f5,e6⟩:=h5;subst f1 f2 f3 f4 f5 e6 e5 e4 e3 e2;have hl:vs.length=5*n:=by simpa [Ix.val] using h4.1
 have hj:j<5:=by have:=(List.getElem?_eq_some_iff.1 hu).1;simpa using this
 have h6:vs[i*5+j]? = some u:=by have:=congrArg (fun l=>l[j]?) e1;simp only [List.getElem?_take,List.getElem?_drop,if_pos hj] at this;rw [Nat.mul_comm 5 i] at this;rw [this];exact hu
 unfold World.cell?;rw [h1];simp only;have hlt:i*5+j<vs.length:=by omega
 rw [← Array.getElem?_toList,h2,List.append_assoc,List.getElem?_append_right (by omega),← h3,Nat.add_assoc,Nat.add_sub_cancel_left,List.getElem?_append_left hlt]
 exact h6
def ValLies (w:World) (l:Nat) (g:Nat->U) (u:Value):Prop:=∃vb vc,u = .slice vb l vc/\∀j,j<l->∃vB vO,vb=some ⟨vB,vO,none⟩/\vB<w.heap.size/\w.cell? ⟨vB,vO+j,none⟩=some (.int .u64 (vof .u64 (g j)))
theorem valIn_here {S:Nat->Prop} {ν:Nu} {w:World} {h:H} {x:A} {ids:List Nat} {l:Nat} {g:Nat->U} {o:Bool} (e:valIn h x=some (ids,l,g,o)) (ho:o=true) (hm:Mem S ν w h) (hS:∀i,i∈ids->S i\/h.lo≤i) {u:Value} (hu:x.rel ν u):ValLies w l g u:=by
 unfold valIn at e;split at e
 · cases e;simp only [A.rel] at hu;subst hu;exact ⟨none,0,rfl,fun j hj=>absurd hj (Nat.not_lt_zero j)⟩
 · cases e;simp only [A.rel] at hu;obtain ⟨b,base,o,c,h1,rfl,h3,h4,h5⟩:=hu;exact ⟨some ⟨b,o,none⟩,c,rfl,fun j hj=>absurd hj (Nat.not_lt_zero j)⟩
 · rename_i id l' c;split at e
   · rename_i rw m g' hg;cases e;simp only [bA] at ho;have hml:=Nat.eq_of_beq_eq_true ho.1;have h0:0<l:=nL ho.2;subst hml;obtain ⟨B,off,cc,hid,hH,rfl,hc⟩:=sl_here hm hg (hS id (.head _)) rfl rfl (len :=.sym m) h0 hu;exact ⟨some ⟨B,off,none⟩,cc,rfl,fun j hj=>⟨B,off,rfl,hH.lt,word_cell hH j hj⟩⟩
   · cases e
 · cases e
theorem ValLies.cell {w:World} {l:Nat} {g:Nat->U} {u:Value} (h:ValLies w l g u):Cell u:=by
 obtain ⟨vb,vc,rfl,_⟩:=h;trivial
def fitEl (D:DF) (ix:Nat) (elem:U):U:=cond (D.k ix==K 9) (D.i ix) (cond (D.k ix==K 10) (D.i ix) (K 1+pickU elem (K 1000)))
def fitG (l:Nat) (g:Nat->U) (j:Nat):U:=cond (Nat.blt j l) (g j) (kk j)
theorem vof_small {x:U} (h:x.toNat<2 ^ 63):vof .i64 x=(x.toNat:Int):=by
 unfold vof;rw [IntKind.wrap_i64];omega
theorem ne_toNat {x:U} {k:Nat} (hk:k<2 ^ 63) (h:(x==kk k)=false):x.toNat≠k:=fun e=>by
 have:x=kk k:=by apply BitVec.eq_of_toNat_eq;rw [e,kk_nat (by omega)]
 rw [this,beq_self_eq_true] at h;cases h
theorem list13 {n:Nat} {D:DF} {m rno elem:U} (h1:1≤n) (hn:n≤10) (hD:OKD n D) (hM:inM n m=true) (hno:pickU rno (K 22)=K 0) {w:World} {b off c l:Nat} {g:Nat->U} {vv vk:Value} (hv:ValLies w l g vv) (hc:n≤c) (hH:HoldsAt w b off (D.arr n)) :
 Calls Tryz.prog 13 #[.slice (some ⟨b,off,none⟩) n c,.int .i64 (vof .i64 m),resVal rno elem vv vk] w fun e w'=>∃B cc,w.heap.size≤B/\(D.w (m-K 1).toNat).toNat≤cc/\e = .returned (resVal (K 0) (fitEl D (m-K 1).toNat elem) (.slice (some ⟨B,0,none⟩) (D.w (m-K 1).toNat).toNat cc) (.int .u64 0))/\Below w.heap.size w w'/\Holds w' B (.arr 1 (.sym (D.w (m-K 1).toNat).toNat) (.int .u64 (fitG l g))):=by
 obtain ⟨m1,m2,_,m4⟩:=inM_nat hn hM;have hix:(m-K 1).toNat<n:=by omega
 obtain ⟨d1,d2,d3⟩:=hD _ hix;have hw:=wOK_le d3;obtain ⟨vb,vc,rfl,hvs⟩:=hv;have em:vof .i64 m=(m.toNat:Int):=vof_small (by omega)
 have ew:vof .i64 (D.w (m-K 1).toNat)=((D.w (m-K 1).toNat).toNat:Int):=vof_small (by omega)
 have ek:vof .i64 (D.k (m-K 1).toNat)=((D.k (m-K 1).toNat).toNat:Int):=vof_small (by omega)
 have hp:=pick_lt 1000 (by decide) (by decide) elem
 have hp:(pickU elem (K 1000)).toNat<1000:=hp;have ep:vof .i64 (pickU elem (K 1000))=((pickU elem (K 1000)).toNat:Int):=vof_small (by omega)
 have e5:off+(m-K 1).toNat*5=off+(m.toNat-1)*5:=by rw [m4]
 have dc:=decl_cell hH hix;rw [e5] at dc;have H:=fit_w (vof .i64 (D.k (m-K 1).toNat)) (vof .i64 (D.e (m-K 1).toNat)) (vof .i64 (D.b (m-K 1).toNat)) (vof .i64 (D.i (m-K 1).toNat)) (vof .i64 rno) (vof .i64 elem) b off n c m.toNat (D.w (m-K 1).toNat).toNat vk w hH.lt m1 m2 hn (by omega) (by omega) vb l vc (fun j=>vof .u64 (g j)) hvs (fun j=>vof .u64 (fitG l g j)) (fun j hj=>by
  unfold fitG;rw [show Nat.blt j l=true from nB hj];rfl) (fun j hj hj4=>by
  unfold fitG;rw [show Nat.blt j l=false from by
   cases e:Nat.blt j l
   · rfl
   · have:=nL e;omega]
  show IntKind.u64.wrap ((kk j).toNat:Int)=j;rw [kk_nat (by omega),IntKind.wrap_u64]
  omega) (fun w1=>by
  have:=pick_at (n:=22) rfl (pick22 rno) w1;rw [hno] at this;exact this) (vof .i64 (pickU elem (K 1000))) ⟨by omega,by omega⟩ (fun w1=>pick_at (n:=1000) rfl (pick1000 elem) w1) ?_ ?_ ?_ ?_ ?_
 · rw [em];refine H.mono ?_;rintro e w' ⟨v,rfl,hown,hbel⟩;obtain ⟨_,hcase⟩:=hown;rcases hcase with ⟨_,e0⟩|⟨b',cap',cur,rfl,hge,hh',hncap,hcap',hsz,htake⟩
   · omega
   · rw [Nat.mul_one] at htake;have htake:List.take (D.w (m-K 1).toNat).toNat cur.toList=numsL (fun j=>vof .u64 (fitG l g j)) (D.w (m-K 1).toNat).toNat:=htake;refine ⟨b',cap',hge,hncap,congrArg Ending.returned ?_,hbel,⟨cur,26,_,cur.toList.drop _,hh',(by
      have:=List.take_append_drop (D.w (m-K 1).toNat).toNat cur.toList;rw [htake] at this;exact this.symm),?_⟩⟩
     · have:vof .i64 (fitEl D (m-K 1).toNat elem)=if vof .i64 (D.k (m-K 1).toNat)=9\/vof .i64 (D.k (m-K 1).toNat)=10 then vof .i64 (D.i (m-K 1).toNat) else 1+vof .i64 (pickU elem (K 1000)):=by
        unfold fitEl;rw [ek];cases e9:D.k (m-K 1).toNat==K 9
        · have n9:=ne_toNat (k:=9) (by decide) e9
          cases e10:D.k (m-K 1).toNat==K 10
          · have n10:=ne_toNat (k:=10) (by decide) e10
            rw [if_neg (by omega),cond_false,cond_false,ep,vof_small]
            · rw [BitVec.toNat_add,show (K 1:U).toNat=1 from rfl]
              omega
            · rw [BitVec.toNat_add,show (K 1:U).toNat=1 from rfl]
              omega
          · rw [cond_false,cond_true,if_pos];have e10:=eq_of_beq e10;rw [e10];exact .inr rfl
        · rw [cond_true,if_pos];have e9:=eq_of_beq e9;rw [e9];exact .inl rfl
       unfold resVal;rw [this];rfl
     · have:=nums_arr (ν:=nu0) (g:=fitG l g) (m:=(D.w (m-K 1).toNat).toNat);simp only [T.rel] at this ⊢;exact this
 · exact dc 0 _ rfl
 · exact dc 1 _ rfl
 · rw [← ew];exact dc 2 _ rfl
 · exact dc 3 _ rfl
 · exact dc 4 _ rfl
def fitR (sh:Bool) (n:Nat) (D:DF) (o:Bool) (m rno:U) (idl:Nat) (ids:List Nat) (l:Nat) (g:Nat->U) (ov:Bool) (elem:U) (h:H):R:=match sh with
 | false =>.leaf (.b (okPl n D o&&(ov&&bad6 n m rno))) (fitT (.i .i64 (pickU rno (K 22))) .nils (K 0)) (h.sees (idl::ids))
 | true =>.leaf (.b (okPl n D o&&(ov&&(inM n m&&(pickU rno (K 22)==K 0))))) (fitT z64 (.sl h.next [] 1 (.lit 0) (.sym (D.w (m-K 1).toNat).toNat) none) (fitEl D (m-K 1).toNat elem)) ((h.sees (idl::ids)).new ⟨true,.arr 1 (.sym (D.w (m-K 1).toNat).toNat) (.int .u64 (fitG l g))⟩)
def fitSp (sh:Bool):List V->H->Option R
 | [.t (.a la),.t (.a am),.t (.st [.a ano,.a av,.a ak,.a ae])],h=>match dfOf h la,i64Of am,i64Of ano,valIn h av,i64Of ae with
   | some (idl,n,D,o),some m,some rno,some (ids,l,g,ov),some elem=>some (fitR sh n D o m rno idl ids l g ov elem h)
   | _,_,_,_,_=>none
 | _,_=>none
theorem fitSp_inv {sh:Bool} {args:List V} {h:H} {r:R} (e:fitSp sh args h=some r):∃la am ano av ak ae idl n D o m rno ids l g ov elem,args=[.t (.a la),.t (.a am),.t (.st [.a ano,.a av,.a ak,.a ae])]/\dfOf h la=some (idl,n,D,o)/\i64Of am=some m/\i64Of ano=some rno/\valIn h av=some (ids,l,g,ov)/\i64Of ae=some elem/\r=fitR sh n D o m rno idl ids l g ov elem h:=by
 unfold fitSp at e;split at e
 · split at e
   · rename_i h1 h2 h3 h4 h5;cases e;exact ⟨_,_,_,_,_,_,_,_,_,_,_,_,_,_,_,_,_,rfl,h1,h2,h3,h4,h5,rfl⟩
   · cases e
 · cases e
theorem fit13_ok (sh:Bool):AnyOK Tryz.prog 13 (fitSp sh) where
 ent:=enters_of entK 13 _ Tryz.func13 (by simp [Tryz.f13])
 ok:=by
  intro args h r ok v h' he hp hok;obtain ⟨la,am,ano,av,ak,ae,idl,n,D,o,m,rno,ids,l,g,ov,elem,rfl,e1,e2,e3,e4,e5,hr⟩:=fitSp_inv he;have setup:okPl n D o=true->ov=true->∀S ν w us,Mem S ν w h->(∀i,i∈idl::ids->S i\/h.lo≤i)->relV ν [.t (.a la),.t (.a am),.t (.st [.a ano,.a av,.a ak,.a ae])] us->∃b off c vv vk,us=[.slice (some ⟨b,off,none⟩) n c,.int .i64 (vof .i64 m),resVal rno elem vv vk]/\n≤c/\HoldsAt w b off (D.arr n)/\ValLies w l g vv/\Cell vk/\1≤n/\n≤10/\OKD n D:=fun ho hv S ν w us hm hS hus=>by
   unfold okPl at ho;simp only [bA] at ho;obtain ⟨⟨o1,o2⟩,o3,o4⟩:=ho;have o1:=nL o1;have o2:=nL o2
   match us,hus with
   | [u0,u1,u2],⟨r0,r1,r2,_⟩=>
     obtain ⟨B,off,c,hH,rfl,hcc,_⟩:=df_here hm e1 o3 (hS idl (.head _)) (by omega) r0
     obtain rfl:=i64Of_rel e2 r1;obtain ⟨x1,x2,x3,x4,rfl,q1,q2,q3,q4⟩:=st4_rel r2;obtain rfl:=i64Of_rel e3 q1;obtain rfl:=i64Of_rel e5 q4;exact ⟨B,off,c,x2,x3,rfl,hcc,hH,valIn_here e4 hv hm (fun i hi=>hS i (.tail _ hi)) q2,q3,o1,o2,of_dec o4⟩
  cases sh
  · subst hr;simp only [fitR,R.pick,oI,pI] at hp;obtain ⟨rfl,rfl,rfl⟩:=hp;have hok:(okPl n D o&&(ov&&bad6 n m rno))=true:=hok;simp only [bA] at hok;obtain ⟨p1,p2,p3⟩:=hok;refine fn_calm (idl::ids) fun S ν w us hm hS hus => ?_;obtain ⟨b,off,c,vv,vk,rfl,hc,hH,hv,ck,n1,n2,hD⟩:=setup p1 p2 S ν w us hm hS hus;refine (early13 n2 p3 hv.cell ck hc hH).mono ?_;rintro e w' ⟨rfl,hb⟩;exact ⟨_,rfl,fitT_rel (by simp only [A.rel]) (by simp only [A.rel]) trivial,hb⟩
  · subst hr;simp only [fitR,R.pick,oI,pI] at hp;obtain ⟨rfl,rfl,rfl⟩:=hp;have hok:(okPl n D o&&(ov&&(inM n m&&(pickU rno (K 22)==K 0))))=true:=hok;simp only [bA] at hok;obtain ⟨p1,p2,p3,p4⟩:=hok;refine fn_made rfl (idl::ids) fun S ν w us hm hS hus => ?_;obtain ⟨b,off,c,vv,vk,rfl,hc,hH,hv,ck,n1,n2,hD⟩:=setup p1 p2 S ν w us hm hS hus;refine (list13 n1 n2 hD p3 (eq_of_beq p4) hv hc hH).mono ?_;rintro e w' ⟨B,cc,hB,hcc,rfl,hb,hh⟩;refine ⟨_,B,rfl,hB,hb,hh,fun ν' _ hν=>fitT_rel (rno:=K 0) ?_ ?_ trivial⟩
    · unfold z64;simp only [A.rel];exact ⟨rfl,rfl⟩
    · simp only [A.rel];exact ⟨B,0,0,cc,hν,rfl,fun _=>by simp [pathOff,Ix.val],hcc,fun _ e=>by cases e⟩
 pan:=by intro args h r ok v h' he hp hok;obtain ⟨la,am,ano,av,ak,ae,idl,n,D,o,m,rno,ids,l,g,ov,elem,rfl,e1,e2,e3,e4,e5,hr⟩:=fitSp_inv he;subst hr;cases sh<;>simp [fitR,R.pickP] at hp
 ext:=by
  intro args h r he hlo;obtain ⟨la,am,ano,av,ak,ae,idl,n,D,o,m,rno,ids,l,g,ov,elem,rfl,e1,e2,e3,e4,e5,hr⟩:=fitSp_inv he;cases sh
  · subst hr;exact sees_ext _ h
  · subst hr;exact (sees_ext _ h).trans (new_ext (by rw [sees_lo,sees_next];exact hlo) _)
end Go.WE
namespace Go.WE
open Go Go.Proofs Go.RowKit
def atX (x:U):VW:=⟨K 3,x,K 0,K 0⟩
def xm (k:Nat):U:=K (-128)+kk k
theorem xm_one (k:Nat):xm k+K 1=xm (k+1):=by
 unfold xm;rw [BitVec.add_assoc,kk_one]
theorem xm_lt:∀k:Fin 128,BitVec.slt (xm k.val) (K 0)=true:=by decide +kernel
end Go.WE
end
