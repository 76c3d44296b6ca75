/- A part of a proof of the helpers' law; no condition of its own. -/
import Derived.Test.YtoeealkcacgcgaaGreatDoorK13
set_option linter.unusedVariables false
set_option maxRecDepth 100000
noncomputable section
namespace Go.WE
open Go Go.Proofs
open Go.RowKit (Below)
theorem neg_int {y:U} {m:Int} (h:m≤y.toInt) (hm : -1000≤m):(0#64-y).toInt = - y.toInt:=by
 have hne:y≠BitVec.intMin 64:=by
  rintro rfl;have e:(BitVec.intMin 64).toInt = -9223372036854775808:=by decide +kernel
  rw [e] at h;omega
 rw [BitVec.zero_sub,BitVec.toInt_neg_of_ne_intMin hne]
theorem K0_int:(K 0).toInt=0:=by decide +kernel
theorem K128_int:(K (-128)).toInt = -128:=by decide +kernel
theorem cond4 {p q r c c':Bool} (h:p=true->q=true->c=c'):cond (cond (cond p q false) r false) c false=cond (cond (cond p q false) r false) c' false:=by
 cases p
 · rfl
 · cases q
   · rfl
   · rw [h rfl rfl]
theorem there22_eq (x y:U):there22 x y=thereB x y:=by
 have f3:BitVec.sle (K 0) y=true->BitVec.sle (K (-128)) x=true->BitVec.sle x (0#64-y)=BitVec.sle y (0#64-x):=fun h1 h2=>by
  have f1:(0#64-y).toInt = - y.toInt:=neg_int (m:=0) (by rw [BitVec.sle,decide_eq_true_eq,K0_int] at h1;exact h1) (by decide)
  have f2:(0#64-x).toInt = - x.toInt:=neg_int (m := -128) (by rw [BitVec.sle,decide_eq_true_eq,K128_int] at h2;exact h2) (by decide)
  rw [BitVec.sle,BitVec.sle,f1,f2];exact decide_eq_decide.2 ⟨fun h=>by omega,fun h=>by omega⟩
 unfold there22 thereB;exact cond4 f3
theorem OwnB.conv {fp:Fp} {n:Nat} {ms:List (Nat×Blk)} {W:World} {R0:Nat} {l l':List (Nat×V)} {a:Act} {w:World} (h:OwnB fp n ms W R0 l a w) (hl:LessA l l'):OwnB fp n ms W R0 l' a w:=by
 obtain ⟨ν,hs,hr⟩:=h;exact ⟨ν,hs.conv (hl ν),hr⟩
theorem OwnB.holds {fp:Fp} {n:Nat} {ms:List (Nat×Blk)} {W:World} {R0:Nat} {t:T} {l:List (Nat×V)} {a:Act} {w:World} (h:OwnB fp n ((0,⟨true,t⟩)::ms) W R0 l a w) (hm:notMp t=true) (hf:t.free=true):Holds w R0 t:=by
 obtain ⟨ν,hs,hb,h0,_⟩:=h;exact seen_holds (hs.mem.seen 0 _ (by rw [hM_get,if_pos rfl]) (.inl trivial)) hm hf h0
theorem OwnB.left {P:Program} {fn:Func} {fp:Fp} {n:Nat} {ms:List (Nat×Blk)} {W:World} {R0 t:Nat} {v:V} {a:Act} {w:World} {R:Ending->World->Prop} (h:OwnB fp n ms W R0 [(t,v)] a w) (hr:fn.results = #[.tmp t]) (hR:∀u,(∃ν,v.rel ν u)->But R0 W.heap.size W w->R (.returned u) w):bodyPostD P fn R .ret a w:=by
 obtain ⟨ν,hs,hb,_⟩:=h;exact end_ret hr (.inr rfl) hs.defers rfl (hR _ ⟨ν,hs.slots t v (.head _)⟩ hb)
theorem OwnL.left {P:Program} {fn:Func} {fp:Fp} {n:Nat} {ms:List (Nat×Blk)} {W:World} {t:Nat} {v:V} {a:Act} {w:World} {R:Ending->World->Prop} (h:OwnL fp n ms W [(t,v)] a w) (hr:fn.results = #[.tmp t]) (hR:∀u,(∃ν,v.rel ν u)->Below W.heap.size W w->R (.returned u) w):bodyPostD P fn R .ret a w:=by
 obtain ⟨ν,hs,hb,_⟩:=h;exact end_ret hr (.inr rfl) hs.defers rfl (hR _ ⟨ν,hs.slots t v (.head _)⟩ hb)
def lay22N (s:FSt) (b:Nat):Nat->FSt
 | 0=>s
 | n+1=>lay22E (lay22N s b n) (b+n)
abbrev kk (k:Nat):U:=BitVec.ofNat 64 k
theorem kk_one (k:Nat):kk k+K 1=kk (k+1):=by
 rw [show K 1=1#64 from rfl,kk,kk,BitVec.ofNat_add]
theorem kk_nat {k:Nat} (h:k<2 ^ 64):(kk k).toNat=k:=by rw [kk,BitVec.toNat_ofNat,Nat.mod_eq_of_lt h]
theorem msb_kk {k:Nat} (h:k<2 ^ 63):BitVec.msb (kk k)=false:=by
 rw [BitVec.msb_eq_decide];simp only [decide_eq_false_iff_not];rw [kk_nat (by omega)]
 omega
theorem slt_kk {k n:Nat} (hk:k<2 ^ 63) (hn:n<2 ^ 63):BitVec.slt (kk k) (kk n)=decide (k<n):=by
 rw [BitVec.slt,BitVec.toInt_eq_toNat_of_msb (msb_kk hk),BitVec.toInt_eq_toNat_of_msb (msb_kk hn),kk_nat (by omega),kk_nat (by omega)]
 exact decide_eq_decide.2 (by omega)
theorem kk_int (k:Nat):kk k=BitVec.ofInt 64 (k:Int):=(BitVec.ofInt_natCast 64 k).symm
theorem place_kk {x y:U} {b n:Nat} (hb:b+n≤128) (hx:vof .i64 x=(b:Int)-128) (hy:vof .i64 y=(n:Int)):x=K ((b:Int)-128)/\y=kk n/\K 128+x=kk b:=by
 rw [vof_toInt] at hx hy;have hx':x=K ((b:Int)-128):=by apply BitVec.eq_of_toInt_eq;rw [hx,BitVec.toInt_ofInt];simp only [Int.bmod_def];split<;>omega
 refine ⟨hx',?_,?_⟩
 · rw [kk_int];apply BitVec.eq_of_toInt_eq;rw [hy,BitVec.toInt_ofInt];simp only [Int.bmod_def];split<;>omega
 · rw [hx',kk_int,← BitVec.ofInt_add];congr 1;omega
theorem byte_lit {b:Nat} (hb:b<128) (x y:U):LessA (sq x y (.i .i64 (kk b))) (sq x y (.lit .i64 (b:Nat))):=fun ν =>
 ⟨rfl,same_rel,rfl,same_rel,rfl,same_rel,rfl,less_lit (kk_int b) ((show ∀b:Fin 128,IntKind.i64.wrap (b.val:Int)=(b.val:Int) by decide +kernel) ⟨b,hb⟩),trivial⟩
theorem lit_byte (b:Nat) (x y:U):LessA (sq x y (.lit .i64 (b:Nat))) (sq x y (.i .i64 (kk b))):=fun ν =>
 ⟨rfl,same_rel,rfl,same_rel,rfl,same_rel,rfl,lit_less (kk_int b),trivial⟩
theorem body39:Tryz.f39.body=some c39:=by kernel_rfl
theorem body72:Tryz.f72.body=some c72:=by kernel_rfl
theorem args22 {w:World} {r:Nat} {x y:U}:relV (nuOne r) [pt 0,i64 x,i64 y] [.pointer (some ⟨r,0,none⟩),.int .i64 (vof .i64 x),.int .i64 (vof .i64 y)]:=by
 refine ⟨?_,?_,?_,trivial⟩
 · show (A.ptr 0 []).rel (nuOne r) _;simp only [A.rel];exact ⟨r,0,rfl,rfl⟩
 · show (A.i .i64 x).rel (nuOne r) _;simp only [A.rel]
 · show (A.i .i64 y).rel (nuOne r) _;simp only [A.rel]
theorem lay22_there {w:World} {r:Nat} {s:FSt} {x y:U} {b n:Nat} (hbn:b+n≤128) (hx:vof .i64 x=(b:Int)-128) (hy:vof .i64 y=(n:Int)) (ht:thereB x y=true) (hh:Holds w r s.t) :
 Calls Tryz.prog 39 #[.pointer (some ⟨r,0,none⟩),.int .i64 (vof .i64 x),.int .i64 (vof .i64 y)] w fun e w'=>e = .returned (.int .i64 0)/\Holds w' r (lay22N s b n).t/\But r w.heap.size w w':=by
 obtain ⟨ex,ey,e128⟩:=place_kk hbn hx hy;have X:=XK noΓ_ok;refine calls_phases Tryz.func39 body39 ?_;rw [c39_eq];have st:OwnB fp39 1 (ms0 s) w r (sl0 x y) _ w:=OwnB.enterA (fp:=fp39) (args:=[pt 0,i64 x,i64 y]) (mem_one hh) rfl (fun id q base h =>.inl (nuOne_some h).1) (args22 (w:=w)) (by show 3≤62;decide)
 refine wp_two (OwnB.go X rfl (q0_ev s x y) rfl rfl rfl (by decide) (by kernel_rfl) (LessA.refl _) (LessM.refl _) st) fun a w1 hI => ?_
 refine wp_two (OwnB.goB X rfl ((q1_c s x y).trans (by rw [there22_eq,ht];rfl)) (q1_f s x y) rfl rfl rfl (by decide) (by kernel_rfl) (LessA.refl _) (LessM.refl _) hI) fun a w1 hI => ?_
 refine wp_two (J:=fun a w1=>OwnB fp39 1 (ms0 (lay22N s b n)) w r (sl0 x y) a w1) (wp_two (OwnB.go X rfl (q3_ev s x y) rfl rfl rfl (by decide) (by kernel_rfl) (LessA.refl _) (LessM.refl _) hI) fun a w1 hI => ?_) fun a w1 hI => ?_
 · rw [e128] at hI;refine for_loop (fun k a w1=>OwnB fp39 1 (ms0 (lay22N s b k)) w r (sq x y (.i .i64 (kk (b+k)))) a w1) (fun a w1=>OwnB fp39 1 (ms0 (lay22N s b n)) w r (sl0 x y) a w1) n ?_ ?_ hI (fun a' w' h=>⟨rfl,h⟩)
   · intro k hk a w1 hI;rw [ql_eq,show b+(k+1)=b+k+1 from rfl,← kk_one,show lay22N s b (k+1)=lay22E (lay22N s b k) (b+k) from rfl]
     refine wp_two (OwnB.goB X rfl ((qh_c _ x y (kk (b+k))).trans (by rw [e128,ey,kk,kk,← BitVec.ofNat_add,slt_kk (by omega) (by omega),decide_eq_true (by omega)])) (qh_t _ x y _) rfl rfl rfl (by decide) (by kernel_rfl) (LessA.refl _) (LessM.refl _) hI) fun a w1 hI => ?_
     refine wp_two (OwnB.go X rfl (qb_lit (lay22N s b k) x y (b+k) (by omega)) rfl rfl rfl (by decide) (by kernel_rfl) (lit_byte _ x y) (LessM.refl _) (hI.conv (byte_lit (by omega) x y))) fun a w1 hI => ?_
     exact OwnB.go X rfl (qi_ev _ x y _) rfl rfl rfl (by decide) (by kernel_rfl) (LessA.refl _) (LessM.refl _) hI
   · intro a w1 hI;rw [ql_eq];exact wp_out (OwnB.outB X rfl ((qh_c _ x y (kk (b+n))).trans (by rw [e128,ey,kk,kk,← BitVec.ofNat_add,slt_kk (by omega) (by omega),decide_eq_false (by omega)])) (qh_f _ x y _) rfl rfl rfl (by decide) (by kernel_rfl) (LessA.refl _) (LessM.refl _) hI)
 · refine OwnB.phase (r:=⟨.ret,.tt,[(6,one (.lit .i64 0))],ms0 (lay22N s b n)⟩) X rfl (q14_x _ x y) rfl rfl rfl (by decide) (by kernel_rfl) (LessA.refl _) (LessM.refl _) hI fun ν' a' w' x' hx' h => ?_
   have hx':x' = .ret:=hx';subst hx';refine OwnB.left h rfl fun u ⟨ν,hu⟩ hb=>⟨?_,OwnB.holds h rfl rfl,hb⟩;have hu:(A.lit .i64 0).rel ν u:=hu;simp only [A.rel] at hu;rw [hu.1]
theorem lay22_not {w:World} {r:Nat} {s:FSt} {x y:U} (ht:thereB x y=false) (hh:Holds w r s.t) :
 Calls Tryz.prog 39 #[.pointer (some ⟨r,0,none⟩),.int .i64 (vof .i64 x),.int .i64 (vof .i64 y)] w fun e w'=>e = .returned (.int .i64 17)/\Holds w' r s.t/\But r w.heap.size w w':=by
 have X:=XK noΓ_ok;refine calls_phases Tryz.func39 body39 ?_;rw [c39_eq];have st:OwnB fp39 1 (ms0 s) w r (sl0 x y) _ w:=OwnB.enterA (fp:=fp39) (args:=[pt 0,i64 x,i64 y]) (mem_one hh) rfl (fun id q base h =>.inl (nuOne_some h).1) (args22 (w:=w)) (by show 3≤62;decide)
 refine wp_two (OwnB.go X rfl (q0_ev s x y) rfl rfl rfl (by decide) (by kernel_rfl) (LessA.refl _) (LessM.refl _) st) fun a w1 hI => ?_
 refine wp_seq (OwnB.phase (r:=⟨.ret,.tt,[(6,one (.lit .i64 17))],ms0 s⟩) X rfl ((congrArg (endM fp39.km [6] [0] 1) (Out.at_pick ((q1_c s x y).trans (by rw [there22_eq,ht];rfl)))).trans (q1_x s x y)) rfl rfl rfl (by decide) (by kernel_rfl) (LessA.refl _) (LessM.refl _) hI fun ν' a' w' x' hx' h => ?_)
 have hx':x' = .ret:=hx';subst hx';show bodyPostD Tryz.prog Tryz.f39 _ .ret a' w';refine OwnB.left h rfl fun u ⟨ν,hu⟩ hb=>⟨?_,OwnB.holds h rfl rfl,hb⟩;have hu:(A.lit .i64 17).rel ν u:=hu;simp only [A.rel] at hu;rw [hu.1]
theorem mem_oneF {W:World} {r:Nat} {t:T} (h:Holds W r t):Mem (fun _=>True) (nuOne r) W (hM [(0,⟨false,t⟩)] 1):=by
 have hget:∀i x,(hM [(0,⟨false,t⟩)] 1).m.get i=some x->i=0/\x=⟨false,t⟩:=fun i x e=>by have:=get_memT _ i x e;simp only [List.mem_singleton,pI] at this;exact this
 refine ⟨⟨fun i r' b' e=>by obtain ⟨_,rfl,_⟩:=nuOne_some e;exact h.lt,fun i x e hrw=>by obtain ⟨_,rfl⟩:=hget i x e;(cases hrw),fun i hi => ?_,fun i x e=>by obtain ⟨rfl,_⟩:=hget i x e;exact Nat.lt_succ_self _,Nat.le_refl _,fun g hg=>(by cases hg)⟩,fun i x e _ => ?_⟩
 · have hi:1≤i:=hi;unfold nuOne;rw [if_neg (by omega)]
 · obtain ⟨rfl,rfl⟩:=hget i x e;obtain ⟨cs,ty,vs,post,h1,h2,h3⟩:=h;refine .inl ⟨r,0,cs,ty,(0,0),[],vs,post,by simp [nuOne],h1,by simpa using h2,rfl,?_,fun _=>⟨rfl,rfl⟩⟩
   exact T.rel_mono (fun i p e=>by cases e) h3
theorem OwnL.enterA {fp:Fp} {ν:Nu} {ms:List (Nat×Blk)} {m:Nat} {args:List V} {vs:List Value} {W:World} (hm:Mem (fun _=>True) ν W (hM ms m)) (hro:∀id r base,ν id=some (r,base)->∀b,(hM ms m).m.get id=some b->b.rw=false) (hv:relV ν args vs) (hsz:args.length≤fp.nt) :
 OwnL fp m ms W (argsL 0 args) { tmps:=vs.toArray++Array.replicate (fp.nt-vs.toArray.size) undef,defers:=[] } W:=by
 have hlen:=relV_length hv;refine ⟨ν,⟨hm,fun t v h => ?_,by simp;omega,rfl⟩,Below.refl _ _,fun id r base h =>.inr (hro id r base h)⟩
 refine argsL_rel args vs 0 hv (fun j hj => ?_) t v h;simp [Array.getD_eq_getD_getElem?,Array.getElem?_append,hj]
theorem read22_st {w:World} {r:Nat} {s:FSt} {x y:U} (hh:Holds w r s.t):OwnL fp72 1 (msF s) w (sl0 x y) { tmps := #[.pointer (some ⟨r,0,none⟩),.int .i64 (vof .i64 x),.int .i64 (vof .i64 y)]++Array.replicate (Tryz.f72.ntmps-3) undef,defers:=[] } w:=
 OwnL.enterA (fp:=fp72) (args:=[pt 0,i64 x,i64 y]) (vs:=[.pointer (some ⟨r,0,none⟩),.int .i64 (vof .i64 x),.int .i64 (vof .i64 y)]) (mem_oneF hh) (fun id q base h b hb=>by have h1:(id,b)∈msF s:=get_memT _ id b hb;unfold msF at h1;simp only [List.mem_singleton,pI] at h1;rw [h1.2]) (args22 (w:=w)) (by show 3≤36;decide)
theorem read22_not {w:World} {r:Nat} {s:FSt} {x y:U} (ht:thereB x y=false) (hh:Holds w r s.t) :
 Calls Tryz.prog 72 #[.pointer (some ⟨r,0,none⟩),.int .i64 (vof .i64 x),.int .i64 (vof .i64 y)] w fun e w'=>e = .returned (.int .i64 17)/\Below w.heap.size w w':=by
 have X:=XK noΓ_ok;refine calls_phases Tryz.func72 body72 ?_;rw [c72_eq];refine wp_two (OwnL.go X rfl (u0_ev s x y) rfl rfl rfl (by kernel_rfl) (LessA.refl _) (LessM.refl _) (read22_st hh)) fun a w1 hI => ?_
 refine wp_seq (OwnL.phase (r:=⟨.ret,.tt,[(6,one (.lit .i64 17))],msF s⟩) X rfl ((congrArg (endM fp72.km [6] [0] 1) (Out.at_pick ((u1_c s x y).trans (by rw [there22_eq,ht];rfl)))).trans (u1_x s x y)) rfl rfl rfl (by kernel_rfl) (LessA.refl _) (LessM.refl _) hI fun ν' a' w' x' hx' h => ?_)
 have hx':x' = .ret:=hx';subst hx';show bodyPostD Tryz.prog Tryz.f72 _ .ret a' w';refine OwnL.left h rfl fun u ⟨ν,hu⟩ hb=>⟨?_,hb⟩;have hu:(A.lit .i64 17).rel ν u:=hu;simp only [A.rel] at hu;rw [hu.1]
theorem readN_zero {g:Nat->U} {b:Nat}:∀n,(∀k,k<n->codeU (g (b+k))=K 0)->readN g b n=K 0
 | 0,_=>rfl
 | n+1,h=>by
   unfold readN;rw [readN_zero n fun k hk=>h k (by omega),h n (by omega)]
   rfl
theorem codeU_ne {v:U} (h0:(v==K 0)=false) (h2:(v==K 2)=false):codeU v=K 0:=by
 unfold codeU;rw [h0,h2];rfl
theorem readN_first {g:Nat->U} {b k:Nat} (h:∀j,j<k->codeU (g (b+j))=K 0) (hk:codeU (g (b+k))≠K 0):∀n,k<n->readN g b n=codeU (g (b+k))
 | 0,hn=>absurd hn (by omega)
 | n+1,hn=>by
   unfold readN;by_cases e:k=n
   · subst e;rw [readN_zero k h];rfl
   · rw [readN_first h hk n (by omega)]
     have:(codeU (g (b+k))==K 0)=false:=by simpa using hk
     rw [this];rfl
theorem okU_true {b:Nat} (hb:b<128):okU (K ((b:Int)-128))=true/\okU2 (K ((b:Int)-128))=true/\(K 128+K ((b:Int)-128)).toNat=b:=
 (show ∀b:Fin 128,okU (K ((b.val:Int)-128))=true/\okU2 (K ((b.val:Int)-128))=true/\(K 128+K ((b.val:Int)-128)).toNat=b.val by decide +kernel) ⟨b,hb⟩
theorem K_add (a b:Int):K a+K b=K (a+b):=(BitVec.ofInt_add a b).symm
theorem slt_K {a b:Int} (ha : -1000≤a/\a≤1000) (hb : -1000≤b/\b≤1000):BitVec.slt (K a) (K b)=decide (a<b):=by
 have e:∀{n:Int},-1000≤n/\n≤1000->(K n).toInt=n:=fun {n} h=>by rw [BitVec.toInt_ofInt];simp only [Int.bmod_def];split<;>omega
 rw [BitVec.slt,e ha,e hb]
theorem read22_there {w:World} {r:Nat} {s:FSt} {x y:U} {b n:Nat} (hbn:b+n≤128) (hx:vof .i64 x=(b:Int)-128) (hy:vof .i64 y=(n:Int)) (ht:thereB x y=true) (hh:Holds w r s.t) :
 Calls Tryz.prog 72 #[.pointer (some ⟨r,0,none⟩),.int .i64 (vof .i64 x),.int .i64 (vof .i64 y)] w fun e w'=>e = .returned (.int .i64 (vof .i64 (readN s.g b n)))/\Below w.heap.size w w':=by
 obtain ⟨ex,ey,_⟩:=place_kk hbn hx hy;have X:=XK noΓ_ok;refine calls_phases Tryz.func72 body72 ?_;rw [c72_eq];refine wp_two (OwnL.go X rfl (u0_ev s x y) rfl rfl rfl (by kernel_rfl) (LessA.refl _) (LessM.refl _) (read22_st hh)) fun a w1 hI => ?_
 refine wp_two (OwnL.goB X rfl ((u1_c s x y).trans (by rw [there22_eq,ht];rfl)) (u1_f s x y) rfl rfl rfl (by kernel_rfl) (LessA.refl _) (LessM.refl _) hI) fun a w1 hI => ?_
 refine wp_then (K:=fun a w1=>(∀j,j<n->codeU (s.g (b+j))=K 0)/\OwnL fp72 1 (msF s) w (sl0 x y) a w1) ?_ fun a w1 hI => ?_
 · refine wp_two (OwnL.go X rfl (u3_ev s x y) rfl rfl rfl (by kernel_rfl) (LessA.refl _) (LessM.refl _) hI) fun a w1 hI => ?_
   refine for_any (fun k a w1=>(∀j,j<k->codeU (s.g (b+j))=K 0)/\OwnL fp72 1 (msF s) w (sq x y (.i .i64 (K ((b:Int)-128+(k:Nat))))) a w1) n ?_ ⟨fun j hj=>absurd hj (Nat.not_lt_zero _),by
    have e:x=K ((b:Int)-128+((0:Nat):Int)):=by rw [ex];congr 1;omega
    rw [← e];exact hI⟩
   rintro k hk a w1 ⟨hz,hI⟩;rw [ul_eq];have exy:x+y=K ((b:Int)-128+(n:Nat)):=by rw [ex,ey,kk_int,K_add]
   by_cases hkn:k<n
   · obtain ⟨o1,o2,o3⟩:=okU_true (b:=b+k) (by omega)
     have e1:K (((b+k:Nat):Int)-128)=K ((b:Int)-128+(k:Nat)):=by congr 1;omega
     rw [e1] at o1 o2 o3;refine wp_two (OwnL.goB X rfl ((uh_c s x y _).trans (by rw [exy,slt_K (by omega) (by omega),decide_eq_true (by omega)])) (uh_t s x y _) rfl rfl rfl (by kernel_rfl) (LessA.refl _) (LessM.refl _) hI) fun a w1 hI => ?_
     cases h0:s.g (b+k)==K 0
     · have c0:=(ub_c s x y (K ((b:Int)-128+(k:Nat)))).trans (by rw [o3,h0])
       cases h2:s.g (b+k)==K 2
       · have c2:=(ub_c2 s x y (K ((b:Int)-128+(k:Nat)))).trans (by rw [o3,h2])
         refine wp_two (OwnL.phase (r:=⟨.nrm,.b (okU2 (K ((b:Int)-128+(k:Nat)))),sq x y (.i .i64 (K ((b:Int)-128+(k:Nat)))),msF s⟩) X rfl ((congrArg (endM fp72.km [0,1,2,7] [0] 1) ((Out.nR_pick c0).trans (Out.at_pick c2))).trans (ub_f2 s x y _)) o2 rfl rfl (by kernel_rfl) (LessA.refl _) (LessM.refl _) hI (fun ν' a' w' x hx h=>⟨hx,h⟩)) fun a w1 hI => ?_
         refine wp_mono (OwnL.go X rfl (ui_ev s x y _) rfl rfl rfl (by kernel_rfl) (LessA.refl _) (LessM.refl _) hI) ?_
         rintro x' a' w' ⟨rfl,hI⟩;refine ⟨hkn,fun j hj => ?_,?_⟩
         · by_cases e:j=k
           · subst e;exact codeU_ne h0 h2
           · exact hz j (by omega)
         · have e:K ((b:Int)-128+(k:Nat))+K 1=K ((b:Int)-128+((k+1:Nat):Int)):=by rw [K_add];congr 1;omega
           rw [← e];exact hI
       · have c2:=(ub_c2 s x y (K ((b:Int)-128+(k:Nat)))).trans (by rw [o3,h2])
         refine wp_seq (OwnL.phase (r:=⟨.ret,.b (okU2 (K ((b:Int)-128+(k:Nat)))),[(6,one (.lit .i64 14))],msF s⟩) X rfl ((congrArg (endM fp72.km [6] [0] 1) ((Out.nR_pick c0).trans (Out.at_pick c2))).trans (ub_t2 s x y _)) o2 rfl rfl (by kernel_rfl) (LessA.refl _) (LessM.refl _) hI fun ν' a' w' x' hx' h => ?_)
         have hx':x' = .ret:=hx';subst hx';show bodyPostD Tryz.prog Tryz.f72 _ .ret a' w';refine OwnL.left h rfl fun u ⟨ν,hu⟩ hb=>⟨?_,hb⟩;have hu:(A.lit .i64 14).rel ν u:=hu;simp only [A.rel] at hu;have e:codeU (s.g (b+k))=K 14:=by unfold codeU;rw [h0,h2];rfl
         rw [hu.1,readN_first hz (by rw [e];decide) n hkn,e]
         rfl
     · have c0:=(ub_c s x y (K ((b:Int)-128+(k:Nat)))).trans (by rw [o3,h0])
       refine wp_seq (OwnL.phase (r:=⟨.ret,.b (okU (K ((b:Int)-128+(k:Nat)))),[(6,one (.lit .i64 15))],msF s⟩) X rfl ((congrArg (endM fp72.km [6] [0] 1) (Out.at_pick c0)).trans (ub_t s x y _)) o1 rfl rfl (by kernel_rfl) (LessA.refl _) (LessM.refl _) hI fun ν' a' w' x' hx' h => ?_)
       have hx':x' = .ret:=hx';subst hx';show bodyPostD Tryz.prog Tryz.f72 _ .ret a' w';refine OwnL.left h rfl fun u ⟨ν,hu⟩ hb=>⟨?_,hb⟩;have hu:(A.lit .i64 15).rel ν u:=hu;simp only [A.rel] at hu;have e:codeU (s.g (b+k))=K 15:=by unfold codeU;rw [h0];rfl
       rw [hu.1,readN_first hz (by rw [e];decide) n hkn,e]
       rfl
   · obtain rfl:k=n:=by omega
     refine wp_seq (wp_mono (OwnL.outB X rfl ((uh_c s x y _).trans (by rw [exy,slt_K (by omega) (by omega),decide_eq_false (by omega)])) (uh_f s x y _) rfl rfl rfl (by kernel_rfl) (LessA.refl _) (LessM.refl _) hI) ?_)
     rintro x' a' w' ⟨rfl,hI⟩;exact ⟨hz,hI⟩
 · refine OwnL.phase (r:=⟨.ret,.tt,[(6,one (.lit .i64 0))],msF s⟩) X rfl (u10_x s x y) rfl rfl rfl (by kernel_rfl) (LessA.refl _) (LessM.refl _) hI.2 fun ν' a' w' x' hx' h => ?_
   have hx':x' = .ret:=hx';subst hx';refine OwnL.left h rfl fun u ⟨ν,hu⟩ hb=>⟨?_,hb⟩;have hu:(A.lit .i64 0).rel ν u:=hu;simp only [A.rel] at hu;rw [hu.1,readN_zero n hI.1];rfl
def lay22R (s:FSt) (x y:U):FSt:=FSt.mux (thereB x y) (lay22N s (posN x) y.toNat) s
def readΓ22 (Γ:Gam):Gam:=fun f args h=>match Nat.beq f 72 with
 | true=>match args with
   | [.t (.a (.ptr id [])),.t (.a ax),.t (.a ay)]=>match stateOf h id,i64Of ax,i64Of ay with
     | some s,some x,some y=>some (.leaf .tt (i64 (readR s.g x y)) (h.see id))
     | _,_,_=>none
   | _=>none
 | false=>Γ f args h
def layΓ22 (Γ:Gam):Gam:=fun f args h=>match Nat.beq f 39 with
 | true=>match args with
   | [.t (.a (.ptr id [])),.t (.a ax),.t (.a ay)]=>match stateOf h id,i64Of ax,i64Of ay with
     | some s,some x,some y=>some (.leaf .tt (i64 (cond (thereB x y) (K 0) (K 17))) ((h.see id).put id ⟨true,(lay22R s x y).t⟩))
     | _,_,_=>none
   | _=>none
 | false=>Γ f args h
theorem enters39:Enters Tryz.prog 39:=enters_of entK 39 _ Tryz.func39 (by simp [Tryz.f39])
theorem enters72:Enters Tryz.prog 72:=enters_of entK 72 _ Tryz.func72 (by simp [Tryz.f72])
theorem read22_fn {h:H} {id:Nat} {ax ay:A} {s:FSt} {x y:U} (hs:stateOf h id=some s) (hx:i64Of ax=some x) (hy:i64Of ay=some y) :
 FnOK Tryz.prog 72 [.t (.a (.ptr id [])),.t (.a ax),.t (.a ay)] h (i64 (readR s.g x y)) (h.see id):=by
 intro S ν w vs hrd _ hm hv;obtain ⟨r,hν,hh,rfl⟩:=state_args hs hx hy hm (see_seen hrd) hv;have fin:∀u,u=vof .i64 (readR s.g x y)->∀w',Below w.heap.size w w'->∃v ν',Ending.returned (.int .i64 u) = .returned v/\(i64 (readR s.g x y)).rel ν' v/\Goes S ν w h ν' w' (h.see id):=by rintro u rfl w' hb;refine ⟨_,ν,rfl,?_,(goes_calm hm hb).trans ((goes_calm hm hb).mem.see id)⟩;show (A.i .i64 _).rel ν _;simp only [A.rel]
 cases ht:thereB x y
 · refine (read22_not ht hh).mono ?_;rintro e w' ⟨rfl,hb⟩;exact fin 17 (by unfold readR;rw [ht];rfl) w' hb
 · obtain ⟨b,n,hbn,h1,h2⟩:=there_nat ht;obtain ⟨e1,e2⟩:=pos_facts hbn h1 h2;refine (read22_there hbn h1 h2 ht hh).mono ?_;rintro e w' ⟨rfl,hb⟩;exact fin _ (by unfold readR;rw [ht,e1,e2];rfl) w' hb
theorem lay22_fn {h:H} {id:Nat} {ax ay:A} {s:FSt} {x y:U} (hs:stateOf h id=some s) (hx:i64Of ax=some x) (hy:i64Of ay=some y) :
 FnOK Tryz.prog 39 [.t (.a (.ptr id [])),.t (.a ax),.t (.a ay)] h (i64 (cond (thereB x y) (K 0) (K 17))) ((h.see id).put id ⟨true,(lay22R s x y).t⟩):=by
 intro S ν w vs hrd _ hm hv;have hrd':∀i,i∈(h.see id).rd->S i:=hrd;obtain ⟨r,hν,hh,rfl⟩:=state_args hs hx hy hm (see_seen hrd') hv;have hb:=stateOf_some hs;cases ht:thereB x y
 · refine (lay22_not ht hh).mono ?_;rintro e w' ⟨rfl,hh',hbut⟩;refine ⟨_,ν,rfl,?_,?_⟩
   · show (A.i .i64 _).rel ν _;simp only [A.rel];rfl
   · have e:lay22R s x y=s:=by unfold lay22R;rw [ht];rfl
     rw [e];have g1:=hm.see id;exact g1.trans (goes_turned (h:=h.see id) g1.mem hb rfl hν hbut hh')
 · obtain ⟨b,n,hbn,h1,h2⟩:=there_nat ht;obtain ⟨e1,e2⟩:=pos_facts hbn h1 h2;refine (lay22_there hbn h1 h2 ht hh).mono ?_;rintro e w' ⟨rfl,hh',hbut⟩;refine ⟨_,ν,rfl,?_,?_⟩
   · show (A.i .i64 _).rel ν _;simp only [A.rel];rfl
   · have e:lay22R s x y=lay22N s b n:=by unfold lay22R;rw [ht,e1,e2];rfl
     rw [e];have g1:=hm.see id;exact g1.trans (goes_turned (h:=h.see id) g1.mem hb rfl hν hbut hh')
theorem readΓ22_ok {Γ:Gam} (hΓ:ΓOK Tryz.prog Γ):ΓOK Tryz.prog (readΓ22 Γ) where
 ok:=by
  intro f args h r ok v h' hr hp hok;unfold readΓ22 at hr;split at hr
  · rename_i hg;have hg:=Go.WE.beq_true hg;subst hg;split at hr
    · split at hr
      · rename_i h1 h2 h3;cases hr;simp only [R.pick,oI,pI] at hp;obtain ⟨rfl,rfl,rfl⟩:=hp;exact .inl ⟨enters72,read22_fn h1 h2 h3⟩
      · cases hr
    · cases hr
  · exact hΓ.ok f args h r ok v h' hr hp hok
 pan:=by
  intro f args h r ok v h' hr hp hok;unfold readΓ22 at hr;split at hr
  · repeat' split at hr
    all_goals first|(cases hr;simp [R.pickP] at hp)|cases hr
  · exact hΓ.pan f args h r ok v h' hr hp hok
 ext:=by
  intro f args h r hr hlo;unfold readΓ22 at hr;split at hr
  · split at hr
    · rename_i id _ _;split at hr
      · cases hr;exact see_ext h id
      · cases hr
    · cases hr
  · exact hΓ.ext f args h r hr hlo
theorem layΓ22_ok {Γ:Gam} (hΓ:ΓOK Tryz.prog Γ):ΓOK Tryz.prog (layΓ22 Γ) where
 ok:=by
  intro f args h r ok v h' hr hp hok;unfold layΓ22 at hr;split at hr
  · rename_i hg;have hg:=Go.WE.beq_true hg;subst hg;split at hr
    · split at hr
      · rename_i h1 h2 h3;cases hr;simp only [R.pick,oI,pI] at hp;obtain ⟨rfl,rfl,rfl⟩:=hp;exact .inl ⟨enters39,lay22_fn h1 h2 h3⟩
      · cases hr
    · cases hr
  · exact hΓ.ok f args h r ok v h' hr hp hok
 pan:=by
  intro f args h r ok v h' hr hp hok;unfold layΓ22 at hr;split at hr
  · repeat' split at hr
    all_goals first|(cases hr;simp [R.pickP] at hp)|cases hr
  · exact hΓ.pan f args h r ok v h' hr hp hok
 ext:=by
  intro f args h r hr hlo;unfold layΓ22 at hr;split at hr
  · split at hr
    · rename_i id _ _;split at hr
      · rename_i h1 h2 h3;cases hr;exact (see_ext h id).trans (put_ext (h:=h.see id) (stateOf_some h1) rfl rfl)
      · cases hr
    · cases hr
  · exact hΓ.ext f args h r hr hlo
end Go.WE
namespace Go.WE
open Go Go.Proofs
def zRW:RW:=⟨K 0,K 0,K 0,K 0,K 0,K 0,K 0,K 0,K 0,K 0⟩
structure InvS (s:FSt):Prop where
 a:∀b,s.g b=K 2->s.kept.k (b / 8)≠K 0
 u:∀b b',b / 8=b' / 8->s.g b=K 2->s.g b'=K 2
 z:∀k,s.kept.k k=K 0->s.kept.at k=zRW
theorem putN_at {n j:Nat} {v:U} {g:Nat->U}:putN n v g j=if j=n then v else g j:=by
 unfold putN;rw [beq_eq_decide];by_cases h:j=n<;>simp [h]
theorem put8_at {k j:Nat} {v:U} {g:Nat->U}:putN (8*k+7) v (putN (8*k+6) v (putN (8*k+5) v (putN (8*k+4) v (putN (8*k+3) v (putN (8*k+2) v (putN (8*k+1) v (putN (8*k) v g))))))) j=if j / 8=k then v else g j:=by
 simp only [putN_at];by_cases h:j / 8=k
 · rw [if_pos h];have hc:j=8*k\/j=8*k+1\/j=8*k+2\/j=8*k+3\/j=8*k+4\/j=8*k+5\/j=8*k+6\/j=8*k+7:=by omega
   rcases hc with rfl|rfl|rfl|rfl|rfl|rfl|rfl|rfl<;>simp
 · rw [if_neg h,if_neg (by omega),if_neg (by omega),if_neg (by omega),if_neg (by omega),if_neg (by omega),if_neg (by omega),if_neg (by omega),if_neg (by omega)]
theorem m8f_eq (t:Bool) (f:Nat->U):m8f t f=f:=by
 funext j;unfold m8f;rw [m8_eq];cases t<;>rfl
theorem map2_m8f (t:Bool) (f:RF):f.map2 (m8f t)=f:=by
 unfold RF.map2;simp only [m8f_eq]
theorem zero_fields {s:FSt} (h:InvS s) {k:Nat} (hk:s.kept.k k=K 0):s.kept.k k=K 0/\s.kept.o k=K 0/\s.kept.m k=K 0/\s.kept.i k=K 0/\s.kept.tv k=K 0/\s.kept.tm k=K 0/\s.kept.ul k=K 0/\s.kept.uh k=K 0/\s.kept.sl k=K 0/\s.kept.sh k=K 0:=by
 have:=h.z k hk;unfold RF.at zRW at this;simp only [RW.mk.injEq] at this;exact this
theorem set0_field {c:Bool} {k:Nat} {f:Nat->U} (h:c=false->f k=K 0):putN k (K 0) f=fun j=>cond (c&&Nat.beq j k) (K 0) (f j):=by
 funext j;rw [putN_at,beq_eq_decide];by_cases e:j=k
 · subst e;cases c
   · simp [h rfl]
   · simp
 · simp [e]
theorem lay22E_eq {s:FSt} (h:InvS s) (b:Nat):lay22E s b=layB s b:=by
 have ht:∀c:Bool,c=(s.kept.k (b / 8) != K 0)->c=false->s.kept.k (b / 8)=K 0:=fun c e hc=>by rw [hc] at e;simpa using e.symm
 unfold lay22E layB;rw [map2_m8f,map2_m8f];congr 1
 · funext j;rw [putN_at,beq_eq_decide];by_cases e:j=b
   · simp [e]
   · rw [if_neg e,decide_eq_false e,cond_false];unfold m8g;rw [m8_eq,put8_at,beq_eq_decide];cases hg:s.g b==K 2
     · simp
     · have:=h.a b (eq_of_beq hg);have hc:(s.kept.k (b / 8) != K 0)=true:=by simpa using this
       rw [hc];by_cases e2:j / 8=b / 8<;>simp [e2]
 · unfold RF.set0 RF.map2;generalize hc:(s.kept.k (b / 8) != K 0)=c;have hz:c=false->_:=fun e=>zero_fields h (ht c hc.symm e);rw [set0_field (c:=c) fun e=>(hz e).1,set0_field (c:=c) fun e=>(hz e).2.1,set0_field (c:=c) fun e=>(hz e).2.2.1,set0_field (c:=c) fun e=>(hz e).2.2.2.1,set0_field (c:=c) fun e=>(hz e).2.2.2.2.1,
    set0_field (c:=c) fun e=>(hz e).2.2.2.2.2.1,set0_field (c:=c) fun e=>(hz e).2.2.2.2.2.2.1,set0_field (c:=c) fun e=>(hz e).2.2.2.2.2.2.2.1,set0_field (c:=c) fun e=>(hz e).2.2.2.2.2.2.2.2.1,set0_field (c:=c) fun e=>(hz e).2.2.2.2.2.2.2.2.2]
theorem layB_kept {s:FSt} {b k:Nat} (f:RF->Nat->U) (hf:∀g:(Nat->U)->Nat->U,∀p:RF,f (p.map2 g)=g (f p)):f (layB s b).kept k=if s.kept.k (b / 8)≠K 0/\k=b / 8 then K 0 else f s.kept k:=by
 show f (s.kept.map2 fun f j=>cond ((s.kept.k (b / 8) != K 0)&&Nat.beq j (b / 8)) (K 0) (f j)) k=_;rw [hf,beq_eq_decide];by_cases h1:s.kept.k (b / 8)=K 0<;>by_cases h2:k=b / 8<;>simp [h1,h2]
theorem inv_layB {s:FSt} (h:InvS s) (b:Nat):InvS (layB s b):=by
 have g1:∀j,(layB s b).g j=if j=b then K 1 else if s.g b=K 2/\j / 8=b / 8 then K 0 else s.g j:=fun j=>by
  show cond (Nat.beq j b) (K 1) (cond ((s.kept.k (b / 8) != K 0)&&((s.g b==K 2)&&Nat.beq (j / 8) (b / 8))) (K 0) (s.g j))=_;rw [beq_eq_decide,beq_eq_decide];by_cases e:j=b
  · rw [if_pos e,decide_eq_true e,cond_true]
  · rw [if_neg e,decide_eq_false e,cond_false];by_cases e2:s.g b=K 2
    · have q1:(s.g b==K 2)=true:=beq_iff_eq.2 e2;have q2:(s.kept.k (b / 8) != K 0)=true:=bne_iff_ne.2 (h.a b e2);rw [q1,q2,Bool.true_and,Bool.true_and];by_cases e3:j / 8=b / 8
      · rw [decide_eq_true e3,cond_true,if_pos ⟨e2,e3⟩]
      · rw [decide_eq_false e3,cond_false,if_neg (fun e=>e3 e.2)]
    · have q1:(s.g b==K 2)=false:=beq_eq_false_iff_ne.2 e2;rw [q1,Bool.false_and,Bool.and_false,cond_false,if_neg (fun e=>e2 e.1)]
 have g2:∀j,(layB s b).g j=K 2->j / 8≠b / 8/\s.g j=K 2:=fun j hj=>by
  rw [g1] at hj;by_cases e:j=b
  · rw [if_pos e] at hj;exact absurd hj (by decide)
  · rw [if_neg e] at hj;by_cases e2:s.g b=K 2/\j / 8=b / 8
    · rw [if_pos e2] at hj;exact absurd hj (by decide)
    · rw [if_neg e2] at hj;refine ⟨fun e3=>e2 ⟨h.u j b e3 hj,e3⟩,hj⟩
 refine ⟨fun j hj => ?_,fun j j' hjj hj => ?_,fun k hk => ?_⟩
 · obtain ⟨h1,h2⟩:=g2 j hj;rw [layB_kept RF.k (fun _ _=>rfl),if_neg (fun e=>h1 e.2)];exact h.a j h2
 · obtain ⟨h1,h2⟩:=g2 j hj;have h3:=h.u j j' hjj h2;rw [g1,if_neg (by rintro rfl;exact h1 hjj),if_neg (by rintro ⟨_,e⟩;exact h1 (hjj.trans e))]
   exact h3
 · rw [layB_kept RF.k (fun _ _=>rfl)] at hk;unfold RF.at
   rw [layB_kept RF.k (fun _ _=>rfl),layB_kept RF.o (fun _ _=>rfl),layB_kept RF.m (fun _ _=>rfl),layB_kept RF.i (fun _ _=>rfl),layB_kept RF.tv (fun _ _=>rfl),layB_kept RF.tm (fun _ _=>rfl),layB_kept RF.ul (fun _ _=>rfl),layB_kept RF.uh (fun _ _=>rfl),layB_kept RF.sl (fun _ _=>rfl),layB_kept RF.sh (fun _ _=>rfl)];by_cases e:s.kept.k (b / 8)≠K 0/\k=b / 8
   · simp only [if_pos e];rfl
   · rw [if_neg e] at hk;simp only [if_neg e];exact h.z k hk
theorem inv_layN {s:FSt} (h:InvS s) (b:Nat):∀n,InvS (layN s b n)
 | 0=>h
 | n+1=>inv_layB (inv_layN h b n) _
theorem lay22N_eq {s:FSt} (h:InvS s) (b:Nat):∀n,lay22N s b n=layN s b n
 | 0=>rfl
 | n+1=>by show lay22E (lay22N s b n) (b+n)=layB (layN s b n) (b+n);rw [lay22N_eq h b n,lay22E_eq (inv_layN h b n)]
theorem lay22R_eq {s:FSt} (h:InvS s) (x y:U):lay22R s x y=layR s x y:=by
 unfold lay22R layR;rw [lay22N_eq h]
theorem inv_layR {s:FSt} (h:InvS s) (x y:U):InvS (layR s x y):=by
 unfold layR;cases thereB x y
 · exact h
 · exact inv_layN h _ _
structure VW where
 k:U
 n:U
 m:U
 i:U
structure VV where
 k:Nat->U
 n:Nat->U
 m:Nat->U
 i:Nat->U
def VV.at (f:VV) (j:Nat):VW:=⟨f.k j,f.n j,f.m j,f.i j⟩
def VW.t (v:VW):T :=.st [.a (.i .i64 v.k),.a (.i .u64 v.n),.a (.i .i64 v.m),.a (.i .i64 v.i)]
def VV.s (f:VV):Sh :=.st [.int .i64 f.k,.int .u64 f.n,.int .i64 f.m,.int .i64 f.i]
def VV.map2 (f:VV) (h:(Nat->U)->Nat->U):VV:=⟨h f.k,h f.n,h f.m,h f.i⟩
def VV.set (f:VV) (j:Nat) (v:VW):VV:=⟨putN j v.k f.k,putN j v.n f.n,putN j v.m f.m,putN j v.i f.i⟩
def ctxT:T :=.lst 1 (List.replicate 32 (.a (.lit .u8 0)))
structure VF where
 regs:VV
 ptr:VV
 by_:Nat->Nat->U
 ld:Nat->Nat->Bool
def VF.t (s:VF):T :=.st [.arr 4 (.lit 11) s.regs.s,ctxT,.arr 20 (.lit 16) (.st [s.ptr.s,.ints 8 .u8 s.by_,.bools 8 s.ld])]
structure QF where
 regs:VV
 how:Nat->U
 b:Nat->U
 ptr:VV
def QF.t (s:QF):T :=.st [.arr 4 (.lit 11) s.regs.s,ctxT,.arr 2 (.lit 128) (.st [.int .i64 s.how,.int .u8 s.b]),.arr 4 (.lit 16) s.ptr.s]
def c80:Code:=bodyOf Tryz.prog 80
def v0:Code:=c80.sA
def vl:Code:=c80.sB.inn.inn
theorem c80_eq:c80 = .seq v0 (.block 0 (.loop vl)):=by kernel_rfl
def vh:Code:=vl.sA
def vf:Code:=vl.sB.sA
def vb:Code:=vl.sB.sB.sA
def vi:Code:=vl.sB.sB.sB
theorem vl_eq:vl = .seq vh (.seq vf (.seq vb vi)):=by kernel_rfl
def c83:Code:=bodyOf Tryz.prog 83
def w0:Code:=c83.sA
def wl:Code:=c83.sB.inn.inn
theorem c83_eq:c83 = .seq w0 (.block 0 (.loop wl)):=by kernel_rfl
def wh:Code:=wl.sA
def wb:Code:=wl.sB.sA
def wi:Code:=wl.sB.sB
theorem wl_eq:wl = .seq wh (.seq wb wi):=by kernel_rfl
def fp80:Fp:=⟨536879047,51,66,fun _ _=>none⟩
def fp83:Fp:=⟨34426851783,54,66,fun _ _=>none⟩
def ev80 (c:Code) (l:List (Nat×V)) (ms:List (Nat×Blk)) (n:Nat):Out:=evalC cxK (evalF cxK noΓ 400 20) fp80 400 c (stOf l (hM ms n))
def ev83 (c:Code) (l:List (Nat×V)) (ms:List (Nat×Blk)) (n:Nat):Out:=evalC cxK (evalF cxK noΓ 400 20) fp83 400 c (stOf l (hM ms n))
def msV (s:VF) (n:Nat) (c:Nat->U):List (Nat×Blk):=[(0,⟨true,s.t⟩),(1,⟨false,.arr 1 (.sym n) (.int .u8 c)⟩)]
def msW (s:QF) (n:Nat) (c:Nat->U):List (Nat×Blk):=[(0,⟨true,s.t⟩),(1,⟨false,.arr 1 (.sym n) (.int .u8 c)⟩)]
abbrev byV (n:Nat):V:=one (.sl 1 [] 1 (.lit 0) (.sym n) none)
def sv0 (k:U) (n:Nat):List (Nat×V):=[(0,pt 0),(1,i64 k),(2,byV n)]
def sv1 (k:U) (n:Nat) (i:A):List (Nat×V):=[(0,pt 0),(1,i64 k),(9,byV n),(10,one (.i .i64 (BitVec.ofNat 64 n))),(11,one i)]
def sv2 (k:U) (n:Nat) (i:A) (b:Bool):List (Nat×V):=[(0,pt 0),(1,i64 k),(9,byV n),(10,one (.i .i64 (BitVec.ofNat 64 n))),(11,one i),(12,one (.b b))]
section
variable (p:Bool) (q r:Nat)
def vP (f:Nat->U):Nat->U:=fun j=>cond p (cond (Nat.beq j q) (K 0) (f j)) (f j)
def vQ (f:Nat->U):Nat->U:=fun j=>cond (Nat.beq j q) (f q) (f j)
def vB2 (f:Nat->Nat->U):Nat->Nat->U:=fun i j=>cond p (cond (Nat.beq i q) (K 0) (f i j)) (f i j)
def vL2 (f:Nat->Nat->Bool):Nat->Nat->Bool:=fun i j=>cond p (cond (Nat.beq i q) false (f i j)) (f i j)
def vC2 {α:Type} (v:α) (f:Nat->Nat->α):Nat->Nat->α:=fun i j=>cond (Nat.beq i q) (cond (Nat.beq j r) v (f q j)) (f i j)
def vD2 {α:Type} (f:Nat->Nat->α):Nat->Nat->α:=fun i j=>cond (Nat.beq i q) (f q j) (f i j)
end
def vq (x:U):Nat:=(BitVec.sdiv x (K 8)).toNat
def vr (x:U):Nat:=(BitVec.srem x (K 8)).toNat
def vp (s:VF) (x:U):Bool:=s.ptr.k (vq x) != K 0
def layVE (s:VF) (x:U) (v:U):VF:=
 ⟨s.regs.map2 fun f j=>cond (vp s x) (f j) (f j),s.ptr.map2 fun f=>vQ (vq x) (vQ (vq x) (vP (vp s x) (vq x) f)),vD2 (vq x) (vC2 (vq x) (vr x) v (vB2 (vp s x) (vq x) s.by_)),vC2 (vq x) (vr x) true (vD2 (vq x) (vL2 (vp s x) (vq x) s.ld))⟩
def okV (s:VF) (x i:U) (n:Nat):Bool:=
 let t0:=BitVec.sdiv x (K 8)
 let t5:=(!(BitVec.msb i)&&Nat.blt i.toNat n)&&Nat.blt (0+i.toNat) n
 let t9:=Nat.blt t0.toNat 16
 let t8:=t5&&(!(BitVec.msb t0)&&t9)
 let t11:=cond (vp s x) ((t8&&t9)&&t9) (t8&&t9)
 let t12:=BitVec.srem x (K 8)
 let t14:=Nat.blt t12.toNat 8
 let t15:=t11&&(!(BitVec.msb t12)&&t14)
 let t17:=t15&&(t9&&t14)
 let t18:=t17&&(!(BitVec.msb t12)&&t14)
 t18&&(t9&&t14)
section
variable (s:VF) (k i:U) (n:Nat) (c:Nat->U) (b:Bool)
theorem v0_ev:endM fp80.km [0,1,9,10,11] [0,1] 2 (ev80 v0 (sv0 k n) (msV s n c) 2).pick=some ⟨.nrm,.b (Nat.blt n (2 ^ 63)),sv1 k n (.lit .i64 0),msV s n c⟩:=by kernel_rfl
theorem vh_ev:endM fp80.km [0,1,9,10,11,12] [0,1] 2 (ev80 vh (sv1 k n (.i .i64 i)) (msV s n c) 2).pick=some ⟨.nrm,.tt,sv2 k n (.i .i64 i) (BitVec.slt i (BitVec.ofNat 64 n)),msV s n c⟩:=by kernel_rfl
theorem vf_c:(ev80 vf (sv2 k n (.i .i64 i) b) (msV s n c) 2).cnd=some b:=by kernel_rfl
theorem vf_t:endM fp80.km [0,1,9,10,11] [0,1] 2 ((ev80 vf (sv2 k n (.i .i64 i) b) (msV s n c) 2).at true)=some ⟨.nrm,.tt,sv1 k n (.i .i64 i),msV s n c⟩:=by kernel_rfl
theorem vf_f:endM fp80.km [] [0,1] 2 ((ev80 vf (sv2 k n (.i .i64 i) b) (msV s n c) 2).at false)=some ⟨.exit 0,.tt,[],msV s n c⟩:=by kernel_rfl
theorem vb_ev:endM fp80.km [0,1,9,10,11] [0,1] 2 (ev80 vb (sv1 k n (.i .i64 i)) (msV s n c) 2).pick=some ⟨.nrm,.b (okV s (k+i) i n),sv1 k n (.i .i64 i),msV (layVE s (k+i) (c (0+i.toNat))) n c⟩:=by kernel_rfl
theorem vi_ev:endM fp80.km [0,1,9,10,11] [0,1] 2 (ev80 vi (sv1 k n (.i .i64 i)) (msV s n c) 2).pick=some ⟨.nrm,.tt,sv1 k n (.i .i64 (i+K 1)),msV s n c⟩:=by kernel_rfl
end
end Go.WE
namespace Go.WE
open Go Go.Proofs
open Go.RowKit (Below)
def layVB (s:VF) (b:Nat) (v:U):VF:=
 ⟨s.regs,s.ptr.map2 fun f j=>cond (Nat.beq j (b / 8)) (cond (s.ptr.k (b / 8) != K 0) (K 0) (f j)) (f j),
  fun i j=>cond (Nat.beq i (b / 8)) (cond (Nat.beq j (b % 8)) v (cond (s.ptr.k (b / 8) != K 0) (K 0) (s.by_ i j))) (s.by_ i j),
  fun i j=>cond (Nat.beq i (b / 8)) (cond (Nat.beq j (b % 8)) true (cond (s.ptr.k (b / 8) != K 0) false (s.ld i j))) (s.ld i j)⟩
def layVN (s:VF) (b:Nat) (c:Nat->U):Nat->VF
 | 0=>s
 | n+1=>layVB (layVN s b c n) (b+n) (c n)
theorem byte_all:∀b:Fin 128,vq (kk b.val)=b.val / 8/\vr (kk b.val)=b.val % 8/\BitVec.msb (BitVec.sdiv (kk b.val) (K 8))=false/\Nat.blt (BitVec.sdiv (kk b.val) (K 8)).toNat 16=true/\BitVec.msb (BitVec.srem (kk b.val) (K 8))=false/\Nat.blt (BitVec.srem (kk b.val) (K 8)).toNat 8=true:=by decide +kernel
theorem layVE_eq {b:Nat} (hb:b<128) (s:VF) (v:U):layVE s (kk b) v=layVB s b v:=by
 obtain ⟨h1,h2,_⟩:=byte_all ⟨b,hb⟩;simp only at h1 h2;unfold layVE layVB vp;rw [h1,h2];generalize b / 8=q;generalize b % 8=r;generalize hp:(s.ptr.k q != K 0)=p;congr 1
 · unfold VV.map2;cases p<;>rfl
 · unfold VV.map2 vQ vP;congr 1<;>(funext j;simp only [beq_eq_decide];by_cases e:j=q<;>simp [e])
 · funext i j;unfold vD2 vC2 vB2;simp only [beq_eq_decide];by_cases e:i=q<;>by_cases e2:j=r<;>simp [e,e2]
 · funext i j;unfold vD2 vC2 vL2;simp only [beq_eq_decide];by_cases e:i=q<;>by_cases e2:j=r<;>simp [e,e2]
theorem okV_true {b i n:Nat} (hb:b<128) (hi:i<n) (hn:n<2 ^ 63) (s:VF):okV s (kk b) (kk i) n=true:=by
 obtain ⟨h1,h2,h3,h4,h5,h6⟩:=byte_all ⟨b,hb⟩;simp only at h3 h4 h5 h6;have q1:Nat.blt (kk i).toNat n=true:=by rw [kk_nat (by omega)];exact nB hi
 have q2:Nat.blt (0+(kk i).toNat) n=true:=by rw [Nat.zero_add];exact q1
 unfold okV;simp only;rw [h3,h4,h5,h6,q1,q2,msb_kk (by omega)]
 cases vp s (kk b)<;>rfl
theorem sv_conv (k:U) (n:Nat):LessA (sv1 k n (.lit .i64 0)) (sv1 k n (.i .i64 (kk 0))):=fun ν=>⟨rfl,same_rel,rfl,same_rel,rfl,same_rel,rfl,same_rel,rfl,lit_less rfl,trivial⟩
theorem body80:Tryz.f80.body=some c80:=by kernel_rfl
def nuTwo (r b off:Nat):Nu:=fun i=>if i=0 then some (r,0) else if i=1 then some (b,off) else none
theorem nuTwo_some {r b off i q base:Nat} (h:nuTwo r b off i=some (q,base)):(i=0/\q=r/\base=0)\/(i=1/\q=b/\base=off):=by
 unfold nuTwo at h;split at h
 · cases h;exact .inl ⟨by assumption,rfl,rfl⟩
 · split at h
   · cases h;exact .inr ⟨by assumption,rfl,rfl⟩
   · cases h
def HoldsAt (W:World) (b off:Nat) (t:T):Prop:=∃cs ty fr pre vs post,W.heap[b]? = some (.cells cs ty fr)/\cs.toList=pre++vs++post/\pre.length=off/\t.rel nu0 vs
theorem HoldsAt.lt {W:World} {b off:Nat} {t:T} (h:HoldsAt W b off t):b<W.heap.size:=by
 obtain ⟨cs,ty,fr,pre,vs,post,h1,_⟩:=h;exact (Array.getElem?_eq_some_iff.1 h1).1
theorem mem_two {W:World} {r b off:Nat} {t t':T} (hne:r≠b) (h:Holds W r t) (h':HoldsAt W b off t'):Mem (fun _=>True) (nuTwo r b off) W (hM [(0,⟨true,t⟩),(1,⟨false,t'⟩)] 2):=by
 have hget:∀i x,(hM [(0,⟨true,t⟩),(1,⟨false,t'⟩)] 2).m.get i=some x->(i=0/\x=⟨true,t⟩)\/(i=1/\x=⟨false,t'⟩):=fun i x e=>by have:=get_memT _ i x e;simp only [List.mem_cons,pI,List.not_mem_nil,or_false] at this;exact this
 refine ⟨⟨fun i q base e => ?_,fun i x e hrw i' q b1 b2 e1 e2 => ?_,fun i hi => ?_,fun i x e => ?_,Nat.le_refl _,fun g hg=>(by cases hg)⟩,fun i x e _ => ?_⟩
 · rcases nuTwo_some e with ⟨_,rfl,_⟩|⟨_,rfl,_⟩
   · exact h.lt
   · exact h'.lt
 · rcases hget i x e with ⟨rfl,rfl⟩|⟨rfl,rfl⟩
   · rcases nuTwo_some e2 with ⟨rfl,_,_⟩|⟨rfl,rfl,_⟩
     · rfl
     · rcases nuTwo_some e1 with ⟨_,h1,_⟩|⟨h1,_⟩
       · exact absurd h1.symm hne
       · cases h1
   · cases hrw
 · have hi:2≤i:=hi;unfold nuTwo;rw [if_neg (by omega),if_neg (by omega)]
 · rcases hget i x e with ⟨rfl,_⟩|⟨rfl,_⟩
   · show 0<2;decide
   · show 1<2;decide
 · rcases hget i x e with ⟨rfl,rfl⟩|⟨rfl,rfl⟩
   · obtain ⟨cs,ty,vs,post,h1,h2,h3⟩:=h;exact .inl ⟨r,0,cs,ty,(0,0),[],vs,post,by simp [nuTwo],h1,by simpa using h2,rfl,T.rel_mono (fun i p e=>by cases e) h3,fun _=>⟨rfl,rfl⟩⟩
   · obtain ⟨cs,ty,fr,pre,vs,post,h1,h2,h3,h4⟩:=h';exact .inl ⟨b,off,cs,ty,fr,pre,vs,post,by simp [nuTwo],h1,h2,h3,T.rel_mono (fun i p e=>by cases e) h4,fun h=>by cases h⟩
theorem lay80 {w:World} {r b off n cap bi:Nat} {s:VF} {c:Nat->U} (hbn:bi+n≤128) (hcap:n≤cap) (hne:r≠b) (hh:Holds w r s.t) (hc:HoldsAt w b off (.arr 1 (.sym n) (.int .u8 c))) :
 Calls Tryz.prog 80 #[.pointer (some ⟨r,0,none⟩),.int .i64 (vof .i64 (kk bi)),.slice (some ⟨b,off,none⟩) n cap] w fun e w'=>(∃u,e = .returned u)/\Holds w' r (layVN s bi c n).t/\But r w.heap.size w w':=by
 have X:=XK noΓ_ok;refine calls_phases Tryz.func80 body80 ?_;rw [c80_eq];have st:OwnB fp80 2 (msV s n c) w r (sv0 (kk bi) n) _ w:=OwnB.enterA (fp:=fp80) (args:=[pt 0,i64 (kk bi),byV n]) (vs:=[.pointer (some ⟨r,0,none⟩),.int .i64 (vof .i64 (kk bi)),.slice (some ⟨b,off,none⟩) n cap]) (mem_two hne hh hc) rfl (fun id q base h=>by
  rcases nuTwo_some h with ⟨h,_⟩|⟨rfl,_⟩
  · exact .inl h
  · refine .inr fun b' hb' => ?_;have h1:(1,b')∈msV s n c:=get_memT _ 1 b' hb';unfold msV at h1;simp only [List.mem_cons,pI,List.not_mem_nil,or_false] at h1;rcases h1 with ⟨h,_⟩|⟨_,h⟩
    · cases h
    · rw [h]) ⟨by
  show (A.ptr 0 []).rel (nuTwo r b off) _;simp only [A.rel];exact ⟨r,0,rfl,rfl⟩,by
  show (A.i .i64 (kk bi)).rel (nuTwo r b off) _;simp only [A.rel],by
  show (A.sl 1 [] 1 (.lit 0) (.sym n) none).rel (nuTwo r b off) _;simp only [A.rel];exact ⟨b,off,off,cap,by simp [nuTwo],rfl,fun _=>by simp [pathOff,Ix.val],hcap,fun _ e=>by cases e⟩,trivial⟩ (by show 3≤51;decide)
 refine wp_two (OwnB.go X rfl (v0_ev s (kk bi) n c) (nB (by omega)) rfl rfl (by decide) (by kernel_rfl) (sv_conv _ _) (LessM.refl _) st) fun a w1 hI => ?_
 refine for_loop (fun k a w1=>OwnB fp80 2 (msV (layVN s bi c k) n c) w r (sv1 (kk bi) n (.i .i64 (kk k))) a w1) (fun a w1=>OwnB fp80 2 (msV (layVN s bi c n) n c) w r [] a w1) n ?_ ?_ hI (fun a' w' h => ?_)
 · intro k hk a w1 hI;rw [vl_eq,← kk_one];have e1:kk bi+kk k=kk (bi+k):=(BitVec.ofNat_add bi k).symm;refine wp_two (OwnB.go X rfl (vh_ev _ (kk bi) (kk k) n c) rfl rfl rfl (by decide) (by kernel_rfl) (LessA.refl _) (LessM.refl _) hI) fun a w1 hI => ?_
   refine wp_two (OwnB.goB X rfl ((vf_c _ (kk bi) (kk k) n c _).trans (by rw [slt_kk (by omega) (by omega),decide_eq_true hk])) (vf_t _ (kk bi) (kk k) n c _) rfl rfl rfl (by decide) (by kernel_rfl) (LessA.refl _) (LessM.refl _) hI) fun a w1 hI => ?_
   have ev:=vb_ev (layVN s bi c k) (kk bi) (kk k) n c;have e2:(0+(kk k).toNat)=k:=by rw [kk_nat (by omega),Nat.zero_add]
   rw [e1,e2,layVE_eq (by omega)] at ev
   refine wp_two (OwnB.go X rfl ev (okV_true (by omega) hk (by omega) _) rfl rfl (by decide) (by kernel_rfl) (LessA.refl _) (LessM.refl _) hI) fun a w1 hI => ?_
   exact OwnB.go X rfl (vi_ev _ (kk bi) (kk k) n c) rfl rfl rfl (by decide) (by kernel_rfl) (LessA.refl _) (LessM.refl _) hI
 · intro a w1 hI;rw [vl_eq];refine wp_two (OwnB.go X rfl (vh_ev _ (kk bi) (kk n) n c) rfl rfl rfl (by decide) (by kernel_rfl) (LessA.refl _) (LessM.refl _) hI) fun a w1 hI => ?_
   exact wp_out (OwnB.outB X rfl ((vf_c _ (kk bi) (kk n) n c _).trans (by rw [slt_kk (by omega) (by omega),decide_eq_false (by omega)])) (vf_f _ (kk bi) (kk n) n c _) rfl rfl rfl (by decide) (by kernel_rfl) (LessA.refl _) (LessM.refl _) hI)
 · obtain ⟨ν,hs,hb,h0,_⟩:=h;have hh':Holds w' r (layVN s bi c n).t:=seen_holds (hs.mem.seen 0 ⟨true,(layVN s bi c n).t⟩ rfl (.inl trivial)) rfl rfl h0;show Leaves Tryz.prog Tryz.f80 a'.tmps _ a'.defers .returning w';rw [hs.defers];exact ⟨.tuple #[],results_none rfl _ _ _,⟨_,rfl⟩,hh',hb⟩
def c104:Code:=bodyOf Tryz.prog 104
def s0:Code:=c104.sA
def s1:Code:=c104.sB.sA.sA
def sl:Code:=c104.sB.sA.sB.inn.inn
def s8:Code:=c104.sB.sB
theorem c104_eq:c104 = .seq s0 (.seq (.seq s1 (.block 0 (.loop sl))) s8):=by kernel_rfl
def sh:Code:=sl.sA
def sb:Code:=sl.sB.sA
def si:Code:=sl.sB.sB
theorem sl_eq:sl = .seq sh (.seq sb si):=by kernel_rfl
def fp104:Fp:=⟨17188259015,35,66,fun _ _=>none⟩
def evZ (c:Code) (l:List (Nat×V)) (ms:List (Nat×Blk)) (n:Nat):Out:=evalC cxK (evalF cxK noΓ 400 20) fp104 400 c (stOf l (hM ms n))
def msG (s:QF):List (Nat×Blk):=[(0,⟨false,s.t⟩)]
def okZ (z:U):Bool:=vB z 128&&wB z 128
def okZ2 (z:U):Bool:=(okZ z&&vB z 128)&&wB z 128
section
variable (s:QF) (x y i:U)
theorem s0_ev:endM fp104.km [0,1,2] [0] 1 (evZ s0 (sl0 x y) (msG s) 1).pick=some ⟨.nrm,.tt,sl0 x y,msG s⟩:=by kernel_rfl
theorem s1_ev:endM fp104.km [0,1,2,7] [0] 1 (evZ s1 (sl0 x y) (msG s) 1).pick=some ⟨.nrm,.tt,sq x y (.lit .i64 0),msG s⟩:=by kernel_rfl
theorem sh_c:(evZ sh (sq x y (.i .i64 i)) (msG s) 1).cnd=some (BitVec.slt i y):=by kernel_rfl
theorem sh_t:endM fp104.km [0,1,2,7] [0] 1 ((evZ sh (sq x y (.i .i64 i)) (msG s) 1).at true)=some ⟨.nrm,.tt,sq x y (.i .i64 i),msG s⟩:=by kernel_rfl
theorem sh_f:endM fp104.km [0,1,2] [0] 1 ((evZ sh (sq x y (.i .i64 i)) (msG s) 1).at false)=some ⟨.exit 0,.tt,sl0 x y,msG s⟩:=by kernel_rfl
theorem sb_c:(evZ sb (sq x y (.i .i64 i)) (msG s) 1).cnd=some (s.how (K 128+x+i).toNat==K 0):=by kernel_rfl
theorem sb_t:endM fp104.km [6] [0] 1 ((evZ sb (sq x y (.i .i64 i)) (msG s) 1).at true)=some ⟨.ret,.b (okZ (K 128+x+i)),[(6,one (.lit .i64 15))],msG s⟩:=by kernel_rfl
theorem sb_c2:(evZ sb (sq x y (.i .i64 i)) (msG s) 1).nR.cnd=some (s.how (K 128+x+i).toNat==K 2):=by kernel_rfl
theorem sb_t2:endM fp104.km [6] [0] 1 ((evZ sb (sq x y (.i .i64 i)) (msG s) 1).nR.at true)=some ⟨.ret,.b (okZ2 (K 128+x+i)),[(6,one (.lit .i64 14))],msG s⟩:=by kernel_rfl
theorem sb_f2:endM fp104.km [0,1,2,7] [0] 1 ((evZ sb (sq x y (.i .i64 i)) (msG s) 1).nR.at false)=some ⟨.nrm,.b (okZ2 (K 128+x+i)),sq x y (.i .i64 i),msG s⟩:=by kernel_rfl
theorem si_ev:endM fp104.km [0,1,2,7] [0] 1 (evZ si (sq x y (.i .i64 i)) (msG s) 1).pick=some ⟨.nrm,.tt,sq x y (.i .i64 (i+K 1)),msG s⟩:=by kernel_rfl
theorem s8_x:endM fp104.km [6] [0] 1 (evZ s8 (sl0 x y) (msG s) 1).pick=some ⟨.ret,.tt,[(6,one (.lit .i64 0))],msG s⟩:=by kernel_rfl
end
theorem okZ_true {b:Nat} (hb:b<128):okZ (kk b)=true/\okZ2 (kk b)=true:=
 (show ∀b:Fin 128,okZ (kk b.val)=true/\okZ2 (kk b.val)=true by decide +kernel) ⟨b,hb⟩
theorem sq_conv (x y:U):LessA (sq x y (.lit .i64 0)) (sq x y (.i .i64 (kk 0))):=fun ν=>⟨rfl,same_rel,rfl,same_rel,rfl,same_rel,rfl,lit_less rfl,trivial⟩
theorem body104:Tryz.f104.body=some c104:=by kernel_rfl
theorem seen_st {w:World} {r:Nat} {s:QF} {x y:U} (hh:Holds w r s.t):OwnL fp104 1 (msG s) w (sl0 x y) { tmps := #[.pointer (some ⟨r,0,none⟩),.int .i64 (vof .i64 x),.int .i64 (vof .i64 y)]++Array.replicate (Tryz.f104.ntmps-3) undef,defers:=[] } w:=
 OwnL.enterA (fp:=fp104) (args:=[pt 0,i64 x,i64 y]) (vs:=[.pointer (some ⟨r,0,none⟩),.int .i64 (vof .i64 x),.int .i64 (vof .i64 y)]) (mem_oneF hh) (fun id q base h b hb=>by have h1:(id,b)∈msG s:=get_memT _ id b hb;unfold msG at h1;simp only [List.mem_singleton,pI] at h1;rw [h1.2]) (args22 (w:=w)) (by show 3≤35;decide)
theorem seen_calls {w:World} {r:Nat} {s:QF} {x:U} {b n:Nat} (hbn:b+n≤128) (hx:K 128+x=kk b) (hh:Holds w r s.t) :
 Calls Tryz.prog 104 #[.pointer (some ⟨r,0,none⟩),.int .i64 (vof .i64 x),.int .i64 (vof .i64 (kk n))] w fun e w'=>e = .returned (.int .i64 (vof .i64 (readN s.how b n)))/\Below w.heap.size w w':=by
 have X:=XK noΓ_ok;refine calls_phases Tryz.func104 body104 ?_;rw [c104_eq];refine wp_two (OwnL.go X rfl (s0_ev s x (kk n)) rfl rfl rfl (by kernel_rfl) (LessA.refl _) (LessM.refl _) (seen_st hh)) fun a w1 hI => ?_
 refine wp_then (K:=fun a w1=>(∀j,j<n->codeU (s.how (b+j))=K 0)/\OwnL fp104 1 (msG s) w (sl0 x (kk n)) a w1) ?_ fun a w1 hI => ?_
 · refine wp_two (OwnL.go X rfl (s1_ev s x (kk n)) rfl rfl rfl (by kernel_rfl) (sq_conv _ _) (LessM.refl _) hI) fun a w1 hI => ?_
   refine for_any (fun k a w1=>(∀j,j<k->codeU (s.how (b+j))=K 0)/\OwnL fp104 1 (msG s) w (sq x (kk n) (.i .i64 (kk k))) a w1) n ?_ ⟨fun j hj=>absurd hj (Nat.not_lt_zero _),hI⟩;rintro k hk a w1 ⟨hz,hI⟩;rw [sl_eq];by_cases hkn:k<n
   · obtain ⟨o1,o2⟩:=okZ_true (b:=b+k) (by omega)
     have ez:K 128+x+kk k=kk (b+k):=by rw [hx];exact (BitVec.ofNat_add b k).symm
     have e3:(kk (b+k)).toNat=b+k:=kk_nat (by omega)
     refine wp_two (OwnL.goB X rfl ((sh_c s x (kk n) (kk k)).trans (by rw [slt_kk (by omega) (by omega),decide_eq_true hkn])) (sh_t s x (kk n) _) rfl rfl rfl (by kernel_rfl) (LessA.refl _) (LessM.refl _) hI) fun a w1 hI => ?_
     cases h0:s.how (b+k)==K 0
     · have c0:=(sb_c s x (kk n) (kk k)).trans (by rw [ez,e3,h0])
       cases h2:s.how (b+k)==K 2
       · have c2:=(sb_c2 s x (kk n) (kk k)).trans (by rw [ez,e3,h2])
         refine wp_two (OwnL.phase (r:=⟨.nrm,.b (okZ2 (K 128+x+kk k)),sq x (kk n) (.i .i64 (kk k)),msG s⟩) X rfl ((congrArg (endM fp104.km [0,1,2,7] [0] 1) ((Out.nR_pick c0).trans (Out.at_pick c2))).trans (sb_f2 s x (kk n) _)) (by rw [ez];exact o2) rfl rfl (by kernel_rfl) (LessA.refl _) (LessM.refl _) hI (fun ν' a' w' x hx h=>⟨hx,h⟩)) fun a w1 hI => ?_
         refine wp_mono (OwnL.go X rfl (si_ev s x (kk n) _) rfl rfl rfl (by kernel_rfl) (LessA.refl _) (LessM.refl _) hI) ?_
         rintro x' a' w' ⟨rfl,hI⟩;refine ⟨hkn,fun j hj => ?_,?_⟩
         · by_cases e:j=k
           · subst e;exact codeU_ne h0 h2
           · exact hz j (by omega)
         · rw [← kk_one];exact hI
       · have c2:=(sb_c2 s x (kk n) (kk k)).trans (by rw [ez,e3,h2])
         refine wp_seq (OwnL.phase (r:=⟨.ret,.b (okZ2 (K 128+x+kk k)),[(6,one (.lit .i64 14))],msG s⟩) X rfl ((congrArg (endM fp104.km [6] [0] 1) ((Out.nR_pick c0).trans (Out.at_pick c2))).trans (sb_t2 s x (kk n) _)) (by rw [ez];exact o2) rfl rfl (by kernel_rfl) (LessA.refl _) (LessM.refl _) hI fun ν' a' w' x' hx' h => ?_)
         have hx':x' = .ret:=hx';subst hx';show bodyPostD Tryz.prog Tryz.f104 _ .ret a' w';refine OwnL.left h rfl fun u ⟨ν,hu⟩ hb=>⟨?_,hb⟩;have hu:(A.lit .i64 14).rel ν u:=hu;simp only [A.rel] at hu;have e:codeU (s.how (b+k))=K 14:=by unfold codeU;rw [h0,h2];rfl
         rw [hu.1,readN_first hz (by rw [e];decide) n hkn,e]
         rfl
     · have c0:=(sb_c s x (kk n) (kk k)).trans (by rw [ez,e3,h0])
       refine wp_seq (OwnL.phase (r:=⟨.ret,.b (okZ (K 128+x+kk k)),[(6,one (.lit .i64 15))],msG s⟩) X rfl ((congrArg (endM fp104.km [6] [0] 1) (Out.at_pick c0)).trans (sb_t s x (kk n) _)) (by rw [ez];exact o1) rfl rfl (by kernel_rfl) (LessA.refl _) (LessM.refl _) hI fun ν' a' w' x' hx' h => ?_)
       have hx':x' = .ret:=hx';subst hx';show bodyPostD Tryz.prog Tryz.f104 _ .ret a' w';refine OwnL.left h rfl fun u ⟨ν,hu⟩ hb=>⟨?_,hb⟩;have hu:(A.lit .i64 15).rel ν u:=hu;simp only [A.rel] at hu;have e:codeU (s.how (b+k))=K 15:=by unfold codeU;rw [h0];rfl
       rw [hu.1,readN_first hz (by rw [e];decide) n hkn,e]
       rfl
   · obtain rfl:k=n:=by omega
     refine wp_seq (wp_mono (OwnL.outB X rfl ((sh_c s x _ _).trans (by rw [slt_kk (by omega) (by omega),decide_eq_false (by omega)])) (sh_f s x _ _) rfl rfl rfl (by kernel_rfl) (LessA.refl _) (LessM.refl _) hI) ?_)
     rintro x' a' w' ⟨rfl,hI⟩;exact ⟨hz,hI⟩
 · refine OwnL.phase (r:=⟨.ret,.tt,[(6,one (.lit .i64 0))],msG s⟩) X rfl (s8_x s x (kk n)) rfl rfl rfl (by kernel_rfl) (LessA.refl _) (LessM.refl _) hI.2 fun ν' a' w' x' hx' h => ?_
   have hx':x' = .ret:=hx';subst hx';refine OwnL.left h rfl fun u ⟨ν,hu⟩ hb=>⟨?_,hb⟩;have hu:(A.lit .i64 0).rel ν u:=hu;simp only [A.rel] at hu;rw [hu.1,readN_zero n hI.1];rfl
end Go.WE
end
