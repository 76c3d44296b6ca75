/- A part of a proof of the helpers' law; no condition of its own. -/
import Derived.WalkKit
import Derived.Defers
import Derived.Recover
import Derived.Test.YtoeealkcacgcgaaGreatDoorK09
import Derived.Test.YtoeealkcacgcgaaGreatDoorK11
import Derived.Test.YtoeealkcacgcgaaGreatDoorK14
import Derived.Test.YtoeealkcacgcgaaGreatDoorK15
set_option linter.unusedVariables false
set_option maxRecDepth 100000
noncomputable section
namespace Go.WE
open Go Go.Proofs
open Go.RowKit (Below)
def layQE (s:QF) (b:Nat) (v:U):QF:=layQ9 (layQ4 s b) (kk b) v
def layQN (s:QF) (b:Nat) (c:Nat->U):Nat->QF
 | 0=>s
 | n+1=>layQE (layQN s b c n) (b+n) (c n)
theorem okQ9_true {b i n:Nat} (hb:b<128) (hi:i<n) (hn:n<2 ^ 63):okQ9 (kk i) (kk b) n=true:=by
 have q1:Nat.blt (kk i).toNat n=true:=by rw [kk_nat (by omega)];exact nB hi
 have q2:Nat.blt (0+(kk i).toNat) n=true:=by rw [Nat.zero_add];exact q1
 have q3:Nat.blt (kk b).toNat 128=true:=by rw [kk_nat (by omega)];exact nB hb
 unfold okQ9 vB wB;rw [q1,q2,q3,msb_kk (by omega),msb_kk (by omega)]
 rfl
theorem sw_conv (k:U) (n:Nat):LessA (sw1 k n (.lit .i64 0)) (sw1 k n (.i .i64 (kk 0))):=fun ν=>⟨rfl,same_rel,rfl,same_rel,rfl,same_rel,rfl,lit_less rfl,trivial⟩
theorem sw_lit {b:Nat} (hb:b<128) (k i:U) (n:Nat):LessA (sw2 k n i (.i .i64 (kk b))) (sw2 k n i (.lit .i64 (b:Nat))):=fun ν =>
 ⟨rfl,same_rel,rfl,same_rel,rfl,same_rel,rfl,same_rel,rfl,less_lit (kk_int b) ((show ∀b:Fin 128,IntKind.i64.wrap (b.val:Int)=(b.val:Int) by decide +kernel) ⟨b,hb⟩),trivial⟩
theorem lit_sw (b:Nat) (k i:U) (n:Nat):LessA (sw2 k n i (.lit .i64 (b:Nat))) (sw2 k n i (.i .i64 (kk b))):=fun ν =>
 ⟨rfl,same_rel,rfl,same_rel,rfl,same_rel,rfl,same_rel,rfl,lit_less (kk_int b),trivial⟩
theorem body83:Tryz.f83.body=some c83:=by kernel_rfl
theorem args_two {r b off n cap:Nat} {x:U} (hcap:n≤cap):relV (nuTwo r b off) [pt 0,i64 x,byV n] [.pointer (some ⟨r,0,none⟩),.int .i64 (vof .i64 x),.slice (some ⟨b,off,none⟩) n cap]:=by
 refine ⟨?_,?_,?_,trivial⟩
 · show (A.ptr 0 []).rel (nuTwo r b off) _;simp only [A.rel];exact ⟨r,0,rfl,rfl⟩
 · show (A.i .i64 x).rel (nuTwo r b off) _;simp only [A.rel]
 · show (A.sl 1 [] 1 (.lit 0) (.sym n) none).rel (nuTwo r b off) _;simp only [A.rel];exact ⟨b,off,off,cap,by simp [nuTwo],rfl,fun _=>by simp [pathOff,Ix.val],hcap,fun _ e=>by cases e⟩
theorem lay83 {w:World} {r b off n cap bi:Nat} {s:QF} {c:Nat->U} {x:U} (hbn:bi+n≤128) (hx:K 128+x=kk bi) (hcap:n≤cap) (hne:r≠b) (hh:Holds w r s.t) (hc:HoldsAt w b off (.arr 1 (.sym n) (.int .u8 c))) :
 Calls Tryz.prog 83 #[.pointer (some ⟨r,0,none⟩),.int .i64 (vof .i64 x),.slice (some ⟨b,off,none⟩) n cap] w fun e w'=>(∃u,e = .returned u)/\Holds w' r (layQN s bi c n).t/\But r w.heap.size w w':=by
 have X:=XK noΓ_ok;have hnb:Nat.blt n (2 ^ 63)=true:=nB (by omega)
 refine calls_phases Tryz.func83 body83 ?_;rw [c83_eq];have st:OwnB fp83 2 (msW s n c) w r (sv0 x n) _ w:=OwnB.enterA (fp:=fp83) (args:=[pt 0,i64 x,byV n]) (vs:=[.pointer (some ⟨r,0,none⟩),.int .i64 (vof .i64 x),.slice (some ⟨b,off,none⟩) n cap]) (mem_two hne hh hc) rfl (fun id q base h=>by
  rcases nuTwo_some h with ⟨h,_⟩|⟨rfl,_⟩
  · exact .inl h
  · refine .inr fun b' hb' => ?_;have h1:(1,b')∈msW s n c:=get_memT _ 1 b' hb';unfold msW at h1;simp only [List.mem_cons,pI,List.not_mem_nil,or_false] at h1;rcases h1 with ⟨h,_⟩|⟨_,h⟩
    · cases h
    · rw [h]) (args_two hcap) (by show 3≤54;decide)
 refine wp_two (OwnB.go X rfl (w0_ev s x n c) rfl rfl rfl (by decide) (by kernel_rfl) (sw_conv _ _) (LessM.refl _) st) fun a w1 hI => ?_
 refine for_loop (fun k a w1=>OwnB fp83 2 (msW (layQN s bi c k) n c) w r (sw1 x n (.i .i64 (kk k))) a w1) (fun a w1=>OwnB fp83 2 (msW (layQN s bi c n) n c) w r [] a w1) n ?_ ?_ hI (fun a' w' h => ?_)
 · intro k hk a w1 hI;rw [wl_eq,wb_eq,← kk_one];have ez:K 128+x+kk k=kk (bi+k):=by rw [hx];exact (BitVec.ofNat_add bi k).symm
   refine wp_two (OwnB.goB X rfl ((wh_c _ x (kk k) n c).trans (by rw [slt_kk (by omega) (by omega),decide_eq_true hk])) (wh_t _ x (kk k) n c) hnb rfl rfl (by decide) (by kernel_rfl) (LessA.refl _) (LessM.refl _) hI) fun a w1 hI => ?_
   refine wp_two (wp_in (wp_two (OwnB.go X rfl (w3_ev _ x (kk k) n c) rfl rfl rfl (by decide) (by kernel_rfl) (LessA.refl _) (LessM.refl _) hI) fun a w1 hI => ?_)) (J:=fun a w1=>OwnB fp83 2 (msW (layQN s bi c (k+1)) n c) w r (sw1 x n (.i .i64 (kk k))) a w1) fun a w1 hI => ?_
   · rw [ez] at hI;refine wp_two (OwnB.go X rfl (w4_lit (layQN s bi c k) x (kk k) n c (bi+k) (by omega)) rfl rfl rfl (by decide) (by kernel_rfl) (lit_sw _ _ _ _) (LessM.refl _) (hI.conv (sw_lit (by omega) _ _ _))) fun a w1 hI => ?_
     have ev:=w9_ev (layQ4 (layQN s bi c k) (bi+k)) x (kk k) (kk (bi+k)) n c;have e2:(0+(kk k).toNat)=k:=by rw [kk_nat (by omega),Nat.zero_add]
     rw [e2] at ev;rw [show layQN s bi c (k+1)=layQ9 (layQ4 (layQN s bi c k) (bi+k)) (kk (bi+k)) (c k) from rfl]
     exact OwnB.go X rfl ev (okQ9_true (by omega) hk (by omega)) rfl rfl (by decide) (by kernel_rfl) (LessA.refl _) (LessM.refl _) hI
   · exact OwnB.go X rfl (wi_ev _ x (kk k) n c) rfl rfl rfl (by decide) (by kernel_rfl) (LessA.refl _) (LessM.refl _) hI
 · intro a w1 hI;rw [wl_eq];exact wp_out (OwnB.outB X rfl ((wh_c _ x (kk n) n c).trans (by rw [slt_kk (by omega) (by omega),decide_eq_false (by omega)])) (wh_f _ x (kk n) n c) hnb rfl rfl (by decide) (by kernel_rfl) (LessA.refl _) (LessM.refl _) hI)
 · obtain ⟨ν,hs,hb,h0,_⟩:=h;have hh':Holds w' r (layQN s bi c n).t:=seen_holds (hs.mem.seen 0 ⟨true,(layQN s bi c n).t⟩ rfl (.inl trivial)) rfl rfl h0;show Leaves Tryz.prog Tryz.f83 a'.tmps _ a'.defers .returning w';rw [hs.defers];exact ⟨.tuple #[],results_none rfl _ _ _,⟨_,rfl⟩,hh',hb⟩
end Go.WE
namespace Go.WE
open Go Go.Proofs
structure Rel23 (s:VF) (q:QF):Prop where
 regs:q.regs=s.regs
 how:∀j,q.how j=if s.ptr.k (j / 8)≠K 0 then K 2 else if s.ld (j / 8) (j % 8)=true then K 1 else K 0
 b:∀j,q.b j=s.by_ (j / 8) (j % 8)
 ptr:∀k,s.ptr.k k≠K 0->q.ptr.at k=s.ptr.at k
 nul:∀k j,s.ptr.k k≠K 0->s.by_ k j=K 0/\s.ld k j=false
theorem how_two {s:VF} {q:QF} (h:Rel23 s q) (b:Nat):(q.how b==K 2)=(s.ptr.k (b / 8) != K 0):=by
 rw [h.how b];by_cases e:s.ptr.k (b / 8)=K 0
 · rw [if_neg (fun h=>h e)];have e1:(s.ptr.k (b / 8) != K 0)=false:=by rw [e];decide
   rw [e1];by_cases e2:s.ld (b / 8) (b % 8)=true
   · rw [if_pos e2];decide
   · rw [if_neg e2];decide
 · rw [if_pos e];have e1:(s.ptr.k (b / 8) != K 0)=true:=bne_iff_ne.2 e;rw [e1];decide
theorem cond_ne {α:Type} (x:U) (a b:α):cond (x != K 0) a b=if x≠K 0 then a else b:=by
 by_cases h:x=K 0
 · have e:(x != K 0)=false:=by rw [h];decide
   rw [e,cond_false,if_neg (fun g=>g h)]
 · have e:(x != K 0)=true:=bne_iff_ne.2 h;rw [e,cond_true,if_pos h]
theorem vv_id (f:VV) (t:Bool):(f.map2 fun g j=>cond t (g j) (g j))=f:=by
 unfold VV.map2;cases t<;>rfl
theorem z8_at {k j:Nat} {g:Nat->U}:z8 k g j=if j / 8=k then K 0 else g j:=put8_at
theorem same_byte {j b:Nat} (h1:j / 8=b / 8) (h2:j % 8=b % 8):j=b:=by omega
theorem rel_lay {s:VF} {q:QF} (h:Rel23 s q) {b:Nat} (hb:b<128) (v:U):Rel23 (layVB s b v) (layQE q b v):=by
 have ht:=how_two h b;have kb:(kk b).toNat=b:=kk_nat (by omega)
 have how':∀j,(layQE q b v).how j=if j=b then K 1 else if s.ptr.k (b / 8)≠K 0/\j / 8=b / 8 then K 0 else q.how j:=fun j=>by
  show putN (kk b).toNat (K 1) (fun j=>cond (q.how b==K 2) (z8 (b / 8) q.how j) (q.how j)) j=_;rw [kb,putN_at,ht,z8_at];by_cases e:j=b
  · rw [if_pos e,if_pos e]
  · rw [if_neg e,if_neg e];by_cases e2:s.ptr.k (b / 8)=K 0
    · have e3:(s.ptr.k (b / 8) != K 0)=false:=by rw [e2];decide
      rw [e3,cond_false,if_neg (fun h=>h.1 e2)]
    · have e3:(s.ptr.k (b / 8) != K 0)=true:=bne_iff_ne.2 e2;rw [e3,cond_true];by_cases e4:j / 8=b / 8
      · rw [if_pos e4,if_pos ⟨e2,e4⟩]
      · rw [if_neg e4,if_neg (fun h=>e4 h.2)]
 have b':∀j,(layQE q b v).b j=if j=b then v else if s.ptr.k (b / 8)≠K 0/\j / 8=b / 8 then K 0 else q.b j:=fun j=>by
  show putN (kk b).toNat v (fun j=>cond (q.how b==K 2) (z8 (b / 8) q.b j) (q.b j)) j=_;rw [kb,putN_at,ht,z8_at];by_cases e:j=b
  · rw [if_pos e,if_pos e]
  · rw [if_neg e,if_neg e];by_cases e2:s.ptr.k (b / 8)=K 0
    · have e3:(s.ptr.k (b / 8) != K 0)=false:=by rw [e2];decide
      rw [e3,cond_false,if_neg (fun h=>h.1 e2)]
    · have e3:(s.ptr.k (b / 8) != K 0)=true:=bne_iff_ne.2 e2;rw [e3,cond_true];by_cases e4:j / 8=b / 8
      · rw [if_pos e4,if_pos ⟨e2,e4⟩]
      · rw [if_neg e4,if_neg (fun h=>e4 h.2)]
 have pk:∀(f:Nat->U) j,(fun j=>cond (Nat.beq j (b / 8)) (cond (s.ptr.k (b / 8) != K 0) (K 0) (f j)) (f j)) j=if j=b / 8/\s.ptr.k (b / 8)≠K 0 then K 0 else f j:=fun f j=>by
  simp only [beq_eq_decide];by_cases e:j=b / 8
  · rw [decide_eq_true e,cond_true];by_cases e2:s.ptr.k (b / 8)=K 0
    · have e3:(s.ptr.k (b / 8) != K 0)=false:=by rw [e2];decide
      rw [e3,cond_false,if_neg (fun h=>h.2 e2)]
    · have e3:(s.ptr.k (b / 8) != K 0)=true:=bne_iff_ne.2 e2;rw [e3,cond_true,if_pos ⟨e,e2⟩]
  · rw [decide_eq_false e,cond_false,if_neg (fun h=>e h.1)]
 have pz:(layVB s b v).ptr.k (b / 8)=K 0:=by
  refine (pk s.ptr.k (b / 8)).trans ?_;by_cases e2:s.ptr.k (b / 8)=K 0
  · rw [if_neg (fun h=>h.2 e2),e2]
  · rw [if_pos ⟨rfl,e2⟩]
 have pn:∀k,k≠b / 8->(layVB s b v).ptr.at k=s.ptr.at k:=fun k hk=>by have e:∀f:Nat->U,(fun j=>cond (Nat.beq j (b / 8)) (cond (s.ptr.k (b / 8) != K 0) (K 0) (f j)) (f j)) k=f k:=fun f=>(pk f k).trans (if_neg fun h=>hk h.1);show VW.mk _ _ _ _=VW.mk _ _ _ _;rw [VW.mk.injEq];exact ⟨e _,e _,e _,e _⟩
 have pnk:∀k,k≠b / 8->(layVB s b v).ptr.k k=s.ptr.k k:=fun k hk=>congrArg VW.k (pn k hk);have by':∀i j,(layVB s b v).by_ i j=if i=b / 8 then (if j=b % 8 then v else if s.ptr.k (b / 8)≠K 0 then K 0 else s.by_ i j) else s.by_ i j:=fun i j=>by show cond (Nat.beq i (b / 8)) (cond (Nat.beq j (b % 8)) v (cond (s.ptr.k (b / 8) != K 0) (K 0) (s.by_ i j))) (s.by_ i j)=_;rw [beq_eq_decide,beq_eq_decide,cond_ne,Bool.cond_decide,Bool.cond_decide]
 have ld':∀i j,(layVB s b v).ld i j=if i=b / 8 then (if j=b % 8 then true else if s.ptr.k (b / 8)≠K 0 then false else s.ld i j) else s.ld i j:=fun i j=>by show cond (Nat.beq i (b / 8)) (cond (Nat.beq j (b % 8)) true (cond (s.ptr.k (b / 8) != K 0) false (s.ld i j))) (s.ld i j)=_;rw [beq_eq_decide,beq_eq_decide,cond_ne,Bool.cond_decide,Bool.cond_decide]
 refine ⟨?_,fun j => ?_,fun j => ?_,fun k hk => ?_,fun k j hk => ?_⟩
 · show (q.regs.map2 fun f j=>cond (q.how b==K 2) (f j) (f j))=s.regs;rw [vv_id,h.regs]
 · rw [how'];by_cases e:j / 8=b / 8
   · rw [e,pz,if_neg (show ¬(K 0≠K 0) from fun h=>h rfl),ld',if_pos rfl]
     by_cases e1:j=b
     · rw [if_pos e1,if_pos (show j % 8=b % 8 by rw [e1]),if_pos rfl]
     · rw [if_neg e1,if_neg (show ¬j % 8=b % 8 from fun h=>e1 (same_byte e h))]
       by_cases e2:s.ptr.k (b / 8)=K 0
       · have n2:¬(s.ptr.k (b / 8)≠K 0):=fun h=>h e2;rw [if_neg (show ¬(s.ptr.k (b / 8)≠K 0/\b / 8=b / 8) from fun h=>h.1 e2),if_neg n2,h.how j,e,if_neg n2]
       · rw [if_pos (show s.ptr.k (b / 8)≠K 0/\b / 8=b / 8 from ⟨e2,rfl⟩),if_pos e2,if_neg (show ¬(false=true) from by decide)]
   · rw [if_neg (by rintro rfl;exact e rfl),if_neg (fun h=>e h.2),pnk _ e,ld',if_neg e,h.how j]
 · rw [b',by']
   by_cases e:j / 8=b / 8
   · rw [if_pos e];by_cases e1:j=b
     · rw [if_pos e1,if_pos (show j % 8=b % 8 by rw [e1])]
     · rw [if_neg e1,if_neg (show ¬j % 8=b % 8 from fun h=>e1 (same_byte e h))]
       by_cases e2:s.ptr.k (b / 8)=K 0
       · have n2:¬(s.ptr.k (b / 8)≠K 0):=fun h=>h e2;rw [if_neg (show ¬(s.ptr.k (b / 8)≠K 0/\j / 8=b / 8) from fun h=>h.1 e2),if_neg n2,h.b j]
       · rw [if_pos ⟨e2,e⟩,if_pos e2]
   · rw [if_neg (by rintro rfl;exact e rfl),if_neg (fun h=>e h.2),if_neg e,h.b j]
 · have hne:k≠b / 8:=by
    rintro rfl;exact hk pz
   rw [pnk k hne] at hk;rw [pn k hne,← h.ptr k hk];show VW.mk _ _ _ _=VW.mk _ _ _ _;rw [VW.mk.injEq];have e:∀f:Nat->U,(fun j=>cond (q.how b==K 2) (f j) (f j)) k=f k:=fun f=>by cases q.how b==K 2<;>rfl
   exact ⟨e _,e _,e _,e _⟩
 · have hne:k≠b / 8:=by
    rintro rfl;exact hk pz
   rw [pnk k hne] at hk;rw [by',ld',if_neg hne,if_neg hne]
   exact h.nul k j hk
theorem rel_layN {s:VF} {q:QF} (h:Rel23 s q) {b:Nat} (c:Nat->U):∀n,b+n≤128->Rel23 (layVN s b c n) (layQN q b c n)
 | 0,_=>h
 | n+1,hn=>rel_lay (rel_layN h c n (by omega)) (by omega) (c n)
theorem caught_idleV (p:Value) (w:World) :
 CallsD Tryz.prog 79 #[p] .returning w fun e u' w'=>e = .returned (.tuple #[])/\u' = .returning/\w'=w:=by
 refine callsD_of_wpS Tryz.func79 rfl fun c₀ cs hu => ?_;apply wpS_seq;apply wpS_region;simp [wpOpsS,go_sem,recoverD,hu,Tryz.ntmps79,Exit.thenS];apply wpS_seq;apply wpS_region;simp [wpOpsS,go_sem,recoverD,hu,Exit.thenS];refine wpS_cond (t:=false) (by simp [Act.eval,Array.replicate]) ?_
 simp only [Bool.false_eq_true,if_false];refine wpS_of_wp (wp_skip ?_);cases c₀;simp_all [bodyPostS,results,Tryz.results79]
theorem ta_okV (x:Value) (w:World):(Instr.typeAssert (.iface 206 x) 20 206 false).run Tryz.prog w = .ok x w:=by
 simp [Instr.typeAssert]
theorem caught_panickingV (a:Addr) (k:IntKind) (n:Int) (w w':World) (hs:(Instr.storeAt 24 (.pointer (some a)) (.int k n)).run Tryz.prog w = .ok () w') :
 CallsD Tryz.prog 79 #[.pointer (some a)] (.panicking [{ v :=.iface 206 (.int k n),recovered:=false }]) w fun e u' w1=>
  e = .returned (.tuple #[])/\u' = .panicking [{ v :=.iface 206 (.int k n),recovered:=true }]/\w1=w':=by
 refine callsD_of_wpS Tryz.func79 rfl fun c₀ cs hu => ?_;apply wpS_seq;apply wpS_region;simp [wpOpsS,go_sem,recoverD,hu,Tryz.ntmps79,Exit.thenS];apply wpS_seq;apply wpS_region;simp [wpOpsS,go_sem,recoverD,Exit.thenS];refine wpS_cond (t:=true) (by simp [Act.eval,Array.replicate]) ?_
 simp only [if_true];apply wpS_region;simp [go_sem] at hs;simp [wpOpsS,go_sem,hs,ta_okV,bodyPostS,results,Tryz.results79]
theorem caught_idleH (p:Value) (w:World) :
 CallsD Tryz.prog 46 #[p] .returning w fun e u' w'=>e = .returned (.tuple #[])/\u' = .returning/\w'=w:=by
 refine callsD_of_wpS Tryz.func46 rfl fun c₀ cs hu => ?_;apply wpS_seq;apply wpS_region;simp [wpOpsS,go_sem,recoverD,hu,Tryz.ntmps46,Exit.thenS];apply wpS_seq;apply wpS_region;simp [wpOpsS,go_sem,recoverD,hu,Exit.thenS];refine wpS_cond (t:=false) (by simp [Act.eval,Array.replicate]) ?_
 simp only [Bool.false_eq_true,if_false];refine wpS_of_wp (wp_skip ?_);cases c₀;simp_all [bodyPostS,results,Tryz.results46]
theorem ta_okH (x:Value) (w:World):(Instr.typeAssert (.iface 24 x) 20 24 false).run Tryz.prog w = .ok x w:=by
 simp [Instr.typeAssert]
theorem caught_panickingH (a:Addr) (k:IntKind) (n:Int) (w w':World) (hs:(Instr.storeAt 24 (.pointer (some a)) (.int k n)).run Tryz.prog w = .ok () w') :
 CallsD Tryz.prog 46 #[.pointer (some a)] (.panicking [{ v :=.iface 24 (.int k n),recovered:=false }]) w fun e u' w1=>
  e = .returned (.tuple #[])/\u' = .panicking [{ v :=.iface 24 (.int k n),recovered:=true }]/\w1=w':=by
 refine callsD_of_wpS Tryz.func46 rfl fun c₀ cs hu => ?_;apply wpS_seq;apply wpS_region;simp [wpOpsS,go_sem,recoverD,hu,Tryz.ntmps46,Exit.thenS];apply wpS_seq;apply wpS_region;simp [wpOpsS,go_sem,recoverD,Exit.thenS];refine wpS_cond (t:=true) (by simp [Act.eval,Array.replicate]) ?_
 simp only [if_true];apply wpS_region;simp [go_sem] at hs;simp [wpOpsS,go_sem,hs,ta_okH,bodyPostS,results,Tryz.results46]
theorem evalStore_ext {P:Program} {h:H} {t:TypeId} {x:A} {y:V} {r:OpR} (he:evalStore P h t x y=some r):Ext h r.h:=by
 unfold evalStore at he;split at he
 · split at he
   · rename_i b v hb _;split at he
     · rename_i hx;simp only [bA] at hx;split at he
       · cases he;exact (see_ext h _).trans (put_ext (by exact hb) hx.1 rfl)
       · cases he
     · cases he
   · cases he
 · cases he
theorem enters79:Enters Tryz.prog 79:=enters_of entK 79 _ Tryz.func79 (by simp [Tryz.f79])
theorem enters46:Enters Tryz.prog 46:=enters_of entK 46 _ Tryz.func46 (by simp [Tryz.f46])
theorem rel_two {ν:Nu} {x:A} {us:List Value} (h:relV ν [.t (.a x)] us):∃vx,us=[vx]/\x.rel ν vx:=by
 cases us with
 | nil=>exact h.elim
 | cons v vs=>cases vs with
   | nil=>exact ⟨v,rfl,h.1⟩
   | cons _ _=>exact h.2.elim
def dfrG (F T0:Nat):DfrE:=fun f vs u h=>
 match Nat.beq f F,u with
 | true,none=>match vs with
   | [.t (.a _)]=>some (none,.tt,h)
   | _=>none
 | true,some (.iface t x)=>match Nat.beq t T0,vs with
   | true,[.t (.a (.ptr id p))]=>match x with
     | .lit k n=>match evalStore Tryz.prog h 24 (.ptr id p) (.t (.a (.lit k n))) with
       | some r=>some (none,r.ok,r.h)
       | none=>none
     | .i k y=>match evalStore Tryz.prog h 24 (.ptr id p) (.t (.a (.i k y))) with
       | some r=>some (none,r.ok,r.h)
       | none=>none
     | _=>none
   | _,_=>none
 | _,_=>none
theorem dfrG_ok {F T0:Nat} (hF:Enters Tryz.prog F) (hid:∀(p:Value) (w:World),CallsD Tryz.prog F #[p] .returning w fun e u' w'=>e = .returned (.tuple #[])/\u' = .returning/\w'=w)
 (hpk:∀(a:Addr) (k:IntKind) (n:Int) (w w':World),(Instr.storeAt 24 (.pointer (some a)) (.int k n)).run Tryz.prog w = .ok () w'->CallsD Tryz.prog F #[.pointer (some a)] (.panicking [{ v :=.iface T0 (.int k n),recovered:=false }]) w fun e u' w1=>
   e = .returned (.tuple #[])/\u' = .panicking [{ v :=.iface T0 (.int k n),recovered:=true }]/\w1=w'):DfrOK Tryz.prog (dfrG F T0):=by
 refine ⟨fun f vs u h u' ok h' he hlo => ?_,fun f vs u h u' ok h' he hok => ?_⟩
 · unfold dfrG at he
   repeat' split at he
   all_goals first|(cases he;exact Ext.refl _)|(cases he;exact evalStore_ext (by assumption))|cases he
 · unfold dfrG at he;split at he
   · rename_i hf;split at he
     · rename_i x;simp only [oI,pI] at he;obtain ⟨rfl,rfl,rfl⟩:=he;have hf:=Go.WE.beq_true hf;subst hf;refine ⟨hF,fun S ν w us uv hrd hwr hm hvs hu => ?_⟩;obtain ⟨p,rfl,_⟩:=rel_two hvs;simp only [ModeRel] at hu;subst hu;refine (hid p w).mono ?_;rintro e um w' ⟨rfl,rfl,rfl⟩;exact ⟨⟨_,rfl⟩,ν,rfl,Goes.refl hm⟩
     · cases he
   · rename_i t x hf;split at he
     · rename_i id p ht;split at he
       · rename_i k n;split at he
         · rename_i r hr;simp only [oI,pI] at he;obtain ⟨rfl,rfl,rfl⟩:=he;have hf:=Go.WE.beq_true hf;subst hf;have ht:=Go.WE.beq_true ht;subst ht;refine ⟨hF,fun S ν w us uv hrd hwr hm hvs hu => ?_⟩;obtain ⟨pv,rfl,hp⟩:=rel_two hvs;simp only [ModeRel,A.rel] at hu;obtain ⟨_,rfl,_,rfl,rfl,hn⟩:=hu;have hp':=hp;simp only [A.rel] at hp';obtain ⟨b,base,hb,rfl⟩:=hp';obtain ⟨w',h1,_,h3⟩:=evalStore_sound (P:=Tryz.prog) (w:=w) hr hok hm hrd hp (y :=.t (.a (.lit k n))) (vy :=.int k n) (by show (A.lit k n).rel ν _;simp only [A.rel];exact ⟨trivial,hn⟩)
           refine (hpk _ k n w w' h1).mono ?_;rintro e um w1 ⟨rfl,rfl,rfl⟩;exact ⟨⟨_,rfl⟩,ν,rfl,h3⟩
         · cases he
       · rename_i k y;split at he
         · rename_i r hr;simp only [oI,pI] at he;obtain ⟨rfl,rfl,rfl⟩:=he;have hf:=Go.WE.beq_true hf;subst hf;have ht:=Go.WE.beq_true ht;subst ht;refine ⟨hF,fun S ν w us uv hrd hwr hm hvs hu => ?_⟩;obtain ⟨pv,rfl,hp⟩:=rel_two hvs;simp only [ModeRel,A.rel] at hu;obtain ⟨_,rfl,_,rfl,rfl⟩:=hu;have hp':=hp;simp only [A.rel] at hp';obtain ⟨b,base,hb,rfl⟩:=hp';obtain ⟨w',h1,_,h3⟩:=evalStore_sound (P:=Tryz.prog) (w:=w) hr hok hm hrd hp (y :=.t (.a (.i k y))) (vy :=.int k (vof k y)) (by show (A.i k y).rel ν _;simp only [A.rel])
           refine (hpk _ k (vof k y) w w' h1).mono ?_;rintro e um w1 ⟨rfl,rfl,rfl⟩;exact ⟨⟨_,rfl⟩,ν,rfl,h3⟩
         · cases he
       · cases he
     · cases he
   · cases he
def dfrC:DfrE:=fun f vs u h=>match dfrG 79 206 f vs u h with
 | some r=>some r
 | none=>dfrG 46 24 f vs u h
theorem dfrC_ok:DfrOK Tryz.prog dfrC:=by
 have o1:=dfrG_ok enters79 caught_idleV caught_panickingV;have o2:=dfrG_ok enters46 caught_idleH caught_panickingH;refine ⟨fun f vs u h u' ok h' he hlo => ?_,fun f vs u h u' ok h' he hok => ?_⟩
 · unfold dfrC at he;split at he
   · rename_i hr;cases he;exact o1.1 _ _ _ _ _ _ _ hr hlo
   · exact o2.1 _ _ _ _ _ _ _ he hlo
 · unfold dfrC at he;split at he
   · rename_i hr;cases he;exact o1.2 _ _ _ _ _ _ _ hr hok
   · exact o2.2 _ _ _ _ _ _ _ he hok
noncomputable abbrev cxD:Cx:={ P:=Tryz.prog,eqT:=eqTab eqsK,dfr:=dfrC }
theorem XD {Γ:Gam} (h:ΓOK Tryz.prog Γ):CxOK cxD Γ:=⟨eqOK_of eqsKOk rfl,h,dfrC_ok,noLam _ _ _ _,enters_of entK⟩
def c106:Code:=bodyOf Tryz.prog 106
def n0:Code:=c106.sA
def n1:Code:=c106.sB.sA
def n2:Code:=c106.sB.sB.sA.sA
def nl:Code:=c106.sB.sB.sA.sB.inn.inn
def n10:Code:=c106.sB.sB.sB
theorem c106_eq:c106 = .seq n0 (.seq n1 (.seq (.seq n2 (.block 0 (.loop nl))) n10)):=by kernel_rfl
def nh:Code:=nl.sA
def nf:Code:=nl.sB.sA
def nb:Code:=nl.sB.sB.sA
def n9:Code:=nl.sB.sB.sB
theorem nl_eq:nl = .seq nh (.seq nf (.seq nb n9)):=by kernel_rfl
def fp106:Fp:=⟨29639,63,66,fun _ _=>none⟩
def ev106 (c:Code) (l:List (Nat×V)) (ms:List (Nat×Blk)) (n:Nat):Out:=evalC cxK (evalF cxK noΓ 400 20) fp106 400 c (stOf l (hM ms n))
def msN (s:VF) (m:Nat) (g:Nat->U):List (Nat×Blk):=[(0,⟨false,s.t⟩),(1,⟨true,.arr 1 (.lit m) (.int .u8 g)⟩)]
abbrev slN (n:Nat) (q:Ix):V:=one (.sl 1 [] 1 (.lit 0) q (some (.lit n)))
def sn1 (k:U) (n:Nat) (q:Ix) (i:U):List (Nat×V):=[(0,pt 0),(1,i64 k),(7,slN n q),(12,one (.lit .i64 n)),(13,i64 i)]
def sn2 (k:U) (n:Nat) (q:Ix) (i:U) (b:Bool):List (Nat×V):=[(0,pt 0),(1,i64 k),(7,slN n q),(12,one (.lit .i64 n)),(13,i64 i),(14,one (.b b))]
def okN0 (x:U):Bool:=
 let t6:=(!(BitVec.msb (BitVec.sdiv x (K 8)))&&Nat.blt (vq x) 16)&&(!(BitVec.msb (BitVec.srem x (K 8)))&&Nat.blt (vr x) 8)
 t6&&(Nat.blt (vq x) 16&&Nat.blt (vr x) 8)
def okN1 (s:VF) (x:U):Bool:=okN0 x&&(!(!(s.ld (vq x) (vr x)))||Nat.blt (vq x) 16)
def okN3 (s:VF) (x:U) (n q:Nat):Bool:=(((okN1 s x&&Nat.blt (vq x) 16)&&(!(BitVec.msb (BitVec.srem x (K 8)))&&Nat.blt (vr x) 8))&&(Nat.blt (vq x) 16&&Nat.blt (vr x) 8))&&(Nat.ble (q+1) n&&Nat.blt ((0+q)+0) n)
section
variable (s:VF) (k i:U) (n q:Nat) (g:Nat->U) (b:Bool)
theorem nh_ev:endM fp106.km [0,1,7,12,13,14] [0,1] 2 (ev106 nh (sn1 k n (.sym q) i) (msN s n g) 2).pick=some ⟨.nrm,.tt,sn2 k n (.sym q) i (BitVec.slt i (BitVec.ofInt 64 n)),msN s n g⟩:=by kernel_rfl
theorem nf_c:(ev106 nf (sn2 k n (.sym q) i b) (msN s n g) 2).cnd=some b:=by kernel_rfl
theorem nf_t:endM fp106.km [0,1,7,12,13] [0,1] 2 ((ev106 nf (sn2 k n (.sym q) i b) (msN s n g) 2).at true)=some ⟨.nrm,.tt,sn1 k n (.sym q) i,msN s n g⟩:=by kernel_rfl
theorem nf_f:endM fp106.km [7] [1] 2 ((ev106 nf (sn2 k n (.sym q) i b) (msN s n g) 2).at false)=some ⟨.exit 0,.tt,[(7,slN n (.sym q))],[(1,⟨true,.arr 1 (.lit n) (.int .u8 g)⟩)]⟩:=by kernel_rfl
theorem nb_c:(ev106 nb (sn1 k n (.sym q) i) (msN s n g) 2).cnd=some (!(cond (s.ld (vq (k+i)) (vr (k+i))) true (s.ptr.k (vq (k+i)) != K 0))):=by kernel_rfl
theorem nb_t:endM fp106.km [] [] 2 ((ev106 nb (sn1 k n (.sym q) i) (msN s n g) 2).at true)=some ⟨.pan (.iface 206 (.lit .i64 15)),.b (okN1 s (k+i)),[],[]⟩:=by kernel_rfl
theorem nb_c2:(ev106 nb (sn1 k n (.sym q) i) (msN s n g) 2).nR.cnd=some (!(s.ptr.k (vq (k+i))==K 0)):=by kernel_rfl
theorem nb_t2:endM fp106.km [] [] 2 ((ev106 nb (sn1 k n (.sym q) i) (msN s n g) 2).nR.at true)=some ⟨.pan (.iface 206 (.lit .i64 14)),.b (okN1 s (k+i)&&Nat.blt (vq (k+i)) 16),[],[]⟩:=by kernel_rfl
theorem nb_f2:endM fp106.km [0,1,7,12,13] [0,1] 2 ((ev106 nb (sn1 k n (.sym q) i) (msN s n g) 2).nR.at false)=some ⟨.nrm,.b (okN3 s (k+i) n q),sn1 k n (ixAdd (.sym q) (.lit 1)) i,msN s n (putN ((0+q)+0) (s.by_ (vq (k+i)) (vr (k+i))) g)⟩:=by kernel_rfl
theorem n9_ev:endM fp106.km [0,1,7,12,13] [0,1] 2 (ev106 n9 (sn1 k n (.sym q) i) (msN s n g) 2).pick=some ⟨.nrm,.tt,sn1 k n (.sym q) (i+K 1),msN s n g⟩:=by kernel_rfl
end
end Go.WE
namespace Go.WE
open Go Go.Proofs
open Go.RowKit (Below)
def ΓL:Gam:=readΓ (layΓ (readΓ22 (layΓ22 noΓ)))
theorem ΓL_ok:ΓOK Tryz.prog ΓL:=readΓ_ok (layΓ_ok (readΓ22_ok (layΓ22_ok noΓ_ok)))
def evS (f:Nat) (s:FSt) (rest:List V):R:=evalF cxK ΓL 400 20 f (pt 0::rest) (hM [(0,⟨true,s.t⟩)] 1)
def resM (r:R):Option (A×V×List Nat×Option Blk):=match r.pick with
 | some (ok,v,h)=>some (ok,v,h.wr,h.m.get 0)
 | none=>none
theorem resM_some {r:R} {ok:A} {v:V} {wr:List Nat} {b:Option Blk} (h:resM r=some (ok,v,wr,b)):∃h',r.pick=some (ok,v,h')/\h'.wr=wr/\h'.m.get 0=b:=by
 unfold resM at h;split at h
 · rename_i ok v h' hp;simp only [oI,pI] at h;obtain ⟨rfl,rfl,rfl,rfl⟩:=h;exact ⟨h',hp,rfl,rfl⟩
 · cases h
theorem call_state {f:Nat} {s s':FSt} {rest:List V} {ok:A} {v:V} {wr:List Nat} (hΓ:ΓL f (pt 0::rest) (hM [(0,⟨true,s.t⟩)] 1)=none) (he:resM (evS f s rest)=some (ok,v,wr,some ⟨true,s'.t⟩)) (hok:okB ok=true) (hwr:wr=[0]\/wr=[]) (hv:v.free=true) :
 Enters Tryz.prog f/\∀(r:Nat) (w:World) (us:List Value) (ν:Nu),Holds w r s.t->relV (nuOne r) rest us->Calls Tryz.prog f (.pointer (some ⟨r,0,none⟩)::us).toArray w fun e w'=>∃u,e = .returned u/\v.rel ν u/\But r w.heap.size w w'/\Holds w' r s'.t:=by
 obtain ⟨h',hp,rfl,hg⟩:=resM_some he;obtain ⟨h1,h2⟩:=evalF_fn (XK ΓL_ok) hΓ hp hok;refine ⟨h1,fun r w us ν hh hr=>call_one h2 hwr hg rfl rfl hv hh (vs :=.pointer (some ⟨r,0,none⟩)::us) ⟨?_,hr⟩ ν⟩;show (A.ptr 0 []).rel (nuOne r) _;simp only [A.rel];exact ⟨r,0,rfl,rfl⟩
theorem ptr_arg {S:Nat->Prop} {ν:Nu} {w:World} {h:H} {id:Nat} {s:FSt} {rest:List V} {vs:List Value} (hs:stateOf h id=some s) (hm:Mem S ν w h) (hS:S id\/h.lo≤id) (hv:relV ν (.t (.a (.ptr id []))::rest) vs) :
 ∃r us,ν id=some (r,0)/\Holds w r s.t/\vs = .pointer (some ⟨r,0,none⟩)::us/\relV ν rest us:=by
 match vs,hv with
 | v0::us,⟨r0,hr⟩=>
   have r0:(A.ptr id []).rel ν v0:=r0;simp only [A.rel] at r0;obtain ⟨r,base,e1,rfl⟩:=r0;have hb:=stateOf_some hs;obtain ⟨r',base',cs,ty,fr,pre,us',post,q1,q2,q3,q4,q5,q6⟩:=(hm.seen id _ hb hS).cells rfl;rw [e1] at q1;cases q1;obtain ⟨rfl,rfl⟩:=q6 rfl;exact ⟨r,us,e1,seen_holds (hm.seen id _ hb hS) rfl rfl e1,rfl,hr⟩
def SaysW (f:Nat) (s:FSt) (rest:List V) (v:V) (s':FSt):Prop:=Enters Tryz.prog f/\∀h id,stateOf h id=some s->FnOK Tryz.prog f (.t (.a (.ptr id []))::rest) h v ((h.see id).put id ⟨true,s'.t⟩)
def SaysR (f:Nat) (s:FSt) (rest:List V) (v:V):Prop:=Enters Tryz.prog f/\∀h id,stateOf h id=some s->FnOK Tryz.prog f (.t (.a (.ptr id []))::rest) h v (h.see id)
theorem saysW_ev {f:Nat} {s s':FSt} {rest rest':List V} {ok:A} {v:V} {wr:List Nat} (hΓ:ΓL f (pt 0::rest') (hM [(0,⟨true,s.t⟩)] 1)=none) (he:resM (evS f s rest')=some (ok,v,wr,some ⟨true,s'.t⟩)) (hok:okB ok=true) (hwr:wr=[0]\/wr=[]) (hv:v.free=true)
 (hr:∀ν ν' us,relV ν rest us->relV ν' rest' us):SaysW f s rest v s':=by
 obtain ⟨h1,h2⟩:=call_state hΓ he hok hwr hv;refine ⟨h1,fun h id hs S ν w vs hrd _ hm hargs => ?_⟩;have hrd':∀i,i∈(h.see id).rd->S i:=hrd;obtain ⟨r,us,hν,hh,rfl,hrs⟩:=ptr_arg hs hm (see_seen hrd') hargs;refine (h2 r w us ν hh (hr _ _ _ hrs)).mono ?_;rintro e w' ⟨u,rfl,hu,hbut,hh'⟩;have g1:=hm.see id;exact ⟨u,ν,rfl,hu,g1.trans (goes_turned (h:=h.see id) g1.mem (stateOf_some hs) rfl hν hbut hh')⟩
theorem saysR_ev {f:Nat} {s:FSt} {rest rest':List V} {ok:A} {v:V} (hΓ:ΓL f (pt 0::rest') (hM [(0,⟨true,s.t⟩)] 1)=none) (he:(resM (evS f s rest')).map (fun p=>(p.1,p.2.1,p.2.2.1))=some (ok,v,[])) (hok:okB ok=true) (hv:v.free=true)
 (hr:∀ν ν' us,relV ν rest us->relV ν' rest' us):SaysR f s rest v:=by
 cases hp:resM (evS f s rest') with
 | none=>rw [hp] at he;cases he
 | some p=>
   rw [hp] at he;obtain ⟨ok',v',wr',b'⟩:=p;simp only [Option.map_some,oI,pI] at he;obtain ⟨rfl,rfl,rfl⟩:=he;obtain ⟨h',hp',hw',_⟩:=resM_some hp;obtain ⟨h1,h2⟩:=evalF_fn (XK ΓL_ok) hΓ hp' hok;refine ⟨h1,fun h id hs S ν w vs hrd _ hm hargs => ?_⟩;obtain ⟨r,us,hν,hh,rfl,hrs⟩:=ptr_arg hs hm (see_seen hrd) hargs;refine (h2 (fun _=>True) (nuOne r) w (.pointer (some ⟨r,0,none⟩)::us) (fun _ _=>trivial) (fun _ _=>trivial) (mem_one hh) ⟨?_,hr _ _ _ hrs⟩).mono ?_
   · show (A.ptr 0 []).rel (nuOne r) _;simp only [A.rel];exact ⟨r,0,rfl,rfl⟩
   · rintro e w' ⟨u,ν',rfl,hu,g⟩;have g':Goes (fun _=>True) (nuOne r) w (hM [(0,⟨true,s.t⟩)] 1).mark ν' w' h':=g;have hb:=goes_below hw' (mem_one hh) (S:=fun _=>True) g';exact ⟨u,ν,rfl,V.rel_free hv hu,(goes_calm hm hb).trans ((goes_calm hm hb).mem.see id)⟩
def stΓ (f:Nat) (spec:FSt->List V->Option (A×V×FSt)) (Γ:Gam):Gam:=fun g args h=>match Nat.beq g f with
 | true=>match args with
   | .t (.a (.ptr id []))::rest=>match stateOf h id with
     | some s=>match spec s rest with
       | some (ok,v,s')=>some (.leaf ok v ((h.see id).put id ⟨true,s'.t⟩))
       | none=>Γ g args h
     | none=>Γ g args h
   | _=>Γ g args h
 | false=>Γ g args h
def rdΓ (f:Nat) (spec:FSt->List V->Option (A×V)) (Γ:Gam):Gam:=fun g args h=>match Nat.beq g f with
 | true=>match args with
   | .t (.a (.ptr id []))::rest=>match stateOf h id with
     | some s=>match spec s rest with
       | some (ok,v)=>some (.leaf ok v (h.see id))
       | none=>Γ g args h
     | none=>Γ g args h
   | _=>Γ g args h
 | false=>Γ g args h
theorem stΓ_ok {f:Nat} {spec:FSt->List V->Option (A×V×FSt)} {Γ:Gam} (hs:∀s rest ok v s',spec s rest=some (ok,v,s')->okB ok=true->SaysW f s rest v s') (hΓ:ΓOK Tryz.prog Γ):ΓOK Tryz.prog (stΓ f spec Γ) where
 ok:=by
  intro g args h r ok v h' hr hp hok;unfold stΓ at hr;split at hr
  · rename_i hb;have:=Go.WE.beq_true hb;subst this;split at hr
    · split at hr
      · rename_i h1;split at hr
        · rename_i h2;cases hr;simp only [R.pick,oI,pI] at hp;obtain ⟨rfl,rfl,rfl⟩:=hp;obtain ⟨h3,h4⟩:=hs _ _ _ _ _ h2 hok;exact .inl ⟨h3,h4 _ _ h1⟩
        · exact hΓ.ok _ _ h r ok v h' hr hp hok
      · exact hΓ.ok _ _ h r ok v h' hr hp hok
    · exact hΓ.ok _ _ h r ok v h' hr hp hok
  · exact hΓ.ok _ _ h r ok v h' hr hp hok
 pan:=by
  intro g args h r ok v h' hr hp hok;unfold stΓ at hr
  repeat' split at hr
  all_goals first|exact hΓ.pan _ _ h r ok v h' hr hp hok|(cases hr;simp [R.pickP] at hp)
 ext:=by
  intro g args h r hr hlo;unfold stΓ at hr;split at hr
  · split at hr
    · rename_i id _;split at hr
      · rename_i h1;split at hr
        · cases hr;exact (see_ext h id).trans (put_ext (h:=h.see id) (stateOf_some h1) rfl rfl)
        · exact hΓ.ext _ _ h r hr hlo
      · exact hΓ.ext _ _ h r hr hlo
    · exact hΓ.ext _ _ h r hr hlo
  · exact hΓ.ext _ _ h r hr hlo
theorem rdΓ_ok {f:Nat} {spec:FSt->List V->Option (A×V)} {Γ:Gam} (hs:∀s rest ok v,spec s rest=some (ok,v)->okB ok=true->SaysR f s rest v) (hΓ:ΓOK Tryz.prog Γ):ΓOK Tryz.prog (rdΓ f spec Γ) where
 ok:=by
  intro g args h r ok v h' hr hp hok;unfold rdΓ at hr;split at hr
  · rename_i hb;have:=Go.WE.beq_true hb;subst this;split at hr
    · split at hr
      · rename_i h1;split at hr
        · rename_i h2;cases hr;simp only [R.pick,oI,pI] at hp;obtain ⟨rfl,rfl,rfl⟩:=hp;obtain ⟨h3,h4⟩:=hs _ _ _ _ h2 hok;exact .inl ⟨h3,h4 _ _ h1⟩
        · exact hΓ.ok _ _ h r ok v h' hr hp hok
      · exact hΓ.ok _ _ h r ok v h' hr hp hok
    · exact hΓ.ok _ _ h r ok v h' hr hp hok
  · exact hΓ.ok _ _ h r ok v h' hr hp hok
 pan:=by
  intro g args h r ok v h' hr hp hok;unfold rdΓ at hr
  repeat' split at hr
  all_goals first|exact hΓ.pan _ _ h r ok v h' hr hp hok|(cases hr;simp [R.pickP] at hp)
 ext:=by
  intro g args h r hr hlo;unfold rdΓ at hr
  repeat' split at hr
  all_goals first|exact hΓ.ext _ _ h r hr hlo|(cases hr;exact see_ext h _)
def bvI (k:IntKind) (a:A):Option U:=match a.bv with
 | some (k',y)=>match kEq k' k with
   | true=>some y
   | false=>none
 | none=>none
theorem bv_less1 {x:A} {k:IntKind} {y:U} (h:bvI k x=some y) {ν ν':Nu} {vs:List Value} (hr:(T.a x).rel ν vs):(T.a (.i k y)).rel ν' vs:=by
 unfold bvI at h;split at h
 · rename_i k' y' hb;split at h
   · rename_i hk;have hk:=kEq_true hk;subst hk;cases h;simp only [T.rel] at hr ⊢;obtain ⟨v,rfl,hx,hc⟩:=hr;exact ⟨v,rfl,by simp only [A.rel];exact bv_val hb hx,hc⟩
   · cases h
 · cases h
def rwOfT:T->Option RW
 | .st [.a k,.a o,.a m,.a i,.st [.st [.a tv,.a tm],.st [.a ul,.a uh],.st [.a sl,.a sh]]]=>match bvI .i64 k,bvI .i64 o,bvI .i64 m,bvI .i64 i,bvI .u64 tv,bvI .u64 tm,bvI .u64 ul,bvI .u64 uh,bvI .i64 sl,bvI .i64 sh with
   | some k,some o,some m,some i,some tv,some tm,some ul,some uh,some sl,some sh=>some ⟨k,o,m,i,tv,tm,ul,uh,sl,sh⟩
   | _,_,_,_,_,_,_,_,_,_=>none
 | _=>none
theorem rwOfT_rel {t:T} {r:RW} (h:rwOfT t=some r) {ν ν':Nu} {u:Value} (hr:t.relV ν u):r.t.relV ν' u:=by
 unfold rwOfT at h;split at h
 · split at h
   · rename_i h1 h2 h3 h4 h5 h6 h7 h8 h9 h10;cases h;obtain ⟨vs,rfl,hr⟩:=hr;refine ⟨vs,rfl,?_⟩;unfold RW.t;simp only [T.rel,relTs] at hr ⊢;obtain ⟨u1,w1,e1,r1,u2,w2,e2,r2,u3,w3,e3,r3,u4,w4,e4,r4,u5,w5,e5,⟨u6,w6,e6,⟨a1,b1,f1,s1,a2,b2,f2,s2,f3⟩,u7,w7,e7,⟨a3,b3,f4,s3,a4,b4,f5,s4,f6⟩,u8,w8,e8,⟨a5,b5,f7,s5,a6,b6,f8,s6,f9⟩,e9⟩,e10⟩:=hr;have c1:=bv_less1 (ν':=ν') h1 (ν:=ν) (vs:=u1) (by simpa only [T.rel] using r1)
     have c2:=bv_less1 (ν':=ν') h2 (ν:=ν) (vs:=u2) (by simpa only [T.rel] using r2)
     have c3:=bv_less1 (ν':=ν') h3 (ν:=ν) (vs:=u3) (by simpa only [T.rel] using r3)
     have c4:=bv_less1 (ν':=ν') h4 (ν:=ν) (vs:=u4) (by simpa only [T.rel] using r4)
     have c5:=bv_less1 (ν':=ν') h5 (ν:=ν) (vs:=a1) (by simpa only [T.rel] using s1)
     have c6:=bv_less1 (ν':=ν') h6 (ν:=ν) (vs:=a2) (by simpa only [T.rel] using s2)
     have c7:=bv_less1 (ν':=ν') h7 (ν:=ν) (vs:=a3) (by simpa only [T.rel] using s3)
     have c8:=bv_less1 (ν':=ν') h8 (ν:=ν) (vs:=a4) (by simpa only [T.rel] using s4)
     have c9:=bv_less1 (ν':=ν') h9 (ν:=ν) (vs:=a5) (by simpa only [T.rel] using s5)
     have c10:=bv_less1 (ν':=ν') h10 (ν:=ν) (vs:=a6) (by simpa only [T.rel] using s6)
     simp only [T.rel] at c1 c2 c3 c4 c5 c6 c7 c8 c9 c10;exact ⟨u1,w1,e1,c1,u2,w2,e2,c2,u3,w3,e3,c3,u4,w4,e4,c4,u5,w5,e5,⟨u6,w6,e6,⟨a1,b1,f1,c5,a2,b2,f2,c6,f3⟩,u7,w7,e7,⟨a3,b3,f4,c7,a4,b4,f5,c8,f6⟩,u8,w8,e8,⟨a5,b5,f7,c9,a6,b6,f8,c10,f9⟩,e9⟩,e10⟩
   · cases h
 · cases h
def RF.setR (f:RF) (n:Nat) (r:RW):RF:=⟨putN n r.k f.k,putN n r.o f.o,putN n r.m f.m,putN n r.i f.i,putN n r.tv f.tv,putN n r.tm f.tm,putN n r.ul f.ul,putN n r.uh f.uh,putN n r.sl f.sl,putN n r.sh f.sh⟩
def whatR (r:RW):U:=cond (r.k==K 1) (K 1) (K 2)
def stoK (s:FSt) (k:Nat) (r:RW):FSt:=
 ⟨s.regs,putN (8*k+7) (whatR r) (putN (8*k+6) (whatR r) (putN (8*k+5) (whatR r) (putN (8*k+4) (whatR r) (putN (8*k+3) (whatR r) (putN (8*k+2) (whatR r) (putN (8*k+1) (whatR r) (putN (8*k) (whatR r) s.g))))))),s.kept.setR k r⟩
def sP (k:Nat):Int:=8*(k:Int)-128
def ldC (s:FSt) (k:Nat):Bool:=s.kept.k k != K 0
def ldR (s:FSt) (k:Nat):U:=readR s.g (K (sP k)) (K 8)
def ldZ (s:FSt) (k:Nat):Bool:=ldR s k != K 0
def ldW (s:FSt) (k:Nat):RW:=
 ⟨cond (ldC s k) (s.kept.k k) (cond (ldZ s k) (K 0) (K 1)),cond (ldC s k) (s.kept.o k) (K 0),cond (ldC s k) (s.kept.m k) (K 0),cond (ldC s k) (s.kept.i k) (K 0),cond (ldC s k) (s.kept.tv k) (K 0),cond (ldC s k) (s.kept.tm k) (cond (ldZ s k) (K 0) (K 18446744073709551615)),
  cond (ldC s k) (s.kept.ul k) (K 0),cond (ldC s k) (s.kept.uh k) (cond (ldZ s k) (K 0) (K 18446744073709551615)),cond (ldC s k) (s.kept.sl k) (cond (ldZ s k) (K 0) (K (-9223372036854775808))),cond (ldC s k) (s.kept.sh k) (cond (ldZ s k) (K 0) (K 9223372036854775807))⟩
def ldE (s:FSt) (k:Nat):U:=cond (ldC s k) (K 0) (cond (ldZ s k) (ldR s k) (K 0))
abbrev lt8:V:=one (.lit .i64 8)
theorem sto_lit (s:FSt) (r:RW):∀k:Nat,k<16->resM (evS 44 s [one (.lit .i64 (sP k)),lt8,.t r.t])=some (.tt,one (.lit .i64 0),[0],some ⟨true,(stoK s k r).t⟩)
 | 0,_=>by kernel_rfl|1,_=>by kernel_rfl|2,_=>by kernel_rfl|3,_=>by kernel_rfl|4,_=>by kernel_rfl|5,_=>by kernel_rfl|6,_=>by kernel_rfl|7,_=>by kernel_rfl
 | 8,_=>by kernel_rfl|9,_=>by kernel_rfl|10,_=>by kernel_rfl|11,_=>by kernel_rfl|12,_=>by kernel_rfl|13,_=>by kernel_rfl|14,_=>by kernel_rfl|15,_=>by kernel_rfl|n+16,h=>absurd h (by omega)
def isSlot (x:U):Bool:=(List.range 16).any fun k=>x==K (sP k)
def slotN (x:U):Nat:=posN x / 8
theorem isSlot_some {x:U} (h:isSlot x=true):∃k,k<16/\x=K (sP k)/\slotN x=k:=by
 unfold isSlot at h;rw [List.any_eq_true] at h;obtain ⟨k,hk,e⟩:=h;have hk:=List.mem_range.1 hk;have e:x=K (sP k):=by simpa using e
 refine ⟨k,hk,e,?_⟩;rw [e];exact (show ∀k:Fin 16,slotN (K (sP k.val))=k.val by decide +kernel) ⟨k,hk⟩
theorem sP_val:∀k:Fin 16,vof .i64 (K (sP k.val))=sP k.val/\IntKind.i64.wrap (sP k.val)=sP k.val:=by decide +kernel
theorem sP_rel {ν ν':Nu} {ax:A} {x:U} {k:Nat} (hk:k<16) (hx:i64Of ax=some x) (e:x=K (sP k)) {u:Value} (h:ax.rel ν u):(A.lit .i64 (sP k)).rel ν' u:=by
 have:=i64Of_rel hx h;simp only [A.rel];obtain ⟨h1,h2⟩:=sP_val ⟨k,hk⟩;rw [e,h1] at this;exact ⟨this,h2⟩
def stoS (s:FSt):List V->Option (A×V×FSt)
 | [.t (.a ax),.t (.a (.lit .i64 n)),.t t]=>match i64Of ax,rwOfT t,decide (n=8) with
   | some x,some r,true=>some (.b (isSlot x),one (.lit .i64 0),stoK s (slotN x) r)
   | _,_,_=>none
 | _=>none
theorem lt8_rel {ν ν':Nu} {u:Value} (h:(A.lit .i64 8).rel ν u):(A.lit .i64 8).rel ν' u:=by
 simpa only [A.rel] using h
theorem sto_ok {Γ:Gam} (hΓ:ΓOK Tryz.prog Γ):ΓOK Tryz.prog (stΓ 44 stoS Γ):=by
 refine stΓ_ok (fun s rest ok v s' hs hok => ?_) hΓ;unfold stoS at hs;split at hs
 · split at hs
   · rename_i h1 h2 h3;cases hs;have hn:=of_decide_eq_true h3;subst hn;obtain ⟨k,hk,e,e2⟩:=isSlot_some hok;rw [e2];refine saysW_ev rfl (sto_lit s _ k hk) rfl (.inl rfl) rfl fun ν ν' us hu => ?_
     match us,hu with
     | [u1,u2,u3],⟨r1,r2,r3,_⟩=>exact ⟨sP_rel (ν:=ν) (ν':=ν') hk h1 e r1,lt8_rel (ν:=ν) (ν':=ν') r2,rwOfT_rel h2 r3,trivial⟩
   · cases hs
 · cases hs
end Go.WE
namespace Go.WE
open Go
theorem fnOK_new {P:Program} {f:FuncId} {args:List V} {id0:Nat} {t t':T} {h0:H} (h1:FnOK P f args H.none (.t (.a (.ptr id0 []))) h0) (hb0:h0.m.get id0=some ⟨true,t⟩) (ht:t.free=true) (hnm:notMp t=true)
 (hw:∀ν vs,t.rel ν vs->t'.rel ν vs) (ha:freeVs args=true):∀h,FnOK P f args h (.t (.a (.ptr h.next []))) (h.new ⟨true,t'⟩):=by
 intro h S ν w vs _ _ hm hargs;refine (h1 (fun _=>True) nu0 w vs (fun _ _=>trivial) (fun _ _=>trivial) (mem_none _ w) (relV_free ha hargs)).mono ?_;rintro e w' ⟨u,ν',rfl,hu,g⟩;have hb:∀r,r<w.heap.size->w'.heap[r]? = w.heap[r]? := fun r hr=>g.frm.block r hr (fun id base h=>by cases h)
 have hu:(A.ptr id0 []).rel ν' u:=hu;simp only [A.rel] at hu;obtain ⟨b,base,hν,rfl⟩:=hu;obtain ⟨r,base',cs,ty,fr,pre,vs',post,q1,q2,q3,q4,q5,q6⟩:=(g.mem.seen id0 _ hb0 (.inl trivial)).cells hnm;rw [hν] at q1;cases q1;obtain ⟨rfl,rfl⟩:=q6 rfl;have hge:w.heap.size≤b:=g.new id0 b 0 rfl hν;have hlt:b<w'.heap.size:=g.mem.nums.lt id0 b 0 hν;have hn:ν h.next=none:=hm.nums.fresh _ (Nat.le_refl _);have hle:=le_upd (p:=(b,0)) hn;have hget:∀id,(h.new ⟨true,t'⟩).m.get id=if h.next=id then some ⟨true,t'⟩ else h.m.get id:=fun id=>Tr.get_set _ _ _ _
 refine ⟨_,upd ν h.next (b,0),rfl,?_,hle,⟨⟨?_,?_,?_,?_,?_,fun g hg=>hle _ _ (hm.nums.glob g hg)⟩,?_⟩,⟨g.frm.os,g.frm.tape,g.frm.output,g.frm.size,fun r hr _=>hb r hr⟩,?_,new_ext hm.nums.lo _,?_⟩
 · show (A.ptr _ _).rel _ _;simp only [A.rel];exact ⟨b,0,by simp [upd],rfl⟩
 · intro id r base hi;unfold upd at hi;split at hi
   · simp at hi;omega
   · have h1:=hm.nums.lt id r base hi;exact Nat.lt_of_lt_of_le h1 g.frm.size
 · intro id b' hb' hrw id' r base base' h1 h2;rw [hget] at hb';unfold upd at h1 h2;split at h1<;>split at h2
   · omega
   · simp at h1;have:=hm.nums.lt _ _ _ h2;omega
   · simp at h2;have:=hm.nums.lt _ _ _ h1;omega
   · rename_i e1 e2;rw [if_neg (fun e=>e1 e.symm)] at hb';exact hm.nums.inj id b' hb' hrw id' r base base' h1 h2
 · intro id hi;have hi:h.next+1≤id:=hi;unfold upd;rw [if_neg (by omega)]
   exact hm.nums.fresh id (by omega)
 · intro id b hb;show id<h.next+1;rw [hget] at hb;split at hb
   · omega
   · have:=hm.nums.bound id b hb;omega
 · have:=hm.nums.lo;show h.lo≤h.next+1;omega
 · intro id b' hb' hS;rw [hget] at hb';split at hb'
   · rename_i e;subst e;simp at hb';subst hb';exact .inl ⟨b,0,cs,ty,(0,0),pre,vs',post,by simp [upd],q2,q3,q4,hw _ _ (T.rel_free ht q5),fun _=>⟨rfl,rfl⟩⟩
   · exact (hm.seen id b' hb' hS).mono hle fun r base hi=>hb r (hm.nums.lt _ _ _ hi)
 · intro id r base hn' hi;unfold upd at hi;split at hi
   · simp at hi;omega
   · rw [hn'] at hi;cases hi
 · intro id hi;unfold upd;rw [if_neg (by omega)]
def newΓ (f:FuncId) (spec:List V->Option T) (Γ:Gam):Gam:=fun g args h=>match Nat.beq g f with
 | true=>match spec args with
   | some t=>some (.leaf .tt (.t (.a (.ptr h.next []))) (h.new ⟨true,t⟩))
   | none=>Γ g args h
 | false=>Γ g args h
theorem newΓ_ok {P:Program} {f:FuncId} {spec:List V->Option T} {Γ:Gam} (hs:∀args t,spec args=some t->Enters P f/\∀h,FnOK P f args h (.t (.a (.ptr h.next []))) (h.new ⟨true,t⟩)) (hΓ:ΓOK P Γ):ΓOK P (newΓ f spec Γ) where
 ok:=by
  intro g args h r ok v h' hr hp hok;unfold newΓ at hr;split at hr
  · rename_i hb;have:=Go.WE.beq_true hb;subst this;split at hr
    · rename_i t hsp;cases hr;simp only [R.pick,oI,pI] at hp;obtain ⟨rfl,rfl,rfl⟩:=hp;obtain ⟨h1,h2⟩:=hs args _ hsp;exact .inl ⟨h1,h2 _⟩
    · exact hΓ.ok g args h r ok v h' hr hp hok
  · exact hΓ.ok g args h r ok v h' hr hp hok
 pan:=by
  intro g args h r ok v h' hr hp hok;unfold newΓ at hr;split at hr
  · split at hr
    · cases hr;simp [R.pickP] at hp
    · exact hΓ.pan g args h r ok v h' hr hp hok
  · exact hΓ.pan g args h r ok v h' hr hp hok
 ext:=by
  intro g args h r hr hlo;unfold newΓ at hr;split at hr
  · split at hr
    · cases hr;exact new_ext hlo _
    · exact hΓ.ext g args h r hr hlo
  · exact hΓ.ext g args h r hr hlo
end Go.WE
namespace Go.WE
open Go Go.Proofs
theorem lst_each {ν:Nu} {s:Nat}:∀(ts:List T) (vs:List Value),relLst ν s ts vs->vs.length=s*ts.length/\∀i (hi:i<ts.length),(ts[i]).rel ν ((vs.drop (s*i)).take s)
 | [],vs,hv=>by simp only [relLst] at hv;subst hv;exact ⟨rfl,fun i hi=>absurd hi (Nat.not_lt_zero _)⟩
 | t::ts,vs,hv=>by
   simp only [relLst] at hv;obtain ⟨us,ws,rfl,rfl,ht,hw⟩:=hv;obtain ⟨h1,h2⟩:=lst_each ts ws hw;refine ⟨by simp [h1,Nat.mul_succ,Nat.add_comm],fun i hi => ?_⟩
   cases i with
   | zero=>simpa using ht
   | succ i=>
     have e:us.length*(i+1)=us.length+us.length*i:=by rw [Nat.mul_succ,Nat.add_comm]
     rw [e,List.drop_append,List.drop_eq_nil_of_le (Nat.le_add_right us.length (us.length*i)),List.nil_append,Nat.add_sub_cancel_left];simpa using h2 i (by simpa using hi)
theorem lst_fun {ν:Nu} {s:Nat} {ts:List T} {sh:Sh} (h:∀vs i (hi:i<ts.length),(ts[i]).rel ν vs->sh.rel i vs) {vs:List Value} (hv:relLst ν s ts vs):(T.arr s (.lit ts.length) sh).rel ν vs:=by
 obtain ⟨h1,h2⟩:=lst_each ts vs hv;simp only [T.rel];exact ⟨h1,fun i hi=>h _ i hi (h2 i hi)⟩
def zR (k:Int):T :=.st [.a (.lit .i64 k),.a (.lit .i64 0),.a (.lit .i64 0),.a (.lit .i64 0),.st [.st [.a (.lit .u64 0),.a (.lit .u64 0)],.st [.a (.lit .u64 0),.a (.lit .u64 0)],.st [.a (.lit .i64 0),.a (.lit .i64 0)]]]
def regsZ:List T:=[zR 0,zR 2,zR 0,zR 0,zR 0,zR 0,zR 0,zR 0,zR 0,zR 0,zR 3]
def stateZ:T :=.st [.lst 10 regsZ,.lst 1 (List.replicate 128 (.a (.lit .i64 0))),.lst 10 (List.replicate 16 (zR 0))]
def kindN (n:Nat):Int:=if n=1 then 2 else if n=10 then 3 else 0
def zRF:RF:=⟨fun n=>K (kindN n),fun _=>K 0,fun _=>K 0,fun _=>K 0,fun _=>K 0,fun _=>K 0,fun _=>K 0,fun _=>K 0,fun _=>K 0,fun _=>K 0⟩
def z0F:RF:=⟨fun n=>K 0,fun _=>K 0,fun _=>K 0,fun _=>K 0,fun _=>K 0,fun _=>K 0,fun _=>K 0,fun _=>K 0,fun _=>K 0,fun _=>K 0⟩
def newFS:FSt:=⟨zRF,fun _=>K 0,z0F⟩
theorem zR_rel {ν:Nu} {k:Int} {vs:List Value} {i:Nat} {f:RF} (hf:f.at i=⟨K k,K 0,K 0,K 0,K 0,K 0,K 0,K 0,K 0,K 0⟩) (h:(zR k).rel ν vs):f.s.rel i vs:=by
 unfold RF.at at hf;simp only [RW.mk.injEq] at hf;obtain ⟨h1,h2,h3,h4,h5,h6,h7,h8,h9,h10⟩:=hf;simp only [zR,T.rel,relTs,A.rel] at h;simp only [RF.s,Sh.rel,relShs,h1,h2,h3,h4,h5,h6,h7,h8,h9,h10];obtain ⟨u1,w1,e1,⟨x1,y1,⟨z1,q1⟩,_⟩,u2,w2,e2,⟨x2,y2,⟨z2,q2⟩,_⟩,u3,w3,e3,⟨x3,y3,⟨z3,q3⟩,_⟩,u4,w4,e4,⟨x4,y4,⟨z4,q4⟩,_⟩,u5,w5,e5,⟨u6,w6,e6,⟨a1,b1,c1,⟨d1,f1,⟨g1,k1⟩,_⟩,a2,b2,c2,⟨d2,f2,⟨g2,k2⟩,_⟩,c3⟩,u7,w7,e7,⟨a3,b3,c4,⟨d3,f3,⟨g3,k3⟩,_⟩,a4,b4,c5,⟨d4,f4,⟨g4,k4⟩,_⟩,c6⟩,u8,w8,e8,⟨a5,b5,c7,⟨d5,f5,⟨g5,k5⟩,_⟩,a6,b6,c8,⟨d6,f6,⟨g6,k6⟩,_⟩,c9⟩,e9⟩,e10⟩:=h;subst y1 z1 y2 z2 y3 z3 y4 z4 f1 g1 f2 g2 f3 g3 f4 g4 f5 g5 f6 g6;have n0:vof .i64 (K 0)=0:=rfl;have m0:vof .u64 (K 0)=0:=rfl;have ek:vof .i64 (K k)=k:=vof_ofInt q1;refine ⟨_,w1,e1,?_,_,w2,e2,?_,_,w3,e3,?_,_,w4,e4,?_,u5,w5,e5,⟨u6,w6,e6,⟨_,b1,c1,?_,_,b2,c2,?_,c3⟩,u7,w7,e7,⟨_,b3,c4,?_,_,b4,c5,?_,c6⟩,u8,w8,e8,⟨_,b5,c7,?_,_,b6,c8,?_,c9⟩,e9⟩,e10⟩
 all_goals first|assumption|(rw [x1,ek])|(rw [x2];rfl)|(rw [x3];rfl)|(rw [x4];rfl)|(rw [d1];rfl)|(rw [d2];rfl)|(rw [d3];rfl)|(rw [d4];rfl)|(rw [d5];rfl)|(rw [d6];rfl)|rw [ek]|rfl
theorem regsZ_rel {ν:Nu} {vs:List Value}:∀i (hi:i<regsZ.length),(regsZ[i]).rel ν vs->zRF.s.rel i vs
 | 0,_,h=>zR_rel rfl h|1,_,h=>zR_rel rfl h|2,_,h=>zR_rel rfl h|3,_,h=>zR_rel rfl h|4,_,h=>zR_rel rfl h|5,_,h=>zR_rel rfl h|6,_,h=>zR_rel rfl h|7,_,h=>zR_rel rfl h|8,_,h=>zR_rel rfl h|9,_,h=>zR_rel rfl h|10,_,h=>zR_rel rfl h
 | n+11,hi,_=>absurd hi (by show ¬(n+11<11);omega)
theorem stateZ_rel {ν:Nu} {vs:List Value} (h:stateZ.rel ν vs):newFS.t.rel ν vs:=by
 unfold stateZ at h;unfold FSt.t;simp only [T.rel,relTs] at h ⊢;obtain ⟨u,w,rfl,h1,u2,w2,rfl,h2,u3,w3,rfl,h3,rfl⟩:=h;refine ⟨_,_,rfl,?_,_,_,rfl,?_,_,_,rfl,?_,rfl⟩
 · have:=lst_fun (sh:=zRF.s) (fun vs i hi=>regsZ_rel i hi) h1;simp only [T.rel] at this;exact this
 · have:=lst_fun (sh :=.int .i64 fun _=>K 0) (fun vs i hi hr => ?_) h2
   · simp only [T.rel,List.length_replicate] at this;exact this
   · rw [List.getElem_replicate] at hr;simp only [T.rel,A.rel] at hr;obtain ⟨v,rfl,⟨rfl,_⟩,_⟩:=hr;rfl
 · have:=lst_fun (sh:=z0F.s) (fun vs i hi hr => ?_) h3
   · simp only [T.rel,List.length_replicate] at this;exact this
   · rw [List.getElem_replicate] at hr;exact zR_rel rfl hr
def resN (r:R):Option (A×Nat×Option Blk):=match r.pick with
 | some (ok,.t (.a (.ptr id [])),h)=>some (ok,id,h.m.get id)
 | _=>none
theorem new_ev:resN (evalF cxK noΓ 400 20 27 [] H.none)=some (.tt,0,some ⟨true,stateZ⟩):=by kernel_rfl
def newS:List V->Option T
 | []=>some newFS.t
 | _=>none
theorem new_ok {Γ:Gam} (hΓ:ΓOK Tryz.prog Γ):ΓOK Tryz.prog (newΓ 27 newS Γ):=by
 refine newΓ_ok (fun args t h => ?_) hΓ;unfold newS at h;split at h
 · cases h;have he:=new_ev;unfold resN at he;split at he
   · rename_i ok id h hp;simp only [oI,pI] at he;obtain ⟨rfl,rfl,hb⟩:=he;obtain ⟨h1,h2⟩:=evalF_fn (XK noΓ_ok) rfl hp rfl;exact ⟨h1,fnOK_new h2 hb rfl rfl (fun ν vs hv=>stateZ_rel hv) rfl⟩
   · cases he
 · cases h
def st1 (t:Bool) (f:Nat->U):Nat->U:=fun j=>cond t (f j) (f j)
def st8 (t:Bool) (f:Nat->U):Nat->U:=st1 t (st1 t (st1 t (st1 t (st1 t (st1 t (st1 t (st1 t f)))))))
def stp (t:Bool) (i:Nat) (g:Nat->U):Nat->U:=fun j=>cond t (putN i (K 1) (putN i (K 2) g) j) (putN i (K 2) g j)
def sto22K (s:FSt) (k:Nat) (r:RW):FSt:=
 ⟨s.regs.map2 (st8 (r.k==K 1)),stp (r.k==K 1) (8*k+7) (stp (r.k==K 1) (8*k+6) (stp (r.k==K 1) (8*k+5) (stp (r.k==K 1) (8*k+4) (stp (r.k==K 1) (8*k+3) (stp (r.k==K 1) (8*k+2) (stp (r.k==K 1) (8*k+1) (stp (r.k==K 1) (8*k) s.g))))))),(s.kept.setR k r).map2 (st8 (r.k==K 1))⟩
theorem st8_eq (t:Bool) (f:Nat->U):st8 t f=f:=by
 funext j;unfold st8 st1;cases t<;>rfl
theorem stp_eq (r:RW) (i:Nat) (g:Nat->U):stp (r.k==K 1) i g=putN i (whatR r) g:=by
 funext j;unfold stp whatR;cases r.k==K 1
 · rfl
 · simp only [cond_true,putN_at];by_cases e:j=i<;>simp [e]
theorem sto22K_eq (s:FSt) (k:Nat) (r:RW):sto22K s k r=stoK s k r:=by
 unfold sto22K stoK RF.map2;simp only [st8_eq,stp_eq]
theorem sto22_lit (s:FSt) (r:RW):∀k:Nat,k<16->resM (evS 45 s [one (.lit .i64 (sP k)),lt8,.t r.t])=some (.tt,one (.lit .i64 0),[0],some ⟨true,(sto22K s k r).t⟩)
 | 0,_=>by kernel_rfl|1,_=>by kernel_rfl|2,_=>by kernel_rfl|3,_=>by kernel_rfl|4,_=>by kernel_rfl|5,_=>by kernel_rfl|6,_=>by kernel_rfl|7,_=>by kernel_rfl
 | 8,_=>by kernel_rfl|9,_=>by kernel_rfl|10,_=>by kernel_rfl|11,_=>by kernel_rfl|12,_=>by kernel_rfl|13,_=>by kernel_rfl|14,_=>by kernel_rfl|15,_=>by kernel_rfl|n+16,h=>absurd h (by omega)
theorem sto22_ok {Γ:Gam} (hΓ:ΓOK Tryz.prog Γ):ΓOK Tryz.prog (stΓ 45 stoS Γ):=by
 refine stΓ_ok (fun s rest ok v s' hs hok => ?_) hΓ;unfold stoS at hs;split at hs
 · split at hs
   · rename_i h1 h2 h3;cases hs;have hn:=of_decide_eq_true h3;subst hn;obtain ⟨k,hk,e,e2⟩:=isSlot_some hok;rw [e2,← sto22K_eq];refine saysW_ev rfl (sto22_lit s _ k hk) rfl (.inl rfl) rfl fun ν ν' us hu => ?_
     match us,hu with
     | [u1,u2,u3],⟨r1,r2,r3,_⟩=>exact ⟨sP_rel (ν:=ν) (ν':=ν') hk h1 e r1,lt8_rel (ν:=ν) (ν':=ν') r2,rwOfT_rel h2 r3,trivial⟩
   · cases hs
 · cases hs
theorem new22_ev:resN (evalF cxK noΓ 400 20 28 [] H.none)=some (.tt,0,some ⟨true,stateZ⟩):=by kernel_rfl
theorem new22_ok {Γ:Gam} (hΓ:ΓOK Tryz.prog Γ):ΓOK Tryz.prog (newΓ 28 newS Γ):=by
 refine newΓ_ok (fun args t h => ?_) hΓ;unfold newS at h;split at h
 · cases h;have he:=new22_ev;unfold resN at he;split at he
   · rename_i ok id h hp;simp only [oI,pI] at he;obtain ⟨rfl,rfl,hb⟩:=he;obtain ⟨h1,h2⟩:=evalF_fn (XK noΓ_ok) rfl hp rfl;exact ⟨h1,fnOK_new h2 hb rfl rfl (fun ν vs hv=>stateZ_rel hv) rfl⟩
   · cases he
 · cases h
theorem inv_sto {s:FSt} (h:InvS s) {k:Nat} {r:RW} (hr:r.k≠K 0):InvS (stoK s k r):=by
 have g1:∀j,(stoK s k r).g j=if j / 8=k then whatR r else s.g j:=fun j=>put8_at
 have k1:∀j,(stoK s k r).kept.k j=if j=k then r.k else s.kept.k j:=fun j=>putN_at
 have w2:whatR r=K 2\/whatR r=K 1:=by
  unfold whatR;cases r.k==K 1
  · exact .inl rfl
  · exact .inr rfl
 refine ⟨fun b hb => ?_,fun b b' hbb hb => ?_,fun j hj => ?_⟩
 · rw [k1];by_cases e:b / 8=k
   · rw [if_pos e];exact hr
   · rw [if_neg e];rw [g1,if_neg e] at hb;exact h.a b hb
 · rw [g1] at hb ⊢;by_cases e:b / 8=k
   · rw [if_pos e] at hb;rw [if_pos (hbb▸e)];exact hb
   · rw [if_neg e] at hb;rw [if_neg (hbb▸e)];exact h.u b b' hbb hb
 · rw [k1] at hj;by_cases e:j=k
   · rw [if_pos e] at hj;exact absurd hj hr
   · rw [if_neg e] at hj;have hz:=h.z j hj;unfold stoK RF.setR RF.at at *;simp only [putN_at,if_neg e];exact hz
theorem inv_new:InvS newFS:=⟨fun b hb=>absurd hb (by show ¬(K 0=K 2);decide),fun b b' _ hb=>absurd hb (by show ¬(K 0=K 2);decide),fun k _=>rfl⟩
theorem inv_regs {s:FSt} (h:InvS s) (f:RF):InvS ⟨f,s.g,s.kept⟩:=⟨h.a,h.u,h.z⟩
end Go.WE
namespace Go.WE
open Go
open Go.RowKit (Below)
theorem OwnL.leftP {P:Program} {fn:Func} {fp:Fp} {n:Nat} {ms:List (Nat×Blk)} {W:World} {l:List (Nat×V)} {a:Act} {w:World} {R:Ending->World->Prop} {u:Value} (h:OwnL fp n ms W l a w) (hR:Below W.heap.size W w->R (.panicked [{ v:=u,recovered:=false }]) w) :
 bodyPostD P fn R (.panic [{ v:=u,recovered:=false }]) a w:=by
 obtain ⟨ν,hs,hb,_⟩:=h;show Leaves P fn a.tmps R a.defers (.panicking [{ v:=u,recovered:=false }]) w;rw [hs.defers];exact hR hb
theorem thrown {ν:Nu} {t:TypeId} {k:IntKind} {n:Int} {u:Value} (h:(A.iface t (.lit k n)).rel ν u):u = .iface t (.int k n):=by
 simp only [A.rel] at h;obtain ⟨_,rfl,rfl,_⟩:=h;rfl
end Go.WE
namespace Go.WE
open Go Go.Proofs
open Go.RowKit (Below)
def H.sees (h:H):List Nat->H
 | []=>h
 | i::r=>(h.see i).sees r
theorem sees_m:∀(ids:List Nat) (h:H),(h.sees ids).m=h.m
 | [],_=>rfl
 | i::r,h=>sees_m r (h.see i)
theorem sees_lo:∀(ids:List Nat) (h:H),(h.sees ids).lo=h.lo
 | [],_=>rfl
 | i::r,h=>sees_lo r (h.see i)
theorem sees_next:∀(ids:List Nat) (h:H),(h.sees ids).next=h.next
 | [],_=>rfl
 | i::r,h=>sees_next r (h.see i)
theorem sees_ext:∀(ids:List Nat) (h:H),Ext h (h.sees ids)
 | [],h=>Ext.refl h
 | i::r,h=>(see_ext h i).trans (sees_ext r (h.see i))
theorem Mem.sees {S:Nat->Prop} {ν:Nu} {w:World}:∀(ids:List Nat) {h:H},Mem S ν w h->Goes S ν w h ν w (h.sees ids)
 | [],_,m=>Goes.refl m
 | i::r,_,m=>(m.see i).trans (Mem.sees r (m.see i).mem)
theorem sees_seen {S:Nat->Prop}:∀{ids:List Nat} {h:H},(∀i,i∈(h.sees ids).rd->S i)->∀i,i∈ids->S i\/h.lo≤i
 | j::r,h,hS,i,hi=>by
   cases hi with
   | head=>exact see_seen fun k hk=>hS k ((sees_ext r (h.see j)).rd k hk)
   | tail _ hi=>exact sees_seen (h:=h.see j) hS i hi
def anyΓ (f:Nat) (spec:List V->H->Option R) (Γ:Gam):Gam:=fun g args h=>match Nat.beq g f with
 | true=>match spec args h with
   | some r=>some r
   | none=>Γ g args h
 | false=>Γ g args h
structure AnyOK (P:Program) (f:FuncId) (spec:List V->H->Option R):Prop where
 ent:Enters P f
 ok:∀args h r ok v h',spec args h=some r->r.pick=some (ok,v,h')->okB ok=true->FnOK P f args h v h'
 pan:∀args h r ok v h',spec args h=some r->r.pickP=some (ok,v,h')->okB ok=true->FnPan P f args h v h'
 ext:∀args h r,spec args h=some r->h.lo≤h.next->r.All (Ext h)
theorem anyΓ_ok {P:Program} {f:FuncId} {spec:List V->H->Option R} {Γ:Gam} (hs:AnyOK P f spec) (hΓ:ΓOK P Γ):ΓOK P (anyΓ f spec Γ) where
 ok:=by
  intro g args h r ok v h' hr hp hok;unfold anyΓ at hr;split at hr
  · rename_i hb;have:=Go.WE.beq_true hb;subst this;split at hr
    · rename_i r' hsp;cases hr;exact .inl ⟨hs.ent,hs.ok args h r ok v h' hsp hp hok⟩
    · exact hΓ.ok g args h r ok v h' hr hp hok
  · exact hΓ.ok g args h r ok v h' hr hp hok
 pan:=by
  intro g args h r ok v h' hr hp hok;unfold anyΓ at hr;split at hr
  · rename_i hb;have:=Go.WE.beq_true hb;subst this;split at hr
    · rename_i r' hsp;cases hr;exact ⟨hs.ent,hs.pan args h r ok v h' hsp hp hok⟩
    · exact hΓ.pan g args h r ok v h' hr hp hok
  · exact hΓ.pan g args h r ok v h' hr hp hok
 ext:=by
  intro g args h r hr hlo;unfold anyΓ at hr;split at hr
  · split at hr
    · rename_i r' hsp;cases hr;exact hs.ext args h _ hsp hlo
    · exact hΓ.ext g args h r hr hlo
  · exact hΓ.ext g args h r hr hlo
theorem ptr_here {S:Nat->Prop} {ν:Nu} {w:World} {h:H} {id:Nat} {t:T} {v:Value} (hm:Mem S ν w h) (hb:h.m.get id=some ⟨true,t⟩) (hS:S id\/h.lo≤id) (hn:notMp t=true) (hf:t.free=true) (hv:(V.t (.a (.ptr id []))).rel ν v) :
 ∃r,ν id=some (r,0)/\Holds w r t/\v = .pointer (some ⟨r,0,none⟩):=by
 have r0:(A.ptr id []).rel ν v:=hv;simp only [A.rel] at r0;obtain ⟨r,base,e1,rfl⟩:=r0;obtain ⟨r',base',cs,ty,fr,pre,us,post,q1,q2,q3,q4,q5,q6⟩:=(hm.seen id _ hb hS).cells hn;rw [e1] at q1;cases q1;obtain ⟨rfl,rfl⟩:=q6 rfl;exact ⟨r,e1,seen_holds (hm.seen id _ hb hS) hn hf e1,rfl⟩
theorem sl_here {S:Nat->Prop} {ν:Nu} {w:World} {h:H} {id s:Nat} {len:Ix} {cap:Option Ix} {b:Blk} {v:Value} (hm:Mem S ν w h) (hb:h.m.get id=some b) (hS:S id\/h.lo≤id) (hn:notMp b.t=true) (hf:b.t.free=true) (h0:0<len.val) (hv:(V.t (.a (.sl id [] s (.lit 0) len cap))).rel ν v) :
 ∃B off c,ν id=some (B,off)/\HoldsAt w B off b.t/\v = .slice (some ⟨B,off,none⟩) len.val c/\len.val≤c:=by
 have r0:(A.sl id [] s (.lit 0) len cap).rel ν v:=hv;simp only [A.rel] at r0;obtain ⟨B,base,o,c,hid,rfl,ho,hlen,_⟩:=r0;obtain ⟨r',base',cs,ty,fr,pre,us,post,q1,q2,q3,q4,q5,q6⟩:=(hm.seen id _ hb hS).cells hn;rw [hid] at q1;cases q1;have ho:o=base:=by
  have:=ho (by omega)
  simpa [Ix.val,pathOff] using this
 subst ho;exact ⟨B,o,c,hid,⟨cs,ty,fr,pre,us,post,q2,q3,q4,T.rel_free hf q5⟩,rfl,hlen⟩
section
variable {P:Program} {f:FuncId} {args rest:List V} {v:V} {h:H}
theorem fn_calm (ids:List Nat) (H:∀S ν w us,Mem S ν w h->(∀i,i∈ids->S i\/h.lo≤i)->relV ν args us->Calls P f us.toArray w fun e w'=>∃u,e = .returned u/\v.rel ν u/\Below w.heap.size w w'):FnOK P f args h v (h.sees ids):=by
 intro S ν w us hrd _ hm hv;refine (H S ν w us hm (sees_seen hrd) hv).mono ?_;rintro e w' ⟨u,rfl,hu,hb⟩;exact ⟨u,ν,rfl,hu,(goes_calm hm hb).trans ((goes_calm hm hb).mem.sees ids)⟩
theorem fn_pan {x:A} (ids:List Nat) (H:∀S ν w us,Mem S ν w h->(∀i,i∈ids->S i\/h.lo≤i)->relV ν args us->Calls P f us.toArray w fun e w'=>∃u,e = .panicked [{ v:=u,recovered:=false }]/\x.rel ν u/\Below w.heap.size w w'):FnPan P f args h x (h.sees ids):=by
 intro S ν w us hrd _ hm hv;refine (H S ν w us hm (sees_seen hrd) hv).mono ?_;rintro e w' ⟨u,rfl,hu,hb⟩;exact ⟨u,ν,rfl,hu,(goes_calm hm hb).trans ((goes_calm hm hb).mem.sees ids)⟩
theorem fn_turn {id:Nat} {t t':T} (hget:h.m.get id=some ⟨true,t⟩) (hn:notMp t=true) (hf:t.free=true) (ids:List Nat) (hids:id∈ids)
 (H:∀S ν w r us,Mem S ν w h->(∀i,i∈ids->S i\/h.lo≤i)->ν id=some (r,0)->Holds w r t->relV ν rest us->Calls P f (.pointer (some ⟨r,0,none⟩)::us).toArray w fun e w'=>∃u,e = .returned u/\v.rel ν u/\But r w.heap.size w w'/\Holds w' r t') :
 FnOK P f (.t (.a (.ptr id []))::rest) h v ((h.sees ids).put id ⟨true,t'⟩):=by
 intro S ν w us hrd _ hm hv;have hrd':∀i,i∈(h.sees ids).rd->S i:=hrd;have hS:=sees_seen hrd'
 match us,hv with
 | v0::us,⟨r0,hr⟩=>
   obtain ⟨r,e1,hh,rfl⟩:=ptr_here hm hget (hS id hids) hn hf r0;refine (H S ν w r us hm hS e1 hh hr).mono ?_;rintro e w' ⟨u,rfl,hu,hbut,hh'⟩;have g1:=hm.sees ids;exact ⟨u,ν,rfl,hu,g1.trans (goes_turned (h:=h.sees ids) g1.mem (by rw [sees_m];exact hget) rfl e1 hbut hh')⟩
theorem fn_made {t:T} (hf:t.free=true) (ids:List Nat)
 (H:∀S ν w us,Mem S ν w h->(∀i,i∈ids->S i\/h.lo≤i)->relV ν args us->Calls P f us.toArray w fun e w'=>∃u B,e = .returned u/\w.heap.size≤B/\Below w.heap.size w w'/\Holds w' B t/\∀ν',ν.le ν'->ν' h.next=some (B,0)->v.rel ν' u) :
 FnOK P f args h v ((h.sees ids).new ⟨true,t⟩):=by
 intro S ν w us hrd _ hm hv;have hrd':∀i,i∈(h.sees ids).rd->S i:=hrd;refine (H S ν w us hm (sees_seen hrd') hv).mono ?_;rintro e w' ⟨u,B,rfl,hB,hb,⟨cs,ty,vs,post,q1,q2,q3⟩,hu⟩;have g1:=hm.sees ids;have g2:=goes_made (h:=h.sees ids) (t:=t) g1.mem hb hB q1 q2 (fun ν'=>T.rel_free hf q3);refine ⟨u,_,rfl,hu _ g2.le ?_,g1.trans g2⟩;rw [← sees_next ids h];simp [upd]
end
def shVV:Sh->Option VV
 | .st [.int .i64 k,.int .u64 n,.int .i64 m,.int .i64 i]=>some ⟨k,n,m,i⟩
 | _=>none
theorem shVV_some {s:Sh} {f:VV} (h:shVV s=some f):s=f.s:=by
 unfold shVV at h;split at h
 · cases h;rfl
 · cases h
def isCtx:List T->Bool
 | []=>true
 | .a (.lit .u8 0)::r=>isCtx r
 | _=>false
theorem isCtx_eq:∀{l:List T},isCtx l=true->l=List.replicate l.length (.a (.lit .u8 0))
 | [],_=>rfl
 | .a (.lit .u8 0)::r,h=>by have:=isCtx_eq (l:=r) h;rw [List.length_cons,List.replicate_succ,← this]
def asVF:T->Option VF
 | .st [.arr 4 (.lit 11) rs,.lst 1 cs,.arr 20 (.lit 16) (.st [ps,.ints 8 .u8 b,.bools 8 l])]=>match shVV rs,shVV ps,isCtx cs&&Nat.beq cs.length 32 with
   | some r,some p,true=>some ⟨r,p,b,l⟩
   | _,_,_=>none
 | _=>none
theorem asVF_some {t:T} {s:VF} (h:asVF t=some s):t=s.t:=by
 unfold asVF at h;split at h
 · split at h
   · rename_i h1 h2 h3;simp only [bA] at h3;cases h;rw [shVV_some h1,shVV_some h2,isCtx_eq h3.1,Nat.eq_of_beq_eq_true h3.2];rfl
   · cases h
 · cases h
def asQF:T->Option QF
 | .st [.arr 4 (.lit 11) rs,.lst 1 cs,.arr 2 (.lit 128) (.st [.int .i64 how,.int .u8 b]),.arr 4 (.lit 16) ps]=>match shVV rs,shVV ps,isCtx cs&&Nat.beq cs.length 32 with
   | some r,some p,true=>some ⟨r,how,b,p⟩
   | _,_,_=>none
 | _=>none
theorem asQF_some {t:T} {s:QF} (h:asQF t=some s):t=s.t:=by
 unfold asQF at h;split at h
 · split at h
   · rename_i h1 h2 h3;simp only [bA] at h3;cases h;rw [shVV_some h1,shVV_some h2,isCtx_eq h3.1,Nat.eq_of_beq_eq_true h3.2];rfl
   · cases h
 · cases h
def vfOf (h:H) (id:Nat):Option VF:=match h.m.get id with
 | some ⟨true,t⟩=>asVF t
 | _=>none
theorem vfOf_some {h:H} {id:Nat} {s:VF} (e:vfOf h id=some s):h.m.get id=some ⟨true,s.t⟩:=by
 unfold vfOf at e;split at e
 · rename_i t ht;rw [ht,asVF_some e]
 · cases e
def qfOf (h:H) (id:Nat):Option QF:=match h.m.get id with
 | some ⟨true,t⟩=>asQF t
 | _=>none
theorem qfOf_some {h:H} {id:Nat} {s:QF} (e:qfOf h id=some s):h.m.get id=some ⟨true,s.t⟩:=by
 unfold qfOf at e;split at e
 · rename_i t ht;rw [ht,asQF_some e]
 · cases e
def byteL:List T->Option (List U)
 | []=>some []
 | .a x::r=>match bvI .u8 x,byteL r with
   | some y,some l=>some (y::l)
   | _,_=>none
 | _=>none
def bytesOf:T->Option (Nat×(Nat->U))
 | .arr 1 n (.int .u8 g)=>some (n.val,g)
 | .lst 1 ts=>match byteL ts with
   | some l=>some (l.length,fun j=>l.getD j (K 0))
   | none=>none
 | _=>none
theorem byteL_rel {ν:Nu}:∀{ts:List T} {l:List U} {vs:List Value},byteL ts=some l->relLst ν 1 ts vs->vs=l.map fun x =>.int .u8 (vof .u8 x)
 | [],l,vs,h,hr=>by cases h;simpa [relLst] using hr
 | .a x::r,l,vs,h,hr=>by
   unfold byteL at h;split at h
   · rename_i y l' h1 h2;cases h;simp only [relLst] at hr;obtain ⟨us,ws,rfl,hl,ht,hw⟩:=hr;have h3:=bv_less1 (ν':=ν) h1 (ν:=ν) ht;simp only [T.rel,A.rel] at h3;obtain ⟨v,rfl,rfl,_⟩:=h3;rw [byteL_rel h2 hw];rfl
   · cases h
 | .st _::r,_,_,h,_=>by cases h
 | .lst _ _::r,_,_,h,_=>by cases h
 | .arr _ _ _::r,_,_,h,_=>by cases h
 | .bad::r,_,_,h,_=>by cases h
 | .mp _ _ _::r,_,_,h,_=>by cases h
theorem bytesOf_rel {t:T} {n:Nat} {g:Nat->U} (h:bytesOf t=some (n,g)) {ν:Nu} {vs:List Value} (hr:t.rel ν vs):(T.arr 1 (.sym n) (.int .u8 g)).rel ν vs:=by
 unfold bytesOf at h;split at h
 · rename_i m g';cases h;simp only [T.rel] at hr ⊢;exact hr
 · split at h
   · rename_i l hl;cases h;simp only [T.rel] at hr ⊢;have e:=byteL_rel hl hr;subst e;refine ⟨by simp [Ix.val],fun i hi => ?_⟩
     have hi:i<l.length:=hi;simp only [Sh.rel];rw [Nat.one_mul,List.drop_eq_getElem_cons (by simpa using hi),List.take_succ_cons,List.take_zero]
     simp [List.getD,hi]
   · cases h
 · cases h
theorem HoldsAt.less {W:World} {b off:Nat} {t t':T} (h:HoldsAt W b off t) (hl:∀vs,t.rel nu0 vs->t'.rel nu0 vs):HoldsAt W b off t':=by
 obtain ⟨cs,ty,fr,pre,vs,post,h1,h2,h3,h4⟩:=h;exact ⟨cs,ty,fr,pre,vs,post,h1,h2,h3,hl _ h4⟩
theorem bytesOf_free {t:T} {p:Nat×(Nat->U)} (h:bytesOf t=some p):notMp t=true:=by
 unfold bytesOf at h;split at h
 · rfl
 · rfl
 · cases h
end Go.WE
end
