/- A part of a proof of the helpers' law; no condition of its own. -/
import Derived.Test.YtoeealkcacgcgaaGreatDoorS31
import Derived.Test.YtoeealkcacgcgaaGreatDoorS41
import Derived.Test.YtoeealkcacgcgaaGreatDoorS42
set_option linter.unusedVariables false
set_option maxRecDepth 100000
noncomputable section
namespace Go.WE
open Go Go.Proofs Go.RowKit
def nuH (b off r1 r2:Nat):Nu:=fun i=>if i=0 then some (b,off) else if i=1 then some (r1,0) else if i=2 then some (r2,0) else none
theorem nuH_some {b off r1 r2 i r base:Nat} (h:nuH b off r1 r2 i=some (r,base)):(i=0/\r=b/\base=off)\/(i=1/\r=r1/\base=0)\/(i=2/\r=r2/\base=0):=by
 unfold nuH at h;split at h
 · cases h;exact .inl ⟨by assumption,rfl,rfl⟩
 · split at h
   · cases h;exact .inr (.inl ⟨by assumption,rfl,rfl⟩)
   · split at h
     · cases h;exact .inr (.inr ⟨by assumption,rfl,rfl⟩)
     · cases h
theorem mem_hd {w:World} {b off r1 r2 n:Nat} {D:DF} {f:FSt} {s:VF} (h1:r1≠b) (h2:r2≠b) (h12:r1≠r2) (H0:HoldsAt w b off (D.arr n)) (H1:Holds w r1 f.t) (H2:Holds w r2 s.t):Mem (fun _=>True) (nuH b off r1 r2) w (hM (mH n D f s) 3):=by
 have hget:∀i x,(hM (mH n D f s) 3).m.get i=some x->(i=0/\x=⟨false,D.arr n⟩)\/(i=1/\x=⟨true,f.t⟩)\/(i=2/\x=⟨true,s.t⟩):=fun i x e=>by have:=get_memT _ i x e;simp only [mH,List.mem_cons,List.not_mem_nil,or_false,pI] at this;exact this
 have own:∀{r i:Nat} {t:T},Holds w r t->nuH b off r1 r2 i=some (r,0)->SeenC (nuH b off r1 r2) w i ⟨true,t⟩:=fun {r i t} h e=>by obtain ⟨cs,ty,vs,post,q1,q2,q3⟩:=h;exact ⟨r,0,cs,ty,(0,0),[],vs,post,e,q1,by simpa using q2,rfl,T.rel_mono (fun i p e=>by cases e) q3,fun _=>⟨rfl,rfl⟩⟩
 refine ⟨⟨fun i r' b' e => ?_,fun i x e hrw i' r' c1 c2 e1 e2 => ?_,fun i hi => ?_,fun i x e => ?_,Nat.le_refl _,fun g hg=>(by cases hg)⟩,fun i x e _ => ?_⟩
 · rcases nuH_some e with ⟨_,rfl,_⟩|⟨_,rfl,_⟩|⟨_,rfl,_⟩
   · exact H0.lt
   · exact H1.lt
   · exact H2.lt
 · rcases hget i x e with ⟨rfl,rfl⟩|⟨rfl,_⟩|⟨rfl,_⟩
   · cases hrw
   · rcases nuH_some e1 with ⟨q,_⟩|⟨_,q,_⟩|⟨q,_⟩
     · cases q
     · subst q;rcases nuH_some e2 with ⟨_,q,_⟩|⟨q,_⟩|⟨_,q,_⟩
       · exact absurd q h1
       · exact q
       · exact absurd q h12
     · cases q
   · rcases nuH_some e1 with ⟨q,_⟩|⟨q,_⟩|⟨_,q,_⟩
     · cases q
     · cases q
     · subst q;rcases nuH_some e2 with ⟨_,q,_⟩|⟨_,q,_⟩|⟨q,_⟩
       · exact absurd q h2
       · exact absurd q.symm h12
       · exact q
 · have hi:3≤i:=hi;unfold nuH;rw [if_neg (by omega),if_neg (by omega),if_neg (by omega)]
 · rcases hget i x e with ⟨rfl,_⟩|⟨rfl,_⟩|⟨rfl,_⟩
   · show 0<3;decide
   · show 1<3;decide
   · show 2<3;decide
 · rcases hget i x e with ⟨rfl,rfl⟩|⟨rfl,rfl⟩|⟨rfl,rfl⟩
   · obtain ⟨cs,ty,fr,pre,vs,post,q1,q2,q3,q4⟩:=H0;exact .inl ⟨b,off,cs,ty,fr,pre,vs,post,rfl,q1,q2,q3,T.rel_mono (fun i p e=>by cases e) q4,fun h=>by cases h⟩
   · exact .inl (own H1 rfl)
   · exact .inl (own H2 rfl)
theorem regX_kk (f:RF) {k:Nat} (hk:k<11):regX f (kk k)=f.at k:=by
 obtain ⟨_,h2,h3,_⟩:=okX_kk ⟨k,hk⟩;have h2:oX (kk k)=false:=h2;have h3:(kk k).toNat=k:=h3;unfold regX RF.at
 simp only [h2,h3,cond_false]
theorem regY_kk (f:VV) {k:Nat} (hk:k<11):regY f (kk k)=f.at k:=by
 obtain ⟨_,h2,h3,_⟩:=okX_kk ⟨k,hk⟩;have h2:oX (kk k)=false:=h2;have h3:(kk k).toNat=k:=h3;unfold regY VV.at
 simp only [h2,h3,cond_false]
theorem okH2_true {n:Nat} {D:DF} {r:RW} {v:VW} (h1:1≤n) (hn:n≤10) (h:HoldsR n D r v):okH2 n D r v=true:=by
 unfold okH2;rw [nB h1,nB hn,Nat.beq_refl,dec_true h];rfl
def sm (k:Nat):U:=K (sP k)
theorem sm_next (k:Nat):sm k+K 8=sm (k+1):=by
 unfold sm K sP;rw [← BitVec.ofInt_add];congr 1;omega
theorem sm_facts:∀k:Fin 16,BitVec.slt (sm k.val) (K 0)=true/\isPlc (sm k.val)=true/\isSlot (sm k.val)=true/\slotN (sm k.val)=k.val/\plcN (sm k.val)=8*k.val:=by decide +kernel
theorem set9_9 (s:VF) (v:VW):(set9 s v).regs.at 9=v:=by
 show (s.regs.set 9 v).at 9=v;rw [set_k,if_pos rfl]
theorem set9_10 (s:VF) (v:VW):(set9 s v).regs.at 10=s.regs.at 10:=by
 show (s.regs.set 9 v).at 10=_;rw [set_k,if_neg (by decide)]
theorem put_put {j:Nat} {a b:U} {g:Nat->U}:putN j a (putN j b g)=putN j a g:=by
 funext i;rw [putN_at,putN_at,putN_at];split<;>rfl
theorem put_same {j:Nat} {g:Nat->U}:putN j (g j) g=g:=by
 funext i;rw [putN_at];split
 · rename_i h;rw [h]
 · rfl
theorem set9_set9 (s:VF) (u v:VW):set9 (set9 s u) v=set9 s v:=by
 unfold set9 VV.set;simp only [put_put]
theorem set9_same (s:VF):set9 s (s.regs.at 9)=s:=by
 unfold set9 VV.set VV.at
 simp only [put_same]
theorem setVF9 (s:VF) (v:VW):setVF s (K 9) v=set9 s v:=rfl
section
variable {n:Nat} {D:DF} {f:FSt} {s:VF}
theorem holds19 (h1:1≤n) (hn:n≤10) (hP:HoldsP n D f s) {w:World} {b off c r1 r2:Nat} (hc:n≤c) (ne1:r1≠b) (ne2:r2≠b) (ne12:r1≠r2) (H0:HoldsAt w b off (D.arr n)) (H1:Holds w r1 f.t) (H2:Holds w r2 s.t) :
 Calls Tryz.prog 19 #[.slice (some ⟨b,off,none⟩) n c,.pointer (some ⟨r1,0,none⟩),.pointer (some ⟨r2,0,none⟩)] w fun e w'=>e = .returned (.bool true)/\But r2 w.heap.size w w'/\Holds w' r2 s.t:=by
 have X:=fun T=>XK (ΓH_ok T);let KK:List (Nat×Nat):=[(1,r1),(2,r2)]
 let J:=fun (N:Nat) (ms:List (Nat×Blk)) (l:List (Nat×V)) (a:Act) (w1:World)=>OwnG fp19 N ms w KK [2] l a w1
 have kmem:∀p,p∈KK->p=(1,r1)\/p=(2,r2):=fun p hp=>by simp only [KK,List.mem_cons,List.not_mem_nil,or_false] at hp;exact hp
 have st:J 3 (mH n D f s) (vH n) { tmps := #[.slice (some ⟨b,off,none⟩) n c,.pointer (some ⟨r1,0,none⟩),.pointer (some ⟨r2,0,none⟩)]++Array.replicate (Tryz.f19.ntmps-3) undef,defers:=[] } w:=
  OwnG.enterA (fp:=fp19) (args:=[slD n,pt 1,pt 2]) (vs:=[.slice (some ⟨b,off,none⟩) n c,.pointer (some ⟨r1,0,none⟩),.pointer (some ⟨r2,0,none⟩)]) [2] (mem_hd ne1 ne2 ne12 H0 H1 H2) (fun p hp=>by rcases kmem p hp with rfl|rfl<;>rfl)
   (fun id q base h=>by
     rcases nuH_some h with ⟨rfl,_⟩|⟨rfl,rfl,_⟩|⟨rfl,rfl,_⟩
     · refine .inr fun x hx => ?_;have:=get_memT _ _ _ hx;simp only [mH,List.mem_cons,List.not_mem_nil,or_false,pI] at this;rcases this with ⟨_,rfl⟩|⟨q,_⟩|⟨q,_⟩
       · rfl
       · cases q
       · cases q
     · exact .inl (.head _)
     · exact .inl (.tail _ (.head _)))
   ⟨by
    show (A.sl 0 [] 5 (.lit 0) (.sym n) none).rel _ _;simp only [A.rel];exact ⟨b,off,off,c,rfl,rfl,fun _=>by simp [pathOff,Ix.val],hc,fun _ e=>by cases e⟩,by
    show (A.ptr 1 []).rel _ _;simp only [A.rel];exact ⟨r1,0,rfl,rfl⟩,by
    show (A.ptr 2 []).rel _ _;simp only [A.rel];exact ⟨r2,0,rfl,rfl⟩,trivial⟩ (by show 3≤84;decide)
 have k3:∀p,p∈KK->p.1<3:=fun p hp=>by
  rcases kmem p hp with rfl|rfl
  · show 1<3;decide
  · show 2<3;decide
 have k5:∀p,p∈KK->p.1<5:=fun p hp=>by
  rcases kmem p hp with rfl|rfl
  · show 1<5;decide
  · show 2<5;decide
 have l7:LessA (vHi n 7 (.lit .i64 0)) (vHi n 7 (.i .i64 (kk 0))):=fun ν=>⟨rfl,same_rel,rfl,same_rel,rfl,same_rel,rfl,lit_less rfl,trivial⟩;have l8:LessA (vHi n 8 (.lit .i64 (-128))) (vHi n 8 (.i .i64 (xm 0))):=fun ν=>⟨rfl,same_rel,rfl,same_rel,rfl,same_rel,rfl,lit_less rfl,trivial⟩;have l12:LessA (vHj n (.lit .i64 (-128))) (vHj n (.i .i64 (sm 0))):=fun ν=>⟨rfl,same_rel,rfl,same_rel,rfl,same_rel,rfl,same_rel,rfl,lit_less rfl,trivial⟩;refine calls_phases Tryz.func19 body19 ?_;rw [c19_eq];refine wp_two (OwnG.go (X 0) rfl (h0_ev n D f s) (h0_evw n D f s) rfl rfl rfl k3 (by kernel_rfl) (LessA.refl _) (LessM.refl _) st) fun a w1 hI => ?_
 refine wp_then (K:=fun a w1=>J 3 (mH n D f s) (vH n) a w1) ?_ fun a w1 hI => ?_
 · refine wp_two (OwnG.go (X 0) rfl (h1_ev n D f s) (h1_evw n D f s) rfl rfl rfl k3 (by kernel_rfl) l7 (LessM.refl _) hI) fun a w1 hI => ?_
   refine for_any (fun k a w1=>J 3 (mH n D f s) (vHi n 7 (.i .i64 (kk k))) a w1) 11 ?_ hI;intro k hk a w1 hI;rw [hqL_eq];by_cases hlt:k<11
   · obtain ⟨e1,_,_,e4⟩:=okX_kk ⟨k,hlt⟩;have e1:okXh (kk k)=true:=e1;refine wp_two (OwnG.goB (X 0) rfl ((hh_c n D f s (kk k)).trans (congrArg some e4)) (hh_t n D f s _) (hh_tw n D f s _) rfl rfl rfl k3 (by kernel_rfl) (LessA.refl _) (LessM.refl _) hI) fun a w1 hI => ?_
     refine wp_two (wp_in (OwnG.go (X 0) rfl (hb_ev n D f s (kk k)) (hb_evw n D f s _) (by
      show ((okXh (kk k)&&okXh (kk k))&&okH2 n D (regX f.regs (kk k)) (regY s.regs (kk k)))=true;rw [e1,regX_kk _ hlt,regY_kk _ hlt,okH2_true h1 hn (hP.regs k hlt)];rfl) rfl rfl k3 (by kernel_rfl) (LessA.refl _) (LessM.refl _) hI)) fun a w1 hI => ?_
     refine wp_mono (OwnG.go (X 0) rfl (hi_ev n D f s _) (hi_evw n D f s _) rfl rfl rfl k3 (by kernel_rfl) (LessA.refl _) (LessM.refl _) hI) ?_
     rintro x' a' w' ⟨rfl,hI⟩;refine ⟨hlt,?_⟩;rw [← kk_one];exact hI
   · obtain rfl:k=11:=by omega
     refine wp_seq (wp_mono (OwnG.outB (X 0) rfl ((hh_c n D f s (kk 11)).trans rfl) (hh_f n D f s _) (hh_fw n D f s _) rfl rfl rfl k3 (by kernel_rfl) (LessA.refl _) (LessM.refl _) hI) ?_)
     rintro x' a' w' ⟨rfl,hI⟩;exact hI
 refine wp_then (K:=fun a w1=>J 3 (mH n D f s) (vH n) a w1) ?_ fun a w1 hI => ?_
 · refine wp_two (OwnG.go (X 0) rfl (h6_ev n D f s) (h6_evw n D f s) rfl rfl rfl k3 (by kernel_rfl) l8 (LessM.refl _) hI) fun a w1 hI => ?_
   refine for_any (fun k a w1=>J 3 (mH n D f s) (vHi n 8 (.i .i64 (xm k))) a w1) 128 ?_ hI;intro k hk a w1 hI;rw [hqM_eq];by_cases hlt:k<128
   · refine wp_two (OwnG.goB (X 0) rfl ((hH_c n D f s (xm k)).trans (congrArg some (xm_lt ⟨k,hlt⟩))) (hH_t n D f s _) (hH_tw n D f s _) rfl rfl rfl k3 (by kernel_rfl) (LessA.refl _) (LessM.refl _) hI) fun a w1 hI => ?_
     refine wp_then (K:=fun a w1=>J 3 (mH n D f s) (vHi n 8 (.i .i64 (xm k))) a w1) ?_ fun a w1 hI => ?_
     · by_cases hz:bytesE s.how (atX (xm k)) 1=K 0
       · refine wp_mono (wp_in (OwnG.go (X 1000) rfl (hB_1 n D f s (xm k)) (hB_1w n D f s _) (by
          show (bytesE s.how (atX (xm k)) 1==K 0)=true;rw [hz];rfl) rfl rfl k3 (by kernel_rfl) (LessA.refl _) (LessM.refl _) hI)) ?_
         rintro x' a' w' ⟨rfl,hI⟩;exact hI
       · have hz':(bytesE s.how (atX (xm k)) 1 != K 0)=true:=bne_iff_ne.2 hz;have hr:(readR f.g (xm k) (K 1)==K 0)=false:=by
          cases e:readR f.g (xm k) (K 1)==K 0
          · rfl
          · exact absurd (hP.byt k hlt (eq_of_beq e)) hz
         refine wp_mono (wp_in (OwnG.goB (X 0) rfl ((hB_c0 n D f s (xm k)).trans (by rw [hr];rfl)) (hB_f0 n D f s _) (hB_f0w n D f s _) hz' rfl rfl k3 (by kernel_rfl) (LessA.refl _) (LessM.refl _) hI)) ?_
         rintro x' a' w' ⟨rfl,hI⟩;exact hI
     refine wp_mono (OwnG.go (X 0) rfl (hI_ev n D f s _) (hI_evw n D f s _) rfl rfl rfl k3 (by kernel_rfl) (LessA.refl _) (LessM.refl _) hI) ?_
     rintro x' a' w' ⟨rfl,hI⟩;refine ⟨hlt,?_⟩;rw [← xm_one];exact hI
   · obtain rfl:k=128:=by omega
     refine wp_seq (wp_mono (OwnG.outB (X 0) rfl ((hH_c n D f s (xm 128)).trans rfl) (hH_f n D f s _) (hH_fw n D f s _) rfl rfl rfl k3 (by kernel_rfl) (LessA.refl _) (LessM.refl _) hI) ?_)
     rintro x' a' w' ⟨rfl,hI⟩;exact hI
 refine wp_two (OwnG.go (X 0) rfl (h12_ev n D f s) (h12_evw n D f s) rfl rfl rfl k5 (by kernel_rfl) (LessA.refl _) (LessM.refl _) hI) fun a w1 hI => ?_
 refine wp_then (K:=fun a w1=>∃v,J 5 (mH3 n D f (set9 s v) (s.regs.at 9)) (vHw n) a w1) ?_ fun a w1 hI => ?_
 · refine wp_two (OwnG.go (X 0) rfl (h13_ev n D f s _) (h13_evw n D f s _) rfl rfl rfl k5 (by kernel_rfl) l12 (LessM.refl _) hI) fun a w1 hI => ?_
   refine for_any (fun k a w1=>∃v,J 5 (mH3 n D f (set9 s v) (s.regs.at 9)) (vHj n (.i .i64 (sm k))) a w1) 16 ?_ ⟨s.regs.at 9,by rw [set9_same];exact hI⟩
   rintro k hk a w1 ⟨v,hI⟩;rw [hqN_eq];by_cases hlt:k<16
   · obtain ⟨e1,e2,e3,e4,e5⟩:=sm_facts ⟨k,hlt⟩;have e2:isPlc (sm k)=true:=e2;have e3:isSlot (sm k)=true:=e3;have e4:slotN (sm k)=k:=e4;have e5:plcN (sm k)=8*k:=e5;refine wp_two (OwnG.goB (X 0) rfl ((hF_c n D f _ _ (sm k)).trans (congrArg some e1)) (hF_t n D f _ _ _) (hF_tw n D f _ _ _) rfl rfl rfl k5 (by kernel_rfl) (LessA.refl _) (LessM.refl _) hI) fun a w1 hI => ?_
     refine wp_then (K:=fun a w1=>∃v,J 5 (mH3 n D f (set9 s v) (s.regs.at 9)) (vHj n (.i .i64 (sm k))) a w1) ?_ fun a w1 hI => ?_
     · by_cases hz:ldxE f (8*k)=K 0
       · obtain ⟨q1,q2⟩:=hP.slot k hlt hz;have q1':ldA (set9 s v) k=true:=q1;have q3:okLd (set9 s v) k=true:=by
          have r:r10B ((set9 s v).regs.at 10)=true:=by rw [set9_10];exact hP.r10
          have hb:Nat.ble (8*k+8) 128=true:=nB (by omega)
          unfold okLd;rw [r,hb,q1'];show cond (ldP (set9 s v) k) true (true&&true)=true;cases ldP (set9 s v) k<;>rfl
         refine wp_mono (OwnG.goB (X 0) rfl ((hG_c n D f _ _ (sm k)).trans (by rw [e5,hz];rfl)) (hG_f n D f _ _ (sm k)) (hG_fw n D f _ _ _) (by
          show ((isPlc (sm k)&&(isSlot (sm k)&&(ldA (set9 s v) (slotN (sm k))&&okLd (set9 s v) (slotN (sm k)))))&&okH2 n D (ldxW f (plcN (sm k))) ((set9 (set9 s v) (ldV (set9 s v) (slotN (sm k)))).regs.at 9))=true;rw [e2,e3,e4,e5,q1',q3,set9_9,show ldV (set9 s v) k=ldV s k from rfl,okH2_true h1 hn q2];rfl) rfl rfl k5 (by kernel_rfl) (LessA.refl _) (LessM.refl _) hI) ?_
         rintro x' a' w' ⟨rfl,hI⟩;exact ⟨ldV (set9 s v) (slotN (sm k)),by rw [← set9_set9 s v];exact hI⟩
       · refine wp_mono (OwnG.goB (X 0) rfl ((hG_c n D f _ _ (sm k)).trans (by rw [e5,bne_iff_ne.2 hz])) (hG_t n D f _ _ (sm k)) (hG_tw n D f _ _ _) e2 rfl rfl k5 (by kernel_rfl) (LessA.refl _) (LessM.refl _) hI) ?_
         rintro x' a' w' ⟨rfl,hI⟩;exact ⟨v,hI⟩
     obtain ⟨v,hI⟩:=hI;refine wp_mono (OwnG.go (X 0) rfl (hJ_ev n D f _ _ _) (hJ_evw n D f _ _ _) rfl rfl rfl k5 (by kernel_rfl) (LessA.refl _) (LessM.refl _) hI) ?_
     rintro x' a' w' ⟨rfl,hI⟩;refine ⟨hlt,v,?_⟩;rw [← sm_next];exact hI
   · obtain rfl:k=16:=by omega
     refine wp_seq (wp_mono (OwnG.outB (X 0) rfl ((hF_c n D f _ _ (sm 16)).trans rfl) (hF_f n D f _ _ _) (hF_fw n D f _ _ _) rfl rfl rfl k5 (by kernel_rfl) (LessA.refl _) (LessM.refl _) hI) ?_)
     rintro x' a' w' ⟨rfl,hI⟩;exact ⟨v,hI⟩
 obtain ⟨v,hI⟩:=hI;refine wp_two (OwnG.go (X 0) rfl (h21_ev n D f (set9 s v) (s.regs.at 9)) (h21_evw n D f _ _) rfl rfl rfl k3 (by kernel_rfl) (LessA.refl _) (LessM.refl _) hI) fun a w1 hI => ?_
 rw [setVF9,set9_set9,set9_same] at hI;refine OwnG.retP (X 0) rfl rfl (h22_evw n D f s) (h22_ev n D f s) rfl rfl (by kernel_rfl) hI fun ν u w' hu hb hh => ?_
 have hu:A.tt.rel ν u:=hu;simp only [A.rel] at hu;subst hu;refine ⟨rfl,hb.but (id0:=2) (fun id h=>by simpa using h) (fun r h => ?_),hh 2 r2 s.t (.tail _ (.head _)) (by kernel_rfl) rfl rfl⟩
 rcases kmem _ h with q|q
 · cases q
 · cases q;rfl
end
def okHd (n:Nat) (D:DF) (o:Bool) (f:FSt) (s:VF):Bool:=(Nat.ble 1 n&&Nat.ble n 10)&&(o&&dec (HoldsP n D f s))
def holdSp:List V->H->Option R
 | [.t (.a la),.t (.a (.ptr i [])),.t (.a (.ptr j []))],h=>match dfOf h la,stateOf h i,vfOf h j,Nat.beq i j with
   | some (id,n,D,o),some f,some s,false=>match Nat.beq id i||Nat.beq id j with
     | false=>some (.leaf (.b (okHd n D o f s)) (one .tt) ((h.sees [id,i,j]).put j ⟨true,s.t⟩))
     | true=>none
   | _,_,_,_=>none
 | _,_=>none
theorem holdSp_inv {args:List V} {h:H} {r:R} (e:holdSp args h=some r):∃la i j id n D o f s,args=[.t (.a la),.t (.a (.ptr i [])),.t (.a (.ptr j []))]/\dfOf h la=some (id,n,D,o)/\stateOf h i=some f/\vfOf h j=some s/\i≠j/\i≠id/\j≠id/\r = .leaf (.b (okHd n D o f s)) (one .tt) ((h.sees [id,i,j]).put j ⟨true,s.t⟩):=by
 unfold holdSp at e;split at e
 · split at e
   · rename_i h1 h2 h3 h4;split at e
     · rename_i h5;cases e;rw [Bool.or_eq_false_iff] at h5;refine ⟨_,_,_,_,_,_,_,_,_,rfl,h1,h2,h3,?_,?_,?_,rfl⟩
       · rintro rfl;rw [Nat.beq_refl] at h4;cases h4
       · rintro rfl;rw [Nat.beq_refl] at h5;cases h5.1
       · rintro rfl;rw [Nat.beq_refl] at h5;cases h5.2
     · cases e
   · cases e
 · cases e
theorem hold19_ok:AnyOK Tryz.prog 19 holdSp where
 ent:=enters_of entK 19 _ Tryz.func19 (by simp [Tryz.f19])
 ok:=by
  intro args h r ok v h' he hp hok;obtain ⟨la,i,j,id,n,D,o,f,s,rfl,h1,h2,h3,n1,n2,n3,rfl⟩:=holdSp_inv he;simp only [R.pick,oI,pI] at hp;obtain ⟨rfl,rfl,rfl⟩:=hp;have hok:((Nat.ble 1 n&&Nat.ble n 10)&&(o&&dec (HoldsP n D f s)))=true:=hok;simp only [bA] at hok;obtain ⟨⟨a1,a2⟩,ho,hd⟩:=hok;have a1:=nL a1;have a2:=nL a2;refine fn_turnG (vfOf_some h3) [id,i,j] fun S ν w us hm hS hus => ?_
  match us,hus with
  | [u0,u1,u2],⟨q0,q1,q2,_⟩=>
    obtain ⟨B,off,c,hH,rfl,hc,eB⟩:=df_here hm h1 ho (hS id (.head _)) (by omega) q0
    obtain ⟨r1,e1,hh1,rfl⟩:=ptr_here hm (stateOf_some h2) (hS i (.tail _ (.head _))) rfl rfl q1;obtain ⟨r2,e2,hh2,rfl⟩:=ptr_here hm (vfOf_some h3) (hS j (.tail _ (.tail _ (.head _)))) rfl rfl q2;have m1:r1≠B:=by rintro rfl;exact n2 (hm.nums.inj i _ (stateOf_some h2) rfl id r1 0 off e1 eB).symm
    have m2:r2≠B:=by rintro rfl;exact n3 (hm.nums.inj j _ (vfOf_some h3) rfl id r2 0 off e2 eB).symm
    have m3:r1≠r2:=by rintro rfl;exact n1 (hm.nums.inj i _ (stateOf_some h2) rfl j r1 0 0 e1 e2).symm
    refine ⟨r2,e2,(holds19 a1 a2 (of_dec hd) hc m1 m2 m3 hH hh1 hh2).mono ?_⟩;rintro e w' ⟨rfl,hb,hh⟩;refine ⟨_,rfl,?_,hb,hh⟩;show A.tt.rel ν _;simp only [A.rel]
 pan:=by intro args h r ok v h' he hp hok;obtain ⟨la,i,j,id,n,D,o,f,s,rfl,h1,h2,h3,n1,n2,n3,rfl⟩:=holdSp_inv he;simp [R.pickP] at hp
 ext:=by intro args h r he hlo;obtain ⟨la,i,j,id,n,D,o,f,s,rfl,h1,h2,h3,n1,n2,n3,rfl⟩:=holdSp_inv he;exact (sees_ext _ h).trans (put_ext (h:=h.sees _) (by rw [sees_m];exact vfOf_some h3) rfl rfl)
structure KnI (n:Nat) (D:DF) (f:FSt) (s:VF):Prop where
 regs:∀i,i<11->HoldsR n D (f.regs.at i) (s.regs.at i)
 g3:∀b,f.g b=K 0\/f.g b=K 1\/f.g b=K 2
 one:∀b,f.g b=K 1->s.ptr.k (b / 8)=K 0/\s.ld (b / 8) (b % 8)=true
 pt:∀k,f.kept.k k≠K 0->f.kept.k k≠K 1->s.ptr.k k≠K 0/\HoldsR n D (f.kept.at k) (s.ptr.at k)
 num:∀k,f.kept.k k=K 1->(∀b,b / 8=k->f.g b=K 1)/\HoldsR n D (f.kept.at k) (lnV s k)
 r10:r10B (s.regs.at 10)=true
section
variable {n:Nat} {D:DF} {f:FSt} {s:VF}
theorem how_one (h:KnI n D f s) {b:Nat} (hb:f.g b=K 1):s.how b=K 1:=by
 obtain ⟨h1,h2⟩:=h.one b hb;unfold VF.how;rw [if_neg (fun e=>e h1),if_pos h2]
theorem code_zero {v:U} (h3:v=K 0\/v=K 1\/v=K 2) (h:codeU v=K 0):v=K 1:=by
 rcases h3 with rfl|rfl|rfl
 · exact absurd h (by decide)
 · rfl
 · exact absurd h (by decide)
theorem readN_all {g:Nat->U} {b:Nat}:∀m,readN g b m=K 0->∀j,j<m->codeU (g (b+j))=K 0
 | 0,_,j,hj=>absurd hj (Nat.not_lt_zero _)
 | m+1,h,j,hj=>by
   have e:readN g b (m+1)=cond (readN g b m==K 0) (codeU (g (b+m))) (readN g b m):=rfl;rw [e] at h;cases h0:readN g b m==K 0
   · rw [h0,cond_false] at h;rw [h] at h0;exact absurd h0 (by decide)
   · rw [h0,cond_true] at h;by_cases hjm:j=m
     · subst hjm;exact h
     · exact readN_all m (eq_of_beq h0) j (by omega)
theorem readN_ok {g:Nat->U} {b:Nat}:∀m,(∀j,j<m->codeU (g (b+j))=K 0)->readN g b m=K 0
 | 0,_=>rfl
 | m+1,h=>by
   have e:readN g b (m+1)=cond (readN g b m==K 0) (codeU (g (b+m))) (readN g b m):=rfl;rw [e,readN_ok m fun j hj=>h j (by omega),show (K 0==K 0:Bool)=true from rfl,cond_true]
   exact h m (by omega)
theorem bytes_there (h:KnI n D f s) {b m:Nat} (hr:readN f.g b m=K 0):readN s.how b m=K 0:=by
 refine readN_ok m fun j hj => ?_;rw [how_one h (code_zero (h.g3 _) (readN_all m hr j hj))];rfl
theorem xm_facts:∀b:Fin 128,thereB (xm b.val) (K 1)=true/\posN (xm b.val)=b.val/\inB (xm b.val) 1=true/\posW (xm b.val)=b.val:=by decide +kernel
theorem sP_facts:∀k:Fin 16,thereB (K (sP k.val)) (K 8)=true/\posN (K (sP k.val))=8*k.val/\(K 8).toNat=8:=by decide +kernel
theorem KnI.holds (h:KnI n D f s):HoldsP n D f s where
 regs:=h.regs
 r10:=h.r10
 byt:=fun b hb hr=>by
  obtain ⟨e1,e2,e3,e4⟩:=xm_facts ⟨b,hb⟩;have e1:thereB (xm b) (K 1)=true:=e1;have e2:posN (xm b)=b:=e2;have e3:inB (xm b) 1=true:=e3;have e4:posW (xm b)=b:=e4;unfold readR at hr;rw [e1,cond_true,e2] at hr;have hs:stackE (atX (xm b)) 1=K 0:=by unfold stackE;show cond (K 3==K 0) (K 15) (cond (K 3==K 3) (cond (inB (xm b) 1) (K 0) (K 17)) (K 14))=K 0;rw [e3];rfl
  unfold bytesE;rw [hs];show readN s.how (posW (xm b)) 1=K 0;rw [e4];exact bytes_there h hr
 slot:=fun k hk he=>by
  obtain ⟨e1,e2,e3⟩:=sP_facts ⟨k,hk⟩;have e1:thereB (K (sP k)) (K 8)=true:=e1;have e2:posN (K (sP k))=8*k:=e2;have ew:ldxW f (8*k)=ldW f k:=by
   unfold ldxW;rw [show 8*k % 8=0 by omega,show 8*k / 8=k by omega]
   rfl
  have ee:ldxE f (8*k)=ldE f k:=by
   unfold ldxE;rw [show 8*k % 8=0 by omega,show 8*k / 8=k by omega]
   rfl
  have er:ldR f k=readN f.g (8*k) 8:=by unfold ldR readR;rw [e1,cond_true,e2];rfl
  rw [ee] at he;rw [ew];have onum:readN f.g (8*k) 8=K 0->ldP s k=false/\ldN s k=K 0:=fun hr=>by
   refine ⟨?_,bytes_there h hr⟩;have:=(h.one (8*k) (code_zero (h.g3 _) (by simpa using readN_all 8 hr 0 (by decide)))).1
   unfold ldP;rw [show 8*k / 8=k by omega] at this
   rw [this];rfl
  have wkept:f.kept.k k≠K 0->ldW f k=f.kept.at k:=fun hz=>by
   have hc:ldC f k=true:=bne_iff_ne.2 hz;unfold ldW RF.at
   simp only [hc,cond_true]
  by_cases hz:f.kept.k k=K 0
  · have hc:ldC f k=false:=by unfold ldC;rw [hz];rfl
    unfold ldE at he;rw [hc,cond_false] at he;have hr:readN f.g (8*k) 8=K 0:=by
     cases hzz:ldZ f k
     · unfold ldZ at hzz;rw [er] at hzz;simpa using hzz
     · rw [hzz,cond_true,er] at he;exact he
    have hzz:ldZ f k=false:=by unfold ldZ;rw [er,hr];rfl
    obtain ⟨p1,p2⟩:=onum hr;refine ⟨by unfold ldA;rw [p1,p2];rfl,?_⟩
    unfold ldV;rw [p1,cond_false];refine .inr (.inl ⟨?_,rfl,?_⟩)
    · unfold ldW;rw [hc,hzz];rfl
    · have q:=int_of (getW (byF s.flat (8*k)) 0);have q3:=BitVec.msb_eq_decide (getW (byF s.flat (8*k)) 0);show InP (ldW f k) (getW (byF s.flat (8*k)) 0);have hlt:=(getW (byF s.flat (8*k)) 0).isLt;generalize getW (byF s.flat (8*k)) 0=x at q q3 hlt;unfold InP ldW;simp only [hc,hzz,cond_false];have i1:(K (-9223372036854775808)).toInt = -9223372036854775808:=rfl;have i2:(K 9223372036854775807).toInt=9223372036854775807:=rfl;have i3:(K 18446744073709551615).toNat=18446744073709551615:=rfl;have i4:(K 0).toNat=0:=rfl;refine ⟨?_,decide_eq_true (by rw [i4];omega),decide_eq_true (by rw [i3];omega),decide_eq_true ?_,decide_eq_true ?_⟩
      · have : ~~~(K 18446744073709551615)=0#64:=by decide
        rw [this];exact BitVec.and_zero
      · rw [i1];split at q<;>rename_i h4
        · rw [q3,decide_eq_true_eq] at h4;omega
        · omega
      · rw [i2];split at q<;>rename_i h4
        · omega
        · rw [q3,decide_eq_true_eq] at h4;omega
  · rw [wkept hz];by_cases h1:f.kept.k k=K 1
    · obtain ⟨n1,n2⟩:=h.num k h1;have hr:readN f.g (8*k) 8=K 0:=readN_ok 8 fun j hj=>by
       rw [n1 (8*k+j) (by omega)];rfl
      obtain ⟨p1,p2⟩:=onum hr;refine ⟨by unfold ldA;rw [p1,p2];rfl,?_⟩
      unfold ldV;rw [p1,cond_false];exact n2
    · obtain ⟨p1,p2⟩:=h.pt k hz h1;have hp:ldP s k=true:=bne_iff_ne.2 p1;refine ⟨by unfold ldA;rw [hp];rfl,?_⟩
      unfold ldV;rw [hp,cond_true];exact p2
end
theorem RF.setR_at (f:RF) (k i:Nat) (r:RW):(f.setR k r).at i=if i=k then r else f.at i:=by
 unfold RF.setR RF.at
 simp only [putN_at];split<;>rfl
section
variable {n:Nat} {D:DF} {f:FSt} {s:VF}
theorem kni_set (h:KnI n D f s) {r:RW} {v:VW} (hr:HoldsR n D r v) (x:U):KnI n D (setFS f x r) (setVF s x v):=by
 have hregs:∀i,i<11->HoldsR n D ((setFS f x r).regs.at i) ((setVF s x v).regs.at i):=fun i hi=>by
  show HoldsR n D ((RF.bif (outV x) f.regs (f.regs.setR x.toNat r)).at i) ((setR s.regs x v).at i);unfold setR;cases ho:outV x
  · show HoldsR n D ((f.regs.setR x.toNat r).at i) ((s.regs.set x.toNat v).at i);rw [RF.setR_at,set_k];split
    · exact hr
    · exact h.regs i hi
  · exact h.regs i hi
 refine ⟨hregs,h.g3,h.one,h.pt,h.num,?_⟩;show r10B ((setR s.regs x v).at 10)=true;rw [setR_at10];exact h.r10
theorem layB_k (f:FSt) (b j:Nat):(layB f b).kept.at j=if j=b / 8 then (if f.kept.k (b / 8)=K 0 then f.kept.at j else zRW) else f.kept.at j:=by
 unfold layB RF.map2 RF.at
 simp only [beq_eq_decide];by_cases e:j=b / 8
 · rw [if_pos e];by_cases hz:f.kept.k (b / 8)=K 0
   · rw [if_pos hz];have:(f.kept.k (b / 8) != K 0)=false:=by rw [hz];rfl
     simp only [this,Bool.false_and,cond_false]
   · rw [if_neg hz];have:(f.kept.k (b / 8) != K 0)=true:=bne_iff_ne.2 hz;simp only [this,Bool.true_and,decide_eq_true e,cond_true];rfl
 · rw [if_neg e];simp only [decide_eq_false e,Bool.and_false,cond_false]
theorem layB_g (f:FSt) (b j:Nat):(layB f b).g j=if j=b then K 1 else if f.kept.k (b / 8)≠K 0/\f.g b=K 2/\j / 8=b / 8 then K 0 else f.g j:=by
 unfold layB;simp only [beq_eq_decide];by_cases e:j=b
 · rw [if_pos e,decide_eq_true e,cond_true]
 · rw [if_neg e,decide_eq_false e,cond_false];by_cases h1:f.kept.k (b / 8)=K 0
   · rw [if_neg (fun h=>h.1 h1)];have:(f.kept.k (b / 8) != K 0)=false:=by rw [h1];rfl
     rw [this];rfl
   · have t1:(f.kept.k (b / 8) != K 0)=true:=bne_iff_ne.2 h1;rw [t1,Bool.true_and];by_cases h2:f.g b=K 2
     · have t2:(f.g b==K 2)=true:=by rw [h2];rfl
       rw [t2,Bool.true_and];by_cases h3:j / 8=b / 8
       · rw [if_pos ⟨h1,h2,h3⟩,decide_eq_true h3,cond_true]
       · rw [if_neg (fun h=>h3 h.2.2),decide_eq_false h3,cond_false]
     · have t2:(f.g b==K 2)=false:=by simpa using h2
       rw [if_neg (fun h=>h2 h.2.1),t2];rfl
theorem layVB_k (s:VF) (b:Nat) (v:U) (j:Nat):(layVB s b v).ptr.k j=if j=b / 8 then K 0 else s.ptr.k j:=by
 unfold layVB VV.map2;simp only [beq_eq_decide];by_cases e:j=b / 8
 · subst e;rw [if_pos rfl,decide_eq_true rfl,cond_true];by_cases h1:s.ptr.k (b / 8)=K 0
   · rw [h1];rfl
   · have:(s.ptr.k (b / 8) != K 0)=true:=bne_iff_ne.2 h1;rw [this];rfl
 · rw [if_neg e,decide_eq_false e,cond_false]
theorem layVB_at (s:VF) (b:Nat) (v:U) {j:Nat} (e:j≠b / 8):(layVB s b v).ptr.at j=s.ptr.at j:=by
 unfold layVB VV.map2 VV.at
 simp only [beq_eq_decide,decide_eq_false e,cond_false]
theorem layVB_ld (s:VF) (b:Nat) (v:U) (i j:Nat):(layVB s b v).ld i j=if i=b / 8 then (if j=b % 8 then true else if s.ptr.k (b / 8)=K 0 then s.ld i j else false) else s.ld i j:=by
 unfold layVB;simp only [beq_eq_decide];by_cases e:i=b / 8
 · rw [if_pos e,decide_eq_true e,cond_true];by_cases e2:j=b % 8
   · rw [if_pos e2,decide_eq_true e2,cond_true]
   · rw [if_neg e2,decide_eq_false e2,cond_false];by_cases h1:s.ptr.k (b / 8)=K 0
     · rw [if_pos h1,h1];rfl
     · have:(s.ptr.k (b / 8) != K 0)=true:=bne_iff_ne.2 h1;rw [if_neg h1,this];rfl
 · rw [if_neg e,decide_eq_false e,cond_false]
theorem layVB_by (s:VF) (b:Nat) (v:U) (i j:Nat):(layVB s b v).by_ i j=if i=b / 8 then (if j=b % 8 then v else if s.ptr.k (b / 8)=K 0 then s.by_ i j else K 0) else s.by_ i j:=by
 unfold layVB;simp only [beq_eq_decide];by_cases e:i=b / 8
 · rw [if_pos e,decide_eq_true e,cond_true];by_cases e2:j=b % 8
   · rw [if_pos e2,decide_eq_true e2,cond_true]
   · rw [if_neg e2,decide_eq_false e2,cond_false];by_cases h1:s.ptr.k (b / 8)=K 0
     · rw [if_pos h1,h1];rfl
     · have:(s.ptr.k (b / 8) != K 0)=true:=bne_iff_ne.2 h1;rw [if_neg h1,this];rfl
 · rw [if_neg e,decide_eq_false e,cond_false]
theorem lnV_eq {s s':VF} {k:Nat} (h:∀j,j<8->s'.by_ k j=s.by_ k j):lnV s' k=lnV s k:=by
 have e:∀j,j<8->byU (byF s'.flat (8*k)) (0+j)=byU (byF s.flat (8*k)) (0+j):=fun j hj=>by unfold byU byF VF.flat;rw [show (8*k+(0+j)) / 8=k by omega,show (8*k+(0+j)) % 8=j by omega,h j hj]
 unfold lnV getW;have e0:=e 0 (by decide)
 rw [Nat.add_zero] at e0;rw [e0,e 1 (by decide),e 2 (by decide),e 3 (by decide),e 4 (by decide),e 5 (by decide),e 6 (by decide),e 7 (by decide)]
theorem kni_byte (h:KnI n D f s) (b:Nat) (v:U):KnI n D (layB f b) (layVB s b v):=by
 have hk:∀j,(layB f b).kept.k j≠K 0->j≠b / 8/\(layB f b).kept.at j=f.kept.at j:=fun j hj=>by
  have hat:=layB_k f b j;by_cases e:j=b / 8
  · exfalso;rw [if_pos e] at hat;have hkk:(layB f b).kept.k j=((layB f b).kept.at j).k:=rfl;rw [hkk,hat] at hj;split at hj
    · rename_i hz;rw [e] at hj;exact hj hz
    · exact hj rfl
  · rw [if_neg e] at hat;exact ⟨e,hat⟩
 refine ⟨h.regs,fun j => ?_,fun j hj => ?_,fun j h0 h1 => ?_,fun j h1 => ?_,h.r10⟩
 · rw [layB_g];split
   · exact .inr (.inl rfl)
   · split
     · exact .inl rfl
     · exact h.g3 j
 · rw [layB_g] at hj;rw [layVB_k,layVB_ld];by_cases e:j=b
   · subst e;rw [if_pos rfl,if_pos rfl,if_pos rfl];exact ⟨rfl,rfl⟩
   · rw [if_neg e] at hj;split at hj
     · exact absurd hj (by decide)
     · rename_i hn;obtain ⟨q1,q2⟩:=h.one j hj;by_cases e8:j / 8=b / 8
       · rw [if_pos e8,if_pos e8,if_neg (by omega:¬j % 8=b % 8),← e8,if_pos q1]
         exact ⟨rfl,q2⟩
       · rw [if_neg e8,if_neg e8];exact ⟨q1,q2⟩
 · obtain ⟨e,hat⟩:=hk j h0;have ek:(layB f b).kept.k j=f.kept.k j:=congrArg RW.k hat;rw [ek] at h0 h1;rw [layVB_k,if_neg e,layVB_at s b v e,hat];exact h.pt j h0 h1
 · have h0:(layB f b).kept.k j≠K 0:=by rw [h1];decide
   obtain ⟨e,hat⟩:=hk j h0;have ek:(layB f b).kept.k j=f.kept.k j:=congrArg RW.k hat;rw [ek] at h1;obtain ⟨q1,q2⟩:=h.num j h1;refine ⟨fun i hi => ?_,?_⟩
   · rw [layB_g,if_neg (by rintro rfl;exact e hi.symm),if_neg (fun hc=>e (hi.symm.trans hc.2.2))]
     exact q1 i hi
   · rw [hat,lnV_eq (s:=s) fun i hi=>by rw [layVB_by,if_neg e]]
     exact q2
theorem kni_bytes (h:KnI n D f s) (b:Nat) (c:Nat->U):∀m,KnI n D (layN f b m) (layVN s b c m)
 | 0=>h
 | m+1=>kni_byte (kni_bytes h b c m) (b+m) (c m)
theorem layVN_facts (s:VF) (k:Nat) (c:Nat->U):∀m,m≤8->(layVN s (8*k) c m).regs=s.regs/\(∀j,j≠k->(layVN s (8*k) c m).ptr.at j=s.ptr.at j/\(∀i,(layVN s (8*k) c m).ld j i=s.ld j i)/\∀i,(layVN s (8*k) c m).by_ j i=s.by_ j i) /\
 (0<m->(layVN s (8*k) c m).ptr.k k=K 0)/\∀i,i<m->(layVN s (8*k) c m).ld k i=true/\(layVN s (8*k) c m).by_ k i=c i
 | 0,_=>⟨rfl,fun j hj=>⟨rfl,fun i=>rfl,fun i=>rfl⟩,fun h=>absurd h (Nat.lt_irrefl _),fun i hi=>absurd hi (Nat.not_lt_zero _)⟩
 | m+1,hm=>by
   obtain ⟨a1,a2,a3,a4⟩:=layVN_facts s k c m (by omega)
   have e8:(8*k+m) / 8=k:=by omega
   have em:(8*k+m) % 8=m:=by omega
   have ex:layVN s (8*k) c (m+1)=layVB (layVN s (8*k) c m) (8*k+m) (c m):=rfl;rw [ex];refine ⟨a1,fun j hj => ?_,fun _ => ?_,fun i hi => ?_⟩
   · obtain ⟨b1,b2,b3⟩:=a2 j hj;refine ⟨(layVB_at _ _ _ (by rw [e8];exact hj)).trans b1,fun i => ?_,fun i => ?_⟩
     · rw [layVB_ld,e8,if_neg hj];exact b2 i
     · rw [layVB_by,e8,if_neg hj];exact b3 i
   · rw [layVB_k,e8,if_pos rfl]
   · rw [layVB_ld,layVB_by,e8,em,if_pos rfl,if_pos rfl];by_cases him:i=m
     · rw [if_pos him,if_pos him,him];exact ⟨rfl,rfl⟩
     · have hp:=a3 (by omega)
       rw [if_neg him,if_neg him,if_pos hp,if_pos hp];exact a4 i (by omega)
theorem stoK_g (f:FSt) (k:Nat) (r:RW) (j:Nat):(stoK f k r).g j=if j / 8=k then whatR r else f.g j:=put8_at
theorem stoK_at (f:FSt) (k:Nat) (r:RW) (j:Nat):(stoK f k r).kept.at j=if j=k then r else f.kept.at j:=RF.setR_at _ _ _ _
end
theorem nrm8 (y:U):(nrm .u8 y).toNat=y.toNat % 256:=by
 have e:nrm .u8 y=(y.setWidth 8).setWidth 64:=rfl;have:=y.isLt;rw [e,BitVec.toNat_setWidth,BitVec.toNat_setWidth];omega
theorem b8_nat (x:U) (j:Nat) (hj:j<8):(nrm .u8 (b8 x j)).toNat=x.toNat / 2 ^ (8*j) % 256:=by
 rw [nrm8];have key:∀k:Nat,(x>>>k).toNat=x.toNat / 2 ^ k:=fun k=>by rw [BitVec.toNat_ushiftRight,Nat.shiftRight_eq_div_pow]
 have hc:j=0\/j=1\/j=2\/j=3\/j=4\/j=5\/j=6\/j=7:=by omega
 rcases hc with rfl|rfl|rfl|rfl|rfl|rfl|rfl|rfl<;>exact congrArg (· % 256) (key _)
theorem get_b8 (x:U) {G:Nat->U} (h:∀j,j<8->byU G (0+j)=nrm .u8 (b8 x j)):getW G 0=x:=by
 have n:∀j,j<8->(byU G (0+j)).toNat=x.toNat / 2 ^ (8*j) % 256:=fun j hj=>by rw [h j hj];exact b8_nat x j hj
 have n0:=n 0 (by decide)
 have n1:=n 1 (by decide)
 have n2:=n 2 (by decide)
 have n3:=n 3 (by decide)
 have n4:=n 4 (by decide)
 have n5:=n 5 (by decide)
 have n6:=n 6 (by decide)
 have n7:=n 7 (by decide)
 rw [Nat.add_zero] at n0;rw [get_eq];apply BitVec.eq_of_toNat_eq;unfold getQ;generalize byU G 0=y0 at *;generalize byU G (0+1)=y1 at *;generalize byU G (0+2)=y2 at *;generalize byU G (0+3)=y3 at *;generalize byU G (0+4)=y4 at *;generalize byU G (0+5)=y5 at *;generalize byU G (0+6)=y6 at *;generalize byU G (0+7)=y7 at *;have e0:(K 0).toNat=0:=rfl;have e8:(K 256).toNat=256:=rfl;have hx:=x.isLt;simp only [BitVec.toNat_add,BitVec.toNat_mul,e0,e8];generalize x.toNat=z at *;clear h n;omega
section
variable {n:Nat} {D:DF} {f:FSt} {s:VF}
theorem kni_sto (h:KnI n D f s) (k:Nat) {r:RW} {v:VW} (hr:HoldsR n D r v) (hrk:r.k=v.k) (hv:v.k≠K 0):KnI n D (stoK f k r) (stoVR s k v):=by
 unfold stoVR;rw [isPt_eq];have hkk:∀j,(stoK f k r).kept.k j=if j=k then r.k else f.kept.k j:=fun j=>by
  have:=congrArg RW.k (stoK_at f k r j);rw [show ((stoK f k r).kept.at j).k=(stoK f k r).kept.k j from rfl] at this
  rw [this];split<;>rfl
 cases e:v.k != K 1
 · have ev:v.k=K 1:=by simpa using e
   have er:r.k=K 1:=hrk.trans ev;have ew:whatR r=K 1:=by unfold whatR;rw [er];rfl
   show KnI n D (stoK f k r) (layVN s (8*k) (b8 v.n) 8);obtain ⟨a1,a2,a3,a4⟩:=layVN_facts s k (b8 v.n) 8 (Nat.le_refl _);refine ⟨fun i hi => ?_,fun j => ?_,fun j hj => ?_,fun j h0 h1 => ?_,fun j h1 => ?_,?_⟩
   · rw [a1];exact h.regs i hi
   · rw [stoK_g,ew];split
     · exact .inr (.inl rfl)
     · exact h.g3 j
   · rw [stoK_g] at hj;by_cases e8:j / 8=k
     · rw [e8];exact ⟨a3 (by decide),(a4 (j % 8) (by omega)).1⟩
     · rw [if_neg e8] at hj;obtain ⟨q1,q2⟩:=h.one j hj;obtain ⟨b1,b2,_⟩:=a2 _ e8;have b1k:(layVN s (8*k) (b8 v.n) 8).ptr.k (j / 8)=s.ptr.k (j / 8):=congrArg VW.k b1;rw [b1k,b2];exact ⟨q1,q2⟩
   · rw [hkk] at h0 h1;by_cases e8:j=k
     · rw [if_pos e8] at h1;exact absurd er h1
     · rw [if_neg e8] at h0 h1;obtain ⟨b1,_,_⟩:=a2 _ e8;have b1k:(layVN s (8*k) (b8 v.n) 8).ptr.k j=s.ptr.k j:=congrArg VW.k b1;rw [stoK_at,if_neg e8,b1,b1k];exact h.pt j h0 h1
   · rw [hkk] at h1;by_cases e8:j=k
     · refine ⟨fun b hb=>by rw [stoK_g,if_pos (hb.trans e8),ew],?_⟩
       rw [stoK_at,if_pos e8,e8];have hl:lnV (layVN s (8*k) (b8 v.n) 8) k=⟨K 1,v.n,K 0,K 0⟩:=by
        unfold lnV;rw [get_b8 v.n fun i hi=>by unfold byU byF VF.flat;rw [show (8*k+(0+i)) / 8=k by omega,show (8*k+(0+i)) % 8=i by omega,(a4 i hi).2]]
       rw [hl];rcases hr with q|⟨q,q2,q3⟩|⟨q,_⟩|⟨q,_⟩|⟨q,_⟩|⟨q,_⟩|⟨q,_⟩
       · rw [er] at q;exact absurd q (by decide)
       · exact .inr (.inl ⟨q,rfl,q3⟩)
       all_goals (rw [er] at q;exact absurd q (by decide))
     · rw [if_neg e8] at h1;obtain ⟨q1,q2⟩:=h.num j h1;obtain ⟨_,_,b3⟩:=a2 _ e8;refine ⟨fun b hb=>by rw [stoK_g,if_neg (fun h=>e8 (hb.symm.trans h))];exact q1 b hb,?_⟩
       rw [stoK_at,if_neg e8,lnV_eq (s:=s) fun i hi=>b3 i];exact q2
   · rw [a1];exact h.r10
 · have ev:v.k≠K 1:=bne_iff_ne.1 e;have er:r.k≠K 1:=fun h=>ev (hrk▸h);have ew:whatR r=K 2:=by
    unfold whatR;have:(r.k==K 1)=false:=by simpa using er
    rw [this];rfl
   show KnI n D (stoK f k r) (stP s k v);have pk:∀j,(stP s k v).ptr.at j=if j=k then v else s.ptr.at j:=fun j=>set_k _ _ _ _
   have pkk:∀j,(stP s k v).ptr.k j=if j=k then v.k else s.ptr.k j:=fun j=>by
    have:=congrArg VW.k (pk j);rw [show ((stP s k v).ptr.at j).k=(stP s k v).ptr.k j from rfl] at this
    rw [this];split<;>rfl
   have lk:∀i j,i≠k->(stP s k v).ld i j=s.ld i j/\(stP s k v).by_ i j=s.by_ i j:=fun i j hi=>by unfold stP;simp only [beq_eq_decide,decide_eq_false hi,cond_false,and_self]
   refine ⟨h.regs,fun j => ?_,fun j hj => ?_,fun j h0 h1 => ?_,fun j h1 => ?_,h.r10⟩
   · rw [stoK_g,ew];split
     · exact .inr (.inr rfl)
     · exact h.g3 j
   · rw [stoK_g,ew] at hj;by_cases e8:j / 8=k
     · rw [if_pos e8] at hj;exact absurd hj (by decide)
     · rw [if_neg e8] at hj;rw [pkk,if_neg e8,(lk _ _ e8).1];exact h.one j hj
   · rw [hkk] at h0 h1;rw [pkk,pk,stoK_at];by_cases e8:j=k
     · rw [if_pos e8,if_pos e8,if_pos e8];exact ⟨hv,hr⟩
     · rw [if_neg e8] at h0 h1;rw [if_neg e8,if_neg e8,if_neg e8];exact h.pt j h0 h1
   · rw [hkk] at h1;by_cases e8:j=k
     · rw [if_pos e8] at h1;exact absurd h1 er
     · rw [if_neg e8] at h1;obtain ⟨q1,q2⟩:=h.num j h1;refine ⟨fun b hb=>by rw [stoK_g,if_neg (fun h=>e8 (hb.symm.trans h))];exact q1 b hb,?_⟩
       rw [stoK_at,if_neg e8,lnV_eq (s:=s) fun i hi=>(lk j i e8).2];exact q2
theorem kni_regs (h:KnI n D f s) {s':VF} (h1:s'.ptr=s.ptr) (h2:s'.ld=s.ld) (h3:s'.by_=s.by_) (hr:∀i,i<11->HoldsR n D (f.regs.at i) (s'.regs.at i)) (h10:r10B (s'.regs.at 10)=true):KnI n D f s':=by
 refine ⟨hr,h.g3,fun b hb=>by rw [h1,h2];exact h.one b hb,fun k h0 h4=>by rw [h1];exact h.pt k h0 h4,fun k h4 => ?_,h10⟩
 obtain ⟨q1,q2⟩:=h.num k h4;exact ⟨q1,by rw [lnV_eq (s:=s) fun j hj=>by rw [h3]];exact q2⟩
end
def OKI (n:Nat) (D:DF):Prop:=∀i,i<n->((D.k i).toNat=9\/(D.k i).toNat=10)->inM n (D.i i)=true
theorem check_inner {n:Nat} {D:DF} (h:checkU n D=K 0):OKI n D:=by
 unfold checkU at h;cases h1:BitVec.slt (K 10) (kk n)
 · rw [h1,cond_false] at h;intro i hi hk;have hc:=chkN_all h i hi;have hc:chk1 n D (D.k i) (D.e i) (D.w i) (D.b i) (D.i i)=K 0:=hc;obtain ⟨g1,g2,_⟩:=chk1_good hc;unfold chk1 at hc;cases hA:chA (D.k i) (D.e i) (D.w i)
   · rw [hA,cond_false] at hc;cases hB:chB (D.k i) (D.b i)
     · rw [hB,cond_false] at hc;cases hC:chC n (D.k i) (D.i i)
       · have hd:kDecl (D.k i)=false:=by
          cases e:kDecl (D.k i)
          · rfl
          · unfold chA at hA;rw [e] at hA;cases hA
         have hN:kN (D.k i)=true:=by unfold kN;rw [hd,cond_false];rcases hk with e|e<;>rw [e]<;>rfl
         unfold chC at hC;rw [hN,cond_true] at hC;cases e:inM n (D.i i)
         · rw [e] at hC;cases hC
         · rfl
       · rw [hC,cond_true] at hc;exact absurd hc (by decide)
     · rw [hB,cond_true] at hc;exact absurd hc (by decide)
   · rw [hA,cond_true] at hc;exact absurd hc (by decide)
 · rw [h1,cond_true] at h;exact absurd h (by decide)
section
variable {n:Nat} {D:DF} {f:FSt} {s:VF}
theorem kni_new:KnI n D newFS newVF:=by
 refine ⟨fun i hi => ?_,fun b =>.inl rfl,fun b hb=>absurd hb (by show ¬K 0=K 1;decide),fun k h0=>absurd rfl h0,fun k h1=>absurd h1 (by show ¬K 0=K 1;decide),rfl⟩
 by_cases h1:i=1
 · subst h1;exact .inr (.inr (.inl ⟨rfl,rfl,rfl⟩))
 · by_cases h10:i=10
   · subst h10;exact .inr (.inr (.inr (.inl ⟨rfl,rfl,rfl⟩)))
   · refine .inl ?_;show K (kindN i)=K 0;unfold kindN;rw [if_neg h1,if_neg h10]
theorem there_of {x:U} {m:Nat} (hm:m≤128) (h:inB x m=true):thereB x (K m)=true/\(K m).toNat=m/\posN x=posW x:=by
 obtain ⟨h1,h2,h3⟩:=inB_nat h (by omega)
 have hx:x.toInt=(posW x:Int)-128:=by rw [← vof_toInt];exact h3
 have hmI:(K (m:Int)).toInt=m:=KtoInt (by omega)
 have hmN:(K (m:Int)).toNat=m:=by have:=BitVec.toInt_eq_toNat_cond (K (m:Int));have:=(K (m:Int)).isLt;rw [hmI] at *;split at * <;> omega
 refine ⟨?_,hmN,rfl⟩;have e0:(K 0).toInt=0:=rfl;have e1:(K (-128)).toInt = -128:=rfl;have en:(0#64-x).toInt=128-(posW x:Int):=by rw [BitVec.toInt_sub,hx];have:(0#64:U).toInt=0:=rfl;rw [this];simp only [Int.bmod_def];split<;>omega
 unfold thereB;rw [BitVec.sle,BitVec.sle,BitVec.sle,BitVec.sle,e0,e1,en,hmI,hx,decide_eq_true (by omega),cond_true,decide_eq_true (by omega),cond_true,decide_eq_true (by omega),cond_true,decide_eq_true (by omega)]
theorem kni_lay (h:KnI n D f s) {x:U} {m:Nat} (hm:m≤128) (hin:inB x m=true) {v:VW} (hk:v.k=K 3) (hn:v.n=x) (c:Nat->U):KnI n D (layR f x (K m)) (layVR s v c m):=by
 obtain ⟨t1,t2,t3⟩:=there_of hm hin;have hs:stackE v m=K 0:=by unfold stackE;rw [hk,hn,hin];rfl
 unfold layR layVR;rw [t1,t2,t3,hs,hn];exact kni_bytes h _ _ _
theorem slot_in:∀k:Fin 16,∀j:Fin 9,inB (K (sP k.val)) j.val=true:=by decide +kernel
theorem place_in (w:U) {j:Nat} (hj:j<9):inB (placeU w) j=true:=by
 obtain ⟨k,hk,e,_⟩:=isSlot_some (place_ok w);rw [e];exact slot_in ⟨k,hk⟩ ⟨j,hj⟩
theorem layVN_with (s:VF) (R:VV) (b:Nat) (c:Nat->U):∀m,layVN { s with regs:=R } b c m={ layVN s b c m with regs:=R }
 | 0=>rfl
 | m+1=>by
   show layVB (layVN { s with regs:=R } b c m) (b+m) (c m)=_
   rw [layVN_with s R b c m];rfl
theorem stoVR_with (s:VF) (R:VV) (k:Nat) (v:VW):stoVR { s with regs:=R } k v={ stoVR s k v with regs:=R }:=by
 unfold stoVR;cases isPt v
 · exact layVN_with s R (8*k) (b8 v.n) 8
 · rfl
theorem kni_step (h1:1≤n) (hn:n≤10) (h:KnI n D f s) (t:TW):KnI n D (stepF knoX n t f) (stepV n t s):=by
 have ht:=thing_holds h1 hn D t;unfold stepF stepV;cases BitVec.slt t.w (K 10)
 · simp only [cond_false];have hj:(pickU t.b (K 9)).toNat<9:=pick_lt 9 (by omega) (by omega) _
   cases e:(pickU t.b (K 9)).toNat with
   | zero=>
     simp only;cases hv:(valW t n).k==K 0
     · simp only [cond_false];have hv':(valW t n).k≠K 0:=by simpa using hv
       have key:=kni_sto h (slotN (placeU t.w)) ht (knox_k t n) hv';have e1:dvB s t.w (valW t n)={ stoVR s (slotN (placeU t.w)) (valW t n) with regs:=setR s.regs (K 9) (valW t n) }:=by
        unfold dvB;rw [show (dvA s t.w (valW t n)).regs.at 9=valW t n from set9_at9 _ _]
        exact stoVR_with s (setR s.regs (K 9) (valW t n)) _ _
       have e2:dvC s t.w (valW t n)={ stoVR s (slotN (placeU t.w)) (valW t n) with regs:=setR (setR s.regs (K 9) (valW t n)) (K 9) (s.regs.at 9) }:=by unfold dvC setVF;rw [e1]
       have hreg:∀i,(dvC s t.w (valW t n)).regs.at i=s.regs.at i:=fun i=>by
        rw [e2];show ((s.regs.set 9 (valW t n)).set 9 (s.regs.at 9)).at i=_;rw [set_k,set_k];split
        · rename_i hi;rw [hi]
        · rfl
       refine kni_regs key (by rw [e2]) (by rw [e2]) (by rw [e2]) (fun i hi => ?_) (by rw [hreg];exact h.r10)
       rw [hreg];exact h.regs i hi
     · exact h
   | succ j=>
     simp only;rw [e] at hj;exact kni_lay h (by omega) (place_in t.w hj) rfl rfl _
 · exact kni_set h ht _
theorem kni_fold (h1:1≤n) (hn:n≤10) (F:TF):∀i,KnI n D (foldF knoX n F i) (foldV n F i)
 | 0=>kni_new
 | i+1=>kni_step h1 hn (kni_fold h1 hn F i) _
end
theorem pick4 (x:U):obsW (evalF cxK noΓ 400 20 8 [i64 x,one (.lit .i64 4)] (hM [] 0))=some (.tt,i64 (pickU x (K 4)),[]):=by kernel_rfl
def pickOK:Int->Bool
 | .ofNat 4=>true
 | .ofNat 1000=>true
 | _=>false
def pickSp:List V->H->Option R
 | [.t (.a ax),.t (.a (.lit .i64 n))],h=>match i64Of ax,pickOK n with
   | some x,true=>some (.leaf .tt (i64 (pickU x (K n))) (h.sees []))
   | _,_=>none
 | _,_=>none
theorem pickSp_inv {args:List V} {h:H} {r:R} (e:pickSp args h=some r):∃ax n x,args=[one ax,one (.lit .i64 n)]/\i64Of ax=some x/\pickOK n=true/\r = .leaf .tt (i64 (pickU x (K n))) (h.sees []):=by
 unfold pickSp at e;split at e
 · split at e
   · rename_i h1 h2;cases e;exact ⟨_,_,_,rfl,h1,h2,rfl⟩
   · cases e
 · cases e
theorem pick8_ok:AnyOK Tryz.prog 8 pickSp where
 ent:=enters_of entK 8 _ Tryz.func8 (by simp [Tryz.f8])
 ok:=by
  intro args h r ok v h' he hp hok;obtain ⟨ax,n,x,rfl,hx,hn,rfl⟩:=pickSp_inv he;simp only [R.pick,oI,pI] at hp;obtain ⟨rfl,rfl,rfl⟩:=hp;refine fn_calm [] fun S ν w us hm hS hus => ?_
  match us,hus with
  | [u0,u1],⟨r0,r1,_⟩=>
    obtain rfl:=i64Of_rel hx r0;have r1:(A.lit .i64 n).rel ν u1:=r1;simp only [A.rel] at r1;obtain ⟨rfl,hw⟩:=r1;have key:Calls Tryz.prog 8 #[.int .i64 (vof .i64 x),.int .i64 n] w fun e w'=>e = .returned (.int .i64 (vof .i64 (pickU x (K n))))/\Below w.heap.size w w':=by
     unfold pickOK at hn;split at hn
     · exact pick_at (n:=4) rfl (pick4 x) w
     · exact pick_at (n:=1000) rfl (pick1000 x) w
     · cases hn
    refine key.mono ?_;rintro e w' ⟨rfl,hb⟩;refine ⟨_,rfl,?_,hb⟩;show (A.i .i64 _).rel ν _;simp only [A.rel]
 pan:=by intro args h r ok v h' he hp hok;obtain ⟨ax,n,x,rfl,hx,hn,rfl⟩:=pickSp_inv he;simp [R.pickP] at hp
 ext:=by intro args h r he hlo;obtain ⟨ax,n,x,rfl,hx,hn,rfl⟩:=pickSp_inv he;exact sees_ext _ h
def callV (no cpu id rno elem:U) (val:A) (key:U):V :=.t (.st [.a (.i .i64 no),.a (.i .i64 cpu),.a (.i .i64 id),.st [.a (.i .i64 rno),.a val,.a (.i .u64 key),.a (.i .i64 elem)]])
def R.wayB (p:List Bool) (r:R):Option (Bool×A×Option Bool×List Nat):=match r.way p with
 | some (c,.leaf ok (.t (.a x)) h)=>some (c,ok,truthA x,h.wr)
 | _=>none
theorem wayB_some {p:List Bool} {r:R} {c:Bool} {ok:A} {y:Option Bool} {wr:List Nat} (h:r.wayB p=some (c,ok,y,wr)) (hc:c=true):∃x h',r.pick=some (ok,one x,h')/\truthA x=y/\h'.wr=wr:=by
 unfold R.wayB at h;split at h
 · rename_i c ok x h' hw;simp only [oI,pI] at h;obtain ⟨rfl,rfl,rfl,rfl⟩:=h;exact ⟨x,h',(way_pick hw hc).1.trans rfl,rfl,rfl⟩
 · cases h
def hsP (sh:Bool) (P:PO):Bool:=match sh with
 | true=>P.has
 | false => !P.has
def wdM (D:DF) (m:U):Nat:=(D.w (m-K 1).toNat).toNat
def rnoS (sf:Bool) (rno:U):U:=match sf with
 | true=>K 0
 | false=>pickU rno (K 22)
def valS (sf:Bool) (D:DF) (m:U) (l:Nat) (g:Nat->U):Option (Nat×(Nat->U)):=match sf with
 | true=>some (wdM D m,fitG l g)
 | false=>none
def elemS (sf:Bool) (D:DF) (m elem:U):U:=match sf with
 | true=>fitEl D (m-K 1).toNat elem
 | false=>K 0
def ovS (sf:Bool) (D:DF) (m:U):Bool:=match sf with
 | true=>Nat.beq (wdM D m) (wdM D m)
 | false=>true
def fitB (sf:Bool) (n:Nat) (m rno:U) (ov:Bool):Bool:=match sf with
 | true=>ov&&(inM n m&&(pickU rno (K 22)==K 0))
 | false=>ov&&bad6 n m rno
def o63 (n:Nat):Bool:=Nat.blt n (2 ^ 63)
def oBig (n:Nat) (oT:A):A:=andOk (andOk (.b (o63 n)) oT) (.b ((Nat.blt 0 n&&o63 n)&&Nat.beq n n))
section
variable (n:Nat) (D:DF) (oT oS:A) (sv:VF) (sq:QF) (f:FSt) (sh sf:Bool) (no cpu id rno elem:U) (l:Nat) (g:Nat->U) (ov:Bool)
def p3V:PO:=planF n D sv.regs sv.how sv.flat no (pickU cpu (K 4))
def thC (cT:Option Bool) (x:Bool):Bool:=match cT with
 | some c => !c&&x
 | none=>x
def pT (cT:Option Bool):List Bool:=match cT with
 | some _=>[false]
 | none=>[]
def cBig (n:Nat):Bool:=BitVec.slt (kk n) (K 1)
end
theorem argsF_vk {regs:VV} {how flat:Nat->U} {w:Nat} {m op cpu m' o' k' f' c':U} {v':Option (Nat×(Nat->U))}:∀(L:List Nat) (r:Nat) (key flag:U) (v:Option (Nat×(Nat->U))),argsF regs how flat w m op cpu L r key flag v = .ok m' o' k' f' c' v'->v'=v\/∃g,v'=some (w,g)
 | [],r,key,flag,v,h=>by cases h;exact .inl rfl
 | 0::L,r,key,flag,v,h=>by
   unfold argsF at h;cases h0:regs.k r==K 0<;>simp only [h0,cond_true,cond_false] at h
   · cases h1:bytesE how (regs.at r) 8 != K 0<;>simp only [h1,cond_true,cond_false] at h
     · exact argsF_vk L _ _ _ _ h
     · cases h
   · cases h
 | 1::L,r,key,flag,v,h=>by
   unfold argsF at h;cases h0:regs.k r==K 0<;>simp only [h0,cond_true,cond_false] at h
   · cases h1:bytesE how (regs.at r) (8*w) != K 0<;>simp only [h1,cond_true,cond_false] at h
     · rcases argsF_vk L _ _ _ _ h with e|e
       · exact .inr ⟨_,e⟩
       · exact .inr e
     · cases h
   · cases h
 | 2::L,r,key,flag,v,h=>by
   unfold argsF at h;cases h0:regs.k r==K 0<;>simp only [h0,cond_true,cond_false] at h
   · cases h1:regs.k r != K 1<;>simp only [h1,cond_true,cond_false] at h
     · exact argsF_vk L _ _ _ _ h
     · cases h
   · cases h
 | (n+3)::L,r,key,flag,v,h=>by
   unfold argsF at h;cases h0:regs.k r==K 0<;>simp only [h0,cond_true,cond_false] at h
   · cases h1:regs.k r != K 3<;>simp only [h1,cond_true,cond_false] at h
     · cases h2:roomB (regs.n r) (8*w)<;>simp only [h2,Bool.not_true,Bool.not_false,cond_true,cond_false] at h
       · cases h
       · exact argsF_vk L _ _ _ _ h
     · cases h
   · cases h
theorem plan_val {n:Nat} (hn:n≤10) {D:DF} (hD:OKD n D) {regs:VV} {how flat:Nat->U} {no cpu m' o' k' f' c':U} {v':Option (Nat×(Nat->U))} (h:planF n D regs how flat no cpu = .ok m' o' k' f' c' v') {k:Nat} {g:Nat->U} (hv:v'=some (k,g)):1≤k/\k≤4:=by
 subst hv;unfold planF at h;cases h0:cond (BitVec.sle (K 1) no) (BitVec.sle no (K 8)) false<;>simp only [h0,Bool.not_true,Bool.not_false,cond_true,cond_false] at h
 · cases h
 · cases h7:no==K 7<;>simp only [h7,cond_true,cond_false] at h
   · cases h2:regs.k 1==K 0<;>simp only [h2,cond_true,cond_false] at h
     · cases h3:regs.k 1 != K 4<;>simp only [h3,cond_true,cond_false] at h
       · cases h4:inM n (regs.i 1)<;>simp only [h4,Bool.not_true,Bool.not_false,cond_true,cond_false] at h
         · cases h
         · obtain ⟨m1,m2,_,m4⟩:=inM_nat hn h4;obtain ⟨_,_,d3⟩:=hD (ixU regs) (by unfold ixU;rw [m4];omega)
           have hw:=wOK_le d3;unfold planL at h;split at h
           · cases h
           · rcases argsF_vk _ _ _ _ _ h with e|⟨g',e⟩
             · cases e
             · simp only [oI,pI] at e;obtain ⟨rfl,_⟩:=e;omega
       · cases h
     · cases h
   · cases h
theorem inM_zero (n:Nat):inM n (K 0)=false:=rfl
theorem plan_m {n:Nat} {D:DF} {regs:VV} {how flat:Nat->U} {no cpu:U} (h:inM n (planF n D regs how flat no cpu).m=true):(planF n D regs how flat no cpu).m=regs.i 1:=by
 cases hp:planF n D regs how flat no cpu with
 | err x=>
   rw [hp] at h;have h:inM n (K 0)=true:=h;rw [inM_zero] at h;cases h
 | ok m' o' k' f' c' v'=>
   cases h7:no==K 7
   · obtain ⟨_,_,hm,_⟩:=plan_facts hp h7;exact hm
   · obtain rfl:=eq_of_beq h7;rw [planF_7] at hp;cases hp;rw [planF_7] at h;have h:inM n (K 0)=true:=h;rw [inM_zero] at h;cases h
theorem bad6_not {n:Nat} {m rno:U} (h:(inM n m&&(pickU rno (K 22)==K 0))=false):bad6 n m rno=true:=by
 unfold bad6 bad4;unfold inM at h;rw [slt_not_sle,slt_not_sle,bne];cases h1:pickU rno (K 22)==K 0
 · rfl
 · cases h2:BitVec.sle (K 1) m
   · rfl
   · cases h3:BitVec.sle m (kk n)
     · rfl
     · rw [h1,h2,h3] at h;cases h
theorem okB_and {a b:A} (ha:okB a=true) (hb:okB b=true):okB (andOk a b)=true:=by
 unfold andOk;split<;>first|assumption|skip
 all_goals (simp only [okB] at *;try simp [*])
theorem cBig_false {n:Nat} (h0:0<n) (h63:n<2 ^ 63):cBig n=false:=by
 have:cBig n=BitVec.slt (kk n) (kk 1):=rfl;rw [this,slt_kk h63 (by decide),decide_eq_false]
 omega
def RT3 (w:World) (e:Ending) (w':World):Prop:=e = .returned (.bool true)/\Below w.heap.size w w'
end Go.WE
end
