/- A part of a proof of the helpers' law; no condition of its own. -/
import Derived.OwnWalk
import Derived.WalkSpells
import Derived.StillTactics
import Derived.Laws.Pointers
import Derived.Deep.RegionHeld3
import Derived.Deep.AppendLies
import Derived.Test.YtoeealkcacgcgaaGreatDoorS16
set_option linter.unusedVariables false
set_option maxRecDepth 100000
noncomputable section
namespace Go.WE
open Go Go.Proofs
open Go.RowKit (Below)
def VF.how (s:VF) (j:Nat):U:=if s.ptr.k (j / 8)≠K 0 then K 2 else if s.ld (j / 8) (j % 8)=true then K 1 else K 0
def VF.flat (s:VF) (j:Nat):U:=s.by_ (j / 8) (j % 8)
def so0 (k:U) (n:Nat):List (Nat×V):=[(0,pt 0),(1,i64 k),(2,one (.lit .i64 n))]
def so1 (k:U) (n:Nat):List (Nat×V):=[(0,pt 0),(1,i64 k),(2,one (.lit .i64 n)),(7,one (.sl 1 [] 1 (.lit 0) (.lit 0) (some (.lit n))))]
def so2 (k:U) (n:Nat):List (Nat×V):=[(0,pt 0),(1,i64 k),(7,one (.sl 1 [] 1 (.lit 0) (.lit 0) (some (.lit n)))),(12,one (.lit .i64 n)),(13,one (.lit .i64 0))]
def msO (s:VF):List (Nat×Blk):=[(0,⟨false,s.t⟩)]
def msZ (s:VF) (n:Nat):List (Nat×Blk):=[(0,⟨false,s.t⟩),(1,⟨true,.lst 1 (List.replicate n (.a (.lit .u8 0)))⟩)]
def isSz:Nat->Bool
 | 1=>true|8=>true|16=>true|24=>true|32=>true|_=>false
theorem isSz_cases {n:Nat} (h:isSz n=true):n=1\/n=8\/n=16\/n=24\/n=32:=by
 unfold isSz at h;split at h<;>simp at *
section
variable (s:VF) (k:U)
theorem n0_ev (n:Nat):endM fp106.km [0,1,2] [0] 1 (ev106 n0 (so0 k n) (msO s) 1).pick=some ⟨.nrm,.tt,so0 k n,msO s⟩:=by kernel_rfl
theorem n1_ev {n:Nat} (h:isSz n=true):endM fp106.km [0,1,2,7] [0,1] 2 (ev106 n1 (so0 k n) (msO s) 1).pick=some ⟨.nrm,.tt,so1 k n,msZ s n⟩:=by
 rcases isSz_cases h with rfl|rfl|rfl|rfl|rfl<;>kernel_rfl
theorem n2_ev (n:Nat) (g:Nat->U):endM fp106.km [0,1,7,12,13] [0,1] 2 (ev106 n2 (so1 k n) (msN s n g) 2).pick=some ⟨.nrm,.tt,so2 k n,msN s n g⟩:=by kernel_rfl
theorem n10_ev (n q:Nat) (g:Nat->U):endM fp106.km [6] [1] 2 (ev106 n10 [(7,slN n (.sym q))] [(1,⟨true,.arr 1 (.lit n) (.int .u8 g)⟩)] 2).pick=some ⟨.ret,.tt,[(6,slN n (.sym q))],[(1,⟨true,.arr 1 (.lit n) (.int .u8 g)⟩)]⟩:=by kernel_rfl
end
def gN (s:VF) (b k:Nat):Nat->U:=fun j=>cond (Nat.blt j k) (s.flat (b+j)) (K 0)
theorem gN_step (s:VF) (b k:Nat):putN ((0+k)+0) (s.flat (b+k)) (gN s b k)=gN s b (k+1):=by
 funext j;rw [putN_at];unfold gN;by_cases e:j=k
 · subst e;have h1:Nat.blt j (j+1)=true:=nB (Nat.le_refl _);rw [if_pos (by omega),h1,cond_true]
 · rw [if_neg (by omega)]
   by_cases e2:j<k
   · have h1:Nat.blt j k=true:=nB e2;have h2:Nat.blt j (k+1)=true:=nB (show j+1≤k+1 by omega)
     rw [h1,h2]
   · have h1:Nat.blt j k=false:=by
      cases h:Nat.blt j k
      · rfl
      · exact absurd (nL h) e2
     have h2:Nat.blt j (k+1)=false:=by
      cases h:Nat.blt j (k+1)
      · rfl
      · have:=nL h;omega
     rw [h1,h2]
theorem gN_zero (s:VF) (b:Nat):gN s b 0=fun _=>K 0:=by
 funext j;rfl
theorem zs_less {n:Nat} {ν:Nu} {vs:List Value} (h:(T.lst 1 (List.replicate n (.a (.lit .u8 0)))).rel ν vs):(T.arr 1 (.lit n) (.int .u8 fun _=>K 0)).rel ν vs:=by
 simp only [T.rel] at h;have:=lst_fun (sh :=.int .u8 fun _=>K 0) (fun vs i hi hr => ?_) h
 · simpa using this
 · rw [List.getElem_replicate] at hr;simp only [T.rel,A.rel] at hr;obtain ⟨v,rfl,⟨rfl,_⟩,_⟩:=hr;rfl
theorem body106:Tryz.f106.body=some c106:=by kernel_rfl
theorem okN0_true {b:Nat} (hb:b<128):okN0 (kk b)=true:=by
 obtain ⟨h1,h2,h3,h4,h5,h6⟩:=byte_all ⟨b,hb⟩;simp only at h1 h2 h3 h4 h5 h6;have q1:Nat.blt (vq (kk b)) 16=true:=h4;have q2:Nat.blt (vr (kk b)) 8=true:=h6;unfold okN0;simp only;rw [h3,h5,q1,q2];rfl
theorem okN1_true {b:Nat} (hb:b<128) (s:VF):okN1 s (kk b)=true:=by
 obtain ⟨h1,h2,h3,h4,h5,h6⟩:=byte_all ⟨b,hb⟩;simp only at h1 h2 h3 h4 h5 h6;have q1:Nat.blt (vq (kk b)) 16=true:=h4;unfold okN1;rw [okN0_true hb,q1,Bool.or_true];rfl
theorem okN3_true {b n q:Nat} (hb:b<128) (hq:q<n) (s:VF):okN3 s (kk b) n q=true:=by
 obtain ⟨h1,h2,h3,h4,h5,h6⟩:=byte_all ⟨b,hb⟩;simp only at h1 h2 h3 h4 h5 h6;have q1:Nat.blt (vq (kk b)) 16=true:=h4;have q2:Nat.blt (vr (kk b)) 8=true:=h6;have q3:Nat.ble (q+1) n=true:=nB hq;have q4:Nat.blt ((0+q)+0) n=true:=nB (by omega)
 unfold okN3;rw [okN1_true hb,q1,q2,h5,q3,q4];rfl
theorem how_zero (s:VF) {b:Nat} (hb:b<128):(!(cond (s.ld (vq (kk b)) (vr (kk b))) true (s.ptr.k (vq (kk b)) != K 0)))=(s.how b==K 0):=by
 obtain ⟨h1,h2,_⟩:=byte_all ⟨b,hb⟩;simp only at h1 h2;rw [h1,h2];unfold VF.how;by_cases e:s.ptr.k (b / 8)=K 0
 · have e1:(s.ptr.k (b / 8) != K 0)=false:=by rw [e];decide
   rw [e1,if_neg (fun h=>h e)];cases s.ld (b / 8) (b % 8)
   · rfl
   · decide
 · have e1:(s.ptr.k (b / 8) != K 0)=true:=bne_iff_ne.2 e;rw [e1,if_pos e];cases s.ld (b / 8) (b % 8)<;>decide
theorem how_two' (s:VF) {b:Nat} (hb:b<128):(!(s.ptr.k (vq (kk b))==K 0))=(s.how b==K 2):=by
 obtain ⟨h1,h2,_⟩:=byte_all ⟨b,hb⟩;simp only at h1 h2;rw [h1];unfold VF.how;by_cases e:s.ptr.k (b / 8)=K 0
 · rw [if_neg (fun h=>h e),e];cases s.ld (b / 8) (b % 8)<;>decide
 · have e1:(s.ptr.k (b / 8)==K 0)=false:=beq_eq_false_iff_ne.2 e;rw [e1,if_pos e];decide
theorem sl_less {ν:Nu} {n:Nat}:∀u,(one (.sl 1 [] 1 (.lit 0) (.lit 0) (some (.lit n)))).rel ν u->(slN n (.sym 0)).rel ν u:=by
 intro u h;have h:(A.sl 1 [] 1 (.lit 0) (.lit 0) (some (.lit n))).rel ν u:=h;show (A.sl 1 [] 1 (.lit 0) (.sym 0) (some (.lit n))).rel ν u;simp only [A.rel] at h ⊢;exact h
theorem so_conv (k:U) (n:Nat):LessA (so2 k n) (sn1 k n (.sym 0) (kk 0)):=fun ν=>⟨rfl,same_rel,rfl,same_rel,rfl,sl_less,rfl,same_rel,rfl,lit_less rfl,trivial⟩
theorem v_lt {b:Nat} (hb:b<128):Nat.blt (vq (kk b)) 16=true:=by
 obtain ⟨h1,h2,h3,h4,h5,h6⟩:=byte_all ⟨b,hb⟩;exact h4
def numP (w:World) (s:VF) (bi n:Nat) (e:Ending) (w':World):Prop:=
 Below w.heap.size w w'/\(readN s.how bi n=K 0->∃B,w.heap.size≤B/\e = .returned (.slice (some ⟨B,0,none⟩) n n)/\Holds w' B (.arr 1 (.lit n) (.int .u8 (gN s bi n)))) /\
  (readN s.how bi n≠K 0->e = .panicked [{ v :=.iface 206 (.int .i64 (vof .i64 (readN s.how bi n))),recovered:=false }])
set_option maxHeartbeats 1000000 in
theorem num106 {w:World} {r bi n:Nat} {s:VF} (hn:isSz n=true) (hbn:bi+n≤128) (hh:Holds w r s.t) :
 Calls Tryz.prog 106 #[.pointer (some ⟨r,0,none⟩),.int .i64 (vof .i64 (kk bi)),.int .i64 n] w (numP w s bi n):=by
 have X:=XK noΓ_ok;have hnw:IntKind.i64.wrap (n:Int)=n:=by rcases isSz_cases hn with rfl|rfl|rfl|rfl|rfl<;>rfl
 refine calls_phases Tryz.func106 body106 ?_;rw [c106_eq];have st:OwnL fp106 1 (msO s) w (so0 (kk bi) n) _ w:=OwnL.enterA (fp:=fp106) (args:=[pt 0,i64 (kk bi),one (.lit .i64 n)]) (vs:=[.pointer (some ⟨r,0,none⟩),.int .i64 (vof .i64 (kk bi)),.int .i64 n]) (mem_oneF hh) (fun id q base h b hb=>by
  have h1:(id,b)∈msO s:=get_memT _ id b hb;unfold msO at h1;simp only [List.mem_singleton,pI] at h1;rw [h1.2]) ⟨by
  show (A.ptr 0 []).rel (nuOne r) _;simp only [A.rel];exact ⟨r,0,rfl,rfl⟩,by
  show (A.i .i64 (kk bi)).rel (nuOne r) _;simp only [A.rel],by
  show (A.lit .i64 n).rel (nuOne r) _;simp only [A.rel];exact ⟨trivial,hnw⟩,trivial⟩ (by show 3≤63;decide)
 refine wp_two (OwnL.go X rfl (n0_ev s (kk bi) n) rfl rfl rfl (by kernel_rfl) (LessA.refl _) (LessM.refl _) st) fun a w1 hI => ?_
 refine wp_two (OwnL.go X rfl (n1_ev s (kk bi) hn) rfl rfl rfl (by kernel_rfl) (LessA.refl _) (ms'':=msN s n (gN s bi 0)) ⟨rfl,same_blk,rfl,⟨rfl,fun ν vs h=>by rw [gN_zero];exact zs_less h⟩,trivial⟩ hI) fun a w1 hI => ?_
 refine wp_then (K:=fun a w1=>readN s.how bi n=K 0/\OwnL fp106 2 [(1,⟨true,.arr 1 (.lit n) (.int .u8 (gN s bi n))⟩)] w [(7,slN n (.sym n))] a w1) ?_ fun a w1 hI => ?_
 · refine wp_two (OwnL.go X rfl (n2_ev s (kk bi) n _) rfl rfl rfl (by kernel_rfl) (so_conv (kk bi) n) (LessM.refl _) hI) fun a w1 hI => ?_
   refine for_any (fun k a w1=>(∀j,j<k->codeU (s.how (bi+j))=K 0)/\OwnL fp106 2 (msN s n (gN s bi k)) w (sn1 (kk bi) n (.sym k) (kk k)) a w1) n ?_ ⟨fun j hj=>absurd hj (Nat.not_lt_zero _),hI⟩;rintro k hk a w1 ⟨hz,hI⟩;rw [nl_eq];have hn32:n≤128:=by omega
   refine wp_two (OwnL.go X rfl (nh_ev s (kk bi) (kk k) n k _) rfl rfl rfl (by kernel_rfl) (LessA.refl _) (LessM.refl _) hI) fun a w1 hI => ?_
   have en:(BitVec.ofInt 64 (n:Int))=kk n:=rfl;rw [en,slt_kk (by omega) (by omega)] at hI
   by_cases hkn:k<n
   · rw [decide_eq_true hkn] at hI;refine wp_two (OwnL.goB X rfl (nf_c s (kk bi) (kk k) n k _ true) (nf_t s (kk bi) (kk k) n k _ true) rfl rfl rfl (by kernel_rfl) (LessA.refl _) (LessM.refl _) hI) fun a w1 hI => ?_
     have hb:bi+k<128:=by omega
     have ez:kk bi+kk k=kk (bi+k):=(BitVec.ofNat_add bi k).symm;have c0:=(nb_c s (kk bi) (kk k) n k (gN s bi k)).trans (by rw [ez,how_zero s hb])
     cases h0:s.how (bi+k)==K 0
     · rw [h0] at c0;have c2:=(nb_c2 s (kk bi) (kk k) n k (gN s bi k)).trans (by rw [ez,how_two' s hb])
       cases h2:s.how (bi+k)==K 2
       · rw [h2] at c2;have ev:=nb_f2 s (kk bi) (kk k) n k (gN s bi k);obtain ⟨v1,v2,_⟩:=byte_all ⟨bi+k,hb⟩;simp only at v1 v2;rw [ez,v1,v2,show s.by_ ((bi+k) / 8) ((bi+k) % 8)=s.flat (bi+k) from rfl,gN_step] at ev
         refine wp_two (OwnL.phase (r:=⟨.nrm,.b (okN3 s (kk (bi+k)) n k),sn1 (kk bi) n (ixAdd (.sym k) (.lit 1)) (kk k),msN s n (gN s bi (k+1))⟩) X rfl ((congrArg (endM fp106.km [0,1,7,12,13] [0,1] 2) ((Out.nR_pick c0).trans (Out.at_pick c2))).trans ev) (okN3_true hb hkn s) rfl rfl (by kernel_rfl) (LessA.refl _) (LessM.refl _) hI (fun ν' a' w' x hx h=>⟨hx,h⟩)) fun a w1 hI => ?_
         refine wp_mono (OwnL.go X rfl (n9_ev s (kk bi) (kk k) n (k+1) _) rfl rfl rfl (by kernel_rfl) (LessA.refl _) (LessM.refl _) hI) ?_
         rintro x' a' w' ⟨rfl,hI⟩;refine ⟨hkn,fun j hj => ?_,?_⟩
         · by_cases e:j=k
           · subst e;exact codeU_ne h0 h2
           · exact hz j (by omega)
         · rw [← kk_one];exact hI
       · rw [h2] at c2;have ev:=nb_t2 s (kk bi) (kk k) n k (gN s bi k);rw [ez] at ev;refine wp_seq (OwnL.phase (r:=⟨.pan (.iface 206 (.lit .i64 14)),_,[],[]⟩) X rfl ((congrArg (endM fp106.km [] [] 2) ((Out.nR_pick c0).trans (Out.at_pick c2))).trans ev) ?_ rfl rfl (by kernel_rfl) (LessA.refl _) (LessM.refl _) hI fun ν' a' w' x' hx' h => ?_)
         · show (okN1 s (kk (bi+k))&&Nat.blt (vq (kk (bi+k))) 16)=true;rw [okN1_true hb,v_lt hb];rfl
         · obtain ⟨u,rfl,hu⟩:=hx';obtain rfl:=thrown hu;refine OwnL.leftP h fun hbel => ?_;have e:codeU (s.how (bi+k))=K 14:=by unfold codeU;rw [h0,h2];rfl
           have e2:readN s.how bi n=K 14:=(readN_first hz (by rw [e];decide) n hkn).trans e
           exact ⟨hbel,fun h=>(by rw [e2] at h;exact absurd h (by decide)),fun _=>by rw [e2];rfl⟩
     · rw [h0] at c0;have ev:=nb_t s (kk bi) (kk k) n k (gN s bi k);rw [ez] at ev;refine wp_seq (OwnL.phase (r:=⟨.pan (.iface 206 (.lit .i64 15)),_,[],[]⟩) X rfl ((congrArg (endM fp106.km [] [] 2) (Out.at_pick c0)).trans ev) (okN1_true hb s) rfl rfl (by kernel_rfl) (LessA.refl _) (LessM.refl _) hI fun ν' a' w' x' hx' h => ?_)
       obtain ⟨u,rfl,hu⟩:=hx';obtain rfl:=thrown hu;refine OwnL.leftP h fun hbel => ?_;have e:codeU (s.how (bi+k))=K 15:=by unfold codeU;rw [h0];rfl
       have e2:readN s.how bi n=K 15:=(readN_first hz (by rw [e];decide) n hkn).trans e
       exact ⟨hbel,fun h=>(by rw [e2] at h;exact absurd h (by decide)),fun _=>by rw [e2];rfl⟩
   · obtain rfl:k=n:=by omega
     rw [decide_eq_false hkn] at hI;refine wp_seq (wp_mono (OwnL.outB X rfl (nf_c s (kk bi) (kk k) k k _ false) (nf_f s (kk bi) (kk k) k k _ false) rfl rfl rfl (by kernel_rfl) (LessA.refl _) (LessM.refl _) hI) ?_)
     rintro x' a' w' ⟨rfl,hI⟩;exact ⟨readN_zero k hz,hI⟩
 · obtain ⟨hz,hI⟩:=hI;refine OwnL.phase (r:=⟨.ret,.tt,[(6,slN n (.sym n))],[(1,⟨true,.arr 1 (.lit n) (.int .u8 (gN s bi n))⟩)]⟩) X rfl (n10_ev n n _) rfl rfl rfl (by kernel_rfl) (LessA.refl _) (LessM.refl _) hI fun ν' a' w' x' hx' h => ?_
   have hx':x' = .ret:=hx';subst hx';obtain ⟨ν,hs,hbel,hn'⟩:=h;have hu:(slN n (.sym n)).rel ν (a'.tmps.getD 6 undef):=hs.slots 6 _ (.head _);have hu:(A.sl 1 [] 1 (.lit 0) (.sym n) (some (.lit n))).rel ν (a'.tmps.getD 6 undef):=hu;simp only [A.rel] at hu;obtain ⟨B,base,o,c,hid,hval,ho,hlen,hcap⟩:=hu;have hsn:=hs.mem.seen 1 ⟨true,.arr 1 (.lit n) (.int .u8 (gN s bi n))⟩ rfl (.inl trivial);obtain ⟨r',base',cs,ty,fr,pre,us,post,q1,q2,q3,q4,q5,q6⟩:=hsn.cells rfl;rw [hid] at q1;cases q1;obtain ⟨rfl,_⟩:=q6 rfl;have hc:c=n:=hcap _ rfl;subst hc;have h0:c≠0:=by rcases isSz_cases hn with rfl|rfl|rfl|rfl|rfl<;>decide
   have ho:o=0:=by have:=ho h0;simpa [Ix.val,pathOff] using this
   subst ho;refine end_ret (t:=6) rfl (.inr rfl) hs.defers hval ⟨hbel,fun _=>⟨B,?_,rfl,seen_holds hsn rfl rfl hid⟩,fun h=>absurd hz h⟩;rcases hn' 1 B 0 hid with h9|h9
   · exact h9
   · have:=h9 ⟨true,.arr 1 (.lit c) (.int .u8 (gN s bi c))⟩ rfl;cases this
theorem readN_vals (g:Nat->U) (b:Nat):∀n,readN g b n=K 0\/readN g b n=K 14\/readN g b n=K 15
 | 0 =>.inl rfl
 | n+1=>by
   have e:readN g b (n+1)=cond (readN g b n==K 0) (codeU (g (b+n))) (readN g b n):=rfl;rw [e];cases h:readN g b n==K 0
   · exact readN_vals g b n
   · rw [cond_true];rcases code_cases (g (b+n)) with ⟨e,_⟩|⟨e,_⟩|⟨e,_⟩
     · exact .inr (.inr e)
     · exact .inr (.inl e)
     · exact .inl e
def byF (f:Nat->U) (b:Nat):Nat->U:=fun j=>f (b+j)
theorem arr_less {n:Nat} {k:IntKind} {f g:Nat->U} (h:∀j,j<n->f j=g j) {ν:Nu} {vs:List Value} (hr:(T.arr 1 (.lit n) (.int k f)).rel ν vs):(T.arr 1 (.lit n) (.int k g)).rel ν vs:=by
 simp only [T.rel] at hr ⊢;refine ⟨hr.1,fun i hi => ?_⟩;have:=hr.2 i hi;simp only [Sh.rel] at this ⊢;rw [this,h i hi]
theorem gN_byF (s:VF) (b n:Nat):∀j,j<n->gN s b n j=byF s.flat b j:=fun j hj=>by
 unfold gN byF;have h1:Nat.blt j n=true:=nB hj;rw [h1,cond_true]
def okP (x:U) (n:Nat):A :=.b (Nat.ble (x.toNat+n) 128)
def numR (how flat:Nat->U) (x:U) (n id:Nat) (h:H):R:=
 .node (readN how x.toNat n==K 15) (.pan (okP x n) (.iface 206 (.lit .i64 15)) (h.sees [id]))
  (.node (readN how x.toNat n==K 14) (.pan (okP x n) (.iface 206 (.lit .i64 14)) (h.sees [id]))
    (.leaf (okP x n) (one (.sl h.next [] 1 (.lit 0) (.lit n) (some (.lit n)))) ((h.sees [id]).new ⟨true,.arr 1 (.lit n) (.int .u8 (byF flat x.toNat))⟩)))
def numSp:List V->H->Option R
 | [.t (.a (.ptr id [])),.t (.a ak),.t (.a (.lit .i64 (.ofNat n)))],h=>match vfOf h id,i64Of ak,isSz n with
   | some s,some x,true=>some (numR s.how s.flat x n id h)
   | _,_,_=>none
 | _,_=>none
theorem enters106:Enters Tryz.prog 106:=enters_of entK 106 _ Tryz.func106 (by simp [Tryz.f106])
theorem kk_toNat (x:U):kk x.toNat=x:=by
 unfold kk;simp
theorem numSp_inv {args:List V} {h:H} {r:R} (e:numSp args h=some r):∃id ak n s x,args=[.t (.a (.ptr id [])),.t (.a ak),.t (.a (.lit .i64 (.ofNat n)))]/\vfOf h id=some s/\i64Of ak=some x/\isSz n=true/\r=numR s.how s.flat x n id h:=by
 unfold numSp at e;split at e
 · split at e
   · rename_i h1 h2 h3;cases e;exact ⟨_,_,_,_,_,rfl,h1,h2,h3,rfl⟩
   · cases e
 · cases e
theorem num_args {S:Nat->Prop} {ν:Nu} {w:World} {h:H} {id n:Nat} {ak:A} {s:VF} {x:U} {us:List Value} (hs:vfOf h id=some s) (hx:i64Of ak=some x) (hn:isSz n=true) (hbn:x.toNat+n≤128) (hm:Mem S ν w h) (hS:∀i,i∈[id]->S i\/h.lo≤i)
 (hv:relV ν [.t (.a (.ptr id [])),.t (.a ak),.t (.a (.lit .i64 (.ofNat n)))] us):Calls Tryz.prog 106 us.toArray w (numP w s x.toNat n):=by
 match us,hv with
 | [v0,v1,v2],⟨r0,r1,r2,_⟩=>
   obtain ⟨r,e1,hh,rfl⟩:=ptr_here hm (vfOf_some hs) (hS id (.head _)) rfl rfl r0;obtain rfl:=i64Of_rel hx r1;have r2:(A.lit .i64 (.ofNat n)).rel ν v2:=r2;simp only [A.rel] at r2;obtain ⟨rfl,_⟩:=r2;have:=num106 hn hbn hh;rw [kk_toNat] at this;exact this
theorem num_ok:AnyOK Tryz.prog 106 numSp where
 ent:=enters106
 ok:=by
  intro args h r ok v h' he hp hok;obtain ⟨id,ak,n,s,x,rfl,hs,hx,hn,rfl⟩:=numSp_inv he;unfold numR at hp;simp only [R.pick] at hp;split at hp
  · cases hp
  · rename_i c1;split at hp
    · cases hp
    · rename_i c2;simp only [oI,pI] at hp;obtain ⟨rfl,rfl,rfl⟩:=hp;have hbn:x.toNat+n≤128:=nL hok;refine fn_made rfl [id] fun S ν w us hm hS hv=>(num_args hs hx hn hbn hm hS hv).mono ?_;rintro e w' ⟨hb,h1,h2⟩;have hz:readN s.how x.toNat n=K 0:=by
       rcases readN_vals s.how x.toNat n with e|e|e
       · exact e
       · rw [e] at c2;exact absurd rfl c2
       · rw [e] at c1;exact absurd rfl c1
      obtain ⟨B,hB,rfl,hh⟩:=h1 hz;refine ⟨_,B,rfl,hB,hb,hh.less fun vs=>arr_less (gN_byF s _ n),fun ν' _ hν => ?_⟩;show (A.sl h.next [] 1 (.lit 0) (.lit n) (some (.lit n))).rel ν' _;simp only [A.rel];exact ⟨B,0,0,n,hν,rfl,fun _=>by simp [pathOff,Ix.val],Nat.le_refl _,fun _ e=>by cases e;rfl⟩
 pan:=by
  intro args h r ok v h' he hp hok;obtain ⟨id,ak,n,s,x,rfl,hs,hx,hn,rfl⟩:=numSp_inv he;unfold numR at hp;simp only [R.pickP] at hp;have key:∀c:Int,readN s.how x.toNat n=K c->K c≠K 0->IntKind.i64.wrap c=c->vof .i64 (K c)=c->okB (okP x n)=true->FnPan Tryz.prog 106 [.t (.a (.ptr id [])),.t (.a ak),.t (.a (.lit .i64 (.ofNat n)))] h (.iface 206 (.lit .i64 c)) (h.sees [id]):=fun c hc hc0 hcw hcv hok=>by
   have hbn:x.toNat+n≤128:=nL hok;refine fn_pan [id] fun S ν w us hm hS hv=>(num_args hs hx hn hbn hm hS hv).mono ?_;rintro e w' ⟨hb,h1,h2⟩;refine ⟨_,h2 (by rw [hc];exact hc0),?_,hb⟩
   rw [hc,hcv];simp only [A.rel];exact ⟨_,rfl,rfl,hcw⟩
  split at hp
  · rename_i c1;simp only [oI,pI] at hp;obtain ⟨rfl,rfl,rfl⟩:=hp;exact key 15 (eq_of_beq c1) (by decide) rfl rfl hok
  · split at hp
    · rename_i c2;simp only [oI,pI] at hp;obtain ⟨rfl,rfl,rfl⟩:=hp;exact key 14 (eq_of_beq c2) (by decide) rfl rfl hok
    · cases hp
 ext:=by intro args h r he hlo;obtain ⟨id,ak,n,s,x,rfl,hs,hx,hn,rfl⟩:=numSp_inv he;exact ⟨sees_ext [id] h,sees_ext [id] h,(sees_ext [id] h).trans (new_ext (by rw [sees_lo,sees_next];exact hlo) _)⟩
def ΓN:Gam:=anyΓ 106 numSp noΓ
theorem ΓN_ok:ΓOK Tryz.prog ΓN:=anyΓ_ok num_ok noΓ_ok
def blkOf (v:V) (h:H):Option Blk:=match v with
 | .t (.a (.ptr id _))=>h.m.get id
 | .t (.a (.sl id _ _ _ _ _))=>h.m.get id
 | .tup (.a (.sl id _ _ _ _ _)::_)=>h.m.get id
 | _=>none
inductive RT where
 | fail
 | leaf (ok:A) (v:V) (wr:List Nat) (b0 b:Option Blk)
 | pan (ok:A) (v:A) (wr:List Nat) (b0:Option Blk)
 | node (x:Bool) (a b:RT)
def R.rt:R->RT
 | .fail =>.fail
 | .leaf ok v h =>.leaf ok v h.wr (h.m.get 0) (blkOf v h)
 | .pan ok v h =>.pan ok v h.wr (h.m.get 0)
 | .node x a b =>.node x a.rt b.rt
def RT.pick:RT->Option (A×V×List Nat×Option Blk×Option Blk)
 | .fail=>none
 | .leaf ok v wr b0 b=>some (ok,v,wr,b0,b)
 | .pan _ _ _ _=>none
 | .node x a b=>cond x a.pick b.pick
theorem rt_pick:∀{r:R} {ok:A} {v:V} {wr:List Nat} {b0 b:Option Blk},r.rt.pick=some (ok,v,wr,b0,b)->∃h',r.pick=some (ok,v,h')/\h'.wr=wr/\h'.m.get 0=b0/\blkOf v h'=b
 | .fail,_,_,_,_,_,h=>by cases h
 | .leaf ok v h,_,_,_,_,_,e=>by simp only [R.rt,RT.pick,oI,pI] at e;obtain ⟨rfl,rfl,rfl,rfl,rfl⟩:=e;exact ⟨h,rfl,rfl,rfl,rfl⟩
 | .pan _ _ _,_,_,_,_,_,h=>by cases h
 | .node x a b,_,_,_,_,_,e=>by
   simp only [R.rt,RT.pick] at e;cases x
   · exact rt_pick (r:=b) e
   · exact rt_pick (r:=a) e
def inB (x:U) (n:Nat):Bool:=cond (BitVec.sle (K (-128)) x) (BitVec.sle x (K (-(n:Int)))) false
def stackE (v:VW) (n:Nat):U:=cond (v.k==K 0) (K 15) (cond (v.k==K 3) (cond (inB v.n n) (K 0) (K 17)) (K 14))
def posW (x:U):Nat:=(x+K 128).toNat
def bytesE (how:Nat->U) (v:VW) (n:Nat):U:=cond (stackE v n==K 0) (readN how (posW v.n) n) (stackE v n)
theorem inB_nat {x:U} {n:Nat} (h:inB x n=true) (hn:n<2 ^ 63):posW x+n≤128/\x+K 128=kk (posW x)/\vof .i64 x=(posW x:Int)-128:=by
 unfold inB at h;have hc:∀{p q:Bool},cond p q false=true->p=true/\q=true:=by intro p q;cases p<;>simp
 obtain ⟨h1,h2⟩:=hc h;rw [BitVec.sle,decide_eq_true_eq] at h1 h2;have e1:(K (-128)).toInt = -128:=rfl;have e2:(K (-(n:Int))).toInt = -(n:Int):=by unfold K;rw [BitVec.toInt_ofInt,Int.bmod_def];split<;>omega
 rw [e1] at h1;rw [e2] at h2;have h3:=BitVec.toInt_eq_toNat_cond x;have h4:=x.isLt;have e3:(K 128).toNat=128:=rfl;have hp:posW x=(x.toNat+128) % 2 ^ 64:=by unfold posW;rw [BitVec.toNat_add,e3]
 have h5:(posW x:Int)=x.toInt+128:=by rw [hp];split at h3<;>omega
 refine ⟨by omega,(kk_toNat _).symm,?_⟩
 rw [vof_toInt];omega
def bytesP (w:World) (how flat:Nat->U) (v:VW) (n:Nat) (e:Ending) (w':World):Prop:=
 Below w.heap.size w w'/\(bytesE how v n=K 0->∃B cap,w.heap.size≤B/\n≤cap/\e = .returned (.tuple #[.slice (some ⟨B,0,none⟩) n cap,.int .i64 0])/\Holds w' B (.arr 1 (.lit n) (.int .u8 (byF flat (posW v.n))))) /\
  (bytesE how v n≠K 0->e = .returned (.tuple #[.slice none 0 0,.int .i64 (vof .i64 (bytesE how v n))]))
def errT (c:Int) (ok:A) (b0:Option Blk):RT :=.leaf ok (.tup [.a .nils,.a (.lit .i64 c)]) [] b0 none
def okBy (x:U) (n:Nat):A :=.b (Nat.ble ((x+K 128).toNat+n) 128)
def bytT (how flat:Nat->U) (v:VW) (n:Nat) (id:Nat) (b0:Option Blk):RT:=
 .node (!(v.k != K 0)) (errT 15 .tt b0) (.node (!(v.k==K 3)) (errT 14 .tt b0) (.node (!(inB v.n n)) (errT 17 .tt b0)
  (.node (readN how (v.n+K 128).toNat n==K 15) (errT 15 (okBy v.n n) b0) (.node (readN how (v.n+K 128).toNat n==K 14) (errT 14 (okBy v.n n) b0)
    (.leaf (okBy v.n n) (.tup [.a (.sl id [] 1 (.lit 0) (.lit n) (some (.lit n))),.a (.lit .i64 0)]) [] b0 (some ⟨true,.arr 1 (.lit n) (.int .u8 (byF flat (v.n+K 128).toNat))⟩))))))
theorem bytV_ev (s:VF) (v:VW) {n:Nat} (h:isSz n=true):(evalF cxD ΓN 400 20 55 [pt 0,.t v.t,one (.lit .i64 (.ofNat n))] (hM [(0,⟨true,s.t⟩)] 1)).rt=bytT s.how s.flat v n 4 (some ⟨true,s.t⟩):=by
 rcases isSz_cases h with rfl|rfl|rfl|rfl|rfl<;>kernel_rfl
theorem vw_rel0 {v:VW} {u:Value} (h:(V.t v.t).rel nu0 u) (ν:Nu):(V.t v.t).rel ν u:=V.rel_free (x :=.t v.t) rfl h
theorem call_calm {P:Program} {f:FuncId} {args:List V} {v:V} {h':H} {t:T} (hf:FnOK P f args (hM [(0,⟨true,t⟩)] 1) v h') (hw:h'.wr=[]) {r:Nat} {w:World} (hh:Holds w r t) {vs:List Value} (ha:relV (nuOne r) args vs) :
 Calls P f vs.toArray w fun e w'=>∃u ν',e = .returned u/\v.rel ν' u/\Below w.heap.size w w'/\Goes (fun _=>True) (nuOne r) w (hM [(0,⟨true,t⟩)] 1).mark ν' w' h':=by
 refine (hf (fun _=>True) (nuOne r) w vs (fun _ _=>trivial) (fun _ _=>trivial) (mem_one hh) ha).mono ?_;rintro e w' ⟨u,ν',rfl,hu,g⟩;have g':Goes (fun _=>True) (nuOne r) w (hM [(0,⟨true,t⟩)] 1).mark ν' w' h':=g;exact ⟨u,ν',rfl,hu,goes_below hw (mem_one hh) (S:=fun _=>True) g',g'⟩
theorem tup_err {ν:Nu} {c:Int} {u:Value} (h:(V.tup [.a .nils,.a (.lit .i64 c)]).rel ν u):u = .tuple #[.slice none 0 0,.int .i64 c]:=by
 obtain ⟨us,rfl,hus⟩:=h
 match us,hus with
 | ⟨[u1,u2]⟩,hus=>
   obtain ⟨q1,q2,_⟩:=hus;have q1:(A.nils).rel ν u1:=q1;have q2:(A.lit .i64 c).rel ν u2:=q2;simp only [A.rel] at q1 q2;obtain ⟨rfl,_⟩:=q2;subst q1;rfl
theorem tup_sl {ν:Nu} {id n:Nat} {c:Option Ix} {z:Int} {u:Value} (h:(V.tup [.a (.sl id [] 1 (.lit 0) (.lit n) c),.a (.lit .i64 z)]).rel ν u):∃v,u = .tuple #[v,.int .i64 z]/\(one (.sl id [] 1 (.lit 0) (.lit n) c)).rel ν v:=by
 obtain ⟨us,rfl,hus⟩:=h
 match us,hus with
 | ⟨[u1,u2]⟩,hus=>
   obtain ⟨q1,q2,_⟩:=hus;have q2:(A.lit .i64 z).rel ν u2:=q2;simp only [A.rel] at q2;obtain ⟨rfl,_⟩:=q2;exact ⟨u1,rfl,q1⟩
theorem sl_new {r:Nat} {w w':World} {ν':Nu} {h':H} {t t':T} {id n:Nat} {c:Option Ix} {u:Value} (g:Goes (fun _=>True) (nuOne r) w (hM [(0,⟨true,t⟩)] 1).mark ν' w' h') (hid:id≠0) (hb:h'.m.get id=some ⟨true,t'⟩) (hn:notMp t'=true) (hf:t'.free=true) (h0:0<n)
 (hu:(one (.sl id [] 1 (.lit 0) (.lit n) c)).rel ν' u):∃B cap,w.heap.size≤B/\n≤cap/\u = .slice (some ⟨B,0,none⟩) n cap/\Holds w' B t':=by
 have hu:(A.sl id [] 1 (.lit 0) (.lit n) c).rel ν' u:=hu;simp only [A.rel] at hu;obtain ⟨B,base,o,cap,hν,rfl,ho,hlen,_⟩:=hu;have hsn:=g.mem.seen id ⟨true,t'⟩ hb (.inl trivial);obtain ⟨r',base',cs,ty,fr,pre,us,post,q1,q2,q3,q4,q5,q6⟩:=hsn.cells hn;rw [hν] at q1;cases q1;obtain ⟨rfl,_⟩:=q6 rfl;have hlen:n≤cap:=hlen;have ho:o=0:=by
  have:=ho (by omega)
  simpa [Ix.val,pathOff] using this
 subst ho;refine ⟨B,cap,g.new id B 0 ?_ hν,hlen,rfl,seen_holds hsn hn hf hν⟩;unfold nuOne;rw [if_neg hid]
theorem args_bytes {r n:Nat} {v:VW} {vv:Value} (hv:(V.t v.t).rel nu0 vv) (hn:isSz n=true):relV (nuOne r) [pt 0,.t v.t,one (.lit .i64 (.ofNat n))] [.pointer (some ⟨r,0,none⟩),vv,.int .i64 (.ofNat n)]:=by
 refine ⟨?_,vw_rel0 hv _,?_,trivial⟩
 · show (A.ptr 0 []).rel (nuOne r) _;simp only [A.rel];exact ⟨r,0,rfl,rfl⟩
 · show (A.lit .i64 (.ofNat n)).rel (nuOne r) _;simp only [A.rel];exact ⟨trivial,by rcases isSz_cases hn with rfl|rfl|rfl|rfl|rfl<;>rfl⟩
theorem isSz_lt {n:Nat} (h:isSz n=true):0<n/\n<2 ^ 63:=by
 rcases isSz_cases h with rfl|rfl|rfl|rfl|rfl<;>exact ⟨by decide,by decide⟩
theorem bytes55 {w:World} {r n:Nat} {s:VF} {v:VW} {vv:Value} (hn:isSz n=true) (hh:Holds w r s.t) (hv:(V.t v.t).rel nu0 vv) :
 Calls Tryz.prog 55 #[.pointer (some ⟨r,0,none⟩),vv,.int .i64 (.ofNat n)] w (bytesP w s.how s.flat v n):=by
 obtain ⟨hn0,hn63⟩:=isSz_lt hn;have ev:=bytV_ev s v hn;have err:∀(c:Int) (ok:A),(bytT s.how s.flat v n 4 (some ⟨true,s.t⟩)).pick=some (ok,.tup [.a .nils,.a (.lit .i64 c)],[],some ⟨true,s.t⟩,none)->okB ok=true->bytesE s.how v n=K c->K c≠K 0->vof .i64 (K c)=c ->
  Calls Tryz.prog 55 #[.pointer (some ⟨r,0,none⟩),vv,.int .i64 (.ofNat n)] w (bytesP w s.how s.flat v n):=fun c ok hp hok he hc hcv=>by
  rw [← ev] at hp;obtain ⟨h',hp,hw,_⟩:=rt_pick hp;obtain ⟨_,hfn⟩:=evalF_fn (XD ΓN_ok) rfl hp hok;refine (call_calm hfn hw hh (args_bytes hv hn)).mono ?_;rintro e w' ⟨u,ν',rfl,hu,hb,_⟩;refine ⟨hb,fun h=>absurd (he.symm.trans h) hc,fun _ => ?_⟩;rw [tup_err hu,he,hcv]
 cases h0:v.k==K 0
 · cases h3:v.k==K 3
   · refine err 14 .tt ?_ rfl ?_ (by decide) rfl
     · simp only [bytT,RT.pick,errT,bne,h0,h3,Bool.not_false,Bool.not_true,cond_true,cond_false]
     · simp only [bytesE,stackE,h0,h3,cond_false];rfl
   · cases hi:inB v.n n
     · refine err 17 .tt ?_ rfl ?_ (by decide) rfl
       · simp only [bytT,RT.pick,errT,bne,h0,h3,hi,Bool.not_false,Bool.not_true,cond_true,cond_false]
       · simp only [bytesE,stackE,h0,h3,hi,cond_false,cond_true];rfl
     · obtain ⟨hp1,_,_⟩:=inB_nat hi hn63;have hok:okB (okBy v.n n)=true:=nB hp1;have hE:bytesE s.how v n=readN s.how (posW v.n) n:=by
        simp only [bytesE,stackE,h0,h3,hi,cond_false,cond_true];rfl
       cases c1:readN s.how (v.n+K 128).toNat n==K 15
       · cases c2:readN s.how (v.n+K 128).toNat n==K 14
         · have hz:readN s.how (posW v.n) n=K 0:=by
            rcases readN_vals s.how (posW v.n) n with e|e|e
            · exact e
            · have e':readN s.how (v.n+K 128).toNat n=K 14:=e;rw [e'] at c2;exact absurd c2 (by decide)
            · have e':readN s.how (v.n+K 128).toNat n=K 15:=e;rw [e'] at c1;exact absurd c1 (by decide)
           have hp:(bytT s.how s.flat v n 4 (some ⟨true,s.t⟩)).pick=some (okBy v.n n,.tup [.a (.sl 4 [] 1 (.lit 0) (.lit n) (some (.lit n))),.a (.lit .i64 0)],[],some ⟨true,s.t⟩,some ⟨true,.arr 1 (.lit n) (.int .u8 (byF s.flat (v.n+K 128).toNat))⟩):=by simp only [bytT,RT.pick,errT,bne,h0,h3,hi,c1,c2,Bool.not_false,Bool.not_true,cond_false]
           rw [← ev] at hp;obtain ⟨h',hp,hw,_,hbk⟩:=rt_pick hp;obtain ⟨_,hfn⟩:=evalF_fn (XD ΓN_ok) rfl hp hok;refine (call_calm hfn hw hh (args_bytes hv hn)).mono ?_;rintro e w' ⟨u,ν',rfl,hu,hb,g⟩;obtain ⟨v',rfl,hv'⟩:=tup_sl hu;obtain ⟨B,cap,hB,hcap,rfl,hH⟩:=sl_new (id:=4) g (by decide) hbk rfl rfl hn0 hv'
           exact ⟨hb,fun _=>⟨B,cap,hB,hcap,rfl,hH⟩,fun h=>absurd (hE.trans hz) h⟩
         · refine err 14 (okBy v.n n) ?_ hok ?_ (by decide) rfl
           · simp only [bytT,RT.pick,errT,bne,h0,h3,hi,c1,c2,Bool.not_false,Bool.not_true,cond_true,cond_false]
           · rw [hE];exact eq_of_beq c2
       · refine err 15 (okBy v.n n) ?_ hok ?_ (by decide) rfl
         · simp only [bytT,RT.pick,errT,bne,h0,h3,hi,c1,Bool.not_false,Bool.not_true,cond_true,cond_false]
         · rw [hE];exact eq_of_beq c1
 · refine err 15 .tt ?_ rfl ?_ (by decide) rfl
   · simp only [bytT,RT.pick,errT,bne,h0,Bool.not_false,Bool.not_true,cond_true]
   · simp only [bytesE,stackE,h0,cond_true];rfl
def nuAt (b off:Nat):Nu:=fun i=>if i=0 then some (b,off) else none
theorem nuAt_some {b off i r base:Nat} (h:nuAt b off i=some (r,base)):i=0/\r=b/\base=off:=by
 unfold nuAt at h;split at h
 · cases h;exact ⟨by assumption,rfl,rfl⟩
 · cases h
theorem mem_at {W:World} {b off:Nat} {t:T} (h:HoldsAt W b off t):Mem (fun _=>True) (nuAt b off) W (hM [(0,⟨false,t⟩)] 1):=by
 have hget:∀i x,(hM [(0,⟨false,t⟩)] 1).m.get i=some x->i=0/\x=⟨false,t⟩:=fun i x e=>by have:=get_memT _ i x e;simp only [List.mem_singleton,pI] at this;exact this
 refine ⟨⟨fun i r' b' e=>by obtain ⟨_,rfl,_⟩:=nuAt_some e;exact h.lt,fun i x e hrw=>by (obtain ⟨_,rfl⟩:=hget i x e;cases hrw),fun i hi => ?_,fun i x e=>by obtain ⟨rfl,_⟩:=hget i x e;exact Nat.lt_succ_self _,Nat.le_refl _,fun g hg=>(by cases hg)⟩,fun i x e _ => ?_⟩
 · have hi:1≤i:=hi;unfold nuAt;rw [if_neg (by omega)]
 · obtain ⟨rfl,rfl⟩:=hget i x e;obtain ⟨cs,ty,fr,pre,vs,post,h1,h2,h3,h4⟩:=h;exact .inl ⟨b,off,cs,ty,fr,pre,vs,post,by simp [nuAt],h1,h2,h3,T.rel_mono (fun i p e=>by cases e) h4,fun h=>by cases h⟩
theorem call_at {P:Program} {f:FuncId} {args:List V} {v:V} {h':H} {t:T} (hf:FnOK P f args (hM [(0,⟨false,t⟩)] 1) v h') {b off:Nat} {w:World} (hh:HoldsAt w b off t) {vs:List Value} (ha:relV (nuAt b off) args vs) (hvf:v.free=true) (ν:Nu) :
 Calls P f vs.toArray w fun e w'=>∃u,e = .returned u/\v.rel ν u/\Below w.heap.size w w':=by
 refine (hf (fun _=>True) (nuAt b off) w vs (fun _ _=>trivial) (fun _ _=>trivial) (mem_at hh) ha).mono ?_;rintro e w' ⟨u,ν',rfl,hu,g⟩;have hm:=mem_at hh;refine ⟨u,rfl,V.rel_free hvf hu,g.frm.os,g.frm.tape,g.frm.output,g.frm.size,fun r hr=>g.frm.block r hr fun id base hid => ?_⟩;obtain ⟨rfl,rfl,rfl⟩:=nuAt_some hid;have hlo:h'.lo=1:=g.ext.lo;refine ⟨by rw [hlo];decide,fun hw => ?_⟩
 rcases g.ext.wrw 0 hw with h3|⟨b0,h3,h4⟩|h3
 · cases h3
 · have e:(hM [(0,(⟨false,t⟩:Blk))] 1).m.get 0=some ⟨false,t⟩:=rfl;have h3':(hM [(0,(⟨false,t⟩:Blk))] 1).m.get 0=some b0:=h3;rw [e] at h3';cases h3';cases h4
 · have h3:1≤0:=h3;omega
def byU (g:Nat->U) (j:Nat):U:=nrm .u8 (g j)
def getW (g:Nat->U) (a:Nat):U:=
 ((((((((K 0)|||(byU g a<<<(K 0).toNat))|||(byU g (a+1)<<<(K 8).toNat))|||(byU g (a+2)<<<(K 16).toNat))|||(byU g (a+3)<<<(K 24).toNat))|||(byU g (a+4)<<<(K 32).toNat))|||(byU g (a+5)<<<(K 40).toNat))|||(byU g (a+6)<<<(K 48).toNat))|||(byU g (a+7)<<<(K 56).toNat)
def getQ (g:Nat->U) (a:Nat):U:=
 K 256*(K 256*(K 256*(K 256*(K 256*(K 256*(K 256*(K 0+byU g (a+7))+byU g (a+6))+byU g (a+5))+byU g (a+4))+byU g (a+3))+byU g (a+2))+byU g (a+1))+byU g a
theorem or_step {x y:U} {k:Nat} (hk:k+8≤64) (hx:x.toNat<2 ^ k) (hy:y.toNat<256):(x|||(y<<<k)).toNat=x.toNat+y.toNat*2 ^ k/\(x|||(y<<<k)).toNat<2 ^ (k+8):=by
 have h1:(y<<<k).toNat=y.toNat<<<k:=by rw [BitVec.toNat_shiftLeft,Nat.shiftLeft_eq];refine Nat.mod_eq_of_lt ?_;have:y.toNat*2 ^ k<2 ^ 8*2 ^ k:=Nat.mul_lt_mul_of_pos_right hy (Nat.two_pow_pos k);rw [← Nat.pow_add] at this;exact Nat.lt_of_lt_of_le this (Nat.pow_le_pow_right (by decide) (by omega))
 have h2:(x|||(y<<<k)).toNat=x.toNat+y.toNat*2 ^ k:=by rw [BitVec.toNat_or,h1,Nat.or_comm,← Nat.shiftLeft_add_eq_or_of_lt hx,Nat.shiftLeft_eq,Nat.add_comm]
 refine ⟨h2,?_⟩;rw [h2];have:y.toNat*2 ^ k+2 ^ k≤256*2 ^ k:=by
  have:=Nat.mul_le_mul_right (2 ^ k) (show y.toNat+1≤256 by omega)
  rw [Nat.add_mul,Nat.one_mul] at this;exact this
 have e:2 ^ (k+8)=256*2 ^ k:=by rw [Nat.pow_add,Nat.mul_comm]
 omega
theorem byU_lt (g:Nat->U) (j:Nat):(byU g j).toNat<256:=by
 have e:byU g j=((g j).setWidth 8).setWidth 64:=rfl;rw [e,BitVec.toNat_setWidth];have:=((g j).setWidth 8).isLt;omega
theorem get_eq (g:Nat->U) (a:Nat):getW g a=getQ g a:=by
 apply BitVec.eq_of_toNat_eq;have h0:=byU_lt g a;have h1:=byU_lt g (a+1);have h2:=byU_lt g (a+2);have h3:=byU_lt g (a+3);have h4:=byU_lt g (a+4);have h5:=byU_lt g (a+5);have h6:=byU_lt g (a+6);have h7:=byU_lt g (a+7);unfold getW getQ;generalize byU g a=y0 at *;generalize byU g (a+1)=y1 at *;generalize byU g (a+2)=y2 at *;generalize byU g (a+3)=y3 at *;generalize byU g (a+4)=y4 at *;generalize byU g (a+5)=y5 at *;generalize byU g (a+6)=y6 at *;generalize byU g (a+7)=y7 at *;have e0:(K 0).toNat=0:=rfl;have e1:(K 8).toNat=8:=rfl;have e2:(K 16).toNat=16:=rfl;have e3:(K 24).toNat=24:=rfl;have e4:(K 32).toNat=32:=rfl;have e5:(K 40).toNat=40:=rfl;have e6:(K 48).toNat=48:=rfl;have e7:(K 56).toNat=56:=rfl;have e8:(K 256).toNat=256:=rfl;rw [e0,e1,e2,e3,e4,e5,e6,e7];obtain ⟨a0,b0⟩:=or_step (x:=K 0) (k:=0) (by decide) (by rw [e0];decide) h0
 obtain ⟨a1,b1⟩:=or_step (k:=8) (by decide) b0 h1
 obtain ⟨a2,b2⟩:=or_step (k:=16) (by decide) b1 h2
 obtain ⟨a3,b3⟩:=or_step (k:=24) (by decide) b2 h3
 obtain ⟨a4,b4⟩:=or_step (k:=32) (by decide) b3 h4
 obtain ⟨a5,b5⟩:=or_step (k:=40) (by decide) b4 h5
 obtain ⟨a6,b6⟩:=or_step (k:=48) (by decide) b5 h6
 obtain ⟨a7,b7⟩:=or_step (k:=56) (by decide) b6 h7
 rw [a7,a6,a5,a4,a3,a2,a1,a0];simp only [BitVec.toNat_add,BitVec.toNat_mul,e0,e8];omega
def isAt (m j:Nat):Bool:=Nat.blt j m&&Nat.ble m 4
theorem isAt_cases {m j:Nat} (h:isAt m j=true):(m=1/\j=0)\/(m=2/\j=0)\/(m=2/\j=1)\/(m=3/\j=0)\/(m=3/\j=1)\/(m=3/\j=2)\/(m=4/\j=0)\/(m=4/\j=1)\/(m=4/\j=2)\/(m=4/\j=3):=by
 unfold isAt at h;simp only [bA] at h;have h1:=nL h.1;have h2:=nL h.2;omega
def getA (m j:Nat):List V:=[one (.sl 0 [] 1 (.lit 0) (.lit (8*m)) none),one (.lit .i64 (Int.ofNat (8*j))),one (.lit .i64 8)]
def getM (m:Nat) (g:Nat->U):H:=hM [(0,⟨false,.arr 1 (.lit (8*m)) (.int .u8 g)⟩)] 1
theorem get151_ev (g:Nat->U) {m j:Nat} (h:isAt m j=true):(evalF cxK noΓ 400 20 151 (getA m j) (getM m g)).res=some (.tt,.tup [.a (.i .u64 (getW g (8*j))),.a .tt]):=by
 rcases isAt_cases h with ⟨rfl,rfl⟩|⟨rfl,rfl⟩|⟨rfl,rfl⟩|⟨rfl,rfl⟩|⟨rfl,rfl⟩|⟨rfl,rfl⟩|⟨rfl,rfl⟩|⟨rfl,rfl⟩|⟨rfl,rfl⟩|⟨rfl,rfl⟩<;>kernel_rfl
theorem get105_ev (g:Nat->U) {m j:Nat} (h:isAt m j=true):(evalF cxK noΓ 400 20 105 (getA m j) (getM m g)).res=some (.tt,.tup [.a (.i .u64 (getQ g (8*j))),.a .tt]):=by
 rcases isAt_cases h with ⟨rfl,rfl⟩|⟨rfl,rfl⟩|⟨rfl,rfl⟩|⟨rfl,rfl⟩|⟨rfl,rfl⟩|⟨rfl,rfl⟩|⟨rfl,rfl⟩|⟨rfl,rfl⟩|⟨rfl,rfl⟩|⟨rfl,rfl⟩<;>kernel_rfl
theorem res_some {r:R} {ok:A} {v:V} (h:r.res=some (ok,v)):∃h',r.pick=some (ok,v,h'):=by
 unfold R.res at h;cases hp:r.pick with
 | none=>rw [hp] at h;cases h
 | some p=>
   obtain ⟨ok',v',h'⟩:=p;rw [hp] at h;simp only [oI,pI] at h;obtain ⟨rfl,rfl⟩:=h;exact ⟨h',rfl⟩
theorem getA_rel {b off m j cap:Nat} (h:isAt m j=true) (hcap:8*m≤cap):relV (nuAt b off) (getA m j) [.slice (some ⟨b,off,none⟩) (8*m) cap,.int .i64 (8*(j:Int)),.int .i64 8]:=by
 refine ⟨?_,?_,?_,trivial⟩
 · show (A.sl 0 [] 1 (.lit 0) (.lit (8*m)) none).rel (nuAt b off) _;simp only [A.rel];exact ⟨b,off,off,cap,by simp [nuAt],rfl,fun _=>by simp [pathOff,Ix.val],hcap,fun _ e=>by cases e⟩
 · show (A.lit .i64 (Int.ofNat (8*j))).rel (nuAt b off) _;simp only [A.rel];refine ⟨by simp,?_⟩
   rcases isAt_cases h with ⟨rfl,rfl⟩|⟨rfl,rfl⟩|⟨rfl,rfl⟩|⟨rfl,rfl⟩|⟨rfl,rfl⟩|⟨rfl,rfl⟩|⟨rfl,rfl⟩|⟨rfl,rfl⟩|⟨rfl,rfl⟩|⟨rfl,rfl⟩<;>rfl
 · show (A.lit .i64 8).rel (nuAt b off) _;simp only [A.rel];exact ⟨trivial,rfl⟩
theorem get_tup {ν:Nu} {x:U} {u:Value} (h:(V.tup [.a (.i .u64 x),.a .tt]).rel ν u):u = .tuple #[.int .u64 (vof .u64 x),.bool true]:=by
 obtain ⟨us,rfl,hus⟩:=h
 match us,hus with
 | ⟨[u1,u2]⟩,hus=>
   obtain ⟨q1,q2,_⟩:=hus;have q1:(A.i .u64 x).rel ν u1:=q1;have q2:(A.tt).rel ν u2:=q2;simp only [A.rel] at q1 q2;subst q1 q2;rfl
theorem get151 {w:World} {b off m j cap:Nat} {g:Nat->U} (h:isAt m j=true) (hcap:8*m≤cap) (hh:HoldsAt w b off (.arr 1 (.lit (8*m)) (.int .u8 g))) :
 Calls Tryz.prog 151 #[.slice (some ⟨b,off,none⟩) (8*m:Nat) cap,.int .i64 (8*(j:Int)),.int .i64 8] w fun e w'=>e = .returned (.tuple #[.int .u64 (vof .u64 (getW g (8*j))),.bool true])/\Below w.heap.size w w':=by
 obtain ⟨h',hp⟩:=res_some (get151_ev g h);obtain ⟨_,hfn⟩:=evalF_fn (XK noΓ_ok) rfl hp rfl;refine (call_at hfn hh (getA_rel h hcap) rfl nu0).mono ?_;rintro e w' ⟨u,rfl,hu,hb⟩;exact ⟨by rw [get_tup hu],hb⟩
theorem get105 {w:World} {b off m j cap:Nat} {g:Nat->U} (h:isAt m j=true) (hcap:8*m≤cap) (hh:HoldsAt w b off (.arr 1 (.lit (8*m)) (.int .u8 g))) :
 Calls Tryz.prog 105 #[.slice (some ⟨b,off,none⟩) (8*m:Nat) cap,.int .i64 (8*(j:Int)),.int .i64 8] w fun e w'=>e = .returned (.tuple #[.int .u64 (vof .u64 (getW g (8*j))),.bool true])/\Below w.heap.size w w':=by
 obtain ⟨h',hp⟩:=res_some (get105_ev g h);obtain ⟨_,hfn⟩:=evalF_fn (XK noΓ_ok) rfl hp rfl;refine (call_at hfn hh (getA_rel h hcap) rfl nu0).mono ?_;rintro e w' ⟨u,rfl,hu,hb⟩;exact ⟨by rw [get_tup hu,get_eq],hb⟩
end Go.WE
namespace Go.Proofs.YtoeealkcacgcgaaGreatDoor.Wor
open Go Go.RowKit
def numsL (g:Nat->Int) (k:Nat):List Value:=(List.range k).map fun j =>.int .u64 (g j)
theorem numsL_succ (g:Nat->Int) (k:Nat):numsL g (k+1)=numsL g k++[.int .u64 (g k)]:=by simp [numsL,List.range_succ]
theorem info26:(Tryz.prog.info? 26).map (fun i=>(i.zero,i.size,i.bytes))=some (some (.int .u64 0),1,8):=by kernel_rfl
theorem ownsRow_below {B:Nat} {e:TypeId} {k:Nat} {v:Value} {n:Nat} {xs:List Value} {w w':World} (h:w.ownsRow B e k v n xs) (hb:Below w.heap.size w w'):w'.ownsRow B e k v n xs:=by
 obtain ⟨h1,h2⟩:=h;refine ⟨h1,?_⟩;rcases h2 with h2|⟨g,cap,cur,r1,r2,r3,r4⟩
 · exact .inl h2
 · exact .inr ⟨g,cap,cur,r1,r2,by rw [hb.block g (Array.getElem?_eq_some_iff.1 r3).1];exact r3,r4⟩
set_option maxHeartbeats 800000 in
set_option maxRecDepth 1000000 in
theorem words103 (b off cap m:Nat) (hm:m≤4) (g:Nat->Int) (w:World) (hb:b<w.heap.size)
 (hget:∀j,j<m->∀w1:World,w1.heap[b]? = w.heap[b]? -> Calls Tryz.prog 151 #[.slice (some ⟨b,off,none⟩) (8*m:Nat) cap,.int .i64 (8*(j:Int)),.int .i64 8] w1 fun e w'=>e = .returned (.tuple #[.int .u64 (g j),.bool true])/\Below w1.heap.size w1 w') :
 Calls Tryz.prog 103 #[.slice (some ⟨b,off,none⟩) (8*m:Nat) cap] w fun e w'=>
  ∃v,e = .returned v/\w'.ownsRow w.heap.size 26 1 v m (numsL g m)/\Below w.heap.size w w':=by
 obtain ⟨i0,hi,hz0,hz1,hz2⟩:=info_parts info26;have hq:(((8*m:Nat):Int).tdiv 8)=(m:Int):=by
  have h:m=0\/m=1\/m=2\/m=3\/m=4:=by omega
  rcases h with rfl|rfl|rfl|rfl|rfl<;>rfl
 go_enter Tryz.func103,Tryz.ntmps103
 go_wp2_with fail
 go_loopw [2,9] (fun v i wr=>∃k:Nat,k≤m/\i = .int .i64 k/\wr.ownsRow w.heap.size 26 1 v k (numsL g k)/\Below w.heap.size w wr) (fun _ i _=>m-(intOf i).toNat)
 case atStart=>exact ⟨0,Nat.zero_le _,rfl,World.ownsRow_nil _ _ _ _,Below.refl _ _⟩
 case round=>
  obtain ⟨k,hk,rfl,hown,hnx⟩:=hrel;by_cases hlt:k<m
  · have hg:=hget k hlt wr (hnx.block b hb)
    go_wp2_with fail
    refine hg.mono ?_;rintro e w1 ⟨rfl,hbel⟩;have hown1:=ownsRow_below hown hbel;have hnx1:Below w.heap.size w w1:=hnx.trans (hbel.mono hnx.size);clear hown hnx hbel hg
    go_wp2_with (first
     | (at_builtin;refine wpList_append_own _ rfl _ _ 25 rfl w.heap.size 26 i0 (.int .u64 0) 1 8 Tryz.underlying25 hi hz0 hz1 hz2 rfl (by decide) _ _ _ rfl (hown1.alloc _) ⟨w1.heap.size,0,none⟩ 1 1 [.int .u64 (g k)] rfl rfl ?c1 ?c2 ?c3 ?c4 ?c5 ?_)
     | go_in)
    case c1=>
     intro j u hj
     match j,hj with
     | 0,hj=>simp at hj;subst hj;simp [Addr.add]
    case c2=>intro u hu;simp at hu;subst hu;rfl
    case c3=>unfold maxLen;omega
    case c4=>omega
    case c5=>have:=hnx1.size;simp;omega
    intro v' w2 hown' hgrow _;have hb':Below w.heap.size w w2:=by
     refine (hnx1.alloc hnx1.size (.cells #[.int .u64 (g k)] 26)).trans ⟨hgrow.os,hgrow.tape,hgrow.output,hgrow.size,fun r hr=>hgrow.block r ?_ ?_⟩
     · have:=hnx1.size;simp;omega
     · intro e;have:=hown1.lt r e.symm;omega
    rw [← numsL_succ] at hown';clear hgrow hown1 hnx1
    go_wp2
    go_roundw
    case rel=>exact ⟨k+1,by omega,by go_num,hown',hb'⟩
    case measure=>simp [intOf];omega
  · obtain rfl:k=m:=by omega
    go_wp2
    go_ret
    exact ⟨_,rfl,hown,hnx⟩
set_option maxHeartbeats 800000 in
set_option maxRecDepth 1000000 in
theorem words53 (b off cap m:Nat) (hm:m≤4) (g:Nat->Int) (w:World) (hb:b<w.heap.size)
 (hget:∀j,j<m->∀w1:World,w1.heap[b]? = w.heap[b]? -> Calls Tryz.prog 105 #[.slice (some ⟨b,off,none⟩) (8*m:Nat) cap,.int .i64 (8*(j:Int)),.int .i64 8] w1 fun e w'=>e = .returned (.tuple #[.int .u64 (g j),.bool true])/\Below w1.heap.size w1 w') :
 Calls Tryz.prog 53 #[.slice (some ⟨b,off,none⟩) (8*m:Nat) cap] w fun e w'=>
  ∃v,e = .returned v/\w'.ownsRow w.heap.size 26 1 v m (numsL g m)/\Below w.heap.size w w':=by
 obtain ⟨i0,hi,hz0,hz1,hz2⟩:=info_parts info26
 go_enter Tryz.func53,Tryz.ntmps53
 go_wp2_with fail
 go_loopw [3,4] (fun v i wr=>∃k:Nat,k≤m/\i = .int .i64 (8*(k:Int))/\wr.ownsRow w.heap.size 26 1 v k (numsL g k)/\Below w.heap.size w wr) (fun _ i _=>8*m-(intOf i).toNat)
 case atStart=>exact ⟨0,Nat.zero_le _,rfl,World.ownsRow_nil _ _ _ _,Below.refl _ _⟩
 case round=>
  obtain ⟨k,hk,rfl,hown,hnx⟩:=hrel;by_cases hlt:k<m
  · have hg:=hget k hlt wr (hnx.block b hb)
    go_wp2_with fail
    refine hg.mono ?_;rintro e w1 ⟨rfl,hbel⟩;have hown1:=ownsRow_below hown hbel;have hnx1:Below w.heap.size w w1:=hnx.trans (hbel.mono hnx.size);clear hown hnx hbel hg
    go_wp2_with (first
     | (at_builtin;refine wpList_append_own _ rfl _ _ 25 rfl w.heap.size 26 i0 (.int .u64 0) 1 8 Tryz.underlying25 hi hz0 hz1 hz2 rfl (by decide) _ _ _ rfl (hown1.alloc _) ⟨w1.heap.size,0,none⟩ 1 1 [.int .u64 (g k)] rfl rfl ?c1 ?c2 ?c3 ?c4 ?c5 ?_)
     | go_in)
    case c1=>
     intro j u hj
     match j,hj with
     | 0,hj=>simp at hj;subst hj;simp [Addr.add]
    case c2=>intro u hu;simp at hu;subst hu;rfl
    case c3=>unfold maxLen;omega
    case c4=>omega
    case c5=>have:=hnx1.size;simp;omega
    intro v' w2 hown' hgrow _;have hb':Below w.heap.size w w2:=by
     refine (hnx1.alloc hnx1.size (.cells #[.int .u64 (g k)] 26)).trans ⟨hgrow.os,hgrow.tape,hgrow.output,hgrow.size,fun r hr=>hgrow.block r ?_ ?_⟩
     · have:=hnx1.size;simp;omega
     · intro e;have:=hown1.lt r e.symm;omega
    rw [← numsL_succ] at hown';clear hgrow hown1 hnx1
    go_wp2
    go_roundw
    case rel=>exact ⟨k+1,by omega,by go_num,hown',hb'⟩
    case measure=>simp [intOf];omega
  · obtain rfl:k=m:=by omega
    go_wp2
    go_ret
    exact ⟨_,rfl,hown,hnx⟩
end Go.Proofs.YtoeealkcacgcgaaGreatDoor.Wor
namespace Go.WE
open Go Go.Proofs Go.RowKit
open Go.Proofs.YtoeealkcacgcgaaGreatDoor.Wor (numsL words103 words53)
def wordsF (g:Nat->U) (j:Nat):U:=getW g (8*j)
def szM:Nat->Nat
 | 8=>1|16=>2|24=>3|32=>4|_=>0
theorem szM_some {n:Nat} (h:0<szM n):n=8*szM n/\szM n≤4:=by
 unfold szM at h ⊢;split<;>simp at h ⊢
def wordsSp:List V->H->Option R
 | [.t (.a (.sl id [] 1 (.lit 0) (.lit n) _))],h=>match h.m.get id with
   | some ⟨_,.arr 1 (.lit k) (.int .u8 g)⟩=>match Nat.beq k n&&Nat.blt 0 (szM n) with
     | true=>some (.leaf .tt (one (.sl h.next [] 1 (.lit 0) (.lit (szM n)) none)) ((h.sees [id]).new ⟨true,.arr 1 (.lit (szM n)) (.int .u64 (wordsF g))⟩))
     | false=>none
   | _=>none
 | _,_=>none
theorem wordsSp_inv {args:List V} {h:H} {r:R} (e:wordsSp args h=some r):∃id m c rw g,args=[.t (.a (.sl id [] 1 (.lit 0) (.lit (8*m)) c))]/\0<m/\m≤4/\h.m.get id=some ⟨rw,.arr 1 (.lit (8*m)) (.int .u8 g)⟩ /\
 r = .leaf .tt (one (.sl h.next [] 1 (.lit 0) (.lit m) none)) ((h.sees [id]).new ⟨true,.arr 1 (.lit m) (.int .u64 (wordsF g))⟩):=by
 unfold wordsSp at e;split at e
 · rename_i id n c;split at e
   · rename_i rw k g hb;split at e
     · rename_i hc;simp only [bA] at hc;have h1:=Nat.eq_of_beq_eq_true hc.1;have h2:=nL hc.2;subst h1;obtain ⟨e1,e2⟩:=szM_some h2;cases e;exact ⟨id,szM k,c,rw,g,by rw [← e1],h2,e2,by rw [← e1];exact hb,rfl⟩
     · cases e
   · cases e
 · cases e
theorem nums_arr {ν:Nu} {g:Nat->U} {m:Nat}:(T.arr 1 (.lit m) (.int .u64 g)).rel ν (numsL (fun j=>vof .u64 (g j)) m):=by
 simp only [T.rel];refine ⟨by simp [numsL,Ix.val],fun i hi => ?_⟩
 have hi:i<m:=hi;simp only [Sh.rel];rw [Nat.one_mul,List.drop_eq_getElem_cons (by simpa [numsL] using hi),List.take_succ_cons,List.take_zero]
 simp [numsL]
theorem words_fn {f F:Nat} (hcall:∀(b off cap m:Nat) (hm:m≤4) (g:Nat->Int) (w:World) (hb:b<w.heap.size)
 (hget:∀j,j<m->∀w1:World,w1.heap[b]? = w.heap[b]? -> Calls Tryz.prog F #[.slice (some ⟨b,off,none⟩) (8*m:Nat) cap,.int .i64 (8*(j:Int)),.int .i64 8] w1 fun e w'=>e = .returned (.tuple #[.int .u64 (g j),.bool true])/\Below w1.heap.size w1 w'),
 Calls Tryz.prog f #[.slice (some ⟨b,off,none⟩) (8*m:Nat) cap] w fun e w'=>∃v,e = .returned v/\w'.ownsRow w.heap.size 26 1 v m (numsL g m)/\Below w.heap.size w w')
 (hF:∀{w:World} {b off m j cap:Nat} {g:Nat->U} (h:isAt m j=true) (hcap:8*m≤cap) (hh:HoldsAt w b off (.arr 1 (.lit (8*m)) (.int .u8 g))),Calls Tryz.prog F #[.slice (some ⟨b,off,none⟩) (8*m:Nat) cap,.int .i64 (8*(j:Int)),.int .i64 8] w fun e w'=>e = .returned (.tuple #[.int .u64 (vof .u64 (getW g (8*j))),.bool true])/\Below w.heap.size w w')
 (hent:Enters Tryz.prog f):AnyOK Tryz.prog f wordsSp where
 ent:=hent
 ok:=by
  intro args h r ok v h' he hp hok;obtain ⟨id,m,c,rw,g,rfl,h0,h4,hb,rfl⟩:=wordsSp_inv he;simp only [R.pick,oI,pI] at hp;obtain ⟨rfl,rfl,rfl⟩:=hp;refine fn_made rfl [id] fun S ν w us hm hS hv => ?_
  match us,hv with
  | [v0],⟨r0,_⟩=>
    obtain ⟨B,off,cap,hid,hh,rfl,hcap⟩:=sl_here hm hb (hS id (.head _)) rfl rfl (show 0<(Ix.lit (8*m)).val from by show 0<8*m;omega) r0
    have hlt:B<w.heap.size:=hh.lt;refine (hcall B off cap m h4 (fun j=>vof .u64 (getW g (8*j))) w hlt fun j hj w1 hw1 => ?_).mono ?_
    · refine hF (g:=g) ?_ hcap ?_
      · unfold isAt;rw [bA];exact ⟨nB hj,nB h4⟩
      · obtain ⟨cs,ty,fr,pre,vs,post,q1,q2⟩:=hh;exact ⟨cs,ty,fr,pre,vs,post,hw1.trans q1,q2⟩
    · rintro e w' ⟨v,rfl,hown,hbel⟩;obtain ⟨_,hcase⟩:=hown;rcases hcase with ⟨_,e0⟩|⟨b',cap',cur,rfl,hge,hh',hncap,hcap',hsz,htake⟩
      · omega
      · rw [Nat.mul_one] at htake;have htake:List.take m cur.toList=numsL (fun j=>vof .u64 (wordsF g j)) m:=htake;refine ⟨_,b',rfl,hge,hbel,⟨cur,26,_,cur.toList.drop m,hh',by rw [← htake,List.take_append_drop],nums_arr (ν:=nu0) (g:=wordsF g) (m:=m)⟩,fun ν' _ hν => ?_⟩
        show (A.sl h.next [] 1 (.lit 0) (.lit m) none).rel ν' _;simp only [A.rel];exact ⟨b',0,0,cap',hν,rfl,fun _=>by simp [pathOff,Ix.val],hncap,fun _ e=>by cases e⟩
 pan:=by intro args h r ok v h' he hp hok;obtain ⟨id,m,c,rw,g,rfl,h0,h4,hb,rfl⟩:=wordsSp_inv he;simp [R.pickP] at hp
 ext:=by intro args h r he hlo;obtain ⟨id,m,c,rw,g,rfl,h0,h4,hb,rfl⟩:=wordsSp_inv he;exact (sees_ext [id] h).trans (new_ext (by rw [sees_lo,sees_next];exact hlo) _)
theorem words103_ok:AnyOK Tryz.prog 103 wordsSp:=words_fn words103 get151 (enters_of entK 103 _ Tryz.func103 (by simp [Tryz.f103]))
theorem words53_ok:AnyOK Tryz.prog 53 wordsSp:=words_fn words53 get105 (enters_of entK 53 _ Tryz.func53 (by simp [Tryz.f53]))
end Go.WE
namespace Go.WE
open Go Go.Proofs Go.RowKit
def seenSp:List V->H->Option R
 | [.t (.a (.ptr id [])),.t (.a ak),.t (.a (.lit .i64 (.ofNat n)))],h=>match qfOf h id,i64Of ak,isSz n with
   | some s,some x,true=>some (.leaf (okBy x n) (i64 (readN s.how (posW x) n)) (h.sees [id]))
   | _,_,_=>none
 | _,_=>none
theorem seenSp_inv {args:List V} {h:H} {r:R} (e:seenSp args h=some r):∃id ak n s x,args=[.t (.a (.ptr id [])),.t (.a ak),.t (.a (.lit .i64 (.ofNat n)))]/\qfOf h id=some s/\i64Of ak=some x/\isSz n=true/\r = .leaf (okBy x n) (i64 (readN s.how (posW x) n)) (h.sees [id]):=by
 unfold seenSp at e;split at e
 · split at e
   · rename_i h1 h2 h3;cases e;exact ⟨_,_,_,_,_,rfl,h1,h2,h3,rfl⟩
   · cases e
 · cases e
theorem vof_kk {n:Nat} (h:n<2 ^ 63):vof .i64 (kk n)=n:=by
 rw [vof_toInt];have h1:=BitVec.toInt_eq_toNat_cond (kk n);have h2:(kk n).toNat=n:=kk_nat (by omega)
 rw [h1,h2,if_pos (by omega)]
theorem seen_ok:AnyOK Tryz.prog 104 seenSp where
 ent:=enters_of entK 104 _ Tryz.func104 (by simp [Tryz.f104])
 ok:=by
  intro args h r ok v h' he hp hok;obtain ⟨id,ak,n,s,x,rfl,hs,hx,hn,rfl⟩:=seenSp_inv he;simp only [R.pick,oI,pI] at hp;obtain ⟨rfl,rfl,rfl⟩:=hp;have hbn:posW x+n≤128:=nL hok;refine fn_calm [id] fun S ν w us hm hS hv => ?_
  match us,hv with
  | [v0,v1,v2],⟨r0,r1,r2,_⟩=>
    obtain ⟨r,e1,hh,rfl⟩:=ptr_here hm (qfOf_some hs) (hS id (.head _)) rfl rfl r0;obtain rfl:=i64Of_rel hx r1;have r2:(A.lit .i64 (.ofNat n)).rel ν v2:=r2;simp only [A.rel] at r2;obtain ⟨rfl,_⟩:=r2;have hx2:K 128+x=kk (posW x):=by unfold posW;rw [kk_toNat,BitVec.add_comm]
    have:=seen_calls hbn hx2 hh;rw [vof_kk (isSz_lt hn).2] at this;refine this.mono ?_;rintro e w' ⟨rfl,hb⟩;exact ⟨_,rfl,by show (A.i .i64 _).rel ν _;simp only [A.rel],hb⟩
 pan:=by intro args h r ok v h' he hp hok;obtain ⟨id,ak,n,s,x,rfl,hs,hx,hn,rfl⟩:=seenSp_inv he;simp [R.pickP] at hp
 ext:=by intro args h r he hlo;obtain ⟨id,ak,n,s,x,rfl,hs,hx,hn,rfl⟩:=seenSp_inv he;exact sees_ext [id] h
def ΓE:Gam:=anyΓ 104 seenSp noΓ
theorem ΓE_ok:ΓOK Tryz.prog ΓE:=anyΓ_ok seen_ok noΓ_ok
end Go.WE
namespace Go.Proofs.YtoeealkcacgcgaaGreatDoor.Wor
open Go Go.RowKit
def bytesL (g:Nat->Int) (k:Nat):List Value:=(List.range k).map fun j =>.int .u8 (g j)
theorem bytesL_succ (g:Nat->Int) (k:Nat):bytesL g (k+1)=bytesL g k++[.int .u8 (g k)]:=by simp [bytesL,List.range_succ]
theorem info5:(Tryz.prog.info? 5).map (fun i=>(i.zero,i.size,i.bytes))=some (some (.int .u8 0),1,1):=by kernel_rfl
set_option maxHeartbeats 1600000 in
set_option maxRecDepth 1000000 in
theorem bytes52 (r n p:Nat) (vk vn vm vi:Int) (hr:n≤128) (hp:p+n≤128) (hvn:IntKind.i64.wrap vn=(p:Int)-128) (g:Nat->Int) (w:World) (hb:r<w.heap.size)
 (h82:∀w1:World,Calls Tryz.prog 82 #[.agg #[.int .i64 vk,.int .u64 vn,.int .i64 vm,.int .i64 vi],.int .i64 n] w1 fun e w'=>e = .returned (.int .i64 0)/\Below w1.heap.size w1 w')
 (h104:∀w1:World,w1.heap[r]? = w.heap[r]? -> Calls Tryz.prog 104 #[.pointer (some ⟨r,0,none⟩),.int .i64 ((p:Int)-128),.int .i64 n] w1 fun e w'=>e = .returned (.int .i64 0)/\Below w1.heap.size w1 w')
 (hc:∀j,j<n->w.cell? ⟨r,76+2*(p+j)+1,none⟩=some (.int .u8 (g j))) :
 Calls Tryz.prog 52 #[.pointer (some ⟨r,0,none⟩),.agg #[.int .i64 vk,.int .u64 vn,.int .i64 vm,.int .i64 vi],.int .i64 n] w fun e w'=>
  ∃v,e = .returned (.tuple #[v,.int .i64 0])/\w'.ownsRow w.heap.size 5 1 v n (bytesL g n)/\Below w.heap.size w w':=by
 obtain ⟨i0,hi,hz0,hz1,hz2⟩:=info_parts info5
 go_enter Tryz.func52,Tryz.ntmps52
 go_wp2_with fail
 refine (h82 _).mono ?_;rintro e w1 ⟨rfl,hb1⟩;have hbx:w1.cell? ⟨w.heap.size,1,none⟩=some (.int .u64 vn):=by
  refine (hb1.cell (by simp)).trans ?_
  unfold World.cell?;rw [Go.WE.heap_alloc_new];rfl
 have hw1:w1.heap[r]? = w.heap[r]? := by
  refine (hb1.block r (by simp;omega)).trans ?_
  exact Go.WE.heap_alloc_old hb
 have hbel1:Below w.heap.size w w1:=((Below.refl w.heap.size w).alloc (Nat.le_refl _) _).trans (hb1.mono (by simp))
 clear hb1
 go_wp2_with fail
 refine (h104 _ hw1).mono ?_;rintro e w2 ⟨rfl,hb2⟩;have hbx2:w2.cell? ⟨w.heap.size,1,none⟩=some (.int .u64 vn):=by refine (hb2.cell ?_).trans hbx;have:w.heap.size<w1.heap.size:=World.block_lt_of_cell? w1 _ hbx;exact this
 have hbel2:Below w.heap.size w w2:=hbel1.trans (hb2.mono hbel1.size);have hc2:∀j,j<n->w2.cell? ⟨r,76+2*(p+j)+1,none⟩=some (.int .u8 (g j)):=fun j hj=>(hbel2.cell hb).trans (hc j hj);have hlt2:w.heap.size<w2.heap.size:=World.block_lt_of_cell? w2 _ hbx2;clear hb2 hbx hw1 hbel1 h82 h104 hc
 go_wp2_with fail
 go_loopw [9,10] (fun v i wr=>∃k:Nat,k≤n/\i = .int .i64 k/\wr.ownsRow w2.heap.size 5 1 v k (bytesL g k)/\Below w2.heap.size w2 wr) (fun _ i _=>n-(intOf i).toNat)
 case atStart=>exact ⟨0,Nat.zero_le _,rfl,World.ownsRow_nil _ _ _ _,Below.refl _ _⟩
 case round=>
  obtain ⟨k,hk,rfl,hown,hnx⟩:=hrel;by_cases hlt:k<n
  · have hbk:wr.cell? ⟨w.heap.size,1,none⟩=some (.int .u64 vn):=(hnx.cell hlt2).trans hbx2;have hck:wr.cell? ⟨r,76+((p:Int)+(k:Int)).toNat*2+1,none⟩=some (.int .u8 (g k)):=by
     rw [show ((p:Int)+(k:Int)).toNat=p+k by omega,Nat.mul_comm (p+k) 2]
     exact (hnx.cell (World.block_lt_of_cell? w2 _ (hc2 k hlt))).trans (hc2 k hlt)
    have hi0:IntKind.i64.wrap (128+((p:Int)-128))=(p:Int):=by rw [IntKind.wrap_i64];omega
    have hi1:IntKind.i64.wrap ((p:Int)+k)=((p+k:Nat):Int):=by rw [IntKind.wrap_i64];omega
    have hi2:(0:Int)≤((p+k:Nat):Int):=Int.natCast_nonneg _;have hi3:((p+k:Nat):Int)<128:=by omega
    have hi4:(0:Int)≤(p:Int)+(k:Int):=by omega
    have hi5:(p:Int)+(k:Int)<128:=by omega
    have hi6:(0:Int)≤(k:Int):=by omega
    have hi7:(k:Int)<(n:Int):=by omega
    have a1:u9.ownBlock≠some w.heap.size:=fun e=>by have:=hown.lt _ e;omega
    have a2:u9.ownBlock≠some r:=fun e=>by have:=hown.lt _ e;omega
    have lb:=hnx.size
    go_wp2_with fail
    go_region_held3 (fun w'=>w'.cell? ⟨w.heap.size,1,none⟩=some (.int .u64 vn)/\w'.cell? ⟨r,76+((p:Int)+(k:Int)).toNat*2+1,none⟩=some (.int .u8 (g k)))
     (first
       | go_keep
       | (go_split_ands
          refine ⟨?_,?_⟩
          · (rw [hgrow.cell_far _ (by simp;omega) (Ne.symm a1)];assumption)
          · (rw [hgrow.cell_far _ (by simp;omega) (Ne.symm a2)];assumption)))
     ((refine step_append_lies _ (by rfl) _ _ _ (by rfl) w2.heap.size 5 i0 _ 1 1 Tryz.underlying84 hi hz0 hz1 hz2 rfl (by omega) u9 k _ (by rfl) ((hown.alloc _).drew)
        ⟨wr.heap.size,0,none⟩ 1 1 [.int .u8 (g k)] (by rfl) (by rfl) (World.news_of_block (cs := #[.int .u8 (g k)]) (t:=5) (fr:=(0,0)) (heap_alloc_new wr _)) (by simp [Value.oneCell'])
        (by omega) (by unfold maxLen;omega) (by omega) (by simp;omega) (wr.heap.size+1) (by simp) ?_;intro gg cap w1 hown1 hgrow hat hlt1))
    have hb':Below w2.heap.size w2 w1:=by
     refine (hnx.alloc hnx.size (.cells #[.int .u8 (g k)] 5)).trans ⟨hgrow.os,hgrow.tape,hgrow.output,hgrow.size,fun r hr=>hgrow.block r ?_ ?_⟩
     · simp;omega
     · intro e;have:=hown.lt r e.symm;omega
    rw [← bytesL_succ] at hown1;clear hgrow hown hnx hbk hck hat
    go_wp2
    go_roundw
    case rel=>exact ⟨k+1,by omega,by go_num,hown1,hb'⟩
    case measure=>simp [intOf];omega
  · obtain rfl:k=n:=by omega
    go_wp2
    go_ret2
    obtain ⟨h1,h2⟩:=hown;exact ⟨_,rfl,⟨h1,h2.imp id (fun ⟨b,c,d,e1,e2,e3⟩=>⟨b,c,d,e1,Nat.le_trans (Nat.le_of_lt (Nat.lt_of_le_of_lt (Nat.le_refl _) hlt2)) e2,e3⟩)⟩,hbel2.trans (hnx.mono (Nat.le_of_lt hlt2))⟩
end Go.Proofs.YtoeealkcacgcgaaGreatDoor.Wor
namespace Go.WE
open Go Go.Proofs Go.RowKit
open Go.Proofs.YtoeealkcacgcgaaGreatDoor.Wor (bytesL bytes52)
def stackQ (v:VW) (n:Nat):U:=cond (v.k==K 0) (K 15) (cond (v.k != K 3) (K 14) (cond (!(cond (cond (BitVec.sle (K (-128)) v.n) (BitVec.sle v.n (K 0)) false) (BitVec.sle (K n) (BitVec.ofNat 64 0-v.n)) false)) (K 17) (K 0)))
def bytesQE (how:Nat->U) (v:VW) (n:Nat):U:=cond (stackQ v n==K 0) (readN how (posW v.n) n) (stackQ v n)
theorem bmod_small {a:Int} (h1 : -200≤a) (h2:a≤200):a.bmod (2 ^ 64)=a:=by
 refine Int.bmod_eq_of_le ?_ ?_
 · have:((2 ^ 64:Nat):Int) / 2=9223372036854775808:=by decide
   omega
 · have:(((2 ^ 64:Nat):Int)+1) / 2=9223372036854775808:=by decide
   omega
theorem neg_small {x:U} (h1 : -128≤x.toInt) (h2:x.toInt≤0):(BitVec.ofNat 64 0-x).toInt = - x.toInt:=by
 have e:BitVec.ofNat 64 0-x = -x:=BitVec.zero_sub x;rw [e,BitVec.toInt_neg];exact bmod_small (by omega) (by omega)
theorem inB_eq {x:U} {n:Nat} (h0:0<n) (h:n≤128):cond (cond (BitVec.sle (K (-128)) x) (BitVec.sle x (K 0)) false) (BitVec.sle (K n) (BitVec.ofNat 64 0-x)) false=inB x n:=by
 unfold inB;cases h1:BitVec.sle (K (-128)) x
 · simp only [cond_false]
 · rw [cond_true,cond_true];rw [BitVec.sle,decide_eq_true_eq] at h1;have e1:(K (-128)).toInt = -128:=rfl;have e0:(K 0).toInt=0:=rfl;have e2:(K (-(n:Int))).toInt = -(n:Int):=by
    unfold K;rw [BitVec.toInt_ofInt,Int.bmod_def];split<;>omega
   have e3:(K (n:Int)).toInt=(n:Int):=by unfold K;rw [BitVec.toInt_ofInt,Int.bmod_def];split<;>omega
   rw [e1] at h1;rw [BitVec.sle,BitVec.sle,BitVec.sle,e0,e2,e3];by_cases h2:x.toInt≤0
   · rw [decide_eq_true h2,cond_true];have e4:=neg_small h1 h2;rw [e4];exact decide_eq_decide.2 (by omega)
   · rw [decide_eq_false h2,cond_false];exact (decide_eq_false (by omega)).symm
theorem stackQ_eq (v:VW) {n:Nat} (h0:0<n) (h:n≤128):stackQ v n=stackE v n:=by
 unfold stackQ stackE;rw [inB_eq h0 h,bne];cases v.k==K 3<;>cases inB v.n n<;>rfl
theorem bytesQE_eq (how:Nat->U) (v:VW) {n:Nat} (h0:0<n) (h:n≤128):bytesQE how v n=bytesE how v n:=by
 unfold bytesQE bytesE;rw [stackQ_eq v h0 h]
theorem isSz_le {n:Nat} (h:isSz n=true):n≤128:=by
 rcases isSz_cases h with rfl|rfl|rfl|rfl|rfl<;>decide
def okBQ (v:VW) (n:Nat):Bool:=cond (stackQ v n==K 0) (Nat.ble ((v.n+K 128).toNat+n) 128) true
def RT.lft:RT->RT
 | .node x a _ =>.node x a .fail
 | r=>r
theorem lft_pick {r:RT} {p:A×V×List Nat×Option Blk×Option Blk} (h:r.lft.pick=some p):r.pick=some p:=by
 cases r with
 | node x a b=>
   cases x
   · cases h
   · exact h
 | _=>exact h
theorem bytQ_ev (s:QF) (v:VW) {n:Nat} (h:isSz n=true):(evalF cxK ΓE 400 20 52 [pt 0,.t v.t,one (.lit .i64 (.ofNat n))] (hM [(0,⟨true,s.t⟩)] 1)).rt.lft =
 .node (bytesQE s.how v n != K 0) (.leaf (.b (okBQ v n)) (.tup [.a .nils,.a (.i .i64 (bytesQE s.how v n))]) [] (some ⟨true,s.t⟩) none) .fail:=by
 rcases isSz_cases h with rfl|rfl|rfl|rfl|rfl<;>kernel_rfl
theorem st82_ev (v:VW) {n:Nat} (h:isSz n=true):(evalF cxK noΓ 400 20 82 [.t v.t,one (.lit .i64 (.ofNat n))] H.none).res=some (.tt,i64 (stackQ v n)):=by
 rcases isSz_cases h with rfl|rfl|rfl|rfl|rfl<;>kernel_rfl
theorem tup_ei {ν:Nu} {x:U} {u:Value} (h:(V.tup [.a .nils,.a (.i .i64 x)]).rel ν u):u = .tuple #[.slice none 0 0,.int .i64 (vof .i64 x)]:=by
 obtain ⟨us,rfl,hus⟩:=h
 match us,hus with
 | ⟨[u1,u2]⟩,hus=>
   obtain ⟨q1,q2,_⟩:=hus;have q1:(A.nils).rel ν u1:=q1;have q2:(A.i .i64 x).rel ν u2:=q2;simp only [A.rel] at q1 q2;subst q1 q2;rfl
theorem q_cell {w:World} {r:Nat} {s:QF} (hh:Holds w r s.t) {i:Nat} (hi:i<128):w.cell? ⟨r,76+2*i+1,none⟩=some (.int .u8 (vof .u8 (s.b i))):=by
 obtain ⟨cs,ty,vs,post,h1,h2,h3⟩:=hh;unfold QF.t at h3;simp only [T.rel,relTs] at h3;obtain ⟨a1,b1,rfl,q1,a2,b2,rfl,q2,a3,b3,rfl,q3,a4,b4,rfl,q4,rfl⟩:=h3;have l1:a1.length=44:=by simpa [Ix.val] using q1.1
 have l2:a2.length=32:=by simpa [ctxT] using (lst_each _ _ q2).1
 have l3:a3.length=256:=by simpa [Ix.val] using q3.1
 have hs:=q3.2 i hi;simp only [Sh.rel,relShs] at hs;obtain ⟨u1,w1,e1,r1,u2,w2,e2,r2,e3⟩:=hs;subst r1 r2 e3;have hc:a3[2*i+1]? = some (.int .u8 (vof .u8 (s.b i))):=by
  have h:=congrArg (fun l=>l[1]?) e1;simp only [List.getElem?_take_of_lt (show 1<2 by decide),List.getElem?_drop] at h
  rw [h,e2];rfl
 unfold World.cell?;rw [h1];simp only;rw [← Array.getElem?_toList,h2];have e:76+2*i+1=44+(32+(2*i+1)):=by omega
 rw [e,List.append_assoc,List.append_assoc,List.getElem?_append_right (by omega),l1,Nat.add_sub_cancel_left,List.append_assoc,List.getElem?_append_right (by omega),l2,Nat.add_sub_cancel_left,List.append_assoc,List.getElem?_append_left (by omega)]
 exact hc
theorem vw_val {v:VW} {vv:Value} (h:(V.t v.t).rel nu0 vv):vv = .agg #[.int .i64 (vof .i64 v.k),.int .u64 (vof .u64 v.n),.int .i64 (vof .i64 v.m),.int .i64 (vof .i64 v.i)]:=by
 obtain ⟨us,rfl,hr⟩:=h;unfold VW.t at hr;simp only [T.rel,relTs,A.rel] at hr;obtain ⟨a1,b1,e1,⟨x1,rfl,rfl,_⟩,a2,b2,e2,⟨x2,rfl,rfl,_⟩,a3,b3,e3,⟨x3,rfl,rfl,_⟩,a4,b4,e4,⟨x4,rfl,rfl,_⟩,rfl⟩:=hr;subst e4 e3 e2;congr 1;exact Array.toList_inj.1 (by rw [e1];rfl)
theorem wrap_uv (x:U):IntKind.i64.wrap (vof .u64 x)=vof .i64 x:=by
 rw [IntKind.wrap_i64];have h1:vof .u64 x=(x.toNat:Int):=by have:vof .u64 x=IntKind.u64.wrap (x.toNat:Int):=rfl;rw [this,IntKind.wrap_u64];have:=x.isLt;omega
 have h2:=BitVec.toInt_eq_toNat_cond x;have h3:=x.isLt;rw [h1,vof_toInt,h2];split<;>omega
theorem bytesL_arr {ν:Nu} {g:Nat->U} {n:Nat}:(T.arr 1 (.lit n) (.int .u8 g)).rel ν (bytesL (fun j=>vof .u8 (g j)) n):=by
 simp only [T.rel];refine ⟨by simp [bytesL,Ix.val],fun i hi => ?_⟩
 have hi:i<n:=hi;simp only [Sh.rel];rw [Nat.one_mul,List.drop_eq_getElem_cons (by simpa [bytesL] using hi),List.take_succ_cons,List.take_zero]
 simp [bytesL]
theorem bytes52_calls {w:World} {r n:Nat} {s:QF} {v:VW} {vv:Value} (hn:isSz n=true) (hh:Holds w r s.t) (hv:(V.t v.t).rel nu0 vv) :
 Calls Tryz.prog 52 #[.pointer (some ⟨r,0,none⟩),vv,.int .i64 (.ofNat n)] w (bytesP w s.how s.b v n):=by
 obtain ⟨hn0,hn63⟩:=isSz_lt hn;have hn128:=isSz_le hn;have hE:=bytesQE_eq s.how v hn0 hn128;cases he:bytesQE s.how v n != K 0
 · have hz:bytesE s.how v n=K 0:=by
    rw [← hE];simpa using he
   have hs0:stackE v n=K 0:=by
    unfold bytesE at hz;cases h:stackE v n==K 0
    · rw [h,cond_false] at hz;exact hz
    · exact eq_of_beq h
   have hr0:readN s.how (posW v.n) n=K 0:=by unfold bytesE at hz;rw [hs0] at hz;exact hz
   have hin:inB v.n n=true:=by unfold stackE at hs0;cases h0:v.k==K 0<;>cases h3:v.k==K 3<;>cases hi:inB v.n n<;>rw [h0] at hs0<;>simp only [cond_true,cond_false] at hs0<;>(try rw [h3] at hs0)<;>(try simp only [cond_true,cond_false] at hs0)<;>(try rw [hi] at hs0)<;>first|rfl|exact absurd hs0 (by decide)
   obtain ⟨hp1,hp2,hp3⟩:=inB_nat hin hn63;obtain rfl:=vw_val hv;refine (bytes52 r n (posW v.n) _ _ _ _ hn128 hp1 (by rw [wrap_uv];exact hp3) (fun j=>vof .u8 (byF s.b (posW v.n) j)) w hh.lt (fun w1 => ?_) (fun w1 hw1 => ?_) (fun j hj => ?_)).mono ?_
   · obtain ⟨h',hp⟩:=res_some (st82_ev v hn);obtain ⟨_,hfn⟩:=evalF_fn (XK noΓ_ok) rfl hp rfl;have hargs:relV nu0 [.t v.t,one (.lit .i64 (.ofNat n))] [_,.int .i64 (n:Int)]:=⟨hv,by
      show (A.lit .i64 (.ofNat n)).rel nu0 _;simp only [A.rel];exact ⟨rfl,by rcases isSz_cases hn with rfl|rfl|rfl|rfl|rfl<;>rfl⟩,trivial⟩
     refine (hfn (fun _=>True) nu0 w1 _ (fun _ _=>trivial) (fun _ _=>trivial) (mem_none _ w1) hargs).mono ?_;rintro e w' ⟨u,ν',rfl,hu,g⟩;have hu:(A.i .i64 (stackQ v n)).rel ν' u:=hu;simp only [A.rel] at hu;refine ⟨by rw [hu,stackQ_eq v hn0 hn128,hs0];rfl,g.frm.os,g.frm.tape,g.frm.output,g.frm.size,fun k hk=>g.frm.block k hk fun id base h=>by cases h⟩
   · have:=seen_calls (w:=w1) (x:=v.n) hp1 (by rw [BitVec.add_comm];exact hp2) (hh.same hw1)
     rw [vof_kk hn63,hp3,hr0] at this;exact this
   · exact q_cell hh (by omega)
   · rintro e w' ⟨l,rfl,hown,hb⟩;obtain ⟨_,hcase⟩:=hown;rcases hcase with ⟨_,e0⟩|⟨b',cap',cur,rfl,hge,hh',hncap,hcap',hsz,htake⟩
     · omega
     · rw [Nat.mul_one] at htake;refine ⟨hb,fun _=>⟨b',cap',hge,hncap,rfl,?_⟩,fun h=>absurd hz h⟩;exact ⟨cur,5,_,cur.toList.drop n,hh',by rw [← htake,List.take_append_drop],bytesL_arr (ν:=nu0) (g:=byF s.b (posW v.n)) (n:=n)⟩
 · have hne:bytesE s.how v n≠K 0:=by
    rw [← hE];simpa using he
   have hp:(RT.node (bytesQE s.how v n != K 0) (.leaf (.b (okBQ v n)) (.tup [.a .nils,.a (.i .i64 (bytesQE s.how v n))]) [] (some ⟨true,s.t⟩) none) .fail).pick=some (.b (okBQ v n),.tup [.a .nils,.a (.i .i64 (bytesQE s.how v n))],[],some ⟨true,s.t⟩,none):=by simp only [RT.pick,he,cond_true]
   rw [← bytQ_ev s v hn] at hp;have hp:=lft_pick hp;obtain ⟨h',hp,hw,_⟩:=rt_pick hp;have hok:okB (.b (okBQ v n))=true:=by
    show okBQ v n=true;unfold okBQ;cases h:stackQ v n==K 0
    · rfl
    · rw [cond_true];have hs0:stackE v n=K 0:=by rw [← stackQ_eq v hn0 hn128];exact eq_of_beq h
      have hin:inB v.n n=true:=by unfold stackE at hs0;cases h0:v.k==K 0<;>cases h3:v.k==K 3<;>cases hi:inB v.n n<;>rw [h0] at hs0<;>simp only [cond_true,cond_false] at hs0<;>(try rw [h3] at hs0)<;>(try simp only [cond_true,cond_false] at hs0)<;>(try rw [hi] at hs0)<;>first|rfl|exact absurd hs0 (by decide)
      exact nB (inB_nat hin hn63).1
   obtain ⟨_,hfn⟩:=evalF_fn (XK ΓE_ok) rfl hp hok;refine (call_calm hfn hw hh (args_bytes hv hn)).mono ?_;rintro e w' ⟨u,ν',rfl,hu,hb,_⟩;refine ⟨hb,fun h=>absurd h hne,fun _ => ?_⟩;rw [tup_ei hu,hE]
end Go.WE
end
