/- A part of a proof of the helpers' law; no condition of its own. -/
import Derived.Test.YtoeealkcacgcgaaGreatDoorS16
import Derived.Test.YtoeealkcacgcgaaGreatDoorS17
import Derived.Test.YtoeealkcacgcgaaGreatDoorS18
set_option linter.unusedVariables false
set_option maxRecDepth 100000
noncomputable section
namespace Go.Proofs.YtoeealkcacgcgaaGreatDoor.Wor
open Go Go.RowKit
def thereP (n:Nat) (a s:Int):Prop:=(s=1\/s=2\/s=4\/s=8)/\0≤a/\a≤n/\s≤n-a
instance (n:Nat) (a s:Int):Decidable (thereP n a s):=inferInstanceAs (Decidable (_/\_))
set_option maxHeartbeats 800000 in
set_option maxRecDepth 1000000 in
theorem there_any (a0:Option Addr) (n cap:Nat) (a s:Int) (w:World) (hr:n≤140737488351232) (ha:IntKind.i64.wrap a=a) (hs:IntKind.i64.wrap s=s) :
 Calls Tryz.prog 108 #[.slice a0 n cap,.int .i64 a,.int .i64 s] w fun e w'=>e = .returned (.bool (decide (thereP n a s)))/\w=w':=by
 go_enter Tryz.func108,Tryz.ntmps108
 go_wp2
 all_goals
  go_ret
  refine ⟨congrArg (fun b=>Ending.returned (.bool b)) ?_,rfl⟩
  first
   | exact (decide_eq_false (by unfold thereP;omega)).symm
   | (refine decide_eq_decide.2 ?_;unfold thereP;omega)
   | trace_state
def leftV (a s v k:Nat):Nat:=v / 256 ^ min (k-a) s
def putG (g:Nat->Int) (a s v j:Nat):Int:=if a≤j/\j<a+s then ((v / 256 ^ (j-a) % 256:Nat):Int) else g j
set_option maxHeartbeats 800000 in
set_option maxRecDepth 1000000 in
theorem put_fit (b off n cap:Nat) (g:Nat->Int) (a s v:Nat) (w:World) (hreach:n≤140737488351232) (hb:b<w.heap.size) (hv:v<2 ^ 64) (hs:s=1\/s=2\/s=4\/s=8) (hfit:a+s≤n)
 (hc:∀j,j<n->w.cell? ⟨b,off+j,none⟩=some (.int .u8 (g j))) :
 Calls Tryz.prog 60 #[.slice (some ⟨b,off,none⟩) n cap,.int .i64 a,.int .i64 s,.int .u64 v] w fun e w'=>
  ∃l,e = .returned (.tuple #[l,.bool true])/\w'.ownsRow w.heap.size 5 1 l n (bytesL (putG g a s v) n)/\Below w.heap.size w w':=by
 obtain ⟨i0,hi,hz0,hz1,hz2⟩:=info_parts info5;have hth:decide (thereP n (a:Int) (s:Int))=true:=decide_eq_true (by unfold thereP;omega)
 go_enter Tryz.func60,Tryz.ntmps60
 go_wp2_with fail
 refine (there_any (some ⟨b,off,none⟩) n cap a s w hreach (by rw [IntKind.wrap_i64];omega) (by rw [IntKind.wrap_i64];omega)).mono ?_
 rintro e w1 ⟨rfl,rfl⟩;rw [hth]
 go_wp2_with fail
 go_loopw [3,10,12,13] (fun v' l i c wr=>∃k:Nat,k≤n/\i = .int .i64 k/\v' = .int .u64 (leftV a s v k)/\wr.ownsRow w.heap.size 5 1 l k (bytesL (putG g a s v) k)/\Below w.heap.size w wr) (fun _ _ i _ _=>n-(intOf i).toNat)
 case atStart=>exact ⟨0,Nat.zero_le _,rfl,by simp [leftV],World.ownsRow_nil _ _ _ _,Below.refl _ _⟩
 case round=>
  obtain ⟨k,hk,rfl,rfl,hown,hnx⟩:=hrel;by_cases hlt:k<n
  · have hcx:=(hnx.cell hb).trans (hc k hlt);by_cases hin:a≤k/\k<a+s
    · obtain ⟨hi1,hi2⟩:=hin;have hi3:(k:Int)-a<s:=by omega
      have hval:((leftV a s v k:Nat):Int) % 256=putG g a s v k:=by
       unfold putG leftV;rw [if_pos ⟨hi1,hi2⟩,Nat.min_eq_left (by omega)]
       omega
      have hleft:IntKind.u64.wrap (((leftV a s v k:Nat):Int) / 256)=((leftV a s v (k+1):Nat):Int):=by
       have h1:leftV a s v (k+1)=leftV a s v k / 256:=by unfold leftV;rw [Nat.min_eq_left (by omega),Nat.min_eq_left (by omega),Nat.succ_sub hi1,Nat.pow_succ,Nat.div_div_eq_div_mul]
       have h2:leftV a s v k≤v:=Nat.div_le_self _ _;rw [h1,IntKind.wrap_u64];omega
      go_wp2_with (first
       | (at_builtin;refine wpList_append_own _ rfl _ _ 84 rfl w.heap.size 5 i0 (.int .u8 0) 1 1 Tryz.underlying84 hi hz0 hz1 hz2 rfl (by decide) _ _ _ rfl (hown.alloc _) ⟨wr.heap.size,0,none⟩ 1 1 [.int .u8 (putG g a s v k)] rfl rfl ?c1 ?c2 ?c3 ?c4 ?c5 ?_)
       | go_in)
      case c1=>
       intro j u hj
       match j,hj with
       | 0,hj=>simp at hj;subst hj;simp [Addr.add]
      case c2=>intro u hu;simp at hu;subst hu;rfl
      case c3=>unfold maxLen;omega
      case c4=>omega
      case c5=>have:=hnx.size;simp;omega
      intro v' w1' hown' hgrow _;have hb':Below w.heap.size w w1':=by
       refine (hnx.alloc hnx.size (.cells #[.int .u8 (putG g a s v k)] 5)).trans ⟨hgrow.os,hgrow.tape,hgrow.output,hgrow.size,fun r hr=>hgrow.block r ?_ ?_⟩
       · have:=hnx.size;simp;omega
       · intro e;have:=hown.lt r e.symm;omega
      rw [← bytesL_succ] at hown';clear hgrow hown hnx
      go_wp2
      go_roundw
      case rel=>exact ⟨k+1,by omega,by go_num,rfl,hown',hb'⟩
      case measure=>simp [intOf];omega
    · by_cases hi1:a≤k
      · have hi3:(s:Int)≤(k:Int)-a:=by omega
        have hval:g k=putG g a s v k:=by unfold putG;rw [if_neg hin]
        have hleft:leftV a s v (k+1)=leftV a s v k:=by unfold leftV;rw [Nat.min_eq_right (by omega),Nat.min_eq_right (by omega)]
        go_wp2_with (first
         | (at_builtin;refine wpList_append_own _ rfl _ _ 84 rfl w.heap.size 5 i0 (.int .u8 0) 1 1 Tryz.underlying84 hi hz0 hz1 hz2 rfl (by decide) _ _ _ rfl (hown.alloc _) ⟨wr.heap.size,0,none⟩ 1 1 [.int .u8 (putG g a s v k)] rfl rfl ?c1 ?c2 ?c3 ?c4 ?c5 ?_)
         | go_in)
        case c1=>
         intro j u hj
         match j,hj with
         | 0,hj=>simp at hj;subst hj;simp [Addr.add]
        case c2=>intro u hu;simp at hu;subst hu;rfl
        case c3=>unfold maxLen;omega
        case c4=>omega
        case c5=>have:=hnx.size;simp;omega
        intro v' w1' hown' hgrow _;have hb':Below w.heap.size w w1':=by
         refine (hnx.alloc hnx.size (.cells #[.int .u8 (putG g a s v k)] 5)).trans ⟨hgrow.os,hgrow.tape,hgrow.output,hgrow.size,fun r hr=>hgrow.block r ?_ ?_⟩
         · have:=hnx.size;simp;omega
         · intro e;have:=hown.lt r e.symm;omega
        rw [← bytesL_succ] at hown';clear hgrow hown hnx
        go_wp2
        go_roundw
        case rel=>exact ⟨k+1,by omega,by go_num,by rw [hleft],hown',hb'⟩
        case measure=>simp [intOf];omega
      · have hval:g k=putG g a s v k:=by
         unfold putG;rw [if_neg hin]
        have hleft:leftV a s v (k+1)=leftV a s v k:=by unfold leftV;rw [Nat.min_eq_left (by omega),Nat.min_eq_left (by omega),Nat.sub_eq_zero_of_le (by omega),Nat.sub_eq_zero_of_le (by omega)]
        go_wp2_with (first
         | (at_builtin;refine wpList_append_own _ rfl _ _ 84 rfl w.heap.size 5 i0 (.int .u8 0) 1 1 Tryz.underlying84 hi hz0 hz1 hz2 rfl (by decide) _ _ _ rfl (hown.alloc _) ⟨wr.heap.size,0,none⟩ 1 1 [.int .u8 (putG g a s v k)] rfl rfl ?c1 ?c2 ?c3 ?c4 ?c5 ?_)
         | go_in)
        case c1=>
         intro j u hj
         match j,hj with
         | 0,hj=>simp at hj;subst hj;simp [Addr.add]
        case c2=>intro u hu;simp at hu;subst hu;rfl
        case c3=>unfold maxLen;omega
        case c4=>omega
        case c5=>have:=hnx.size;simp;omega
        intro v' w1' hown' hgrow _;have hb':Below w.heap.size w w1':=by
         refine (hnx.alloc hnx.size (.cells #[.int .u8 (putG g a s v k)] 5)).trans ⟨hgrow.os,hgrow.tape,hgrow.output,hgrow.size,fun r hr=>hgrow.block r ?_ ?_⟩
         · have:=hnx.size;simp;omega
         · intro e;have:=hown.lt r e.symm;omega
        rw [← bytesL_succ] at hown';clear hgrow hown hnx
        go_wp2
        go_roundw
        case rel=>exact ⟨k+1,by omega,by go_num,by rw [hleft],hown',hb'⟩
        case measure=>simp [intOf];omega
  · obtain rfl:k=n:=by omega
    go_wp2
    go_ret2
    exact ⟨_,rfl,hown,hnx⟩
end Go.Proofs.YtoeealkcacgcgaaGreatDoor.Wor
namespace Go.WE
open Go Go.Proofs Go.RowKit
def VV.bif (c:Bool) (p q:VV):VV:=⟨fun j=>bif c then p.k j else q.k j,fun j=>bif c then p.n j else q.n j,fun j=>bif c then p.m j else q.m j,fun j=>bif c then p.i j else q.i j⟩
def VF.bif (c:Bool) (p q:VF):VF:=⟨VV.bif c p.regs q.regs,VV.bif c p.ptr q.ptr,fun i j=>bif c then p.by_ i j else q.by_ i j,fun i j=>bif c then p.ld i j else q.ld i j⟩
def QF.bif (c:Bool) (p q:QF):QF:=⟨VV.bif c p.regs q.regs,fun j=>bif c then p.how j else q.how j,fun j=>bif c then p.b j else q.b j,VV.bif c p.ptr q.ptr⟩
def isLn:Nat->Bool
 | 1=>true|2=>true|3=>true|4=>true|5=>true|6=>true|7=>true|8=>true|16=>true|24=>true|32=>true|_=>false
theorem isLn_cases {n:Nat} (h:isLn n=true):n=1\/n=2\/n=3\/n=4\/n=5\/n=6\/n=7\/n=8\/n=16\/n=24\/n=32:=by
 unfold isLn at h;split at h<;>simp at *
theorem isLn_lt {n:Nat} (h:isLn n=true):0<n/\n≤128:=by
 rcases isLn_cases h with rfl|rfl|rfl|rfl|rfl|rfl|rfl|rfl|rfl|rfl|rfl<;>exact ⟨by decide,by decide⟩
def ΓY:Gam:=anyΓ 80 layV (anyΓ 83 layQ noΓ)
theorem ΓY_ok:ΓOK Tryz.prog ΓY:=anyΓ_ok layV_ok (anyΓ_ok layQ_ok noΓ_ok)
abbrev slY (n:Nat):V:=one (.sl 1 [] 1 (.lit 0) (.lit n) none)
def msY (t:T) (n:Nat) (c:Nat->U):List (Nat×Blk):=[(0,⟨true,t⟩),(1,⟨false,.arr 1 (.lit n) (.int .u8 c)⟩)]
def okL (x:U) (n:Nat):Bool:=Nat.ble ((x+K 128).toNat+n) 128&&Nat.blt 0 n
theorem lay36_ev (s:VF) (v:VW) (c:Nat->U) {n:Nat} (h:isLn n=true):(evalF cxD ΓY 400 20 36 [pt 0,.t v.t,slY n] (hM (msY s.t n c) 2)).rt =
 .leaf (.b (cond (!(v.k != K 0)) true (cond (!(v.k==K 3)) true (cond (!(inB v.n n)) true (okL v.n n))))) (i64 (cond (!(v.k != K 0)) (K 15) (cond (!(v.k==K 3)) (K 14) (cond (!(inB v.n n)) (K 17) (K 0))))) [0]
  (some ⟨true,(VF.bif (!(v.k != K 0)) s (VF.bif (!(v.k==K 3)) s (VF.bif (!(inB v.n n)) s (layVN s (v.n+K 128).toNat c n)))).t⟩) none:=by
 rcases isLn_cases h with rfl|rfl|rfl|rfl|rfl|rfl|rfl|rfl|rfl|rfl|rfl<;>kernel_rfl
theorem lay37_ev (s:QF) (v:VW) (c:Nat->U) {n:Nat} (h:isLn n=true):(evalF cxD ΓY 400 20 37 [pt 0,.t v.t,slY n] (hM (msY s.t n c) 2)).rt =
 .leaf (.b (cond (stackQ v n==K 0) (Nat.ble (posW v.n+n) 128&&Nat.blt 0 n) true)) (i64 (stackQ v n)) [0]
  (some ⟨true,(QF.bif (stackQ v n==K 0) (layQN s (posW v.n) c n) s).t⟩) none:=by
 rcases isLn_cases h with rfl|rfl|rfl|rfl|rfl|rfl|rfl|rfl|rfl|rfl|rfl<;>kernel_rfl
def layVR (s:VF) (v:VW) (c:Nat->U) (n:Nat):VF:=VF.bif (stackE v n==K 0) (layVN s (posW v.n) c n) s
def layQR (s:QF) (v:VW) (c:Nat->U) (n:Nat):QF:=QF.bif (stackE v n==K 0) (layQN s (posW v.n) c n) s
theorem stack_in {v:VW} {n:Nat} (hs0:stackE v n=K 0):inB v.n n=true:=by
 unfold stackE at hs0;cases h0:v.k==K 0<;>cases h3:v.k==K 3<;>cases hi:inB v.n n<;>rw [h0] at hs0<;>simp only [cond_true,cond_false] at hs0<;>(try rw [h3] at hs0)<;>(try simp only [cond_true,cond_false] at hs0)<;>(try rw [hi] at hs0)<;>first|rfl|exact absurd hs0 (by decide)
theorem lay36_st (s:VF) (v:VW) (c:Nat->U) (n:Nat):VF.bif (!(v.k != K 0)) s (VF.bif (!(v.k==K 3)) s (VF.bif (!(inB v.n n)) s (layVN s (v.n+K 128).toNat c n)))=layVR s v c n:=by
 unfold layVR stackE;rw [bne];cases v.k==K 0<;>cases v.k==K 3<;>cases inB v.n n<;>rfl
theorem nl_args {r b off n cap:Nat} {v:VW} {vv:Value} (hv:(V.t v.t).rel nu0 vv) (hcap:n≤cap):relV (nuTwo r b off) [pt 0,.t v.t,slY n] [.pointer (some ⟨r,0,none⟩),vv,.slice (some ⟨b,off,none⟩) n cap]:=by
 refine ⟨?_,vw_rel0 hv _,?_,trivial⟩
 · show (A.ptr 0 []).rel (nuTwo r b off) _;simp only [A.rel];exact ⟨r,0,rfl,rfl⟩
 · show (A.sl 1 [] 1 (.lit 0) (.lit n) none).rel (nuTwo r b off) _;simp only [A.rel];exact ⟨b,off,off,cap,by simp [nuTwo],rfl,fun _=>by simp [pathOff,Ix.val],hcap,fun _ e=>by cases e⟩
theorem call_two {P:Program} {f:FuncId} {args:List V} {v:V} {h':H} {t t2 t':T} (hf:FnOK P f args (hM [(0,⟨true,t⟩),(1,⟨false,t2⟩)] 2) v h') (hw:h'.wr=[0]\/h'.wr=[]) (hg:h'.m.get 0=some ⟨true,t'⟩) (hn:notMp t'=true) (hfr:t'.free=true) (hv:v.free=true)
 {r b off:Nat} {w:World} (hne:r≠b) (hh:Holds w r t) (hc:HoldsAt w b off t2) {vs:List Value} (ha:relV (nuTwo r b off) args vs) (ν:Nu):Calls P f vs.toArray w fun e w'=>∃u,e = .returned u/\v.rel ν u/\But r w.heap.size w w'/\Holds w' r t':=by
 refine (hf (fun _=>True) (nuTwo r b off) w vs (fun _ _=>trivial) (fun _ _=>trivial) (mem_two hne hh hc) ha).mono ?_;rintro e w' ⟨u,ν',rfl,hu,g⟩;have g':Goes (fun _=>True) (nuTwo r b off) w (hM [(0,⟨true,t⟩),(1,⟨false,t2⟩)] 2).mark ν' w' h':=g;exact ⟨u,rfl,V.rel_free hv hu,goes_but (h:=hM [(0,⟨true,t⟩),(1,⟨false,t2⟩)] 2) (mem_two hne hh hc) rfl hw g',seen_holds (g.mem.seen 0 _ hg (.inl trivial)) hn hfr (g.le _ _ rfl)⟩
theorem lay36 {w:World} {r b off n cap:Nat} {s:VF} {v:VW} {vv:Value} {c:Nat->U} (hn:isLn n=true) (hcap:n≤cap) (hne:r≠b) (hh:Holds w r s.t) (hc:HoldsAt w b off (.arr 1 (.lit n) (.int .u8 c))) (hv:(V.t v.t).rel nu0 vv) :
 Calls Tryz.prog 36 #[.pointer (some ⟨r,0,none⟩),vv,.slice (some ⟨b,off,none⟩) n cap] w fun e w'=>(∃u,e = .returned u)/\Holds w' r (layVR s v c n).t/\But r w.heap.size w w':=by
 obtain ⟨hn0,hn128⟩:=isLn_lt hn;have ev:=lay36_ev s v c hn;rw [lay36_st] at ev;obtain ⟨h',hp,hw,hg,_⟩:=rt_pick (r:=evalF cxD ΓY 400 20 36 [pt 0,.t v.t,slY n] (hM (msY s.t n c) 2)) (by rw [ev];rfl)
 have hok:okB (.b (cond (!(v.k != K 0)) true (cond (!(v.k==K 3)) true (cond (!(inB v.n n)) true (okL v.n n)))))=true:=by
  show cond (!(v.k != K 0)) true (cond (!(v.k==K 3)) true (cond (!(inB v.n n)) true (okL v.n n)))=true;cases (!(v.k != K 0))
  · cases (!(v.k==K 3))
    · cases hi:inB v.n n
      · rfl
      · have:=(inB_nat hi (by omega)).1
        have q1:Nat.ble ((v.n+K 128).toNat+n) 128=true:=nB this;have q2:Nat.blt 0 n=true:=nB hn0;simp only [okL,q1,q2,Bool.not_true,cond_false,Bool.and_self]
    · rfl
  · rfl
 obtain ⟨_,hfn⟩:=evalF_fn (XD ΓY_ok) rfl hp hok;refine (call_two hfn (.inl hw) hg rfl rfl rfl hne hh hc (nl_args hv hcap) nu0).mono ?_;rintro e w' ⟨u,rfl,_,hb,hh'⟩;exact ⟨⟨u,rfl⟩,hh',hb⟩
theorem lay37 {w:World} {r b off n cap:Nat} {s:QF} {v:VW} {vv:Value} {c:Nat->U} (hn:isLn n=true) (hcap:n≤cap) (hne:r≠b) (hh:Holds w r s.t) (hc:HoldsAt w b off (.arr 1 (.lit n) (.int .u8 c))) (hv:(V.t v.t).rel nu0 vv) :
 Calls Tryz.prog 37 #[.pointer (some ⟨r,0,none⟩),vv,.slice (some ⟨b,off,none⟩) n cap] w fun e w'=>(∃u,e = .returned u)/\Holds w' r (layQR s v c n).t/\But r w.heap.size w w':=by
 obtain ⟨hn0,hn128⟩:=isLn_lt hn;have ev:=lay37_ev s v c hn;rw [stackQ_eq v hn0 hn128] at ev;obtain ⟨h',hp,hw,hg,_⟩:=rt_pick (r:=evalF cxD ΓY 400 20 37 [pt 0,.t v.t,slY n] (hM (msY s.t n c) 2)) (by rw [ev];rfl)
 have hok:okB (.b (cond (stackE v n==K 0) (Nat.ble (posW v.n+n) 128&&Nat.blt 0 n) true))=true:=by
  show cond (stackE v n==K 0) (Nat.ble (posW v.n+n) 128&&Nat.blt 0 n) true=true;cases hs:stackE v n==K 0
  · rfl
  · have:=(inB_nat (stack_in (eq_of_beq hs)) (by omega)).1
    have q1:Nat.ble (posW v.n+n) 128=true:=nB this;have q2:Nat.blt 0 n=true:=nB hn0;rw [cond_true,q1,q2];rfl
 obtain ⟨_,hfn⟩:=evalF_fn (XD ΓY_ok) rfl hp hok;refine (call_two hfn (.inl hw) hg rfl rfl rfl hne hh hc (nl_args hv hcap) nu0).mono ?_;rintro e w' ⟨u,rfl,_,hb,hh'⟩;exact ⟨⟨u,rfl⟩,hh',hb⟩
theorem rel_layR {s:VF} {q:QF} (h:Rel23 s q) (v:VW) (c:Nat->U) {n:Nat} (hn:isLn n=true):Rel23 (layVR s v c n) (layQR q v c n):=by
 unfold layVR layQR;cases hs:stackE v n==K 0
 · exact h
 · obtain ⟨hn0,hn128⟩:=isLn_lt hn;have:=(inB_nat (stack_in (eq_of_beq hs)) (by omega)).1
   exact rel_layN h c n this
def l3Sp {σ:Type} (of:H->Nat->Option σ) (t:σ->T) (lay:σ->VW->(Nat->U)->Nat->σ):List V->H->Option R
 | [.t (.a (.ptr id [])),.t vt,.t (.a (.sl id2 [] 1 (.lit 0) (.lit n) _))],h=>match of h id,vwOfT vt,h.m.get id2 with
   | some s,some v,some ⟨_,t2⟩=>match bytesOf t2 with
     | some (m,c)=>match Nat.beq m n&&(isLn n && !(Nat.beq id id2)) with
       | true=>some (.leaf .tt (one .poison) ((h.sees [id,id2]).put id ⟨true,t (lay s v c n)⟩))
       | false=>none
     | none=>none
   | _,_,_=>none
 | _,_=>none
theorem l3Sp_inv {σ:Type} {of:H->Nat->Option σ} {t:σ->T} {lay:σ->VW->(Nat->U)->Nat->σ} {args:List V} {h:H} {r:R} (e:l3Sp of t lay args h=some r) :
 ∃id vt id2 n cap s v rw t2 c,args=[.t (.a (.ptr id [])),.t vt,.t (.a (.sl id2 [] 1 (.lit 0) (.lit n) cap))]/\of h id=some s/\vwOfT vt=some v/\h.m.get id2=some ⟨rw,t2⟩/\bytesOf t2=some (n,c)/\isLn n=true/\id≠id2 /\
  r = .leaf .tt (one .poison) ((h.sees [id,id2]).put id ⟨true,t (lay s v c n)⟩):=by
 unfold l3Sp at e;split at e
 · rename_i id vt id2 n cap;split at e
   · rename_i s v rw t2 h1 h2 h3;split at e
     · rename_i m c h4;split at e
       · rename_i h5;simp only [bA] at h5;have h6:=Nat.eq_of_beq_eq_true h5.1;subst h6;cases e;refine ⟨id,vt,id2,m,cap,s,v,rw,t2,c,rfl,h1,h2,h3,h4,h5.2.1,fun e => ?_,rfl⟩;subst e;have:=h5.2.2;simp at this
       · cases e
     · cases e
   · cases e
 · cases e
theorem arr_sl {n:Nat} {k:IntKind} {g:Nat->U} {ν:Nu} {vs:List Value} (h:(T.arr 1 (.sym n) (.int k g)).rel ν vs):(T.arr 1 (.lit n) (.int k g)).rel ν vs:=by
 simp only [T.rel] at h ⊢;exact h
theorem l3_ok {σ:Type} {of:H->Nat->Option σ} {t:σ->T} {lay:σ->VW->(Nat->U)->Nat->σ} {f:Nat} (hof:∀{h id s},of h id=some s->h.m.get id=some ⟨true,t s⟩) (hn:∀s,notMp (t s)=true) (hf:∀s,(t s).free=true) (hent:Enters Tryz.prog f)
 (hc:∀{w:World} {r b off n cap:Nat} {s:σ} {v:VW} {vv:Value} {c:Nat->U},isLn n=true->n≤cap->r≠b->Holds w r (t s)->HoldsAt w b off (.arr 1 (.lit n) (.int .u8 c))->(V.t v.t).rel nu0 vv ->
   Calls Tryz.prog f #[.pointer (some ⟨r,0,none⟩),vv,.slice (some ⟨b,off,none⟩) n cap] w fun e w'=>(∃u,e = .returned u)/\Holds w' r (t (lay s v c n))/\But r w.heap.size w w'):AnyOK Tryz.prog f (l3Sp of t lay) where
 ent:=hent
 ok:=by
  intro args h r ok v0 h' he hp hok;obtain ⟨id,vt,id2,n,cap,s,v,rw,t2,c,rfl,hs,hv,hb2,hby,hln,hne,rfl⟩:=l3Sp_inv he;simp only [R.pick,oI,pI] at hp;obtain ⟨rfl,rfl,rfl⟩:=hp;refine fn_turn (hof hs) (hn s) (hf s) [id,id2] (.head _) fun S ν w r us hm hS hν hh hus => ?_
  match us,hus with
  | [u1,u2],⟨r1,r2,_⟩=>
    obtain ⟨B,off,cp,hid,hH,rfl,hcap⟩:=sl_here hm hb2 (hS id2 (.tail _ (.head _))) (bytesOf_free hby) (bytesOf_isfree hby) (len :=.lit n) (isLn_lt hln).1 r2;have hrB:r≠B:=by rintro rfl;exact hne (hm.nums.inj id _ (hof hs) rfl id2 r 0 off hν hid).symm
    refine (hc hln hcap hrB hh (hH.less fun vs hvs=>arr_sl (bytesOf_rel hby hvs)) (vwOfT_rel hv r1)).mono ?_;rintro e w' ⟨⟨u,rfl⟩,hh',hbut⟩;refine ⟨u,rfl,?_,hbut,hh'⟩;show A.poison.rel ν u;simp only [A.rel]
 pan:=by intro args h r ok v0 h' he hp hok;obtain ⟨id,vt,id2,n,cap,s,v,rw,t2,c,rfl,hs,hv,hb2,hby,hln,hne,rfl⟩:=l3Sp_inv he;simp [R.pickP] at hp
 ext:=by intro args h r he hlo;obtain ⟨id,vt,id2,n,cap,s,v,rw,t2,c,rfl,hs,hv,hb2,hby,hln,hne,rfl⟩:=l3Sp_inv he;exact (sees_ext [id,id2] h).trans (put_ext (h:=h.sees [id,id2]) (by rw [sees_m];exact hof hs) rfl rfl)
def lay3V:List V->H->Option R:=l3Sp vfOf VF.t layVR
def lay3Q:List V->H->Option R:=l3Sp qfOf QF.t layQR
theorem lay3V_ok:AnyOK Tryz.prog 36 lay3V:=l3_ok vfOf_some (fun _=>rfl) (fun _=>rfl) (enters_of entK 36 _ Tryz.func36 (by simp [Tryz.f36])) lay36
theorem lay3Q_ok:AnyOK Tryz.prog 37 lay3Q:=l3_ok qfOf_some (fun _=>rfl) (fun _=>rfl) (enters_of entK 37 _ Tryz.func37 (by simp [Tryz.f37])) lay37
def vN (k:Int):T :=.st [.a (.lit .i64 k),.a (.lit .u64 0),.a (.lit .i64 0),.a (.lit .i64 0)]
def regsN:List T:=[vN 0,vN 2,vN 0,vN 0,vN 0,vN 0,vN 0,vN 0,vN 0,vN 0,vN 3]
def slotZ:T :=.st [vN 0,.lst 1 (List.replicate 8 (.a (.lit .u8 0))),.lst 1 (List.replicate 8 (.a .ff))]
def vfZ:T :=.st [.lst 4 regsN,ctxT,.lst 20 (List.replicate 16 slotZ)]
def qfZ:T :=.st [.lst 4 regsN,ctxT,.lst 2 (List.replicate 128 (.st [.a (.lit .i64 0),.a (.lit .u8 0)])),.lst 4 (List.replicate 16 (vN 0))]
def zVV:VV:=⟨fun n=>K (kindN n),fun _=>K 0,fun _=>K 0,fun _=>K 0⟩
def z0VV:VV:=⟨fun _=>K 0,fun _=>K 0,fun _=>K 0,fun _=>K 0⟩
def newVF:VF:=⟨zVV,z0VV,fun _ _=>K 0,fun _ _=>false⟩
def newQF:QF:=⟨zVV,fun _=>K 0,fun _=>K 0,z0VV⟩
theorem rel_new:Rel23 newVF newQF:=⟨rfl,fun j=>by
 show K 0=if K 0≠K 0 then K 2 else if false=true then K 1 else K 0
 rw [if_neg (fun h=>h rfl),if_neg (by decide)],fun _=>rfl,fun k h=>absurd rfl h,fun k j h=>absurd rfl h⟩
theorem vN_rel {ν:Nu} {k:Int} {vs:List Value} {i:Nat} {f:VV} (hf:f.at i=⟨K k,K 0,K 0,K 0⟩) (h:(vN k).rel ν vs):f.s.rel i vs:=by
 unfold VV.at at hf;simp only [VW.mk.injEq] at hf;obtain ⟨h1,h2,h3,h4⟩:=hf;simp only [vN,T.rel,relTs,A.rel] at h;simp only [VV.s,Sh.rel,relShs,h1,h2,h3,h4];obtain ⟨u1,w1,e1,⟨x1,y1,⟨z1,q1⟩,_⟩,u2,w2,e2,⟨x2,y2,⟨z2,q2⟩,_⟩,u3,w3,e3,⟨x3,y3,⟨z3,q3⟩,_⟩,u4,w4,e4,⟨x4,y4,⟨z4,q4⟩,_⟩,e5⟩:=h;subst y1 z1 y2 z2 y3 z3 y4 z4;have ek:vof .i64 (K k)=k:=vof_ofInt q1;exact ⟨_,w1,e1,by rw [ek],_,w2,e2,rfl,_,w3,e3,rfl,_,w4,e4,rfl,e5⟩
theorem regsN_rel {ν:Nu} {vs:List Value}:∀i (hi:i<regsN.length),(regsN[i]).rel ν vs->zVV.s.rel i vs
 | 0,_,h=>vN_rel rfl h|1,_,h=>vN_rel rfl h|2,_,h=>vN_rel rfl h|3,_,h=>vN_rel rfl h|4,_,h=>vN_rel rfl h|5,_,h=>vN_rel rfl h|6,_,h=>vN_rel rfl h|7,_,h=>vN_rel rfl h|8,_,h=>vN_rel rfl h|9,_,h=>vN_rel rfl h|10,_,h=>vN_rel rfl h
 | n+11,hi,_=>absurd hi (by show ¬(n+11<11);omega)
theorem rep_rel {ν:Nu} {x:A} {u:Value} (hx:∀v,x.rel ν v->v=u):∀(n:Nat) {vs:List Value},relLst ν 1 (List.replicate n (.a x)) vs->vs=(List.range n).map fun _=>u
 | 0,vs,h=>by simp only [List.replicate,relLst] at h;subst h;rfl
 | n+1,vs,h=>by simp only [List.replicate,relLst] at h;obtain ⟨us,ws,rfl,_,ht,hw⟩:=h;simp only [T.rel] at ht;obtain ⟨v,rfl,hv,_⟩:=ht;rw [hx v hv,rep_rel hx n hw,List.range_succ_eq_map,List.map_cons,List.map_map];rfl
theorem slotZ_rel {ν:Nu} {vs:List Value} {i:Nat} (h:slotZ.rel ν vs):(Sh.st [z0VV.s,.ints 8 .u8 fun _ _=>K 0,.bools 8 fun _ _=>false]).rel i vs:=by
 simp only [slotZ,T.rel,relTs] at h;simp only [Sh.rel,relShs];obtain ⟨u1,w1,e1,r1,u2,w2,e2,r2,u3,w3,e3,r3,e4⟩:=h;refine ⟨u1,w1,e1,?_,u2,w2,e2,?_,u3,w3,e3,?_,e4⟩
 · exact vN_rel rfl (by simpa only [T.rel] using r1)
 · exact rep_rel (fun v hv=>by simp only [A.rel] at hv;exact hv.1) 8 r2
 · exact rep_rel (fun v hv=>by simp only [A.rel] at hv;exact hv) 8 r3
theorem vfZ_rel {ν:Nu} {vs:List Value} (h:vfZ.rel ν vs):newVF.t.rel ν vs:=by
 unfold vfZ at h;unfold VF.t;simp only [T.rel,relTs] at h ⊢;obtain ⟨u,w,rfl,h1,u2,w2,rfl,h2,u3,w3,rfl,h3,rfl⟩:=h;refine ⟨_,_,rfl,?_,_,_,rfl,h2,_,_,rfl,?_,rfl⟩
 · have:=lst_fun (sh:=zVV.s) (fun vs i hi=>regsN_rel i hi) h1;simp only [T.rel] at this;exact this
 · have:=lst_fun (sh :=.st [z0VV.s,.ints 8 .u8 fun _ _=>K 0,.bools 8 fun _ _=>false]) (fun vs i hi hr => ?_) h3
   · simp only [T.rel,List.length_replicate] at this;exact this
   · rw [List.getElem_replicate] at hr;exact slotZ_rel hr
theorem qfZ_rel {ν:Nu} {vs:List Value} (h:qfZ.rel ν vs):newQF.t.rel ν vs:=by
 unfold qfZ at h;unfold QF.t;simp only [T.rel,relTs] at h ⊢;obtain ⟨u,w,rfl,h1,u2,w2,rfl,h2,u3,w3,rfl,h3,u4,w4,rfl,h4,rfl⟩:=h;refine ⟨_,_,rfl,?_,_,_,rfl,h2,_,_,rfl,?_,_,_,rfl,?_,rfl⟩
 · have:=lst_fun (sh:=zVV.s) (fun vs i hi=>regsN_rel i hi) h1;simp only [T.rel] at this;exact this
 · have:=lst_fun (sh :=.st [.int .i64 fun _=>K 0,.int .u8 fun _=>K 0]) (fun vs i hi hr => ?_) h3
   · simp only [T.rel,List.length_replicate] at this;exact this
   · rw [List.getElem_replicate] at hr;simp only [T.rel,relTs,A.rel] at hr;simp only [Sh.rel,relShs];obtain ⟨u1,w1,e1,⟨x1,y1,⟨z1,q1⟩,_⟩,u2,w2,e2,⟨x2,y2,⟨z2,q2⟩,_⟩,e3⟩:=hr;subst y1 z1 y2 z2;exact ⟨_,w1,e1,rfl,_,w2,e2,rfl,e3⟩
 · have:=lst_fun (sh:=z0VV.s) (fun vs i hi hr => ?_) h4
   · simp only [T.rel,List.length_replicate] at this;exact this
   · rw [List.getElem_replicate] at hr;exact vN_rel rfl hr
theorem new25_ev:resN (evalF cxK noΓ 400 20 25 [one .nils] H.none)=some (.tt,0,some ⟨true,vfZ⟩):=by kernel_rfl
theorem new26_ev:resN (evalF cxK noΓ 400 20 26 [one .nils] H.none)=some (.tt,0,some ⟨true,qfZ⟩):=by kernel_rfl
def newS1 (t:T):List V->Option T
 | [.t (.a .nils)]=>some t
 | _=>none
theorem new1_ok {f:Nat} {t t':T} (hr:∀{ν vs},t.rel ν vs->t'.rel ν vs) (hf:t.free=true) (hn:notMp t=true) (he:resN (evalF cxK noΓ 400 20 f [one .nils] H.none)=some (.tt,0,some ⟨true,t⟩)) {Γ:Gam} (hΓ:ΓOK Tryz.prog Γ):ΓOK Tryz.prog (newΓ f (newS1 t') Γ):=by
 refine newΓ_ok (fun args t0 h => ?_) hΓ;unfold newS1 at h;split at h
 · cases h;unfold resN at he;split at he
   · rename_i ok id h hp;simp only [oI,pI] at he;obtain ⟨rfl,rfl,hb⟩:=he;obtain ⟨h1,h2⟩:=evalF_fn (XK noΓ_ok) rfl hp rfl;exact ⟨h1,fnOK_new h2 hb hf hn (fun ν vs hv=>hr hv) rfl⟩
   · cases he
 · cases h
theorem new25_ok {Γ:Gam} (hΓ:ΓOK Tryz.prog Γ):ΓOK Tryz.prog (newΓ 25 (newS1 newVF.t) Γ):=new1_ok vfZ_rel rfl rfl new25_ev hΓ
theorem new26_ok {Γ:Gam} (hΓ:ΓOK Tryz.prog Γ):ΓOK Tryz.prog (newΓ 26 (newS1 newQF.t) Γ):=new1_ok qfZ_rel rfl rfl new26_ev hΓ
def rdT (s:VF) (i:Nat):RT :=.node (!(s.regs.k i != K 0)) (.pan .tt (.iface 206 (.lit .i64 15)) [] (some ⟨true,s.t⟩)) (.leaf .tt (.t (s.regs.at i).t) [] (some ⟨true,s.t⟩) none)
def isRg:Nat->Bool
 | 9=>true|10=>true|_=>false
theorem isRg_cases {n:Nat} (h:isRg n=true):n=9\/n=10:=by
 unfold isRg at h;split at h<;>simp at *
theorem read_ev (s:VF) {i:Nat} (h:isRg i=true):(evalF cxK noΓ 400 20 143 [pt 0,one (.lit .i64 (.ofNat i))] (hM [(0,⟨true,s.t⟩)] 1)).rt=rdT s i:=by
 rcases isRg_cases h with rfl|rfl<;>kernel_rfl
def r10T:T :=.st [.a (.lit .i64 3),.a (.lit .u64 0),.a (.lit .i64 0),.a (.lit .i64 0)]
def r10B (v:VW):Bool:=v.k==K 3&&(v.n==K 0&&(v.m==K 0&&v.i==K 0))
def readSp:List V->H->Option R
 | [.t (.a (.ptr id [])),.t (.a (.lit .i64 (.ofNat i)))],h=>match vfOf h id,isRg i with
   | some s,true=>match Nat.beq i 10 with
     | true=>some (.leaf (.b (r10B (s.regs.at 10))) (.t r10T) (h.sees [id]))
     | false=>some (.leaf (.b (s.regs.k i != K 0)) (.t (s.regs.at i).t) (h.sees [id]))
   | _,_=>none
 | _,_=>none
theorem readSp_inv {args:List V} {h:H} {r:R} (e:readSp args h=some r):∃id i s,args=[.t (.a (.ptr id [])),.t (.a (.lit .i64 (.ofNat i)))]/\vfOf h id=some s/\isRg i=true /\
 ((i=10/\r = .leaf (.b (r10B (s.regs.at 10))) (.t r10T) (h.sees [id]))\/r = .leaf (.b (s.regs.k i != K 0)) (.t (s.regs.at i).t) (h.sees [id])):=by
 unfold readSp at e;split at e
 · split at e
   · rename_i h1 h2;split at e
     · rename_i h3;cases e;exact ⟨_,_,_,rfl,h1,h2,.inl ⟨Nat.eq_of_beq_eq_true h3,rfl⟩⟩
     · cases e;exact ⟨_,_,_,rfl,h1,h2,.inr rfl⟩
   · cases e
 · cases e
theorem r10_rel {v:VW} (h:r10B v=true) {ν:Nu} {u:Value} (hu:(V.t v.t).rel ν u):(V.t r10T).rel ν u:=by
 unfold r10B at h;simp only [bA,beq_iff_eq] at h;obtain ⟨h1,h2,h3,h4⟩:=h;obtain ⟨us,rfl,hr⟩:=hu;refine ⟨us,rfl,?_⟩;unfold VW.t at hr;unfold r10T;simp only [T.rel,relTs,A.rel,h1,h2,h3,h4] at hr ⊢;obtain ⟨a1,b1,e1,⟨x1,y1,z1,c1⟩,a2,b2,e2,⟨x2,y2,z2,c2⟩,a3,b3,e3,⟨x3,y3,z3,c3⟩,a4,b4,e4,⟨x4,y4,z4,c4⟩,e5⟩:=hr;exact ⟨a1,b1,e1,⟨x1,y1,⟨z1,rfl⟩,c1⟩,a2,b2,e2,⟨x2,y2,⟨z2,rfl⟩,c2⟩,a3,b3,e3,⟨x3,y3,⟨z3,rfl⟩,c3⟩,a4,b4,e4,⟨x4,y4,⟨z4,rfl⟩,c4⟩,e5⟩
theorem read_any {h:H} {id i:Nat} {s:VF} (hs:vfOf h id=some s) (hi:isRg i=true) (hk:(s.regs.k i != K 0)=true) {v:V} (hv:∀ν u,(V.t (s.regs.at i).t).rel ν u->v.rel ν u):FnOK Tryz.prog 143 [.t (.a (.ptr id [])),.t (.a (.lit .i64 (.ofNat i)))] h v (h.sees [id]):=by
 obtain ⟨h',hp,hw,_⟩:=rt_pick (r:=evalF cxK noΓ 400 20 143 [pt 0,one (.lit .i64 (.ofNat i))] (hM [(0,⟨true,s.t⟩)] 1)) (ok :=.tt) (v :=.t (s.regs.at i).t) (wr:=[]) (b0:=some ⟨true,s.t⟩) (b:=none) (by
  rw [read_ev s hi];simp only [rdT,RT.pick,hk,Bool.not_true,cond_false])
 obtain ⟨_,hfn⟩:=evalF_fn (XK noΓ_ok) rfl hp rfl;refine fn_calm [id] fun S ν w us hm hS hus => ?_
 match us,hus with
 | [u0,u1],⟨r0,r1,_⟩=>
   obtain ⟨r,e1,hh,rfl⟩:=ptr_here hm (vfOf_some hs) (hS id (.head _)) rfl rfl r0;refine (call_calm hfn hw hh (vs:=[.pointer (some ⟨r,0,none⟩),u1]) ⟨by
    show (A.ptr 0 []).rel (nuOne r) _;simp only [A.rel];exact ⟨r,0,rfl,rfl⟩,V.rel_free (x:=one (.lit .i64 (.ofNat i))) rfl r1,trivial⟩).mono ?_
   rintro e w' ⟨u,ν',rfl,hu,hb,_⟩;exact ⟨u,rfl,hv _ _ (V.rel_free (x :=.t (s.regs.at i).t) rfl hu),hb⟩
theorem read143_ok:AnyOK Tryz.prog 143 readSp where
 ent:=enters_of entK 143 _ Tryz.func143 (by simp [Tryz.f143])
 ok:=by
  intro args h r ok v h' he hp hok;obtain ⟨id,i,s,rfl,hs,hi,⟨rfl,rfl⟩|rfl⟩:=readSp_inv he
  · simp only [R.pick,oI,pI] at hp;obtain ⟨rfl,rfl,rfl⟩:=hp;have hk:r10B (s.regs.at 10)=true:=hok;refine read_any hs hi ?_ fun ν u hu=>r10_rel hk hu;unfold r10B at hk;simp only [bA,beq_iff_eq] at hk;have h1:s.regs.k 10=K 3:=hk.1;rw [h1];decide
  · simp only [R.pick,oI,pI] at hp;obtain ⟨rfl,rfl,rfl⟩:=hp;exact read_any hs hi hok fun ν u hu=>hu
 pan:=by intro args h r ok v h' he hp hok;obtain ⟨id,i,s,rfl,hs,hi,⟨rfl,rfl⟩|rfl⟩:=readSp_inv he<;>simp [R.pickP] at hp
 ext:=by intro args h r he hlo;obtain ⟨id,i,s,rfl,hs,hi,⟨rfl,rfl⟩|rfl⟩:=readSp_inv he<;>exact sees_ext [id] h
def ΓR:Gam:=anyΓ 143 readSp ΓY
theorem ΓR_ok:ΓOK Tryz.prog ΓR:=anyΓ_ok read143_ok ΓY_ok
end Go.WE
namespace Go.WE
open Go Go.Proofs Go.RowKit
open Go.Proofs.YtoeealkcacgcgaaGreatDoor.Wor (bytesL putG put_fit)
theorem u8_mod (x:U):vof .u8 x=((x.toNat % 256:Nat):Int):=by
 have:vof .u8 x=IntKind.u8.wrap (x.toNat:Int):=rfl;rw [this,IntKind.wrap_u8];omega
def putF (g:Nat->U) (a:Nat) (v:U):Nat->U:=fun j=>cond (Nat.ble a j&&Nat.blt j (a+8)) (v>>>(8*(j-a))) (g j)
theorem putF_rel (g:Nat->U) (a:Nat) (v:U) (j:Nat):vof .u8 (putF g a v j)=putG (fun j=>vof .u8 (g j)) a 8 v.toNat j:=by
 unfold putF putG;by_cases h:a≤j/\j<a+8
 · have h1:Nat.ble a j=true:=nB h.1;have h2:Nat.blt j (a+8)=true:=nB h.2;rw [if_pos h,h1,h2,Bool.and_self,cond_true,u8_mod,BitVec.toNat_ushiftRight,Nat.shiftRight_eq_div_pow];have e:2 ^ (8*(j-a))=256 ^ (j-a):=by rw [Nat.pow_mul]
   rw [e]
 · have h1:(Nat.ble a j&&Nat.blt j (a+8))=false:=by
    cases h2:(Nat.ble a j&&Nat.blt j (a+8))
    · rfl
    · rw [bA] at h2;exact absurd ⟨nL h2.1,nL h2.2⟩ h
   rw [if_neg h,h1,cond_false]
def u64Of:A->Option U
 | .lit .u64 n=>some (BitVec.ofInt 64 n)
 | .i .u64 x=>some x
 | _=>none
theorem u64Of_rel {ν:Nu} {a:A} {x:U} {v:Value} (h:u64Of a=some x) (hr:a.rel ν v):v = .int .u64 (vof .u64 x):=by
 unfold u64Of at h;split at h
 · cases h;simp only [A.rel] at hr;obtain ⟨rfl,hn⟩:=hr;rw [vof_ofInt hn]
 · cases h;simpa only [A.rel] using hr
 · cases h
def putSp:List V->H->Option R
 | [.t (.a (.sl id [] 1 (.lit 0) (.lit n) _)),.t (.a (.lit .i64 (.ofNat a))),.t (.a (.lit .i64 (.ofNat s))),.t (.a av)],h=>match h.m.get id,u64Of av with
   | some ⟨_,t2⟩,some v=>match bytesOf t2 with
     | some (m,g)=>match Nat.beq m n&&(Nat.ble (a+8) n&&(Nat.beq s 8&&Nat.ble n 128)) with
       | true=>some (.leaf .tt (.tup [.a (.sl h.next [] 1 (.lit 0) (.lit n) none),.a .tt]) ((h.sees [id]).new ⟨true,.arr 1 (.lit n) (.int .u8 (putF g a v))⟩))
       | false=>none
     | none=>none
   | _,_=>none
 | _,_=>none
theorem putSp_inv {args:List V} {h:H} {r:R} (e:putSp args h=some r):∃id n c a av rw t2 v g,args=[.t (.a (.sl id [] 1 (.lit 0) (.lit n) c)),.t (.a (.lit .i64 (.ofNat a))),.t (.a (.lit .i64 (.ofNat 8))),.t (.a av)]/\h.m.get id=some ⟨rw,t2⟩/\u64Of av=some v/\bytesOf t2=some (n,g)/\a+8≤n/\n≤128 /\
 r = .leaf .tt (.tup [.a (.sl h.next [] 1 (.lit 0) (.lit n) none),.a .tt]) ((h.sees [id]).new ⟨true,.arr 1 (.lit n) (.int .u8 (putF g a v))⟩):=by
 unfold putSp at e;split at e
 · rename_i id n c a s av;split at e
   · rename_i rw t2 v h1 h2;split at e
     · rename_i m g h3;split at e
       · rename_i h4;simp only [bA] at h4;have e1:=Nat.eq_of_beq_eq_true h4.1;have e2:=Nat.eq_of_beq_eq_true h4.2.2.1;subst e1 e2;cases e;exact ⟨id,m,c,a,av,rw,t2,v,g,rfl,h1,h2,h3,nL h4.2.1,nL h4.2.2.2,rfl⟩
       · cases e
     · cases e
   · cases e
 · cases e
theorem at_cell {w:World} {b off n:Nat} {g:Nat->U} (h:HoldsAt w b off (.arr 1 (.sym n) (.int .u8 g))):∀j,j<n->w.cell? ⟨b,off+j,none⟩=some (.int .u8 (vof .u8 (g j))):=fun j hj=>by
 obtain ⟨cs,ty,fr,pre,vs,post,h1,h2,h3,h4⟩:=h;simp only [T.rel] at h4;have h5:=h4.2 j hj;simp only [Sh.rel,Nat.one_mul] at h5;have hl:vs.length=n:=by simpa [Ix.val] using h4.1
 have h6:vs[j]? = some (.int .u8 (vof .u8 (g j))):=by have:=congrArg (fun l=>l[0]?) h5;simpa [List.getElem?_take,List.getElem?_drop] using this
 unfold World.cell?;rw [h1];simp only;rw [← Array.getElem?_toList,h2,List.append_assoc,List.getElem?_append_right (by omega),← h3,Nat.add_sub_cancel_left,List.getElem?_append_left (by omega)]
 exact h6
theorem put60_ok:AnyOK Tryz.prog 60 putSp where
 ent:=enters_of entK 60 _ Tryz.func60 (by simp [Tryz.f60])
 ok:=by
  intro args h r ok v0 h' he hp hok;obtain ⟨id,n,c,a,av,rw,t2,v,g,rfl,hb,hav,hby,ha,hn,rfl⟩:=putSp_inv he;simp only [R.pick,oI,pI] at hp;obtain ⟨rfl,rfl,rfl⟩:=hp;refine fn_made rfl [id] fun S ν w us hm hS hus => ?_
  match us,hus with
  | [u0,u1,u2,u3],⟨r0,r1,r2,r3,_⟩=>
    obtain ⟨B,off,cap,hid,hH,rfl,hcap⟩:=sl_here hm hb (hS id (.head _)) (bytesOf_free hby) (bytesOf_isfree hby) (len :=.lit n) (by show 0<n;omega) r0
    have r1:(A.lit .i64 (.ofNat a)).rel ν u1:=r1;have r2:(A.lit .i64 (.ofNat 8)).rel ν u2:=r2;simp only [A.rel] at r1 r2;obtain ⟨rfl,_⟩:=r1;obtain ⟨rfl,_⟩:=r2;obtain rfl:=u64Of_rel hav r3;have ev:vof .u64 v=(v.toNat:Int):=by have:vof .u64 v=IntKind.u64.wrap (v.toNat:Int):=rfl;rw [this,IntKind.wrap_u64];have:=v.isLt;omega
    have hput:=put_fit B off n cap (fun j=>vof .u8 (g j)) a 8 v.toNat w (by omega) hH.lt v.isLt (.inr (.inr (.inr rfl))) ha (at_cell (hH.less fun vs=>bytesOf_rel hby))
    rw [← ev] at hput;refine hput.mono ?_;rintro e w' ⟨l,rfl,hown,hb⟩;obtain ⟨_,hcase⟩:=hown;rcases hcase with ⟨_,e0⟩|⟨b',cap',cur,rfl,hge,hh',hncap,hcap',hsz,htake⟩
    · omega
    · rw [Nat.mul_one] at htake;have e1:(fun j=>vof .u8 (putF g a v j))=putG (fun j=>vof .u8 (g j)) a 8 v.toNat:=funext (putF_rel g a v);rw [← e1] at htake;refine ⟨_,b',rfl,hge,hb,⟨cur,5,_,cur.toList.drop n,hh',by rw [← htake,List.take_append_drop],bytesL_arr (ν:=nu0) (g:=putF g a v) (n:=n)⟩,fun ν' _ hν=>⟨_,rfl,?_,?_,trivial⟩⟩
      · show (A.sl h.next [] 1 (.lit 0) (.lit n) none).rel ν' _;simp only [A.rel];exact ⟨b',0,0,cap',hν,rfl,fun _=>by simp [pathOff,Ix.val],hncap,fun _ e=>by cases e⟩
      · show A.tt.rel ν' _;simp only [A.rel]
 pan:=by intro args h r ok v0 h' he hp hok;obtain ⟨id,n,c,a,av,rw,t2,v,g,rfl,hb,hav,hby,ha,hn,rfl⟩:=putSp_inv he;simp [R.pickP] at hp
 ext:=by intro args h r he hlo;obtain ⟨id,n,c,a,av,rw,t2,v,g,rfl,hb,hav,hby,ha,hn,rfl⟩:=putSp_inv he;exact (sees_ext [id] h).trans (new_ext (by rw [sees_lo,sees_next];exact hlo) _)
def ΓQ:Gam:=anyΓ 60 putSp ΓR
theorem ΓQ_ok:ΓOK Tryz.prog ΓQ:=anyΓ_ok put60_ok ΓR_ok
end Go.WE
namespace Go.WE
open Go Go.Proofs Go.RowKit
def valR:Option (Nat×T)->Option (Nat×(Nat->U))->Prop
 | none,none=>True
 | some (w,t),some (k,g)=>k=w/\t = .arr 1 (.lit w) (.int .u64 g)
 | _,_=>False
def ObR (ob:Ob) (po:PO):Prop:=∃m op key flag cpu e,ob.1=[m,op,key,flag,cpu,e]/\i64Of m=some po.m/\i64Of op=some po.op/\u64Of key=some po.key/\i64Of flag=some po.flag/\i64Of cpu=some po.cpu/\i64Of e=some po.code/\valR ob.2 po.val
theorem obR_err {c:A} {x:U} (h:i64Of c=some x):ObR ([z64,z64,.lit .u64 0,z64,z64,c],none) (.err x):=⟨_,_,_,_,_,_,rfl,rfl,rfl,rfl,rfl,rfl,h,trivial⟩
def Pk (q:PQ) (po:PO):Prop:=∃ok ob,q.pick=some (ok,[],ob)/\okB ok=true/\ObR ob po
theorem pk_err {ok c:A} {x:U} (ho:okB ok=true) (h:i64Of c=some x):Pk (errQ ok c) (.err x):=⟨ok,_,rfl,ho,obR_err h⟩
theorem pk_t {c:Bool} {a b:PQ} {po:PO} (hc:c=true) (h:Pk a po):Pk (.node c a b) po:=by subst hc;exact h
theorem pk_f {c:Bool} {a b:PQ} {po:PO} (hc:c=false) (h:Pk b po):Pk (.node c a b) po:=by subst hc;exact h
def OKB (regs:VV) (how:Nat->U) (w:Nat):List Nat->Nat->Nat->Prop
 | [],_,_=>True
 | 0::L,r,B=>match B with
   | 0=>bytesE how (regs.at r) 8≠K 0
   | B+1=>bytesE how (regs.at r) 8=K 0/\OKB regs how w L (r+1) B
 | 1::L,r,B=>match B with
   | 0=>bytesE how (regs.at r) (8*w)≠K 0
   | B+1=>bytesE how (regs.at r) (8*w)=K 0/\OKB regs how w L (r+1) B
 | _::L,r,B=>OKB regs how w L (r+1) B
def OKb (regs:VV) (w:Nat) (b:Bool):List Nat->Nat->Nat->Prop
 | [],_,_=>True
 | 0::L,r,B=>match B with
   | 0=>True
   | B+1=>OKb regs w b L (r+1) B
 | 1::L,r,B=>match B with
   | 0=>True
   | B+1=>OKb regs w b L (r+1) B
 | 2::L,r,B=>OKb regs w b L (r+1) B
 | _::L,r,B=>roomB (regs.n r) (8*w)=b/\OKb regs w b L (r+1) B
section
variable {regs:VV} {how flat:Nat->U} {w op:Nat} {cpu:A} {cU:U}
theorem argsV_pick (hc:i64Of cpu=some cU) {b:Bool}:∀(L:List Nat) (r B:Nat) (o:Bool) (key flag:A) (val:Option (Nat×T)) (kU fU:U) (v:Option (Nat×(Nat->U))),o=true->u64Of key=some kU->i64Of flag=some fU->valR val v->OKB regs how w L r B->OKb regs w b L r B ->
 Pk (argsV b regs how flat w op cpu L r B o key flag val) (argsF regs how flat w (regs.i 1) (K op) cU L r kU fU v)
 | [],r,B,o,key,flag,val,kU,fU,v,ho,hk,hf,hv,_,_=>by subst ho;exact ⟨.b true,_,rfl,rfl,_,_,_,_,_,_,rfl,rfl,rfl,hk,hf,hc,rfl,hv⟩
 | 0::L,r,B,o,key,flag,val,kU,fU,v,ho,hk,hf,hv,hB,hb=>by
   unfold argsV argsF;cases h0:regs.k r==K 0
   · refine pk_f (by rw [bne,h0];rfl) ?_
     simp only [h0,cond_false];cases B with
     | zero=>
       have hE:bytesE how (regs.at r) 8≠K 0:=hB;have e1:(bytesE how (regs.at r) 8==K 0)=false:=by simpa using hE
       have e2:(bytesE how (regs.at r) 8 != K 0)=true:=bne_iff_ne.2 hE;simp only [e2,cond_true];refine pk_t (by rw [e1];rfl) (pk_err ?_ rfl)
       subst ho;rfl
     | succ B=>
       obtain ⟨hE,hB⟩:=hB;have e1:(bytesE how (regs.at r) 8==K 0)=true:=by rw [hE];decide
       have e2:(bytesE how (regs.at r) 8 != K 0)=false:=by rw [bne,e1];rfl
       simp only [e2,cond_false];exact argsV_pick hc L (r+1) B _ _ _ _ _ _ _ (by rw [e1,ho];rfl) rfl hf hv hB hb
   · refine pk_t (by rw [bne,h0];rfl) ?_
     simp only [h0,cond_true];exact pk_err ho rfl
 | 1::L,r,B,o,key,flag,val,kU,fU,v,ho,hk,hf,hv,hB,hb=>by
   unfold argsV argsF;cases h0:regs.k r==K 0
   · refine pk_f (by rw [bne,h0];rfl) ?_
     simp only [h0,cond_false];cases B with
     | zero=>
       have hE:bytesE how (regs.at r) (8*w)≠K 0:=hB;have e1:(bytesE how (regs.at r) (8*w)==K 0)=false:=by simpa using hE
       have e2:(bytesE how (regs.at r) (8*w) != K 0)=true:=bne_iff_ne.2 hE;simp only [e2,cond_true];refine pk_t (by rw [e1];rfl) (pk_err ?_ rfl)
       subst ho;rfl
     | succ B=>
       obtain ⟨hE,hB⟩:=hB;have e1:(bytesE how (regs.at r) (8*w)==K 0)=true:=by rw [hE];decide
       have e2:(bytesE how (regs.at r) (8*w) != K 0)=false:=by rw [bne,e1];rfl
       simp only [e2,cond_false];exact argsV_pick hc L (r+1) B _ _ _ _ _ _ _ (by rw [e1,ho];rfl) hk hf ⟨rfl,rfl⟩ hB hb
   · refine pk_t (by rw [bne,h0];rfl) ?_
     simp only [h0,cond_true];exact pk_err ho rfl
 | 2::L,r,B,o,key,flag,val,kU,fU,v,ho,hk,hf,hv,hB,hb=>by
   unfold argsV argsF;cases h0:regs.k r==K 0
   · refine pk_f (by rw [bne,h0];rfl) ?_
     simp only [h0,cond_false];cases h1:regs.k r==K 1
     · refine pk_t rfl ?_;have:(regs.k r != K 1)=true:=by rw [bne,h1];rfl
       simp only [this,cond_true];exact pk_err ho rfl
     · refine pk_f rfl ?_;have:(regs.k r != K 1)=false:=by rw [bne,h1];rfl
       simp only [this,cond_false];exact argsV_pick hc L (r+1) B _ _ _ _ _ _ _ ho hk rfl hv hB hb
   · refine pk_t (by rw [bne,h0];rfl) ?_
     simp only [h0,cond_true];exact pk_err ho rfl
 | (n+3)::L,r,B,o,key,flag,val,kU,fU,v,ho,hk,hf,hv,hB,hb=>by
   unfold argsV argsF;cases h0:regs.k r==K 0
   · refine pk_f (by rw [bne,h0];rfl) ?_
     simp only [h0,cond_false];cases h1:regs.k r==K 3
     · refine pk_t rfl ?_;have:(regs.k r != K 3)=true:=by rw [bne,h1];rfl
       simp only [this,cond_true];exact pk_err ho rfl
     · refine pk_f rfl ?_;have:(regs.k r != K 3)=false:=by rw [bne,h1];rfl
       simp only [this,cond_false];obtain ⟨hr,hb⟩:roomB (regs.n r) (8*w)=b/\OKb regs w b L (r+1) B:=hb;cases b
       · simp only [hr,Bool.not_false,cond_true];refine pk_err ?_ rfl;subst ho;rfl
       · simp only [hr,Bool.not_true,cond_false];exact argsV_pick hc L (r+1) B _ _ _ _ _ _ _ (by rw [ho];rfl) hk hf hv hB hb
   · refine pk_t (by rw [bne,h0];rfl) ?_
     simp only [h0,cond_true];exact pk_err ho rfl
end
end Go.WE
namespace Go.WE
open Go
open Go.RowKit (Below)
structure ButK (K:List (Nat×Nat)) (Wr:List Nat) (B:Nat) (a b:World):Prop where
 os:b.os=a.os
 tape:b.tape=a.tape
 output:b.output=a.output
 size:a.heap.size≤b.heap.size
 block:∀r,r<B->(∀id,id∈Wr->(id,r) ∉ K)->b.heap[r]? = a.heap[r]?
theorem ButK.refl (K:List (Nat×Nat)) (Wr:List Nat) (B:Nat) (a:World):ButK K Wr B a a:=⟨rfl,rfl,rfl,Nat.le_refl _,fun _ _ _=>rfl⟩
theorem ButK.trans {K:List (Nat×Nat)} {Wr:List Nat} {B:Nat} {a b c:World} (h:ButK K Wr B a b) (k:ButK K Wr B b c):ButK K Wr B a c:=
 ⟨k.os.trans h.os,k.tape.trans h.tape,k.output.trans h.output,Nat.le_trans h.size k.size,fun r hr hn=>(k.block r hr hn).trans (h.block r hr hn)⟩
theorem ButK.but {K:List (Nat×Nat)} {Wr:List Nat} {B id0 r0:Nat} {a b:World} (h:ButK K Wr B a b) (hW:∀id,id∈Wr->id=id0) (hK:∀r,(id0,r)∈K->r=r0):But r0 B a b:=
 ⟨h.os,h.tape,h.output,h.size,fun r hr hne=>h.block r hr fun id hid hm=>by rw [hW id hid] at hm;exact hne (hK r hm)⟩
def wrOk (Wr:List Nat) (p:Option (Ex×St)):Bool:=match p with
 | some (_,s)=>s.h.wr.all fun i=>Wr.any fun j=>Nat.beq i j
 | none=>false
theorem wrOk_mem {Wr:List Nat} {e:Ex} {s:St} (h:wrOk Wr (some (e,s))=true):∀i,i∈s.h.wr->i∈Wr:=fun i hi=>by
 have h1:(Wr.any fun j=>Nat.beq i j)=true:=List.all_eq_true.1 h i hi;obtain ⟨j,hj,e⟩:=List.any_eq_true.1 h1;rw [Nat.eq_of_beq_eq_true e];exact hj
def OwnG (fp:Fp) (n:Nat) (ms:List (Nat×Blk)) (W:World) (K:List (Nat×Nat)) (Wr:List Nat) (l:List (Nat×V)) (a:Act) (w:World):Prop:=
 ∃ν,Stand fp ν (hM ms n) l a w/\ButK K Wr W.heap.size W w/\(∀p,p∈K->ν p.1=some (p.2,0))/\∀id r base,ν id=some (r,base)->(id,r)∈K\/W.heap.size≤r\/∀b,(hM ms n).m.get id=some b->b.rw=false
section
variable {cx:Cx} {Γ:Gam} {fuel d:Nat} {fp:Fp} {c:Code} {l l' l'':List (Nat×V)} {ms ms' ms'':List (Nat×Blk)} {n n':Nat} {ts is:List Nat} {ok:A} {W:World} {K:List (Nat×Nat)} {Wr:List Nat} {a:Act} {w:World}
theorem OwnG.but {ν ν':Nu} {h':H} {w':World} (hm:Mem (fun _=>True) ν w (hM ms n)) (hb:ButK K Wr W.heap.size W w) (hn:∀id r base,ν id=some (r,base)->(id,r)∈K\/W.heap.size≤r\/∀b,(hM ms n).m.get id=some b->b.rw=false) (hw:∀i,i∈h'.wr->i∈Wr) {S:Nat->Prop} (hg:Goes S ν w (hM ms n).mark ν' w' h'):ButK K Wr W.heap.size W w':=by
 refine hb.trans ⟨hg.frm.os,hg.frm.tape,hg.frm.output,hg.frm.size,fun r hr hne=>hg.frm.block r (Nat.lt_of_lt_of_le hr hb.size) fun id base hid => ?_⟩;have hlt:id<n:=by
  refine Classical.byContradiction fun hge => ?_;rw [hm.nums.fresh id (show n≤id by omega)] at hid
  cases hid
 refine ⟨by rw [hg.ext.lo];exact hlt,fun hwr => ?_⟩
 rcases hn id r base hid with h|h|h
 · exact hne id (hw id hwr) h
 · omega
 · rcases hg.ext.wrw id hwr with h3|⟨b,h3,h4⟩|h3
   · cases h3
   · rw [h b h3] at h4;cases h4
   · have h3:n≤id:=h3;omega
theorem OwnG.phase {r:EndM} (X:CxOK cx Γ) (hlam:fp.lam=fun _ _=>none) (hp:endM fp.km ts is n' (evalC cx (evalF cx Γ fuel d) fp fuel c (stOf l (hM ms n))).pick=some r) (hwr:wrOk Wr (evalC cx (evalF cx Γ fuel d) fp fuel c (stOf l (hM ms n))).pick=true) (hok:okB r.ok=true)
 (hpl:(r.l.all fun p=>plainS n' p.2)=true) (hfr:(ms''.all fun p=>p.2.t.free)=true) (hn0:∀p,p∈K->p.1<n') (hgl:codeGl c []=[]) (hl:LessA r.l l'') (hm:LessM r.ms ms'') (hI:OwnG fp n ms W K Wr l a w) {Q:Exit->Act->World->Prop}
 (hQ:∀ν' a' w' x,r.e.rel ν' x->OwnG fp n' ms'' W K Wr l'' a' w'->Q x a' w'):c.wp cx.P Q a w:=by
 obtain ⟨ν,hs,hb,h0,hn⟩:=hI;obtain ⟨s,h1,h2,h3,h4,h5,h6,h7,h8⟩:=endM_some hp;rw [h1] at hwr;refine WE.phase X hlam h1 (by rw [h2];exact hok) (gl_none hgl) hs fun ν' a' w' x hc hg hx=>hQ ν' a' w' x hx ?_
 have hbel:=OwnG.but hs.mem hb hn (wrOk_mem hwr) hg;let ν2:Nu:=fun id=>if id<n' then ν' id else none
 have hold:∀id,id<n'->ν' id=ν2 id:=fun id hid=>by simp [ν2,hid]
 have hν2:∀id p,ν2 id=some p->ν' id=some p:=fun id p h=>by
  simp only [ν2] at h;split at h
  · exact h
  · cases h
 have hmem:=hc.mem;have hget:∀id b'',(hM ms'' n').m.get id=some b''->∃b,s.h.m.get id=some b/\b.rw=b''.rw/\(∀ν vs,b.t.rel ν vs->b''.t.rel ν vs)/\id<n'/\b''.t.free=true/\notMp b.t=true:=fun id b'' h=>by have hm1:=get_memT ms'' id b'' h;obtain ⟨b,hb1,hb2,hb3⟩:=hm.mem id b'' hm1;exact ⟨b,hvals_mem h4 id b hb1,hb2,hb3,h7 id (hvals_ids h4 id b hb1),List.all_eq_true.1 hfr _ hm1,List.all_eq_true.1 h8 _ hb1⟩
 refine ⟨ν2,⟨⟨⟨fun id r base h=>hmem.nums.lt id r base (hν2 _ _ h),fun id b'' hb'' hrw id' r base base' e1 e2 => ?_,fun id hid => ?_,fun id b'' hb''=>(hget id b'' hb'').choose_spec.2.2.2.1,Nat.le_refl _,fun g hg=>by cases hg⟩,fun id b'' hb'' _ => ?_⟩,fun t v htv => ?_,hc.size,?_⟩,hbel,fun p hp => ?_,fun id r base h => ?_⟩
 · obtain ⟨b,q1,q2,_⟩:=hget id b'' hb'';exact hmem.nums.inj id b q1 (by rw [q2];exact hrw) id' r base base' (hν2 _ _ e1) (hν2 _ _ e2)
 · have hid:n'≤id:=hid;simp only [ν2];rw [if_neg (by omega)]
 · obtain ⟨b,q1,q2,q3,q4,q5,q6⟩:=hget id b'' hb'';obtain ⟨r,base,cs,ty,fr,pre,vs,post,z1,z2,z3,z4,z5,z6⟩:=(hmem.seen id b q1 (.inl (.inl trivial))).cells q6;exact .inl ⟨r,base,cs,ty,fr,pre,vs,post,(hold id q4)▸z1,z2,z3,z4,T.rel_free q5 (q3 _ _ z5),fun h=>z6 (by rw [q2];exact h)⟩
 · obtain ⟨v0,q1,q2⟩:=(hl ν2).mem t v htv;refine q2 _ ?_;have q3:=(hc.slots t).1;rw [vals_mem h3 t v0 q1] at q3;exact plainS_old hold (List.all_eq_true.1 hpl _ q1) (q3 trivial)
 · have:=hc.defers;rw [h5] at this;cases hd:a'.defers with
   | nil=>rfl
   | cons _ _=>rw [hd] at this;exact this.elim
 · simp only [ν2];rw [if_pos (hn0 p hp)];exact hg.le _ _ (h0 p hp)
 · have h':=hν2 _ _ h;cases hν:ν id with
   | none=>exact .inr (.inl (Nat.le_trans hb.size (hg.new id r base hν h')))
   | some p=>
     have e:=hg.le id p hν;rw [h'] at e;cases e;rcases hn id r base hν with h9|h9|h9
     · exact .inl h9
     · exact .inr (.inl h9)
     · refine .inr (.inr fun b'' hb'' => ?_);obtain ⟨b,q1,q2,_⟩:=hget id b'' hb'';have hlt:id<(hM ms n).mark.next:=by
        show id<n;refine Classical.byContradiction fun hge => ?_;rw [hs.mem.nums.fresh id (show n≤id by omega)] at hν
        cases hν
       obtain ⟨b0,z1,z2⟩:=hg.ext.rw id b hlt q1;rw [← q2,← z2];exact h9 b0 z1
theorem OwnG.go (X:CxOK cx Γ) (hlam:fp.lam=fun _ _=>none) (hp:endM fp.km ts is n' (evalC cx (evalF cx Γ fuel d) fp fuel c (stOf l (hM ms n))).pick=some ⟨.nrm,ok,l',ms'⟩) (hwr:wrOk Wr (evalC cx (evalF cx Γ fuel d) fp fuel c (stOf l (hM ms n))).pick=true) (hok:okB ok=true)
 (hpl:(l'.all fun p=>plainS n' p.2)=true) (hfr:(ms''.all fun p=>p.2.t.free)=true) (hn0:∀p,p∈K->p.1<n') (hgl:codeGl c []=[]) (hl:LessA l' l'') (hm:LessM ms' ms'') (hI:OwnG fp n ms W K Wr l a w) :
 c.wp cx.P (fun x a' w'=>x = .normal/\OwnG fp n' ms'' W K Wr l'' a' w') a w:=
 OwnG.phase X hlam hp hwr hok hpl hfr hn0 hgl hl hm hI (fun ν' a' w' x hx h=>⟨hx,h⟩)
theorem OwnG.goB {b:Bool} (X:CxOK cx Γ) (hlam:fp.lam=fun _ _=>none) (hc:(evalC cx (evalF cx Γ fuel d) fp fuel c (stOf l (hM ms n))).cnd=some b) (hp:endM fp.km ts is n' ((evalC cx (evalF cx Γ fuel d) fp fuel c (stOf l (hM ms n))).at b)=some ⟨.nrm,ok,l',ms'⟩) (hwr:wrOk Wr ((evalC cx (evalF cx Γ fuel d) fp fuel c (stOf l (hM ms n))).at b)=true) (hok:okB ok=true)
 (hpl:(l'.all fun p=>plainS n' p.2)=true) (hfr:(ms''.all fun p=>p.2.t.free)=true) (hn0:∀p,p∈K->p.1<n') (hgl:codeGl c []=[]) (hl:LessA l' l'') (hm:LessM ms' ms'') (hI:OwnG fp n ms W K Wr l a w) :
 c.wp cx.P (fun x a' w'=>x = .normal/\OwnG fp n' ms'' W K Wr l'' a' w') a w:=
 OwnG.phase (r:=⟨.nrm,ok,l',ms'⟩) X hlam (by rw [Out.at_pick hc];exact hp) (by rw [Out.at_pick hc];exact hwr) hok hpl hfr hn0 hgl hl hm hI (fun ν' a' w' x hx h=>⟨hx,h⟩)
theorem OwnG.outB {b:Bool} {id:Nat} (X:CxOK cx Γ) (hlam:fp.lam=fun _ _=>none) (hc:(evalC cx (evalF cx Γ fuel d) fp fuel c (stOf l (hM ms n))).cnd=some b) (hp:endM fp.km ts is n' ((evalC cx (evalF cx Γ fuel d) fp fuel c (stOf l (hM ms n))).at b)=some ⟨.exit id,ok,l',ms'⟩) (hwr:wrOk Wr ((evalC cx (evalF cx Γ fuel d) fp fuel c (stOf l (hM ms n))).at b)=true) (hok:okB ok=true)
 (hpl:(l'.all fun p=>plainS n' p.2)=true) (hfr:(ms''.all fun p=>p.2.t.free)=true) (hn0:∀p,p∈K->p.1<n') (hgl:codeGl c []=[]) (hl:LessA l' l'') (hm:LessM ms' ms'') (hI:OwnG fp n ms W K Wr l a w) :
 c.wp cx.P (fun x a' w'=>x = .exit id/\OwnG fp n' ms'' W K Wr l'' a' w') a w:=
 OwnG.phase (r:=⟨.exit id,ok,l',ms'⟩) X hlam (by rw [Out.at_pick hc];exact hp) (by rw [Out.at_pick hc];exact hwr) hok hpl hfr hn0 hgl hl hm hI (fun ν' a' w' x hx h=>⟨hx,h⟩)
theorem OwnG.retP {fn:Func} {o1 o2:A} {v:V} {R:Ending->World->Prop} {p:Option (Ex×St)} (X:CxOK cx Γ) (hlam:fp.lam=fun _ _=>none) (hpk:(evalC cx (evalF cx Γ fuel d) fp fuel c (stOf l (hM ms n))).pick=p) (hwr:wrOk Wr p=true)
 (hp:retOf cx.P fp.km fn.results.toList p=some (o1,o2,v)) (ho1:okB o1=true) (ho2:okB o2=true) (hgl:codeGl c []=[])
 (hI:OwnG fp n ms W K Wr l a w)
 (hR:∀ν u w',v.rel ν u->ButK K Wr W.heap.size W w'->(∀id r t,(id,r)∈K->p.map (fun p=>p.2.h.m.get id)=some (some ⟨true,t⟩)->notMp t=true->t.free=true->Holds w' r t)->R (.returned u) w'):c.wp cx.P (bodyPostD cx.P fn R) a w:=by
 obtain ⟨ν,hs,hb,h0,hn⟩:=hI;subst hpk;obtain ⟨e,s,h',h1,he,h2,h3,h4⟩:=retOf_some hp;rw [h1] at hwr;refine WE.phase X hlam h1 (by rw [h2];exact ho1) (gl_none hgl) hs fun ν' a' w' x hc hg hx => ?_
 have hbel:=OwnG.but hs.mem hb hn (wrOk_mem hwr) hg;obtain ⟨u,hu,hrun,g⟩:=resOf_sound (fp:=fp) (S:=markS (fun _=>True) (hM ms n)) h3 ho2 (fun _ _ =>.inl trivial) rfl (ν:=ν') (a:=a') (w:=w') hc;have hd:a'.defers=[]:=by
  have:=hc.defers;rw [h4] at this;cases hd:a'.defers with
  | nil=>rfl
  | cons _ _=>rw [hd] at this;exact this.elim
 have hh:∀id r t,(id,r)∈K->(evalC cx (evalF cx Γ fuel d) fp fuel c (stOf l (hM ms n))).pick.map (fun p=>p.2.h.m.get id)=some (some ⟨true,t⟩)->notMp t=true->t.free=true->Holds w' r t:=fun id r t hk hq hmp hfr=>by
  rw [h1] at hq;have hq:s.h.m.get id=some ⟨true,t⟩:=by simpa using hq
  exact seen_holds (hc.mem.seen id _ hq (.inl (.inl trivial))) hmp hfr (hg.le _ _ (h0 _ hk))
 have hl:Leaves cx.P fn a'.tmps R a'.defers .returning w':=by rw [hd];exact ⟨u,hrun,hR _ _ _ hu hbel hh⟩
 rcases he with rfl|rfl
 · have hx:x = .normal:=hx;subst hx;exact hl
 · have hx:x = .ret:=hx;subst hx;exact hl
end
theorem OwnG.enterA {fp:Fp} {ν:Nu} {ms:List (Nat×Blk)} {m:Nat} {args:List V} {vs:List Value} {W:World} {K:List (Nat×Nat)} (Wr:List Nat) (hm:Mem (fun _=>True) ν W (hM ms m)) (h0:∀p,p∈K->ν p.1=some (p.2,0)) (hro:∀id r base,ν id=some (r,base)->(id,r)∈K\/∀b,(hM ms m).m.get id=some b->b.rw=false) (hv:relV ν args vs) (hsz:args.length≤fp.nt) :
 OwnG fp m ms W K Wr (argsL 0 args) { tmps:=vs.toArray++Array.replicate (fp.nt-vs.toArray.size) undef,defers:=[] } W:=by
 have hlen:=relV_length hv;refine ⟨ν,⟨hm,fun t v h => ?_,by simp;omega,rfl⟩,ButK.refl _ _ _ _,h0,fun id r base h=>(hro id r base h).imp_right .inr⟩
 refine argsL_rel args vs 0 hv (fun j hj => ?_) t v h;simp [Array.getD_eq_getD_getElem?,Array.getElem?_append,hj]
end Go.WE
namespace Go.WE
open Go Go.Proofs Go.RowKit
theorem v7 (s:VF) (n:Nat) (D:DF) (cpu:U):(ev9 true 1000 1 1 7 s n D cpu).pq = .leaf .tt [] (some ([z64,z64,.lit .u64 0,z64,z64,z64],none)):=by kernel_rfl
theorem q7 (s:QF) (n:Nat) (D:DF) (cpu:U):(ev10 1000 1 1 7 s n D cpu).pq = .leaf .tt [] (some ([z64,z64,.lit .u64 0,z64,z64,z64],none)):=by kernel_rfl
def inH (no:U):Bool:=cond (BitVec.sle (K 1) no) (BitVec.sle no (K 8)) false
theorem help_ev (no:U):(evalF cxK noΓ 400 20 62 [i64 no] H.none).res=some (.tt,one (.b (inH no))):=by kernel_rfl
def helpS:List V->Option (A×V)
 | [.t (.a (.i .i64 no))]=>some (.b (!(inH no)),one .ff)
 | _=>none
theorem help_ok {Γ:Gam} (hΓ:ΓOK Tryz.prog Γ):ΓOK Tryz.prog (specG 62 helpS Γ):=by
 refine specG_ok (fun args ok v hs hok => ?_) hΓ;unfold helpS at hs;split at hs
 · rename_i no;cases hs;have hn:inH no=false:=by
    have:(!(inH no))=true:=hok;simpa using this
   have h:=pure_of_eval (XK noΓ_ok) rfl (help_ev no) rfl rfl rfl;rcases h with ⟨h1,h2⟩|h
   · exact .inl ⟨h1,fun h=>fn_weak (h2 h) fun ν u hu=>by have hu:(A.b (inH no)).rel ν u:=hu;show A.ff.rel ν u;simp only [A.rel] at hu ⊢;rw [hu,hn]⟩
   · exact .inr fun ν w vs hv=>by obtain ⟨u,h1,h2⟩:=h ν w vs hv;refine ⟨u,h1,?_⟩;have hu:(A.b (inH no)).rel ν u:=h2;show A.ff.rel ν u;simp only [A.rel] at hu ⊢;rw [hu,hn]
 · cases hs
def ev9n (s:VF) (n:Nat) (D:DF) (no cpu:U):R:=evalF (cxP 1 1) (specG 62 helpS (ΓP true 1000)) 400 20 9 [slDP n,pt 0,i64 no,i64 cpu] (hM (mP s.t n D) 3)
theorem v_no (s:VF) (n:Nat) (D:DF) (no cpu:U):(ev9n s n D no cpu).pq=errQ (.b (!(inH no))) (l64 18):=by kernel_rfl
def c10:Code:=bodyOf Tryz.prog 10
def pa:Code:=c10.sA
def pb:Code:=c10.sB.sA
def pc:Code:=c10.sB.sB
def zOp:T :=.st [.a z64,.a (.lit .u64 0),.a .nils,.a z64,.a z64]
def tupZ (c:A):V :=.tup [.a z64,zOp,.a c]
end Go.WE
end
