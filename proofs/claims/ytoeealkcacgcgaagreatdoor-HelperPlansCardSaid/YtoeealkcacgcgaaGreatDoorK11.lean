/- A part of a proof of the helpers' law; no condition of its own. -/
import Derived.Test.YtoeealkcacgcgaaGreatDoorK10
set_option linter.unusedVariables false
set_option maxRecDepth 100000
noncomputable section
namespace Go.WE
open Go Go.Proofs Go.Proofs.YtoeealkcacgcgaaGreatDoor.Eac
open Go.RowKit (Below)
def thereB (x y:U):Bool:=cond (cond (cond (BitVec.sle (K 0) y) (BitVec.sle (K (-128)) x) false) (BitVec.sle x (K 0)) false) (BitVec.sle y (0#64-x)) false
abbrev i64 (x:U):V:=one (.i .i64 x)
def sl0 (x y:U):List (Nat×V):=[(0,pt 0),(1,i64 x),(2,i64 y)]
def sl1 (x y:U):List (Nat×V):=[(1,i64 x),(2,i64 y),(3,pt 1)]
def ms0 (s:FSt):List (Nat×Blk):=[(0,⟨true,s.t⟩)]
def memOf (p:Option (Ex×St)):Option (Tr Blk×Nat×List Nat):=p.map fun p=>(p.2.h.m,p.2.h.next,p.2.h.gl)
theorem l0_ev (s:FSt) (x y:U):endOf fp8.km [1,2,3] (evL l0 (sl0 x y) (ms0 s) 1).pick=some ⟨.nrm,.tt,sl1 x y⟩:=by kernel_rfl
theorem l0_m (s:FSt) (x y:U):memOf (evL l0 (sl0 x y) (ms0 s) 1).pick=some ((hM (msB s) 2).m,(hM (msB s) 2).next,(hM (msB s) 2).gl):=by kernel_rfl
theorem l1_c (s:FSt) (x y:U):(evL l1 (sl1 x y) (msB s) 2).cnd=some (!thereB x y):=by kernel_rfl
theorem l1_f (s:FSt) (x y:U):endOf fp8.km [1,2,3] ((evL l1 (sl1 x y) (msB s) 2).at false)=some ⟨.nrm,.tt,sl1 x y⟩:=by kernel_rfl
theorem l1_t (s:FSt) (x y:U):endOf fp8.km [6] ((evL l1 (sl1 x y) (msB s) 2).at true)=some ⟨.ret,.tt,[(6,one (.lit .i64 17))]⟩:=by kernel_rfl
def sl3:List (Nat×V):=[(3,pt 1),(15,one (.fn 142 [.ptr 3 [],.ptr 2 []]))]
theorem l3_ev (s:FSt) (x y:U):endOf fp8.km [3,15] (evL l3 (sl1 x y) (msB s) 2).pick=some ⟨.nrm,.tt,sl3⟩:=by kernel_rfl
theorem l3_m (s:FSt) (x y:U):memOf (evL l3 (sl1 x y) (msB s) 2).pick=some ((hM (ms3 s x y) 4).m,(hM (ms3 s x y) 4).next,(hM (ms3 s x y) 4).gl):=by kernel_rfl
theorem vof_toInt (x:U):vof .i64 x=x.toInt:=by
 unfold vof;rw [IntKind.wrap_i64,BitVec.toInt_eq_toNat_bmod];have h:(x.toNat:Int)<18446744073709551616:=by have:=x.isLt;omega
 simp only [Int.bmod_def];split<;>omega
theorem there_nat {x y:U} (h:thereB x y=true):∃b n:Nat,b+n≤128/\vof .i64 x=(b:Int)-128/\vof .i64 y=(n:Int):=by
 unfold thereB at h;have hc:∀{p q:Bool},cond p q false=true->p=true/\q=true:=by intro p q;cases p<;>simp
 obtain ⟨h,h4⟩:=hc h;obtain ⟨h,h3⟩:=hc h;obtain ⟨h1,h2⟩:=hc h;rw [BitVec.sle,decide_eq_true_iff] at h1 h2 h3 h4;have e0:(K 0).toInt=0:=rfl;have e1:(K (-128)).toInt = -128:=rfl;rw [e0] at h1 h3;rw [e1] at h2;have e2:(0#64-x).toInt = - x.toInt:=by rw [BitVec.toInt_sub];have:(0#64:U).toInt=0:=rfl;rw [this];simp only [Int.bmod_def];split<;>omega
 rw [e2] at h4;refine ⟨(x.toInt+128).toNat,y.toInt.toNat,by omega,by rw [vof_toInt];omega,by rw [vof_toInt];omega⟩
theorem vof_bx:∀z:Fin 128,vof .i64 (BitVec.ofNat 64 z.val)=(z.val:Int):=by decide +kernel
def layL (s:FSt) (l:List Bx):FSt:=l.foldl (fun s x=>layB s x.1) s
theorem layL_snoc (s:FSt) (l:List Bx) (x:Bx):layL s (l++[x])=layB (layL s l) x.1:=by simp [layL]
theorem layL_upto (s:FSt) (b:Nat):∀n,b+n≤128->layL s (upto b n)=layN s b n
 | 0,_=>rfl
 | n+1,h=>by
   rw [upto_succ,layL_snoc,layL_upto s b n (by omega),bx_val (by omega)]
   rfl
theorem lA_eq:lA = .region 4 #[{ dst:=some 7,op :=.assign (.tmp 16),type:=3,pos := "frame.go:123",after := #[],guard:=none }] false:=by kernel_rfl
theorem body8:Tryz.f38.body=some c8:=by kernel_rfl
theorem enters61:Enters Tryz.prog 142:=enters_of entK 142 _ Tryz.func142 (by simp [Tryz.f142])
theorem assign_in {o:Oper} {t q:Nat} {id l m:Nat} {P:Program} {F:Act->World->Prop} {Q:Exit->Act->World->Prop} {a:Act} {W:World} (ho:o.op = .assign (.tmp q)) (hd:o.dst=some t) (hg:o.guard=none) (hF:F { a with tmps:=a.tmps.setIfInBounds t (a.tmps.getD q undef) } W) :
 (Code.region id #[o] false).wpIn (Rnd l) m P (Exit.then F Q) a W:=by
 refine wpIn_region_list ?_;show wpListIn (Rnd l) m P #[o] (Exit.then F Q) [o] a W;unfold wpListIn;have hw:Region.wanted o (yielded #[o] a.tmps)=true:=by simp [Region.wanted,hg]
 rw [if_pos hw];refine wpIn_of (next:=fun a w=>F a w) (by unfold plainO;rw [ho]) (fun a w h=>h) ?_
 refine wp_of_value (v:=a.tmps.getD q undef) (w':=W) (by unfold execOp;rw [ho];rfl) ?_
 unfold Act.put;rw [hd];exact hF
theorem args3 (r:Nat) (x y:U):relV (nuOne r) [pt 0,i64 x,i64 y] [.pointer (some ⟨r,0,none⟩),.int .i64 (vof .i64 x),.int .i64 (vof .i64 y)]:=by
 refine ⟨?_,?_,?_,trivial⟩
 · show (A.ptr 0 []).rel (nuOne r) _;simp only [A.rel];exact ⟨r,0,rfl,rfl⟩
 · show (A.i .i64 x).rel (nuOne r) _;simp only [A.rel]
 · show (A.i .i64 y).rel (nuOne r) _;simp only [A.rel]
theorem l11_eq:l11 = .seq (.region 11 #[{ dst:=some 6,op :=.assign (.const (.int .i64 0)),type:=24,pos := "frame.go:132",after := #[],guard:=none }] false) .ret:=by kernel_rfl
theorem const_wp {o:Oper} {t:Nat} {v:Value} {id:Nat} {P:Program} {F:Act->World->Prop} {Q:Exit->Act->World->Prop} {a:Act} {W:World} (ho:o.op = .assign (.const v)) (hd:o.dst=some t) (hg:o.guard=none) (hF:F { a with tmps:=a.tmps.setIfInBounds t v } W) :
 (Code.region id #[o] false).wp P (Exit.then F Q) a W:=by
 refine wp_region_list ?_;refine wpList_step' ?_;have hw:Region.wanted o (yielded #[o] a.tmps)=true:=by simp [Region.wanted,hg]
 rw [if_pos hw];refine wp_of_value (v:=v) (w':=W) (by unfold execOp;rw [ho];rfl) ?_
 unfold Act.put;rw [hd];exact hF
set_option maxHeartbeats 1000000 in
theorem lay_there {r:Nat} {s:FSt} {x y:U} {b n:Nat} (hb:b+n≤128) (hx:vof .i64 x=(b:Int)-128) (hy:vof .i64 y=(n:Int)) (ht:thereB x y=true) (w:World) (hh:Holds w r s.t) :
 Calls Tryz.prog 38 #[.pointer (some ⟨r,0,none⟩),.int .i64 (vof .i64 x),.int .i64 (vof .i64 y)] w fun e w'=>e = .returned (.int .i64 0)/\Holds w' r (layN s b n).t/\But r w.heap.size w w':=by
 refine (callsIn_wide (n:=3)).1 (callsIn_of_wp_marks Tryz.func38 body8 trivial ?_);rw [c8_eq];have st:At fp8 (hM (ms0 s) 1) w (nuOne r) (sl0 x y) { tmps := #[.pointer (some ⟨r,0,none⟩),.int .i64 (vof .i64 x),.int .i64 (vof .i64 y)]++Array.replicate (Tryz.f38.ntmps-3) undef,defers:=[] } w:=
  At.enterA (fp:=fp8) (args:=[pt 0,i64 x,i64 y]) (vs:=[.pointer (some ⟨r,0,none⟩),.int .i64 (vof .i64 x),.int .i64 (vof .i64 y)]) (mem_one hh) (args3 r x y) (show 3≤48 by decide)
 refine wpIn_seq (wpIn_wide.2 (wp_mono (At.growL (XK noΓ_ok) rfl (l0_ev s x y) (l0_m s x y) rfl rfl (by kernel_rfl) st) ?_))
 rintro e a1 w1 ⟨rfl,ν1,hle1,at1⟩;refine wpIn_seq (wpIn_wide.2 (wp_mono (At.goB (XK noΓ_ok) rfl ((l1_c s x y).trans (by rw [ht];rfl)) (l1_f s x y) rfl rfl (by kernel_rfl) (LessL.refl _) at1) ?_))
 rintro e a2 w2 ⟨rfl,at2⟩;refine wpIn_seq (wpIn_seq (wpIn_wide.2 (wp_mono (At.growL (XK noΓ_ok) rfl (l3_ev s x y) (l3_m s x y) rfl rfl (by kernel_rfl) at2) ?_)))
 rintro e a3 w3 ⟨rfl,ν3,hle3,at3⟩;refine wpIn_block ?_;have h0:ν3 0=some (r,0):=hle3 _ _ (hle1 _ _ rfl);have hm3:=at3.1.mem;obtain ⟨Bs,vs1,n1,cS,rS⟩:=seen_cell1 (hm3.seen 1 ⟨true,.a (.ptr 0 [])⟩ rfl (.inl trivial));obtain ⟨Ba,va,n2,cA,rA'⟩:=seen_cell1 (hm3.seen 2 ⟨true,.a (.i .i64 x)⟩ rfl (.inl trivial));obtain ⟨Bn,vn,n3,cN,rN⟩:=seen_cell1 (hm3.seen 3 ⟨true,.a (.i .i64 y)⟩ rfl (.inl trivial));simp only [A.rel] at rA' rN;subst rA' rN;have t15:=at3.1.slots 15 _ (.tail _ (.head _));have t15:(A.fn 142 [.ptr 3 [],.ptr 2 []]).rel ν3 _:=t15;simp only [A.rel,relL] at t15;obtain ⟨caps,e15,v3,us3,eu3,⟨B3,base3,k3,rfl⟩,v2,us2,eu2,⟨B2,base2,k2,rfl⟩,rfl⟩:=t15;rw [n3] at k3;cases k3;rw [n2] at k2;cases k2;subst eu2;have hcaps:caps = #[.pointer (some ⟨Bn,0,none⟩),.pointer (some ⟨Ba,0,none⟩)]:=by apply Array.ext';rw [eu3];rfl
 subst hcaps;have t3:=at3.1.slots 3 _ (.head _);have hBa:Ba≠r:=fun e=>by have:=hm3.nums.inj 0 ⟨true,s.t⟩ rfl rfl 2 r 0 0 h0 (e▸n2);cases this
 have hBaL:Ba<w3.heap.size:=hm3.nums.lt 2 Ba 0 n2;have hH3:Holds w3 r s.t:=seen_holds (hm3.seen 0 ⟨true,s.t⟩ rfl (.inl trivial)) rfl rfl h0;have hsz:=at3.1.size;refine wpIn_rangeFunc_ownF (F:=Fence.wide) (n:=3) (α:=Bx) rfl (by omega) (gf:=142) (lb := #[.pointer (some ⟨Bn,0,none⟩),.pointer (some ⟨Ba,0,none⟩)]) e15 trivial enters61
  (each_stops Fence.wide 2 trivial rfl (by omega) Bn Ba b n hb w3 (by rw [cN,hy]) (by rw [cA,hx])) (fun h k=>kpA_t h k) (kpA_b hBaL) (Below.refl _ _) (fun _=>rfl)
  (fun pre W=>Holds W r (layL s pre).t/\But r w3.heap.size w3 W) (fun _ _ _=>False)
  (fun _ _ _ _ hs hg hr=>⟨hs.1.grown hg (fun k e=>(hr k e).2),hs.2.grown hg (Nat.le_refl _) (fun k e=>(hr k e).1)⟩) (fun _ _ _ _ _ hs _ _=>hs.elim) ⟨hH3,But.refl _ _ _⟩
  (fun z=>{ tmps:=(a3.tmps.setIfInBounds 16 (.int .i64 (z.1:Int))).setIfInBounds 7 (.int .i64 (z.1:Int)),defers:=[] }) ?assign ?body ?done ?stop
 case assign=>
  intro l z W F hF;rw [lA_eq];refine assign_in rfl rfl rfl ?_;have ef:Array.foldl (fun t (x:Nat×Value)=>match x with|(p,v)=>t.setIfInBounds p v) a3.tmps (#[16].zip (encB z))=a3.tmps.setIfInBounds 16 (.int .i64 (z.1:Int)):=by simp [encB,Array.zip]
  have e16:((a3.tmps.setIfInBounds 16 (Value.int .i64 (z.1:Int))).getD 16 undef) = .int .i64 (z.1:Int):=by simp [Array.getD,hsz,fp8]
  simp only [ef,e16];exact hF
 case body=>
  rintro l pre z W ⟨hI1,hI2⟩ hlen;obtain ⟨s',p1,p2,p3,p4,p5,p6,p7,p8⟩:=endM_some (lb_ev (layL s pre) (BitVec.ofNat 64 z.1) x y);have hwr:s'.h.wr=[0]:=by
   have:=lb_wr (layL s pre) (BitVec.ofNat 64 z.1) x y;rw [show (evL lB (slL (BitVec.ofNat 64 z.1)) (ms3 (layL s pre) x y) 4).pick=_ from p1] at this
   simpa using this
  have m4:=mem_but hm3 h0 hI2 hI1;have hz:vof .i64 (BitVec.ofNat 64 z.1)=(z.1:Int):=vof_bx ⟨z.1,z.2⟩;have st4:Stand fp8 ν3 (hM (ms3 (layL s pre) x y) 4) (slL (BitVec.ofNat 64 z.1)) { tmps:=(a3.tmps.setIfInBounds 16 (.int .i64 (z.1:Int))).setIfInBounds 7 (.int .i64 (z.1:Int)),defers:=[] } W:=by
   refine ⟨m4,fun t v htv => ?_,by simp [hsz],rfl⟩
   simp only [slL,List.mem_cons,pI,List.not_mem_nil,or_false] at htv;rcases htv with ⟨rfl,rfl⟩|⟨rfl,rfl⟩
   · have e3:(((a3.tmps.setIfInBounds 16 (Value.int .i64 (z.1:Int))).setIfInBounds 7 (.int .i64 (z.1:Int))).getD 3 undef)=a3.tmps.getD 3 undef:=by
      simp [Array.getD_eq_getD_getElem?]
     show (pt 1).rel ν3 _;rw [e3];exact t3
   · have e7:(((a3.tmps.setIfInBounds 16 (Value.int .i64 (z.1:Int))).setIfInBounds 7 (.int .i64 (z.1:Int))).getD 7 undef) = .int .i64 (z.1:Int):=by
      simp [Array.getD_eq_getD_getElem?,hsz,fp8]
     show (i64 (BitVec.ofNat 64 z.1)).rel ν3 _;rw [e7];show (A.i .i64 (BitVec.ofNat 64 z.1)).rel ν3 _;simp only [A.rel];rw [hz]
  refine phaseIn (XK noΓ_ok) rfl (by kernel_rfl) p1 (by rw [p2];exact okE_true ⟨z.1,z.2⟩ _ _) (gl_none (by kernel_rfl)) (fun _ _ h=>h) st4 ?_
  intro ν' a' W' e hc hg he;have he:e = .normal:=he;subst he;have hbut:=goes_but (r:=r) (m4.mark) h0 (.inl hwr) hg;have hH':Holds W' r (layL s (pre++[z])).t:=by have h1:=hvals_mem p4 0 _ (.head _);have:=seen_holds (hg.mem.seen 0 _ h1 (.inl (.inl trivial))) rfl rfl (hg.le _ _ h0);rw [layE_layB _ z.2,← layL_snoc] at this;exact this
  refine ⟨hbut.others hI1.cells,?_,hH',hI2.trans (hbut.le hI2.size)⟩;exact hbut.cell (Nat.lt_of_lt_of_le hBaL hI2.size) hBa
 case done=>
  rintro D xs W hD rfl ⟨hI1,hI2⟩ hK;show l11.wpIn Fence.wide 3 Tryz.prog _ _ W;rw [l11_eq];refine wpIn_seq (wpIn_wide.2 (const_wp rfl rfl rfl ?_));refine wpIn_ret ?_;refine ⟨by simp,.inl ⟨_,_,rfl,run_takeDeferred hK,?_⟩⟩
  rw [show a3.defers=[] from at3.1.defers]
  refine ⟨_,results_tmp rfl _ _ _,?_,?_,?_⟩
  · simp [Array.getD_eq_getD_getElem?,hsz,fp8]
  · have:=hI1.grown (grownBy_putObj' W D (.deferred none)) (fun k e=>by cases e;exact ⟨_,hK,rfl⟩)
    rw [layL_upto s b n hb] at this;exact this
  · exact (But.of_below at3.2).trans ((hI2.grown (grownBy_putObj' W D (.deferred none)) (Nat.le_refl _) (fun k e=>by cases e;exact hD)).le at3.2.size)
 case stop=>
  rintro D c pre W _ _ h _;exact h.elim
theorem lay_not {r:Nat} {s:FSt} {x y:U} (ht:thereB x y=false) (w:World) (hh:Holds w r s.t) :
 Calls Tryz.prog 38 #[.pointer (some ⟨r,0,none⟩),.int .i64 (vof .i64 x),.int .i64 (vof .i64 y)] w fun e w'=>e = .returned (.int .i64 17)/\Below w.heap.size w w':=by
 refine calls_phases Tryz.func38 body8 ?_;rw [c8_eq];have st:At fp8 (hM (ms0 s) 1) w (nuOne r) (sl0 x y) { tmps := #[.pointer (some ⟨r,0,none⟩),.int .i64 (vof .i64 x),.int .i64 (vof .i64 y)]++Array.replicate (Tryz.f38.ntmps-3) undef,defers:=[] } w:=
  At.enterA (fp:=fp8) (args:=[pt 0,i64 x,i64 y]) (vs:=[.pointer (some ⟨r,0,none⟩),.int .i64 (vof .i64 x),.int .i64 (vof .i64 y)]) (mem_one hh) (args3 r x y) (show 3≤48 by decide)
 refine wp_seq (wp_mono (At.growL (XK noΓ_ok) rfl (l0_ev s x y) (l0_m s x y) rfl rfl (by kernel_rfl) st) ?_)
 rintro e a1 w1 ⟨rfl,ν1,hle1,at1⟩;refine wp_seq (phase_way (b:=true) (XK noΓ_ok) rfl ((l1_c s x y).trans (by rw [ht];rfl)) (l1_t s x y) rfl rfl (gl_none (by kernel_rfl)) at1.1 ?_)
 rintro ν' a' w' e hs hb he;have he:e = .ret:=he;subst he;refine end_ret rfl (.inr rfl) hs.defers (u :=.int .i64 17) ?_ ⟨rfl,Below.base at1.2 hb⟩;have:=hs.slots 6 _ (.head _);have this:(A.lit .i64 17).rel ν' _:=this;simp only [A.rel] at this;exact this.1
def codeU (v:U):U:=cond (v==K 0) (K 15) (cond (v==K 2) (K 14) (K 0))
def readN (g:Nat->U) (b:Nat):Nat->U
 | 0=>K 0
 | n+1=>cond (readN g b n==K 0) (codeU (g (b+n))) (readN g b n)
def msR (s:FSt) (x y:U):List (Nat×Blk):=[(0,⟨true,s.t⟩),(1,⟨true,.a (.ptr 0 [])⟩),(2,⟨true,.a (.lit .i64 0)⟩),(3,⟨true,.a (.i .i64 x)⟩),(4,⟨true,.a (.i .i64 y)⟩)]
def msQ (s:FSt):List (Nat×Blk):=[(0,⟨true,s.t⟩),(1,⟨true,.a (.ptr 0 [])⟩),(2,⟨true,.a (.lit .i64 0)⟩)]
def slR (x:U):List (Nat×V):=[(3,pt 1),(6,pt 2),(7,one (.i .i64 x))]
def sr1 (x y:U):List (Nat×V):=[(1,i64 x),(2,i64 y),(3,pt 1),(6,pt 2)]
def sr3:List (Nat×V):=[(3,pt 1),(6,pt 2),(14,one (.fn 142 [.ptr 4 [],.ptr 3 []]))]
section
variable (s:FSt) (x y z:U)
theorem r0_ev:endOf fp17.km [1,2,3,6] (evR r0 (sl0 x y) (ms0 s) 1).pick=some ⟨.nrm,.tt,sr1 x y⟩:=by kernel_rfl
theorem r0_m:memOf (evR r0 (sl0 x y) (ms0 s) 1).pick=some ((hM (msQ s) 3).m,(hM (msQ s) 3).next,(hM (msQ s) 3).gl):=by kernel_rfl
theorem r1_c:(evR r1 (sr1 x y) (msQ s) 3).cnd=some (!thereB x y):=by kernel_rfl
theorem r1_f:endOf fp17.km [1,2,3,6] ((evR r1 (sr1 x y) (msQ s) 3).at false)=some ⟨.nrm,.tt,sr1 x y⟩:=by kernel_rfl
theorem r1_w:((evR r1 (sr1 x y) (msQ s) 3).at true).map (fun p=>p.2.h.wr)=some [2]:=by kernel_rfl
theorem r3_ev:endOf fp17.km [3,6,14] (evR r3 (sr1 x y) (msQ s) 3).pick=some ⟨.nrm,.tt,sr3⟩:=by kernel_rfl
theorem r3_m:memOf (evR r3 (sr1 x y) (msQ s) 3).pick=some ((hM (msR s x y) 5).m,(hM (msR s x y) 5).next,(hM (msR s x y) 5).gl):=by kernel_rfl
theorem rb_c:(evR rB (slR z) (msR s x y) 5).cnd=some (s.g z.toNat==K 0):=by kernel_rfl
theorem rb_c2:(evR rB (slR z) (msR s x y) 5).nR.cnd=some (s.g z.toNat==K 2):=by kernel_rfl
def okR (z:U):Bool:=vB z 128&&wB z 128
theorem rb_0:endM fp17.km [] [2] 5 ((evR rB (slR z) (msR s x y) 5).at true)=some ⟨.ret,.b (okR z),[],[(2,⟨true,.a (.lit .i64 15)⟩)]⟩:=by kernel_rfl
theorem rb_2:endM fp17.km [] [2] 5 ((evR rB (slR z) (msR s x y) 5).nR.at true)=some ⟨.ret,.b (okR z),[],[(2,⟨true,.a (.lit .i64 14)⟩)]⟩:=by kernel_rfl
theorem rb_n:endM fp17.km [] [] 5 ((evR rB (slR z) (msR s x y) 5).nR.at false)=some ⟨.nrm,.b (okR z),[],[]⟩:=by kernel_rfl
theorem rb_0w:((evR rB (slR z) (msR s x y) 5).at true).map (fun p=>p.2.h.wr)=some [2]:=by kernel_rfl
theorem rb_2w:((evR rB (slR z) (msR s x y) 5).nR.at true).map (fun p=>p.2.h.wr)=some [2]:=by kernel_rfl
theorem rb_nw:((evR rB (slR z) (msR s x y) 5).nR.at false).map (fun p=>p.2.h.wr)=some []:=by kernel_rfl
end
theorem okR_true:∀z:Fin 128,okR (BitVec.ofNat 64 z.val)=true:=by decide +kernel
theorem body17:Tryz.f71.body=some c17:=by kernel_rfl
theorem rA_eq:rA = .region 4 #[{ dst:=some 7,op :=.assign (.tmp 15),type:=3,pos := "frame.go:86",after := #[],guard:=none }] false:=by kernel_rfl
theorem r10_eq:r10 = .seq (.region 10 #[{ dst:=none,op :=.store 24 (.tmp 6) (.const (.int .i64 0)),type:=0,pos := "frame.go:94",after := #[],guard:=none }] false) .ret:=by kernel_rfl
theorem agg40:isAggT Tryz.prog 24=some false:=by kernel_rfl
theorem code_cases (v:U):codeU v=K 15/\(v==K 0)=true\/codeU v=K 14/\(v==K 0)=false/\(v==K 2)=true\/codeU v=K 0/\(v==K 0)=false/\(v==K 2)=false:=by
 unfold codeU;cases h1:v==K 0
 · cases h2:v==K 2
   · exact .inr (.inr ⟨rfl,rfl,rfl⟩)
   · exact .inr (.inl ⟨rfl,rfl,rfl⟩)
 · exact .inl ⟨rfl,rfl⟩
theorem readN_good {g:Nat->U} {b:Nat}:∀n,b+n≤128->(∀z,z∈upto b n->codeU (g z.1)=K 0)->readN g b n=K 0
 | 0,_,_=>rfl
 | n+1,hb,h=>by
   rw [upto_succ] at h;have h1:=readN_good (g:=g) (b:=b) n (by omega) (fun z hz=>h z (by simp [hz]))
   have h2:=h (bx (b+n)) (by simp)
   rw [bx_val (by omega)] at h2
   unfold readN;rw [h1,h2];rfl
theorem readN_more {g:Nat->U} {b n:Nat}:∀m,n≤m->readN g b n≠K 0->readN g b m=readN g b n
 | 0,h,hne=>by
   obtain rfl:n=0:=by omega
   rfl
 | m+1,h,hne=>by
   by_cases e:n=m+1
   · rw [e]
   · have h1:=readN_more m (by omega) hne
     rw [readN,h1];have:(readN g b n==K 0)=false:=beq_false_of_ne hne;rw [this,cond_false]
theorem readN_bad {g:Nat->U} {b k n:Nat} {q:List Bx} {z:Bx} (hk:k≤n) (hb:b+n≤128) (e:upto b k=q++[z]) (hq:∀u,u∈q->codeU (g u.1)=K 0) (hz:codeU (g z.1)≠K 0):readN g b n=codeU (g z.1):=by
 cases k with
 | zero=>simp [upto] at e
 | succ k=>
   rw [upto_succ] at e;obtain ⟨rfl,e2⟩:=List.append_inj' e rfl;simp only [List.cons.injEq,and_true] at e2;subst e2;have h1:=readN_good (g:=g) (b:=b) k (by omega) hq
   have h2:readN g b (k+1)=codeU (g (bx (b+k)).1):=by
    rw [readN,h1,bx_val (by omega)]
    rfl
   rw [readN_more n hk (by rw [h2];exact hz),h2]
theorem st_ev (s:FSt) (x y:U):∃r',evalStore Tryz.prog (hM (msR s x y) 5) 24 (.ptr 2 []) (.t (.a (.lit .i64 0)))=some r'/\okB r'.ok=true/\(r'.h.wr=[2]/\r'.h.m.get 2=some ⟨true,.a (.lit .i64 0)⟩):=by
 have h:(match evalStore Tryz.prog (hM (msR s x y) 5) 24 (.ptr 2 []) (.t (.a (.lit .i64 0))) with
  | some r'=>some (r'.ok,r'.h.wr,r'.h.m.get 2)
  | none=>none)=some (.tt,[2],some ⟨true,.a (.lit .i64 0)⟩):=by kernel_rfl
 split at h
 · rename_i r' hr;simp only [oI,pI] at h;exact ⟨r',hr,by rw [h.1];rfl,h.2.1,h.2.2⟩
 · cases h
theorem store_wp {o:Oper} {t:TypeId} {x y:Operand} {id:Nat} {P:Program} {F:Act->World->Prop} {Q:Exit->Act->World->Prop} {a:Act} {W W':World} (ho:o.op = .store t x y) (hd:o.dst=none) (hg:o.guard=none) (hs:(Instr.storeAt t (a.eval x) (a.eval y)).run P W = .ok () W') (hF:F a W') :
 (Code.region id #[o] false).wp P (Exit.then F Q) a W:=by
 refine wp_region_list ?_;refine wpList_step' ?_;have hw:Region.wanted o (yielded #[o] a.tmps)=true:=by simp [Region.wanted,hg]
 rw [if_pos hw];refine wp_of_skip (w':=W') ?_ ?_
 · have:execOp a.eval o=(do Instr.storeAt t (a.eval x) (a.eval y);pure .skip):=by unfold execOp;rw [ho]
   rw [this,Sem.run_bind,hs];rfl
 · unfold Act.put;rw [hd];exact hF
set_option maxHeartbeats 1000000 in
theorem read_there {r:Nat} {s:FSt} {x y:U} {b n:Nat} (hb:b+n≤128) (hx:vof .i64 x=(b:Int)-128) (hy:vof .i64 y=(n:Int)) (ht:thereB x y=true) (w:World) (hh:Holds w r s.t) :
 Calls Tryz.prog 71 #[.pointer (some ⟨r,0,none⟩),.int .i64 (vof .i64 x),.int .i64 (vof .i64 y)] w fun e w'=>e = .returned (.int .i64 (vof .i64 (readN s.g b n)))/\Below w.heap.size w w':=by
 refine (callsIn_wide (n:=3)).1 (callsIn_of_wp_marks Tryz.func71 body17 trivial ?_);rw [c17_eq];have st:At fp17 (hM (ms0 s) 1) w (nuOne r) (sl0 x y) { tmps := #[.pointer (some ⟨r,0,none⟩),.int .i64 (vof .i64 x),.int .i64 (vof .i64 y)]++Array.replicate (Tryz.f71.ntmps-3) undef,defers:=[] } w:=
  At.enterA (fp:=fp17) (args:=[pt 0,i64 x,i64 y]) (vs:=[.pointer (some ⟨r,0,none⟩),.int .i64 (vof .i64 x),.int .i64 (vof .i64 y)]) (mem_one hh) (args3 r x y) (show 3≤26 by decide)
 refine wpIn_seq (wpIn_wide.2 (wp_mono (At.growN (XK noΓ_ok) rfl (r0_ev s x y) (r0_m s x y) rfl rfl (by kernel_rfl) st) ?_))
 rintro e a1 w1 ⟨rfl,ν1,⟨hle1,hnew1⟩,at1⟩;refine wpIn_seq (wpIn_wide.2 (wp_mono (At.goB (XK noΓ_ok) rfl ((r1_c s x y).trans (by rw [ht];rfl)) (r1_f s x y) rfl rfl (by kernel_rfl) (LessL.refl _) at1) ?_))
 rintro e a2 w2 ⟨rfl,at2⟩;refine wpIn_seq (wpIn_seq (wpIn_wide.2 (wp_mono (At.growN (XK noΓ_ok) rfl (r3_ev s x y) (r3_m s x y) rfl rfl (by kernel_rfl) at2) ?_)))
 rintro e a3 w3 ⟨rfl,ν3,⟨hle3,hnew3⟩,at3⟩;refine wpIn_block ?_;have h0:ν3 0=some (r,0):=hle3 _ _ (hle1 _ _ rfl);have hm3:=at3.1.mem;obtain ⟨Be,ve,n2,cE,rE⟩:=seen_cell1 (hm3.seen 2 ⟨true,.a (.lit .i64 0)⟩ rfl (.inl trivial));obtain ⟨Ba,va,n3,cA,rA'⟩:=seen_cell1 (hm3.seen 3 ⟨true,.a (.i .i64 x)⟩ rfl (.inl trivial));obtain ⟨Bn,vn,n4,cN,rN⟩:=seen_cell1 (hm3.seen 4 ⟨true,.a (.i .i64 y)⟩ rfl (.inl trivial));simp only [A.rel] at rA' rN;subst rA' rN;have hBe:w.heap.size≤Be:=by
  cases h2:ν1 2 with
  | none=>exact hnew3 2 Be 0 h2 n2
  | some p=>
    have:=hle3 _ _ h2;rw [n2] at this;cases this;exact hnew1 2 Be 0 rfl h2
 have t14:=at3.1.slots 14 _ (.tail _ (.tail _ (.head _)));have t14:(A.fn 142 [.ptr 4 [],.ptr 3 []]).rel ν3 _:=t14;simp only [A.rel,relL] at t14;obtain ⟨caps,e14,v3,us3,eu3,⟨B3,base3,k3,rfl⟩,v2,us2,eu2,⟨B2,base2,k2,rfl⟩,rfl⟩:=t14;rw [n4] at k3;cases k3;rw [n3] at k2;cases k2;subst eu2;have hcaps:caps = #[.pointer (some ⟨Bn,0,none⟩),.pointer (some ⟨Ba,0,none⟩)]:=by apply Array.ext';rw [eu3];rfl
 subst hcaps;have t3:=at3.1.slots 3 _ (.head _);have t6:=at3.1.slots 6 _ (.tail _ (.head _));have e6:a3.tmps.getD 6 undef = .pointer (some ⟨Be,0,none⟩):=by have t6:(A.ptr 2 []).rel ν3 _:=t6;simp only [A.rel] at t6;obtain ⟨B,base,k6,e⟩:=t6;rw [n2] at k6;cases k6;exact e
 have hBaL:Ba<w3.heap.size:=hm3.nums.lt 3 Ba 0 n3;have hBeL:Be<w3.heap.size:=hm3.nums.lt 2 Be 0 n2;have hsz:=at3.1.size;refine wpIn_rangeFunc_ownF (F:=Fence.wide) (n:=3) (α:=Bx) rfl (by omega) (gf:=142) (lb := #[.pointer (some ⟨Bn,0,none⟩),.pointer (some ⟨Ba,0,none⟩)]) e14 trivial enters61
  (each_stops Fence.wide 2 trivial rfl (by omega) Bn Ba b n hb w3 (by rw [cN,hy]) (by rw [cA,hx])) (fun h k=>kpA_t h k) (kpA_b hBaL) (Below.refl _ _) (fun _=>rfl)
  (fun pre W=>(∀z,z∈pre->codeU (s.g z.1)=K 0)/\Below w3.heap.size w3 W)
  (fun c pre W=>(c = .ret/\∃q z,pre=q++[z]/\(∀u,u∈q->codeU (s.g u.1)=K 0)/\codeU (s.g z.1)≠K 0/\W.cell? ⟨Be,0,none⟩=some (.int .i64 (vof .i64 (codeU (s.g z.1)))))/\But Be w3.heap.size w3 W)
  (fun _ _ _ _ hs hg hr=>⟨hs.1,hs.2.grown hg hs.2.size (fun k e=>(hr k e).1)⟩)
  (fun c _ _ _ _ hs hg hr=>⟨⟨hs.1.1,by
    obtain ⟨q,z,h1,h2,h3,h4⟩:=hs.1.2;exact ⟨q,z,h1,h2,h3,cell_kept h4 hg (fun k e=>(hr k e).2)⟩⟩,hs.2.grown hg (Nat.le_refl _) (fun k e=>(hr k e).1)⟩) ⟨fun z hz=>(by cases hz),Below.refl _ _⟩
  (fun z=>{ tmps:=(a3.tmps.setIfInBounds 15 (.int .i64 (z.1:Int))).setIfInBounds 7 (.int .i64 (z.1:Int)),defers:=[] }) ?assign ?body ?done ?stop
 case assign=>
  intro l z W F hF;rw [rA_eq];refine assign_in rfl rfl rfl ?_;have ef:Array.foldl (fun t (x:Nat×Value)=>match x with|(p,v)=>t.setIfInBounds p v) a3.tmps (#[15].zip (encB z))=a3.tmps.setIfInBounds 15 (.int .i64 (z.1:Int)):=by simp [encB,Array.zip]
  have e16:((a3.tmps.setIfInBounds 15 (Value.int .i64 (z.1:Int))).getD 15 undef) = .int .i64 (z.1:Int):=by simp [Array.getD,hsz,fp17]
  simp only [ef,e16];exact hF
 case body=>
  rintro l pre z W ⟨hI1,hI2⟩ hlen;have m4:=hm3.after hI2;have hz:vof .i64 (BitVec.ofNat 64 z.1)=(z.1:Int):=vof_bx ⟨z.1,z.2⟩;have hzn:(BitVec.ofNat 64 z.1:U).toNat=z.1:=(idx_facts ⟨z.1,z.2⟩).1;have st4:Stand fp17 ν3 (hM (msR s x y) 5) (slR (BitVec.ofNat 64 z.1)) { tmps:=(a3.tmps.setIfInBounds 15 (.int .i64 (z.1:Int))).setIfInBounds 7 (.int .i64 (z.1:Int)),defers:=[] } W:=by
   refine ⟨m4,fun t v htv => ?_,by simp [hsz],rfl⟩
   simp only [slR,List.mem_cons,pI,List.not_mem_nil,or_false] at htv;rcases htv with ⟨rfl,rfl⟩|⟨rfl,rfl⟩|⟨rfl,rfl⟩
   · have e3:(((a3.tmps.setIfInBounds 15 (Value.int .i64 (z.1:Int))).setIfInBounds 7 (.int .i64 (z.1:Int))).getD 3 undef)=a3.tmps.getD 3 undef:=by
      simp [Array.getD_eq_getD_getElem?]
     show (pt 1).rel ν3 _;rw [e3];exact t3
   · have e3:(((a3.tmps.setIfInBounds 15 (Value.int .i64 (z.1:Int))).setIfInBounds 7 (.int .i64 (z.1:Int))).getD 6 undef)=a3.tmps.getD 6 undef:=by
      simp [Array.getD_eq_getD_getElem?]
     show (pt 2).rel ν3 _;rw [e3];exact t6
   · have e7:(((a3.tmps.setIfInBounds 15 (Value.int .i64 (z.1:Int))).setIfInBounds 7 (.int .i64 (z.1:Int))).getD 7 undef) = .int .i64 (z.1:Int):=by
      simp [Array.getD_eq_getD_getElem?,hsz,fp17]
     show (i64 (BitVec.ofNat 64 z.1)).rel ν3 _;rw [e7];show (A.i .i64 (BitVec.ofNat 64 z.1)).rel ν3 _;simp only [A.rel];rw [hz]
  have hok:=okR_true ⟨z.1,z.2⟩;have bad:∀(n:Int) (p:Option (Ex×St)),IntKind.i64.wrap n=n->codeU (s.g z.1)=K n->codeU (s.g z.1)≠K 0->(evR rB (slR (BitVec.ofNat 64 z.1)) (msR s x y) 5).pick=p ->
   endM fp17.km [] [2] 5 p=some ⟨.ret,.b (okR (BitVec.ofNat 64 z.1)),[],[(2,⟨true,.a (.lit .i64 n)⟩)]⟩->p.map (fun p=>p.2.h.wr)=some [2] ->
   rB.wpIn (Rnd l) 1 Tryz.prog (ownPostK (KpA Ba) (fun pre W=>(∀z,z∈pre->codeU (s.g z.1)=K 0)/\Below w3.heap.size w3 W)
    (fun c pre W=>(c = .ret/\∃q z,pre=q++[z]/\(∀u,u∈q->codeU (s.g u.1)=K 0)/\codeU (s.g z.1)≠K 0/\W.cell? ⟨Be,0,none⟩=some (.int .i64 (vof .i64 (codeU (s.g z.1)))))/\But Be w3.heap.size w3 W) (pre++[z]) W)
    { tmps:=(a3.tmps.setIfInBounds 15 (.int .i64 (z.1:Int))).setIfInBounds 7 (.int .i64 (z.1:Int)),defers:=[] } W:=by
   intro m p hw hc hne hp he hwr;obtain ⟨s',p1,p2,p3,p4,p5,p6,p7,p8⟩:=endM_some he;rw [p1] at hp hwr;have hwr:s'.h.wr=[2]:=by simpa using hwr
   refine phaseIn (XK noΓ_ok) rfl (by kernel_rfl) hp (by rw [p2];exact hok) (gl_none (by kernel_rfl)) (fun _ _ h=>h) st4 ?_
   intro ν' a' W' e hc' hg he;have he:e = .ret:=he;subst he;have hbut:=goes_butI (r:=Be) m4.mark n2 (.inl hwr) hg;have hcell:W'.cell? ⟨Be,0,none⟩=some (.int .i64 m):=by have h1:=hvals_mem p4 2 _ (.head _);obtain ⟨B,v,q1,q2,q3⟩:=seen_cell1 (hg.mem.seen 2 _ h1 (.inl (.inl trivial)));rw [hg.le _ _ n2] at q1;cases q1;simp only [A.rel] at q3;rw [q2,q3.1]
   refine ⟨hbut.others ?_,⟨rfl,pre,z,rfl,hI1,hne,by rw [hcell,hc,vof_ofInt hw]⟩,(But.of_below hI2).trans (hbut.le hI2.size)⟩
   exact cells_of_cell ((hI2.cell (p:=⟨Be,0,none⟩) hBeL).trans cE)
  rcases code_cases (s.g z.1) with ⟨c1,c2⟩|⟨c1,c2,c3⟩|⟨c1,c2,c3⟩
  · have hcn:=(rb_c s x y (BitVec.ofNat 64 z.1)).trans (by rw [hzn,c2])
    exact bad 15 _ rfl c1 (by rw [c1];decide) (Out.at_pick hcn) (rb_0 s x y _) (rb_0w s x y _)
  · have hcn:=(rb_c s x y (BitVec.ofNat 64 z.1)).trans (by rw [hzn,c2])
    have hcn2:=(rb_c2 s x y (BitVec.ofNat 64 z.1)).trans (by rw [hzn,c3])
    exact bad 14 _ rfl c1 (by rw [c1];decide) ((Out.nR_pick hcn).trans (Out.at_pick hcn2)) (rb_2 s x y _) (rb_2w s x y _)
  · have hcn:=(rb_c s x y (BitVec.ofNat 64 z.1)).trans (by rw [hzn,c2])
    have hcn2:=(rb_c2 s x y (BitVec.ofNat 64 z.1)).trans (by rw [hzn,c3])
    obtain ⟨s',p1,p2,p3,p4,p5,p6,p7,p8⟩:=endM_some (rb_n s x y (BitVec.ofNat 64 z.1));have hwr:=rb_nw s x y (BitVec.ofNat 64 z.1);rw [p1] at hwr;have hwr:s'.h.wr=[]:=by simpa using hwr
    refine phaseIn (XK noΓ_ok) rfl (by kernel_rfl) (((Out.nR_pick hcn).trans (Out.at_pick hcn2)).trans p1) (by rw [p2];exact hok) (gl_none (by kernel_rfl)) (fun _ _ h=>h) st4 ?_
    intro ν' a' W' e hc' hg he;have he:e = .normal:=he;subst he;have hbel:=goes_below hwr m4 hg;refine ⟨?_,hbel.cell (p:=⟨Ba,0,none⟩) (Nat.lt_of_lt_of_le hBaL hI2.size),fun u hu => ?_,hI2.trans (hbel.mono hI2.size)⟩
    · exact ⟨hbel.size,fun k o hk _=>(hbel.block k (Array.getElem?_eq_some_iff.1 hk).1).trans hk⟩
    · rcases List.mem_append.1 hu with h|h
      · exact hI1 u h
      · simp at h;subst h;exact c1
 case done=>
  rintro D xs W hD rfl ⟨hI1,hI2⟩ hK;show r10.wpIn Fence.wide 3 Tryz.prog _ _ W;rw [r10_eq];have m4:=hm3.after hI2;obtain ⟨r',he',hrok,hrw⟩:∃r',evalStore Tryz.prog (hM (msR s x y) 5) 24 (.ptr 2 []) (.t (.a (.lit .i64 0)))=some r'/\okB r'.ok=true/\(r'.h.wr=[2]/\r'.h.m.get 2=some ⟨true,.a (.lit .i64 0)⟩):=st_ev s x y;have hpr:(A.ptr 2 []).rel ν3 (.pointer (some ⟨Be,0,none⟩)):=by simp only [A.rel];exact ⟨Be,0,n2,rfl⟩
  obtain ⟨W',k1,_,k3⟩:=evalStore_sound (P:=Tryz.prog) (w:=W) he' hrok m4 (fun _ _=>trivial) hpr (y :=.t (.a (.lit .i64 0))) (vy :=.int .i64 0) (by show (A.lit .i64 0).rel ν3 _;simp only [A.rel];exact ⟨trivial,rfl⟩)
  have hbut:But Be W.heap.size W W':=goes_butI (h:=hM (msR s x y) 5) (r:=Be) m4 n2 (.inl hrw.1) k3;have hcell:W'.cell? ⟨Be,0,none⟩=some (.int .i64 0):=by obtain ⟨B,v,q1,q2,q3⟩:=seen_cell1 (k3.mem.seen 2 _ hrw.2 (.inl trivial));rw [n2] at q1;cases q1;simp only [A.rel] at q3;rw [q2,q3.1]
  have hDl:D<W.heap.size:=(Array.getElem?_eq_some_iff.1 hK).1;have hK':W'.heap[D]? = some (.deferred (some [])):=(hbut.block D hDl (by omega)).trans hK
  refine wpIn_seq (wpIn_wide.2 (store_wp (W':=W') rfl rfl rfl ?_ ?_))
  · show (Instr.storeAt 24 (a3.tmps.getD 6 undef) (.int .i64 0)).run Tryz.prog W=_;rw [e6];exact k1
  refine wpIn_ret ?_;refine ⟨by simp,.inl ⟨_,_,rfl,run_takeDeferred hK',?_⟩⟩
  rw [show a3.defers=[] from at3.1.defers]
  have hbut2:=((But.of_below hI2).trans (hbut.le hI2.size)).grown (grownBy_putObj' W' D (.deferred none)) (Nat.le_refl _) (fun k e=>by cases e;exact hD)
  refine ⟨_,results_cell rfl e6 agg40 (cell_kept hcell (grownBy_putObj' W' D (.deferred none)) (fun k e=>by cases e;exact ⟨_,hK',rfl⟩)),?_,?_⟩
  · rw [readN_good n hb hI1];rfl
  · exact (at3.2).trans (hbut2.below at3.2.size hBe)
 case stop=>
  rintro D c pre W hD ⟨k,hk,rfl⟩ ⟨⟨rfl,q,z,e1,hq,hz,hcell⟩,hbut⟩ hK;refine wpIn_ret ?_;refine ⟨by simp,.inl ⟨_,_,rfl,run_takeDeferred hK,?_⟩⟩
  rw [show a3.defers=[] from at3.1.defers]
  have hbut2:=hbut.grown (grownBy_putObj' W D (.deferred none)) (Nat.le_refl _) (fun k e=>by cases e;exact hD)
  refine ⟨_,results_cell rfl e6 agg40 (cell_kept hcell (grownBy_putObj' W D (.deferred none)) (fun k e=>by cases e;exact ⟨_,hK,rfl⟩)),?_,?_⟩
  · rw [readN_bad hk hb e1 hq hz]
  · exact (at3.2).trans (hbut2.below at3.2.size hBe)
theorem r1_e (s:FSt) (x y:U):endM fp17.km [6] [2] 3 ((evR r1 (sr1 x y) (msQ s) 3).at true)=some ⟨.ret,.tt,[(6,pt 2)],[(2,⟨true,.a (.lit .i64 17)⟩)]⟩:=by kernel_rfl
theorem read_not {r:Nat} {s:FSt} {x y:U} (ht:thereB x y=false) (w:World) (hh:Holds w r s.t) :
 Calls Tryz.prog 71 #[.pointer (some ⟨r,0,none⟩),.int .i64 (vof .i64 x),.int .i64 (vof .i64 y)] w fun e w'=>e = .returned (.int .i64 17)/\Below w.heap.size w w':=by
 refine calls_phases Tryz.func71 body17 ?_;rw [c17_eq];have st:At fp17 (hM (ms0 s) 1) w (nuOne r) (sl0 x y) { tmps := #[.pointer (some ⟨r,0,none⟩),.int .i64 (vof .i64 x),.int .i64 (vof .i64 y)]++Array.replicate (Tryz.f71.ntmps-3) undef,defers:=[] } w:=
  At.enterA (fp:=fp17) (args:=[pt 0,i64 x,i64 y]) (vs:=[.pointer (some ⟨r,0,none⟩),.int .i64 (vof .i64 x),.int .i64 (vof .i64 y)]) (mem_one hh) (args3 r x y) (show 3≤26 by decide)
 refine wp_seq (wp_mono (At.growN (XK noΓ_ok) rfl (r0_ev s x y) (r0_m s x y) rfl rfl (by kernel_rfl) st) ?_)
 rintro e a1 w1 ⟨rfl,ν1,⟨hle1,hnew1⟩,at1⟩;obtain ⟨s',p1,p2,p3,p4,p5,p6,p7,p8⟩:=endM_some (r1_e s x y);have hwr:=r1_w s x y;rw [p1] at hwr;have hwr:s'.h.wr=[2]:=by simpa using hwr
 have hm1:=at1.1.mem;obtain ⟨Be,ve,n2,cE,rE⟩:=seen_cell1 (hm1.seen 2 ⟨true,.a (.lit .i64 0)⟩ rfl (.inl trivial));have hBe:w.heap.size≤Be:=hnew1 2 Be 0 rfl n2;refine wp_seq (WE.phase (XK noΓ_ok) rfl ((Out.at_pick ((r1_c s x y).trans (by rw [ht];rfl))).trans p1) (by rw [p2];rfl) (gl_none (by kernel_rfl)) at1.1 ?_)
 intro ν' a' W' e hc hg he;have he:e = .ret:=he;subst he;have hbut:=goes_butI (r:=Be) hm1.mark n2 (.inl hwr) hg;have hcell:W'.cell? ⟨Be,0,none⟩=some (.int .i64 17):=by have h1:=hvals_mem p4 2 _ (.head _);obtain ⟨B,v,q1,q2,q3⟩:=seen_cell1 (hg.mem.seen 2 _ h1 (.inl (.inl trivial)));rw [hg.le _ _ n2] at q1;cases q1;simp only [A.rel] at q3;rw [q2,q3.1]
 have e6:a'.tmps.getD 6 undef = .pointer (some ⟨Be,0,none⟩):=by have t6:=(hc.slots 6).1;rw [vals_mem p3 6 _ (.head _)] at t6;have t6:(A.ptr 2 []).rel ν' _:=t6 trivial;simp only [A.rel] at t6;obtain ⟨B,base,k6,e⟩:=t6;rw [hg.le _ _ n2] at k6;cases k6;exact e
 have hd:a'.defers=[]:=by
  have:=hc.defers;rw [p5] at this;cases hd:a'.defers with
  | nil=>rfl
  | cons _ _=>rw [hd] at this;exact this.elim
 have hl:Leaves Tryz.prog Tryz.f71 a'.tmps (fun e w'=>e = .returned (.int .i64 17)/\Below w.heap.size w w') a'.defers .returning W':=by rw [hd];exact ⟨_,results_cell rfl e6 agg40 hcell,rfl,at1.2.trans (hbut.below at1.2.size hBe)⟩
 exact hl
theorem goes_made {S:Nat->Prop} {ν:Nu} {w w':World} {h:H} {b:Nat} {cs:Array Value} {ty:TypeId} {vs post:List Value} {t:T} (hm:Mem S ν w h) (hb:Below w.heap.size w w') (hge:w.heap.size≤b)
 (hcell:w'.heap[b]? = some (.cells cs ty (0,0))) (hcs:cs.toList=vs++post) (ht:∀ν',t.rel ν' vs):Goes S ν w h (upd ν h.next (b,0)) w' (h.new ⟨true,t⟩):=by
 have hlt:b<w'.heap.size:=(Array.getElem?_eq_some_iff.1 hcell).1;have hn:ν h.next=none:=hm.nums.fresh _ (Nat.le_refl _);have hle:=le_upd (p:=(b,0)) hn;have hget:∀id,(h.new ⟨true,t⟩).m.get id=if h.next=id then some ⟨true,t⟩ else h.m.get id:=fun id=>Tr.get_set _ _ _ _
 refine ⟨hle,⟨⟨?_,?_,?_,?_,?_,fun g hg=>hle _ _ (hm.nums.glob g hg)⟩,?_⟩,⟨hb.os,hb.tape,hb.output,hb.size,fun r hr _=>hb.block r hr⟩,?_,new_ext hm.nums.lo _,?_⟩
 · intro id r base hi;unfold upd at hi;split at hi
   · simp at hi;omega
   · have h1:=hm.nums.lt id r base hi;exact Nat.lt_of_lt_of_le h1 hb.size
 · intro id b' hb' hrw id' r base base' h1 h2;rw [hget] at hb';unfold upd at h1 h2;split at h1<;>split at h2
   · omega
   · simp at h1;have:=hm.nums.lt _ _ _ h2;omega
   · simp at h2;have:=hm.nums.lt _ _ _ h1;omega
   · rename_i e1 e2;rw [if_neg (fun e=>e1 e.symm)] at hb';exact hm.nums.inj id b' hb' hrw id' r base base' h1 h2
 · intro id hi;have hi:h.next+1≤id:=hi;unfold upd;rw [if_neg (by omega)]
   exact hm.nums.fresh id (by omega)
 · intro id b hb;show id<h.next+1;rw [hget] at hb;split at hb
   · omega
   · have:=hm.nums.bound id b hb;omega
 · have:=hm.nums.lo;show h.lo≤h.next+1;omega
 · intro id b' hb' hS;rw [hget] at hb';split at hb'
   · rename_i e;subst e;simp at hb';subst hb';exact .inl ⟨b,0,cs,ty,(0,0),[],vs,post,by simp [upd],hcell,by simpa using hcs,rfl,ht _,fun _=>⟨rfl,rfl⟩⟩
   · exact (hm.seen id b' hb' hS).mono hle fun r base hi=>hb.block r (hm.nums.lt id r base hi)
 · intro id r base hn' hi;unfold upd at hi;split at hi
   · simp at hi;omega
   · rw [hn'] at hi;cases hi
 · intro id hi;unfold upd;rw [if_neg (by omega)]
theorem goes_calm {S:Nat->Prop} {ν:Nu} {w w':World} {h:H} (hm:Mem S ν w h) (hb:Below w.heap.size w w'):Goes S ν w h ν w' h:=
 ⟨Nu.le_refl _,⟨⟨fun id r base h=>Nat.lt_of_lt_of_le (hm.nums.lt id r base h) hb.size,hm.nums.inj,hm.nums.fresh,hm.nums.bound,hm.nums.lo,hm.nums.glob⟩,fun id b h1 h2=>(hm.seen id b h1 h2).mono (Nu.le_refl _) (fun r base h3=>hb.block r (hm.nums.lt id r base h3))⟩,
  ⟨hb.os,hb.tape,hb.output,hb.size,fun r hr _=>hb.block r hr⟩,fun id r base h h'=>(by rw [h] at h';cases h'),Ext.refl _,fun _ _=>rfl⟩
theorem goes_turned {S:Nat->Prop} {ν:Nu} {w w':World} {h:H} {id r:Nat} {t':T} {b:Blk} (m:Mem S ν w h) (hb:h.m.get id=some b) (hrw:b.rw=true) (hν:ν id=some (r,0)) (hbut:But r w.heap.size w w') (hh:Holds w' r t') :
 Goes S ν w h ν w' (h.put id ⟨true,t'⟩):=by
 have hget:∀j,(h.put id ⟨true,t'⟩).m.get j=if id=j then some ⟨true,t'⟩ else h.m.get j:=fun j=>Tr.get_set _ _ _ _
 refine ⟨Nu.le_refl _,⟨⟨?_,?_,m.nums.fresh,?_,m.nums.lo,m.nums.glob⟩,?_⟩,⟨hbut.os,hbut.tape,hbut.output,hbut.size,?_⟩,fun _ _ _ h h'=>(by rw [h] at h';cases h'),put_ext hb hrw rfl,fun _ _=>rfl⟩
 · intro j r' base hj;exact Nat.lt_of_lt_of_le (m.nums.lt j r' base hj) hbut.size
 · intro j b' hb' hrw' j' r' base base' h1 h2;rw [hget] at hb';split at hb'
   · rename_i e;subst e;exact m.nums.inj id b hb hrw j' r' base base' h1 h2
   · exact m.nums.inj j b' hb' hrw' j' r' base base' h1 h2
 · intro j b' hb';rw [hget] at hb';split at hb'
   · rename_i e;subst e;exact m.nums.bound id b hb
   · exact m.nums.bound j b' hb'
 · intro j b' hb' hS;rw [hget] at hb';split at hb'
   · rename_i e;subst e;simp at hb';subst hb';obtain ⟨cs,ty,vs,post,e1,e2,e3⟩:=hh;exact .inl ⟨r,0,cs,ty,(0,0),[],vs,post,hν,e1,by simpa using e2,rfl,T.rel_mono (fun i p e=>by cases e) e3,fun _=>⟨rfl,rfl⟩⟩
   · rename_i hne;refine (m.seen j b' hb' hS).mono (Nu.le_refl _) fun r' base hj=>hbut.block r' (m.nums.lt _ _ _ hj) ?_;rintro rfl;exact hne (m.nums.inj id b hb hrw j r' 0 base hν hj).symm
 · intro r' hr' hn;refine hbut.block r' hr' ?_;rintro rfl;have:=hn id 0 hν;exact this.2 (mem_noteB.2 (.inl ⟨rfl,this.1⟩))
def shRF:Sh->Option RF
 | .st [.int .i64 k,.int .i64 o,.int .i64 m,.int .i64 i,.st [.st [.int .u64 tv,.int .u64 tm],.st [.int .u64 ul,.int .u64 uh],.st [.int .i64 sl,.int .i64 sh]]]=>some ⟨k,o,m,i,tv,tm,ul,uh,sl,sh⟩
 | _=>none
def asFS:T->Option FSt
 | .st [.arr 10 (.lit 11) rs,.arr 1 (.lit 128) (.int .i64 g),.arr 10 (.lit 16) ks]=>match shRF rs,shRF ks with
   | some r,some k=>some ⟨r,g,k⟩
   | _,_=>none
 | _=>none
theorem shRF_some {s:Sh} {f:RF} (h:shRF s=some f):s=f.s:=by
 unfold shRF at h;split at h
 · cases h;rfl
 · cases h
theorem asFS_some {t:T} {s:FSt} (h:asFS t=some s):t=s.t:=by
 unfold asFS at h;split at h
 · split at h
   · rename_i h1 h2;cases h;rw [shRF_some h1,shRF_some h2];rfl
   · cases h
 · cases h
def stateOf (h:H) (id:Nat):Option FSt:=match h.m.get id with
 | some ⟨true,t⟩=>asFS t
 | _=>none
theorem stateOf_some {h:H} {id:Nat} {s:FSt} (e:stateOf h id=some s):h.m.get id=some ⟨true,s.t⟩:=by
 unfold stateOf at e;split at e
 · rename_i t ht;rw [ht,asFS_some e]
 · cases e
def i64Of:A->Option U
 | .lit .i64 n=>some (BitVec.ofInt 64 n)
 | .i .i64 x=>some x
 | _=>none
theorem i64Of_rel {ν:Nu} {a:A} {x:U} {v:Value} (h:i64Of a=some x) (hr:a.rel ν v):v = .int .i64 (vof .i64 x):=by
 unfold i64Of at h;split at h
 · cases h;simp only [A.rel] at hr;obtain ⟨rfl,hn⟩:=hr;rw [vof_ofInt hn]
 · cases h;simpa only [A.rel] using hr
 · cases h
def posN (x:U):Nat:=(x+128#64).toNat
theorem pos_facts {x y:U} {b n:Nat} (hb:b+n≤128) (hx:vof .i64 x=(b:Int)-128) (hy:vof .i64 y=(n:Int)):posN x=b/\y.toNat=n:=by
 rw [vof_toInt] at hx hy;unfold posN;have h1:=BitVec.toInt_eq_toNat_cond x;have h2:=BitVec.toInt_eq_toNat_cond y;have h3:=x.isLt;have h4:=y.isLt;rw [hx] at h1;rw [hy] at h2;rw [BitVec.toNat_add];have:(128#64:U).toNat=128:=rfl;rw [this];constructor
 · split at h1<;>omega
 · split at h2<;>omega
def readR (g:Nat->U) (x y:U):U:=cond (thereB x y) (readN g (posN x) y.toNat) (K 17)
def FSt.mux (c:Bool) (p q:FSt):FSt:=match c with
 | true=>p
 | false=>q
def layR (s:FSt) (x y:U):FSt:=FSt.mux (thereB x y) (layN s (posN x) y.toNat) s
def readΓ (Γ:Gam):Gam:=fun f args h=>match Nat.beq f 71 with
 | true=>match args with
   | [.t (.a (.ptr id [])),.t (.a ax),.t (.a ay)]=>match stateOf h id,i64Of ax,i64Of ay with
     | some s,some x,some y=>some (.leaf .tt (i64 (readR s.g x y)) (h.see id))
     | _,_,_=>none
   | _=>none
 | false=>Γ f args h
def layΓ (Γ:Gam):Gam:=fun f args h=>match Nat.beq f 38 with
 | true=>match args with
   | [.t (.a (.ptr id [])),.t (.a ax),.t (.a ay)]=>match stateOf h id,i64Of ax,i64Of ay with
     | some s,some x,some y=>some (.leaf .tt (i64 (cond (thereB x y) (K 0) (K 17))) ((h.see id).put id ⟨true,(layR s x y).t⟩))
     | _,_,_=>none
   | _=>none
 | false=>Γ f args h
theorem enters8:Enters Tryz.prog 38:=enters_of entK 38 _ Tryz.func38 (by simp [Tryz.f38])
theorem enters17:Enters Tryz.prog 71:=enters_of entK 71 _ Tryz.func71 (by simp [Tryz.f71])
theorem state_args {S:Nat->Prop} {ν:Nu} {w:World} {h:H} {id:Nat} {ax ay:A} {s:FSt} {x y:U} {vs:List Value} (hs:stateOf h id=some s) (hx:i64Of ax=some x) (hy:i64Of ay=some y) (hm:Mem S ν w h) (hS:S id\/h.lo≤id) (hv:relV ν [.t (.a (.ptr id [])),.t (.a ax),.t (.a ay)] vs) :
 ∃r,ν id=some (r,0)/\Holds w r s.t/\vs=[.pointer (some ⟨r,0,none⟩),.int .i64 (vof .i64 x),.int .i64 (vof .i64 y)]:=by
 match vs,hv with
 | [v0,v1,v2],⟨r0,r1,r2,_⟩=>
   have r0:(A.ptr id []).rel ν v0:=r0;simp only [A.rel] at r0;obtain ⟨r,base,e1,rfl⟩:=r0;have hb:=stateOf_some hs;obtain ⟨r',base',cs,ty,fr,pre,us,post,q1,q2,q3,q4,q5,q6⟩:=(hm.seen id _ hb hS).cells rfl;rw [e1] at q1;cases q1;obtain ⟨rfl,rfl⟩:=q6 rfl;exact ⟨r,e1,seen_holds (hm.seen id _ hb hS) rfl rfl e1,by rw [i64Of_rel hx r1,i64Of_rel hy r2];rfl⟩
theorem read_fn {h:H} {id:Nat} {ax ay:A} {s:FSt} {x y:U} (hs:stateOf h id=some s) (hx:i64Of ax=some x) (hy:i64Of ay=some y) :
 FnOK Tryz.prog 71 [.t (.a (.ptr id [])),.t (.a ax),.t (.a ay)] h (i64 (readR s.g x y)) (h.see id):=by
 intro S ν w vs hrd _ hm hv;obtain ⟨r,hν,hh,rfl⟩:=state_args hs hx hy hm (see_seen hrd) hv;have fin:∀u,u=vof .i64 (readR s.g x y)->∀w',Below w.heap.size w w'->∃v ν',Ending.returned (.int .i64 u) = .returned v/\(i64 (readR s.g x y)).rel ν' v/\Goes S ν w h ν' w' (h.see id):=by rintro u rfl w' hb;refine ⟨_,ν,rfl,?_,(goes_calm hm hb).trans ((goes_calm hm hb).mem.see id)⟩;show (A.i .i64 _).rel ν _;simp only [A.rel]
 cases ht:thereB x y
 · refine (read_not ht w hh).mono ?_;rintro e w' ⟨rfl,hb⟩;exact fin 17 (by unfold readR;rw [ht];rfl) w' hb
 · obtain ⟨b,n,hbn,h1,h2⟩:=there_nat ht;obtain ⟨e1,e2⟩:=pos_facts hbn h1 h2;refine (read_there hbn h1 h2 ht w hh).mono ?_;rintro e w' ⟨rfl,hb⟩;exact fin _ (by unfold readR;rw [ht,e1,e2];rfl) w' hb
theorem lay_fn {h:H} {id:Nat} {ax ay:A} {s:FSt} {x y:U} (hs:stateOf h id=some s) (hx:i64Of ax=some x) (hy:i64Of ay=some y) :
 FnOK Tryz.prog 38 [.t (.a (.ptr id [])),.t (.a ax),.t (.a ay)] h (i64 (cond (thereB x y) (K 0) (K 17))) ((h.see id).put id ⟨true,(layR s x y).t⟩):=by
 intro S ν w vs hrd _ hm hv;have hrd':∀i,i∈(h.see id).rd->S i:=hrd;obtain ⟨r,hν,hh,rfl⟩:=state_args hs hx hy hm (see_seen hrd') hv;have hb:=stateOf_some hs;cases ht:thereB x y
 · refine (lay_not ht w hh).mono ?_;rintro e w' ⟨rfl,hbel⟩;refine ⟨_,ν,rfl,?_,?_⟩
   · show (A.i .i64 _).rel ν _;simp only [A.rel];rfl
   · have e:layR s x y=s:=by unfold layR;rw [ht];rfl
     rw [e];have g1:=hm.see id;exact g1.trans (goes_turned (h:=h.see id) g1.mem hb rfl hν (But.of_below hbel) (hh.same (hbel.block r hh.lt)))
 · obtain ⟨b,n,hbn,h1,h2⟩:=there_nat ht;obtain ⟨e1,e2⟩:=pos_facts hbn h1 h2;refine (lay_there hbn h1 h2 ht w hh).mono ?_;rintro e w' ⟨rfl,hh',hbut⟩;refine ⟨_,ν,rfl,?_,?_⟩
   · show (A.i .i64 _).rel ν _;simp only [A.rel];rfl
   · have e:layR s x y=layN s b n:=by unfold layR;rw [ht,e1,e2];rfl
     rw [e];have g1:=hm.see id;exact g1.trans (goes_turned (h:=h.see id) g1.mem hb rfl hν hbut hh')
theorem readΓ_ok {Γ:Gam} (hΓ:ΓOK Tryz.prog Γ):ΓOK Tryz.prog (readΓ Γ) where
 ok:=by
  intro f args h r ok v h' hr hp hok;unfold readΓ at hr;split at hr
  · rename_i hg;have hg:=Go.WE.beq_true hg;subst hg;split at hr
    · split at hr
      · rename_i h1 h2 h3;cases hr;simp only [R.pick,oI,pI] at hp;obtain ⟨rfl,rfl,rfl⟩:=hp;exact .inl ⟨enters17,read_fn h1 h2 h3⟩
      · cases hr
    · cases hr
  · exact hΓ.ok f args h r ok v h' hr hp hok
 pan:=by
  intro f args h r ok v h' hr hp hok;unfold readΓ at hr;split at hr
  · repeat' split at hr
    all_goals first|(cases hr;simp [R.pickP] at hp)|cases hr
  · exact hΓ.pan f args h r ok v h' hr hp hok
 ext:=by
  intro f args h r hr hlo;unfold readΓ at hr;split at hr
  · split at hr
    · rename_i id _ _;split at hr
      · cases hr;exact see_ext h id
      · cases hr
    · cases hr
  · exact hΓ.ext f args h r hr hlo
theorem layΓ_ok {Γ:Gam} (hΓ:ΓOK Tryz.prog Γ):ΓOK Tryz.prog (layΓ Γ) where
 ok:=by
  intro f args h r ok v h' hr hp hok;unfold layΓ at hr;split at hr
  · rename_i hg;have hg:=Go.WE.beq_true hg;subst hg;split at hr
    · split at hr
      · rename_i h1 h2 h3;cases hr;simp only [R.pick,oI,pI] at hp;obtain ⟨rfl,rfl,rfl⟩:=hp;exact .inl ⟨enters8,lay_fn h1 h2 h3⟩
      · cases hr
    · cases hr
  · exact hΓ.ok f args h r ok v h' hr hp hok
 pan:=by
  intro f args h r ok v h' hr hp hok;unfold layΓ at hr;split at hr
  · repeat' split at hr
    all_goals first|(cases hr;simp [R.pickP] at hp)|cases hr
  · exact hΓ.pan f args h r ok v h' hr hp hok
 ext:=by
  intro f args h r hr hlo;unfold layΓ at hr;split at hr
  · split at hr
    · rename_i id _ _;split at hr
      · rename_i h1 h2 h3;cases hr;exact (see_ext h id).trans (put_ext (h:=h.see id) (stateOf_some h1) rfl rfl)
      · cases hr
    · cases hr
  · exact hΓ.ext f args h r hr hlo
end Go.WE
namespace Go.WE
open Go
open Go.RowKit (Below)
def OwnL (fp:Fp) (n:Nat) (ms:List (Nat×Blk)) (W:World) (l:List (Nat×V)) (a:Act) (w:World):Prop:=
 ∃ν,Stand fp ν (hM ms n) l a w/\Below W.heap.size W w/\∀id r base,ν id=some (r,base)->W.heap.size≤r\/∀b,(hM ms n).m.get id=some b->b.rw=false
section
variable {cx:Cx} {Γ:Gam} {fuel d:Nat} {fp:Fp} {c:Code} {l l' l'':List (Nat×V)} {ms ms' ms'':List (Nat×Blk)} {n n':Nat} {ts is:List Nat} {ok:A} {W:World} {a:Act} {w:World}
theorem OwnL.below {ν ν':Nu} {h':H} {w':World} (hm:Mem (fun _=>True) ν w (hM ms n)) (hb:Below W.heap.size W w) (hn:∀id r base,ν id=some (r,base)->W.heap.size≤r\/∀b,(hM ms n).m.get id=some b->b.rw=false) {S:Nat->Prop} (hg:Goes S ν w (hM ms n).mark ν' w' h'):Below W.heap.size W w':=by
 refine hb.trans ⟨hg.frm.os,hg.frm.tape,hg.frm.output,hg.frm.size,fun r hr=>hg.frm.block r (Nat.lt_of_lt_of_le hr hb.size) fun id base hid => ?_⟩;have hlt:id<n:=by
  refine Classical.byContradiction fun hge => ?_;rw [hm.nums.fresh id (show n≤id by omega)] at hid
  cases hid
 refine ⟨by rw [hg.ext.lo];exact hlt,fun hw => ?_⟩
 rcases hn id r base hid with h|h
 · omega
 · rcases hg.ext.wrw id hw with h3|⟨b,h3,h4⟩|h3
   · cases h3
   · rw [h b h3] at h4;cases h4
   · have h3:n≤id:=h3;omega
theorem OwnL.phase {r:EndM} (X:CxOK cx Γ) (hlam:fp.lam=fun _ _=>none) (hp:endM fp.km ts is n' (evalC cx (evalF cx Γ fuel d) fp fuel c (stOf l (hM ms n))).pick=some r) (hok:okB r.ok=true)
 (hpl:(r.l.all fun p=>plainS n' p.2)=true) (hfr:(ms''.all fun p=>p.2.t.free)=true) (hgl:codeGl c []=[]) (hl:LessA r.l l'') (hm:LessM r.ms ms'') (hI:OwnL fp n ms W l a w) {Q:Exit->Act->World->Prop}
 (hQ:∀ν' a' w' x,r.e.rel ν' x->OwnL fp n' ms'' W l'' a' w'->Q x a' w'):c.wp cx.P Q a w:=by
 obtain ⟨ν,hs,hb,hn⟩:=hI;obtain ⟨s,h1,h2,h3,h4,h5,h6,h7,h8⟩:=endM_some hp;refine WE.phase X hlam h1 (by rw [h2];exact hok) (gl_none hgl) hs fun ν' a' w' x hc hg hx=>hQ ν' a' w' x hx ?_
 have hbel:=OwnL.below hs.mem hb hn hg;let ν2:Nu:=fun id=>if id<n' then ν' id else none
 have hold:∀id,id<n'->ν' id=ν2 id:=fun id hid=>by simp [ν2,hid]
 have hν2:∀id p,ν2 id=some p->ν' id=some p:=fun id p h=>by
  simp only [ν2] at h;split at h
  · exact h
  · cases h
 have hmem:=hc.mem;have hget:∀id b'',(hM ms'' n').m.get id=some b''->∃b,s.h.m.get id=some b/\b.rw=b''.rw/\(∀ν vs,b.t.rel ν vs->b''.t.rel ν vs)/\id<n'/\b''.t.free=true/\notMp b.t=true:=fun id b'' h=>by have hm1:=get_memT ms'' id b'' h;obtain ⟨b,hb1,hb2,hb3⟩:=hm.mem id b'' hm1;exact ⟨b,hvals_mem h4 id b hb1,hb2,hb3,h7 id (hvals_ids h4 id b hb1),List.all_eq_true.1 hfr _ hm1,List.all_eq_true.1 h8 _ hb1⟩
 refine ⟨ν2,⟨⟨⟨fun id r base h=>hmem.nums.lt id r base (hν2 _ _ h),fun id b'' hb'' hrw id' r base base' e1 e2 => ?_,fun id hid => ?_,fun id b'' hb''=>(hget id b'' hb'').choose_spec.2.2.2.1,Nat.le_refl _,fun g hg=>by cases hg⟩,fun id b'' hb'' _ => ?_⟩,fun t v htv => ?_,hc.size,?_⟩,hbel,fun id r base h => ?_⟩
 · obtain ⟨b,q1,q2,_⟩:=hget id b'' hb'';exact hmem.nums.inj id b q1 (by rw [q2];exact hrw) id' r base base' (hν2 _ _ e1) (hν2 _ _ e2)
 · have hid:n'≤id:=hid;simp only [ν2];rw [if_neg (by omega)]
 · obtain ⟨b,q1,q2,q3,q4,q5,q6⟩:=hget id b'' hb'';obtain ⟨r,base,cs,ty,fr,pre,vs,post,z1,z2,z3,z4,z5,z6⟩:=(hmem.seen id b q1 (.inl (.inl trivial))).cells q6;exact .inl ⟨r,base,cs,ty,fr,pre,vs,post,(hold id q4)▸z1,z2,z3,z4,T.rel_free q5 (q3 _ _ z5),fun h=>z6 (by rw [q2];exact h)⟩
 · obtain ⟨v0,q1,q2⟩:=(hl ν2).mem t v htv;refine q2 _ ?_;have q3:=(hc.slots t).1;rw [vals_mem h3 t v0 q1] at q3;exact plainS_old hold (List.all_eq_true.1 hpl _ q1) (q3 trivial)
 · have:=hc.defers;rw [h5] at this;cases hd:a'.defers with
   | nil=>rfl
   | cons _ _=>rw [hd] at this;exact this.elim
 · have h':=hν2 _ _ h;cases hν:ν id with
   | none=>exact .inl (Nat.le_trans hb.size (hg.new id r base hν h'))
   | some p=>
     have e:=hg.le id p hν;rw [h'] at e;cases e;rcases hn id r base hν with h9|h9
     · exact .inl h9
     · refine .inr fun b'' hb'' => ?_;obtain ⟨b,q1,q2,_⟩:=hget id b'' hb'';have hlt:id<(hM ms n).mark.next:=by
        show id<n;refine Classical.byContradiction fun hge => ?_;rw [hs.mem.nums.fresh id (show n≤id by omega)] at hν
        cases hν
       obtain ⟨b0,z1,z2⟩:=hg.ext.rw id b hlt q1;rw [← q2,← z2];exact h9 b0 z1
theorem OwnL.go (X:CxOK cx Γ) (hlam:fp.lam=fun _ _=>none) (hp:endM fp.km ts is n' (evalC cx (evalF cx Γ fuel d) fp fuel c (stOf l (hM ms n))).pick=some ⟨.nrm,ok,l',ms'⟩) (hok:okB ok=true)
 (hpl:(l'.all fun p=>plainS n' p.2)=true) (hfr:(ms''.all fun p=>p.2.t.free)=true) (hgl:codeGl c []=[]) (hl:LessA l' l'') (hm:LessM ms' ms'') (hI:OwnL fp n ms W l a w) :
 c.wp cx.P (fun x a' w'=>x = .normal/\OwnL fp n' ms'' W l'' a' w') a w:=
 OwnL.phase X hlam hp hok hpl hfr hgl hl hm hI (fun ν' a' w' x hx h=>⟨hx,h⟩)
theorem OwnL.goB {b:Bool} (X:CxOK cx Γ) (hlam:fp.lam=fun _ _=>none) (hc:(evalC cx (evalF cx Γ fuel d) fp fuel c (stOf l (hM ms n))).cnd=some b) (hp:endM fp.km ts is n' ((evalC cx (evalF cx Γ fuel d) fp fuel c (stOf l (hM ms n))).at b)=some ⟨.nrm,ok,l',ms'⟩) (hok:okB ok=true)
 (hpl:(l'.all fun p=>plainS n' p.2)=true) (hfr:(ms''.all fun p=>p.2.t.free)=true) (hgl:codeGl c []=[]) (hl:LessA l' l'') (hm:LessM ms' ms'') (hI:OwnL fp n ms W l a w) :
 c.wp cx.P (fun x a' w'=>x = .normal/\OwnL fp n' ms'' W l'' a' w') a w:=
 OwnL.phase (r:=⟨.nrm,ok,l',ms'⟩) X hlam (by rw [Out.at_pick hc];exact hp) hok hpl hfr hgl hl hm hI (fun ν' a' w' x hx h=>⟨hx,h⟩)
theorem OwnL.outB {b:Bool} {id:Nat} (X:CxOK cx Γ) (hlam:fp.lam=fun _ _=>none) (hc:(evalC cx (evalF cx Γ fuel d) fp fuel c (stOf l (hM ms n))).cnd=some b) (hp:endM fp.km ts is n' ((evalC cx (evalF cx Γ fuel d) fp fuel c (stOf l (hM ms n))).at b)=some ⟨.exit id,ok,l',ms'⟩) (hok:okB ok=true)
 (hpl:(l'.all fun p=>plainS n' p.2)=true) (hfr:(ms''.all fun p=>p.2.t.free)=true) (hgl:codeGl c []=[]) (hl:LessA l' l'') (hm:LessM ms' ms'') (hI:OwnL fp n ms W l a w) :
 c.wp cx.P (fun x a' w'=>x = .exit id/\OwnL fp n' ms'' W l'' a' w') a w:=
 OwnL.phase (r:=⟨.exit id,ok,l',ms'⟩) X hlam (by rw [Out.at_pick hc];exact hp) hok hpl hfr hgl hl hm hI (fun ν' a' w' x hx h=>⟨hx,h⟩)
theorem OwnL.out {id:Nat} (X:CxOK cx Γ) (hlam:fp.lam=fun _ _=>none) (hp:endM fp.km ts is n' (evalC cx (evalF cx Γ fuel d) fp fuel c (stOf l (hM ms n))).pick=some ⟨.exit id,ok,l',ms'⟩) (hok:okB ok=true)
 (hpl:(l'.all fun p=>plainS n' p.2)=true) (hfr:(ms''.all fun p=>p.2.t.free)=true) (hgl:codeGl c []=[]) (hl:LessA l' l'') (hm:LessM ms' ms'') (hI:OwnL fp n ms W l a w) :
 c.wp cx.P (fun x a' w'=>x = .exit id/\OwnL fp n' ms'' W l'' a' w') a w:=
 OwnL.phase (r:=⟨.exit id,ok,l',ms'⟩) X hlam hp hok hpl hfr hgl hl hm hI (fun ν' a' w' x hx h=>⟨hx,h⟩)
end
theorem call_one {P:Program} {f:FuncId} {args:List V} {v:V} {h':H} {t t':T} (hf:FnOK P f args (hM [(0,⟨true,t⟩)] 1) v h') (hw:h'.wr=[0]\/h'.wr=[]) (hg:h'.m.get 0=some ⟨true,t'⟩) (hn:notMp t'=true) (hfr:t'.free=true) (hv:v.free=true)
 {r:Nat} {w:World} (hh:Holds w r t) {vs:List Value} (ha:relV (nuOne r) args vs) (ν:Nu):Calls P f vs.toArray w fun e w'=>∃u,e = .returned u/\v.rel ν u/\But r w.heap.size w w'/\Holds w' r t':=by
 refine (hf (fun _=>True) (nuOne r) w vs (fun _ _=>trivial) (fun _ _=>trivial) (mem_one hh) ha).mono ?_;rintro e w' ⟨u,ν',rfl,hu,g⟩;have g':Goes (fun _=>True) (nuOne r) w (hM [(0,⟨true,t⟩)] 1).mark ν' w' h':=g;exact ⟨u,rfl,V.rel_free hv hu,goes_but (h:=hM [(0,⟨true,t⟩)] 1) (mem_one hh) rfl hw g',seen_holds (g.mem.seen 0 _ hg (.inl trivial)) hn hfr (g.le _ _ rfl)⟩
theorem for_any {P:Program} {c:Code} {id:Nat} {Q:Exit->Act->World->Prop} (I:Nat->Act->World->Prop) (N:Nat)
 (h1:∀k,k≤N->∀a w,I k a w->c.wp P (Exit.then (fun a' w'=>k<N/\I (k+1) a' w') (Exit.inBlock id Q)) a w) {a:Act} {w:World} (h0:I 0 a w):(Code.block id (.loop c)).wp P Q a w:=by
 refine wp_block (wp_loop_rounds (N+1) ?_);have key:∀m k,k+m=N->∀a w,I k a w->Code.rounds P c (Exit.inBlock id Q) (m+1) a w:=by
  intro m
  induction m with
  | zero=>
    intro k hk a w hI;rw [rounds_succ];refine wp_mono (h1 k (by omega) a w hI) ?_
    intro x a' w' hx;cases x with
    | normal=>
      have hx:k<N/\I (k+1) a' w':=hx;omega
    | _=>exact hx
  | succ m ih=>
    intro k hk a w hI;rw [rounds_succ];refine wp_mono (h1 k (by omega) a w hI) ?_
    intro x a' w' hx;cases x with
    | normal=>
      have hx:k<N/\I (k+1) a' w':=hx;exact ih (k+1) (by omega) a' w' hx.2
    | _=>exact hx
 exact key N 0 (by omega) a w h0
theorem wp_then {P:Program} {x y:Code} {Q:Exit->Act->World->Prop} {K:Act->World->Prop} {a:Act} {w:World} (hx:x.wp P (Exit.then K Q) a w) (hy:∀a' w',K a' w'->y.wp P Q a' w'):(Code.seq x y).wp P Q a w:=by
 refine wp_seq (wp_mono hx ?_);intro e a' w' h;cases e with
 | normal=>exact hy a' w' h
 | _=>exact h
def OwnB (fp:Fp) (n:Nat) (ms:List (Nat×Blk)) (W:World) (R0:Nat) (l:List (Nat×V)) (a:Act) (w:World):Prop:=
 ∃ν,Stand fp ν (hM ms n) l a w/\But R0 W.heap.size W w/\ν 0=some (R0,0)/\∀id r base,ν id=some (r,base)->id=0\/W.heap.size≤r\/∀b,(hM ms n).m.get id=some b->b.rw=false
section
variable {cx:Cx} {Γ:Gam} {fuel d:Nat} {fp:Fp} {c:Code} {l l' l'':List (Nat×V)} {ms ms' ms'':List (Nat×Blk)} {n n':Nat} {ts is:List Nat} {ok:A} {W:World} {R0:Nat} {a:Act} {w:World}
theorem OwnB.but {ν ν':Nu} {h':H} {w':World} (hm:Mem (fun _=>True) ν w (hM ms n)) (hb:But R0 W.heap.size W w) (h0:ν 0=some (R0,0)) (hn:∀id r base,ν id=some (r,base)->id=0\/W.heap.size≤r\/∀b,(hM ms n).m.get id=some b->b.rw=false) {S:Nat->Prop} (hg:Goes S ν w (hM ms n).mark ν' w' h'):But R0 W.heap.size W w':=by
 refine hb.trans ⟨hg.frm.os,hg.frm.tape,hg.frm.output,hg.frm.size,fun r hr hne=>hg.frm.block r (Nat.lt_of_lt_of_le hr hb.size) fun id base hid => ?_⟩;have hlt:id<n:=by
  refine Classical.byContradiction fun hge => ?_;rw [hm.nums.fresh id (show n≤id by omega)] at hid
  cases hid
 refine ⟨by rw [hg.ext.lo];exact hlt,fun hw => ?_⟩
 rcases hn id r base hid with h|h|h
 · subst h;rw [h0] at hid;cases hid;exact hne rfl
 · omega
 · rcases hg.ext.wrw id hw with h3|⟨b,h3,h4⟩|h3
   · cases h3
   · rw [h b h3] at h4;cases h4
   · have h3:n≤id:=h3;omega
theorem OwnB.phase {r:EndM} (X:CxOK cx Γ) (hlam:fp.lam=fun _ _=>none) (hp:endM fp.km ts is n' (evalC cx (evalF cx Γ fuel d) fp fuel c (stOf l (hM ms n))).pick=some r) (hok:okB r.ok=true)
 (hpl:(r.l.all fun p=>plainS n' p.2)=true) (hfr:(ms''.all fun p=>p.2.t.free)=true) (hn0:0<n') (hgl:codeGl c []=[]) (hl:LessA r.l l'') (hm:LessM r.ms ms'') (hI:OwnB fp n ms W R0 l a w) {Q:Exit->Act->World->Prop}
 (hQ:∀ν' a' w' x,r.e.rel ν' x->OwnB fp n' ms'' W R0 l'' a' w'->Q x a' w'):c.wp cx.P Q a w:=by
 obtain ⟨ν,hs,hb,h0,hn⟩:=hI;obtain ⟨s,h1,h2,h3,h4,h5,h6,h7,h8⟩:=endM_some hp;refine WE.phase X hlam h1 (by rw [h2];exact hok) (gl_none hgl) hs fun ν' a' w' x hc hg hx=>hQ ν' a' w' x hx ?_
 have hbel:=OwnB.but hs.mem hb h0 hn hg;let ν2:Nu:=fun id=>if id<n' then ν' id else none
 have hold:∀id,id<n'->ν' id=ν2 id:=fun id hid=>by simp [ν2,hid]
 have hν2:∀id p,ν2 id=some p->ν' id=some p:=fun id p h=>by
  simp only [ν2] at h;split at h
  · exact h
  · cases h
 have hmem:=hc.mem;have hget:∀id b'',(hM ms'' n').m.get id=some b''->∃b,s.h.m.get id=some b/\b.rw=b''.rw/\(∀ν vs,b.t.rel ν vs->b''.t.rel ν vs)/\id<n'/\b''.t.free=true/\notMp b.t=true:=fun id b'' h=>by have hm1:=get_memT ms'' id b'' h;obtain ⟨b,hb1,hb2,hb3⟩:=hm.mem id b'' hm1;exact ⟨b,hvals_mem h4 id b hb1,hb2,hb3,h7 id (hvals_ids h4 id b hb1),List.all_eq_true.1 hfr _ hm1,List.all_eq_true.1 h8 _ hb1⟩
 refine ⟨ν2,⟨⟨⟨fun id r base h=>hmem.nums.lt id r base (hν2 _ _ h),fun id b'' hb'' hrw id' r base base' e1 e2 => ?_,fun id hid => ?_,fun id b'' hb''=>(hget id b'' hb'').choose_spec.2.2.2.1,Nat.le_refl _,fun g hg=>by cases hg⟩,fun id b'' hb'' _ => ?_⟩,fun t v htv => ?_,hc.size,?_⟩,hbel,by simp only [ν2];rw [if_pos hn0];exact hg.le _ _ h0,fun id r base h => ?_⟩
 · obtain ⟨b,q1,q2,_⟩:=hget id b'' hb'';exact hmem.nums.inj id b q1 (by rw [q2];exact hrw) id' r base base' (hν2 _ _ e1) (hν2 _ _ e2)
 · have hid:n'≤id:=hid;simp only [ν2];rw [if_neg (by omega)]
 · obtain ⟨b,q1,q2,q3,q4,q5,q6⟩:=hget id b'' hb'';obtain ⟨r,base,cs,ty,fr,pre,vs,post,z1,z2,z3,z4,z5,z6⟩:=(hmem.seen id b q1 (.inl (.inl trivial))).cells q6;exact .inl ⟨r,base,cs,ty,fr,pre,vs,post,(hold id q4)▸z1,z2,z3,z4,T.rel_free q5 (q3 _ _ z5),fun h=>z6 (by rw [q2];exact h)⟩
 · obtain ⟨v0,q1,q2⟩:=(hl ν2).mem t v htv;refine q2 _ ?_;have q3:=(hc.slots t).1;rw [vals_mem h3 t v0 q1] at q3;exact plainS_old hold (List.all_eq_true.1 hpl _ q1) (q3 trivial)
 · have:=hc.defers;rw [h5] at this;cases hd:a'.defers with
   | nil=>rfl
   | cons _ _=>rw [hd] at this;exact this.elim
 · have h':=hν2 _ _ h;cases hν:ν id with
   | none=>exact .inr (.inl (Nat.le_trans hb.size (hg.new id r base hν h')))
   | some p=>
     have e:=hg.le id p hν;rw [h'] at e;cases e;rcases hn id r base hν with h9|h9|h9
     · exact .inl h9
     · exact .inr (.inl h9)
     · refine .inr (.inr fun b'' hb'' => ?_);obtain ⟨b,q1,q2,_⟩:=hget id b'' hb'';have hlt:id<(hM ms n).mark.next:=by
        show id<n;refine Classical.byContradiction fun hge => ?_;rw [hs.mem.nums.fresh id (show n≤id by omega)] at hν
        cases hν
       obtain ⟨b0,z1,z2⟩:=hg.ext.rw id b hlt q1;rw [← q2,← z2];exact h9 b0 z1
theorem OwnB.go (X:CxOK cx Γ) (hlam:fp.lam=fun _ _=>none) (hp:endM fp.km ts is n' (evalC cx (evalF cx Γ fuel d) fp fuel c (stOf l (hM ms n))).pick=some ⟨.nrm,ok,l',ms'⟩) (hok:okB ok=true)
 (hpl:(l'.all fun p=>plainS n' p.2)=true) (hfr:(ms''.all fun p=>p.2.t.free)=true) (hn0:0<n') (hgl:codeGl c []=[]) (hl:LessA l' l'') (hm:LessM ms' ms'') (hI:OwnB fp n ms W R0 l a w) :
 c.wp cx.P (fun x a' w'=>x = .normal/\OwnB fp n' ms'' W R0 l'' a' w') a w:=
 OwnB.phase X hlam hp hok hpl hfr hn0 hgl hl hm hI (fun ν' a' w' x hx h=>⟨hx,h⟩)
theorem OwnB.goB {b:Bool} (X:CxOK cx Γ) (hlam:fp.lam=fun _ _=>none) (hc:(evalC cx (evalF cx Γ fuel d) fp fuel c (stOf l (hM ms n))).cnd=some b) (hp:endM fp.km ts is n' ((evalC cx (evalF cx Γ fuel d) fp fuel c (stOf l (hM ms n))).at b)=some ⟨.nrm,ok,l',ms'⟩) (hok:okB ok=true)
 (hpl:(l'.all fun p=>plainS n' p.2)=true) (hfr:(ms''.all fun p=>p.2.t.free)=true) (hn0:0<n') (hgl:codeGl c []=[]) (hl:LessA l' l'') (hm:LessM ms' ms'') (hI:OwnB fp n ms W R0 l a w) :
 c.wp cx.P (fun x a' w'=>x = .normal/\OwnB fp n' ms'' W R0 l'' a' w') a w:=
 OwnB.phase (r:=⟨.nrm,ok,l',ms'⟩) X hlam (by rw [Out.at_pick hc];exact hp) hok hpl hfr hn0 hgl hl hm hI (fun ν' a' w' x hx h=>⟨hx,h⟩)
theorem OwnB.outB {b:Bool} {id:Nat} (X:CxOK cx Γ) (hlam:fp.lam=fun _ _=>none) (hc:(evalC cx (evalF cx Γ fuel d) fp fuel c (stOf l (hM ms n))).cnd=some b) (hp:endM fp.km ts is n' ((evalC cx (evalF cx Γ fuel d) fp fuel c (stOf l (hM ms n))).at b)=some ⟨.exit id,ok,l',ms'⟩) (hok:okB ok=true)
 (hpl:(l'.all fun p=>plainS n' p.2)=true) (hfr:(ms''.all fun p=>p.2.t.free)=true) (hn0:0<n') (hgl:codeGl c []=[]) (hl:LessA l' l'') (hm:LessM ms' ms'') (hI:OwnB fp n ms W R0 l a w) :
 c.wp cx.P (fun x a' w'=>x = .exit id/\OwnB fp n' ms'' W R0 l'' a' w') a w:=
 OwnB.phase (r:=⟨.exit id,ok,l',ms'⟩) X hlam (by rw [Out.at_pick hc];exact hp) hok hpl hfr hn0 hgl hl hm hI (fun ν' a' w' x hx h=>⟨hx,h⟩)
end
theorem OwnB.enterA {fp:Fp} {ν:Nu} {ms:List (Nat×Blk)} {m:Nat} {args:List V} {vs:List Value} {W:World} {R0:Nat} (hm:Mem (fun _=>True) ν W (hM ms m)) (h0:ν 0=some (R0,0)) (hro:∀id r base,ν id=some (r,base)->id=0\/∀b,(hM ms m).m.get id=some b->b.rw=false) (hv:relV ν args vs) (hsz:args.length≤fp.nt) :
 OwnB fp m ms W R0 (argsL 0 args) { tmps:=vs.toArray++Array.replicate (fp.nt-vs.toArray.size) undef,defers:=[] } W:=by
 have hlen:=relV_length hv;refine ⟨ν,⟨hm,fun t v h => ?_,by simp;omega,rfl⟩,But.refl _ _ _,h0,fun id r base h=>(hro id r base h).imp_right .inr⟩
 refine argsL_rel args vs 0 hv (fun j hj => ?_) t v h;simp [Array.getD_eq_getD_getElem?,Array.getElem?_append,hj]
end Go.WE
namespace Go.WE
open Go Go.Proofs
open Go.RowKit (Below)
def c39:Code:=bodyOf Tryz.prog 39
def q0:Code:=c39.sA
def q1:Code:=c39.sB.sA
def q3:Code:=c39.sB.sB.sA.sA
def ql:Code:=c39.sB.sB.sA.sB.inn.inn
def q14:Code:=c39.sB.sB.sB
theorem c39_eq:c39 = .seq q0 (.seq q1 (.seq (.seq q3 (.block 0 (.loop ql))) q14)):=by kernel_rfl
def qh:Code:=ql.sA
def qb:Code:=ql.sB.sA
def qi:Code:=ql.sB.sB
theorem ql_eq:ql = .seq qh (.seq qb qi):=by kernel_rfl
def c72:Code:=bodyOf Tryz.prog 72
def u0:Code:=c72.sA
def u1:Code:=c72.sB.sA
def u3:Code:=c72.sB.sB.sA.sA
def ul:Code:=c72.sB.sB.sA.sB.inn.inn
def u10:Code:=c72.sB.sB.sB
theorem c72_eq:c72 = .seq u0 (.seq u1 (.seq (.seq u3 (.block 0 (.loop ul))) u10)):=by kernel_rfl
def uh:Code:=ul.sA
def ub:Code:=ul.sB.sA
def ui:Code:=ul.sB.sB
theorem ul_eq:ul = .seq uh (.seq ub ui):=by kernel_rfl
end Go.WE
end
