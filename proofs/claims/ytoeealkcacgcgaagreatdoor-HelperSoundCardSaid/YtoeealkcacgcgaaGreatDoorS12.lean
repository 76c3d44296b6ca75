/- A part of a proof of the helpers' law; no condition of its own. -/
import Derived.Test.YtoeealkcacgcgaaGreatDoorS11
set_option linter.unusedVariables false
set_option maxRecDepth 100000
noncomputable section
namespace Go.WE
open Go
open Go.RowKit (Below)
def OwnB (fp:Fp) (n:Nat) (ms:List (Nat×Blk)) (W:World) (R0:Nat) (l:List (Nat×V)) (a:Act) (w:World):Prop:=
 ∃ν,Stand fp ν (hM ms n) l a w/\But R0 W.heap.size W w/\ν 0=some (R0,0)/\∀id r base,ν id=some (r,base)->id=0\/W.heap.size≤r\/∀b,(hM ms n).m.get id=some b->b.rw=false
section
variable {cx:Cx} {Γ:Gam} {fuel d:Nat} {fp:Fp} {c:Code} {l l' l'':List (Nat×V)} {ms ms' ms'':List (Nat×Blk)} {n n':Nat} {ts is:List Nat} {ok:A} {W:World} {R0:Nat} {a:Act} {w:World}
theorem OwnB.but {ν ν':Nu} {h':H} {w':World} (hm:Mem (fun _=>True) ν w (hM ms n)) (hb:But R0 W.heap.size W w) (h0:ν 0=some (R0,0)) (hn:∀id r base,ν id=some (r,base)->id=0\/W.heap.size≤r\/∀b,(hM ms n).m.get id=some b->b.rw=false) {S:Nat->Prop} (hg:Goes S ν w (hM ms n).mark ν' w' h'):But R0 W.heap.size W w':=by
 refine hb.trans ⟨hg.frm.os,hg.frm.tape,hg.frm.output,hg.frm.size,fun r hr hne=>hg.frm.block r (Nat.lt_of_lt_of_le hr hb.size) fun id base hid => ?_⟩;have hlt:id<n:=by
  refine Classical.byContradiction fun hge => ?_;rw [hm.nums.fresh id (show n≤id by omega)] at hid
  cases hid
 refine ⟨by rw [hg.ext.lo];exact hlt,fun hw => ?_⟩
 rcases hn id r base hid with h|h|h
 · subst h;rw [h0] at hid;cases hid;exact hne rfl
 · omega
 · rcases hg.ext.wrw id hw with h3|⟨b,h3,h4⟩|h3
   · cases h3
   · rw [h b h3] at h4;cases h4
   · have h3:n≤id:=h3;omega
theorem OwnB.phase {r:EndM} (X:CxOK cx Γ) (hlam:fp.lam=fun _ _=>none) (hp:endM fp.km ts is n' (evalC cx (evalF cx Γ fuel d) fp fuel c (stOf l (hM ms n))).pick=some r) (hok:okB r.ok=true)
 (hpl:(r.l.all fun p=>plainS n' p.2)=true) (hfr:(ms''.all fun p=>p.2.t.free)=true) (hn0:0<n') (hgl:codeGl c []=[]) (hl:LessA r.l l'') (hm:LessM r.ms ms'') (hI:OwnB fp n ms W R0 l a w) {Q:Exit->Act->World->Prop}
 (hQ:∀ν' a' w' x,r.e.rel ν' x->OwnB fp n' ms'' W R0 l'' a' w'->Q x a' w'):c.wp cx.P Q a w:=by
 obtain ⟨ν,hs,hb,h0,hn⟩:=hI;obtain ⟨s,h1,h2,h3,h4,h5,h6,h7,h8⟩:=endM_some hp;refine WE.phase X hlam h1 (by rw [h2];exact hok) (gl_none hgl) hs fun ν' a' w' x hc hg hx=>hQ ν' a' w' x hx ?_
 have hbel:=OwnB.but hs.mem hb h0 hn hg;let ν2:Nu:=fun id=>if id<n' then ν' id else none
 have hold:∀id,id<n'->ν' id=ν2 id:=fun id hid=>by simp [ν2,hid]
 have hν2:∀id p,ν2 id=some p->ν' id=some p:=fun id p h=>by
  simp only [ν2] at h;split at h
  · exact h
  · cases h
 have hmem:=hc.mem;have hget:∀id b'',(hM ms'' n').m.get id=some b''->∃b,s.h.m.get id=some b/\b.rw=b''.rw/\(∀ν vs,b.t.rel ν vs->b''.t.rel ν vs)/\id<n'/\b''.t.free=true/\notMp b.t=true:=fun id b'' h=>by have hm1:=get_memT ms'' id b'' h;obtain ⟨b,hb1,hb2,hb3⟩:=hm.mem id b'' hm1;exact ⟨b,hvals_mem h4 id b hb1,hb2,hb3,h7 id (hvals_ids h4 id b hb1),List.all_eq_true.1 hfr _ hm1,List.all_eq_true.1 h8 _ hb1⟩
 refine ⟨ν2,⟨⟨⟨fun id r base h=>hmem.nums.lt id r base (hν2 _ _ h),fun id b'' hb'' hrw id' r base base' e1 e2 => ?_,fun id hid => ?_,fun id b'' hb''=>(hget id b'' hb'').choose_spec.2.2.2.1,Nat.le_refl _,fun g hg=>by cases hg⟩,fun id b'' hb'' _ => ?_⟩,fun t v htv => ?_,hc.size,?_⟩,hbel,by simp only [ν2];rw [if_pos hn0];exact hg.le _ _ h0,fun id r base h => ?_⟩
 · obtain ⟨b,q1,q2,_⟩:=hget id b'' hb'';exact hmem.nums.inj id b q1 (by rw [q2];exact hrw) id' r base base' (hν2 _ _ e1) (hν2 _ _ e2)
 · have hid:n'≤id:=hid;simp only [ν2];rw [if_neg (by omega)]
 · obtain ⟨b,q1,q2,q3,q4,q5,q6⟩:=hget id b'' hb'';obtain ⟨r,base,cs,ty,fr,pre,vs,post,z1,z2,z3,z4,z5,z6⟩:=(hmem.seen id b q1 (.inl (.inl trivial))).cells q6;exact .inl ⟨r,base,cs,ty,fr,pre,vs,post,(hold id q4)▸z1,z2,z3,z4,T.rel_free q5 (q3 _ _ z5),fun h=>z6 (by rw [q2];exact h)⟩
 · obtain ⟨v0,q1,q2⟩:=(hl ν2).mem t v htv;refine q2 _ ?_;have q3:=(hc.slots t).1;rw [vals_mem h3 t v0 q1] at q3;exact plainS_old hold (List.all_eq_true.1 hpl _ q1) (q3 trivial)
 · have:=hc.defers;rw [h5] at this;cases hd:a'.defers with
   | nil=>rfl
   | cons _ _=>rw [hd] at this;exact this.elim
 · have h':=hν2 _ _ h;cases hν:ν id with
   | none=>exact .inr (.inl (Nat.le_trans hb.size (hg.new id r base hν h')))
   | some p=>
     have e:=hg.le id p hν;rw [h'] at e;cases e;rcases hn id r base hν with h9|h9|h9
     · exact .inl h9
     · exact .inr (.inl h9)
     · refine .inr (.inr fun b'' hb'' => ?_);obtain ⟨b,q1,q2,_⟩:=hget id b'' hb'';have hlt:id<(hM ms n).mark.next:=by
        show id<n;refine Classical.byContradiction fun hge => ?_;rw [hs.mem.nums.fresh id (show n≤id by omega)] at hν
        cases hν
       obtain ⟨b0,z1,z2⟩:=hg.ext.rw id b hlt q1;rw [← q2,← z2];exact h9 b0 z1
theorem OwnB.go (X:CxOK cx Γ) (hlam:fp.lam=fun _ _=>none) (hp:endM fp.km ts is n' (evalC cx (evalF cx Γ fuel d) fp fuel c (stOf l (hM ms n))).pick=some ⟨.nrm,ok,l',ms'⟩) (hok:okB ok=true)
 (hpl:(l'.all fun p=>plainS n' p.2)=true) (hfr:(ms''.all fun p=>p.2.t.free)=true) (hn0:0<n') (hgl:codeGl c []=[]) (hl:LessA l' l'') (hm:LessM ms' ms'') (hI:OwnB fp n ms W R0 l a w) :
 c.wp cx.P (fun x a' w'=>x = .normal/\OwnB fp n' ms'' W R0 l'' a' w') a w:=
 OwnB.phase X hlam hp hok hpl hfr hn0 hgl hl hm hI (fun ν' a' w' x hx h=>⟨hx,h⟩)
theorem OwnB.goB {b:Bool} (X:CxOK cx Γ) (hlam:fp.lam=fun _ _=>none) (hc:(evalC cx (evalF cx Γ fuel d) fp fuel c (stOf l (hM ms n))).cnd=some b) (hp:endM fp.km ts is n' ((evalC cx (evalF cx Γ fuel d) fp fuel c (stOf l (hM ms n))).at b)=some ⟨.nrm,ok,l',ms'⟩) (hok:okB ok=true)
 (hpl:(l'.all fun p=>plainS n' p.2)=true) (hfr:(ms''.all fun p=>p.2.t.free)=true) (hn0:0<n') (hgl:codeGl c []=[]) (hl:LessA l' l'') (hm:LessM ms' ms'') (hI:OwnB fp n ms W R0 l a w) :
 c.wp cx.P (fun x a' w'=>x = .normal/\OwnB fp n' ms'' W R0 l'' a' w') a w:=
 OwnB.phase (r:=⟨.nrm,ok,l',ms'⟩) X hlam (by rw [Out.at_pick hc];exact hp) hok hpl hfr hn0 hgl hl hm hI (fun ν' a' w' x hx h=>⟨hx,h⟩)
theorem OwnB.outB {b:Bool} {id:Nat} (X:CxOK cx Γ) (hlam:fp.lam=fun _ _=>none) (hc:(evalC cx (evalF cx Γ fuel d) fp fuel c (stOf l (hM ms n))).cnd=some b) (hp:endM fp.km ts is n' ((evalC cx (evalF cx Γ fuel d) fp fuel c (stOf l (hM ms n))).at b)=some ⟨.exit id,ok,l',ms'⟩) (hok:okB ok=true)
 (hpl:(l'.all fun p=>plainS n' p.2)=true) (hfr:(ms''.all fun p=>p.2.t.free)=true) (hn0:0<n') (hgl:codeGl c []=[]) (hl:LessA l' l'') (hm:LessM ms' ms'') (hI:OwnB fp n ms W R0 l a w) :
 c.wp cx.P (fun x a' w'=>x = .exit id/\OwnB fp n' ms'' W R0 l'' a' w') a w:=
 OwnB.phase (r:=⟨.exit id,ok,l',ms'⟩) X hlam (by rw [Out.at_pick hc];exact hp) hok hpl hfr hn0 hgl hl hm hI (fun ν' a' w' x hx h=>⟨hx,h⟩)
end
theorem OwnB.enterA {fp:Fp} {ν:Nu} {ms:List (Nat×Blk)} {m:Nat} {args:List V} {vs:List Value} {W:World} {R0:Nat} (hm:Mem (fun _=>True) ν W (hM ms m)) (h0:ν 0=some (R0,0)) (hro:∀id r base,ν id=some (r,base)->id=0\/∀b,(hM ms m).m.get id=some b->b.rw=false) (hv:relV ν args vs) (hsz:args.length≤fp.nt) :
 OwnB fp m ms W R0 (argsL 0 args) { tmps:=vs.toArray++Array.replicate (fp.nt-vs.toArray.size) undef,defers:=[] } W:=by
 have hlen:=relV_length hv;refine ⟨ν,⟨hm,fun t v h => ?_,by simp;omega,rfl⟩,But.refl _ _ _,h0,fun id r base h=>(hro id r base h).imp_right .inr⟩
 refine argsL_rel args vs 0 hv (fun j hj => ?_) t v h;simp [Array.getD_eq_getD_getElem?,Array.getElem?_append,hj]
end Go.WE
namespace Go.WE
open Go Go.Proofs
open Go.RowKit (Below)
def c39:Code:=bodyOf Tryz.prog 39
def q0:Code:=c39.sA
def q1:Code:=c39.sB.sA
def q3:Code:=c39.sB.sB.sA.sA
def ql:Code:=c39.sB.sB.sA.sB.inn.inn
def q14:Code:=c39.sB.sB.sB
theorem c39_eq:c39 = .seq q0 (.seq q1 (.seq (.seq q3 (.block 0 (.loop ql))) q14)):=by kernel_rfl
def qh:Code:=ql.sA
def qb:Code:=ql.sB.sA
def qi:Code:=ql.sB.sB
theorem ql_eq:ql = .seq qh (.seq qb qi):=by kernel_rfl
def c72:Code:=bodyOf Tryz.prog 72
def u0:Code:=c72.sA
def u1:Code:=c72.sB.sA
def u3:Code:=c72.sB.sB.sA.sA
def ul:Code:=c72.sB.sB.sA.sB.inn.inn
def u10:Code:=c72.sB.sB.sB
theorem c72_eq:c72 = .seq u0 (.seq u1 (.seq (.seq u3 (.block 0 (.loop ul))) u10)):=by kernel_rfl
def uh:Code:=ul.sA
def ub:Code:=ul.sB.sA
def ui:Code:=ul.sB.sB
theorem ul_eq:ul = .seq uh (.seq ub ui):=by kernel_rfl
def fp39:Fp:=⟨8796097234887,62,66,fun _ _=>none⟩
def fp72:Fp:=⟨34494089415,36,66,fun _ _=>none⟩
def evQ (c:Code) (l:List (Nat×V)) (ms:List (Nat×Blk)) (n:Nat):Out:=evalC cxK (evalF cxK noΓ 400 20) fp39 400 c (stOf l (hM ms n))
def evU (c:Code) (l:List (Nat×V)) (ms:List (Nat×Blk)) (n:Nat):Out:=evalC cxK (evalF cxK noΓ 400 20) fp72 400 c (stOf l (hM ms n))
def msF (s:FSt):List (Nat×Blk):=[(0,⟨false,s.t⟩)]
def sq (x y:U) (i:A):List (Nat×V):=[(0,pt 0),(1,i64 x),(2,i64 y),(7,one i)]
def m8 (t:Bool) (z0 z1 z2 z3 z4 z5 z6 z7 z8:U):U:=cond t (cond t (cond t (cond t (cond t (cond t (cond t (cond t z8 z7) z6) z5) z4) z3) z2) z1) z0
theorem m8_eq (t:Bool) (z0 z1 z2 z3 z4 z5 z6 z7 z8:U):m8 t z0 z1 z2 z3 z4 z5 z6 z7 z8=cond t z8 z0:=by cases t<;>rfl
def m8f (t:Bool) (f:Nat->U):Nat->U:=fun j=>m8 t (f j) (f j) (f j) (f j) (f j) (f j) (f j) (f j) (f j)
def m8g (t:Bool) (k:Nat) (g:Nat->U):Nat->U:=fun j=>m8 t (g j) (putN (8*k) (K 0) g j) (putN (8*k+1) (K 0) (putN (8*k) (K 0) g) j)
 (putN (8*k+2) (K 0) (putN (8*k+1) (K 0) (putN (8*k) (K 0) g)) j) (putN (8*k+3) (K 0) (putN (8*k+2) (K 0) (putN (8*k+1) (K 0) (putN (8*k) (K 0) g))) j)
 (putN (8*k+4) (K 0) (putN (8*k+3) (K 0) (putN (8*k+2) (K 0) (putN (8*k+1) (K 0) (putN (8*k) (K 0) g)))) j)
 (putN (8*k+5) (K 0) (putN (8*k+4) (K 0) (putN (8*k+3) (K 0) (putN (8*k+2) (K 0) (putN (8*k+1) (K 0) (putN (8*k) (K 0) g))))) j)
 (putN (8*k+6) (K 0) (putN (8*k+5) (K 0) (putN (8*k+4) (K 0) (putN (8*k+3) (K 0) (putN (8*k+2) (K 0) (putN (8*k+1) (K 0) (putN (8*k) (K 0) g)))))) j)
 (putN (8*k+7) (K 0) (putN (8*k+6) (K 0) (putN (8*k+5) (K 0) (putN (8*k+4) (K 0) (putN (8*k+3) (K 0) (putN (8*k+2) (K 0) (putN (8*k+1) (K 0) (putN (8*k) (K 0) g))))))) j)
def RF.set0 (f:RF) (n:Nat):RF:=f.map2 (putN n (K 0))
def lay22E (s:FSt) (b:Nat):FSt:=⟨s.regs.map2 (m8f (s.g b==K 2)),putN b (K 1) (m8g (s.g b==K 2) (b / 8) s.g),(s.kept.map2 (m8f (s.g b==K 2))).set0 (b / 8)⟩
def there22 (x y:U):Bool:=cond (cond (cond (BitVec.sle (K 0) y) (BitVec.sle (K (-128)) x) false) (BitVec.sle x (K 0)) false) (BitVec.sle x (0#64-y)) false
section
variable (s:FSt) (x y i:U)
theorem q0_ev:endM fp39.km [0,1,2] [0] 1 (evQ q0 (sl0 x y) (ms0 s) 1).pick=some ⟨.nrm,.tt,sl0 x y,ms0 s⟩:=by kernel_rfl
theorem q1_c:(evQ q1 (sl0 x y) (ms0 s) 1).cnd=some (!(there22 x y)):=by kernel_rfl
theorem q1_x:endM fp39.km [6] [0] 1 ((evQ q1 (sl0 x y) (ms0 s) 1).at true)=some ⟨.ret,.tt,[(6,one (.lit .i64 17))],ms0 s⟩:=by kernel_rfl
theorem q1_f:endM fp39.km [0,1,2] [0] 1 ((evQ q1 (sl0 x y) (ms0 s) 1).at false)=some ⟨.nrm,.tt,sl0 x y,ms0 s⟩:=by kernel_rfl
theorem q3_ev:endM fp39.km [0,1,2,7] [0] 1 (evQ q3 (sl0 x y) (ms0 s) 1).pick=some ⟨.nrm,.tt,sq x y (.i .i64 (K 128+x)),ms0 s⟩:=by kernel_rfl
theorem qh_c:(evQ qh (sq x y (.i .i64 i)) (ms0 s) 1).cnd=some (BitVec.slt i (K 128+x+y)):=by kernel_rfl
theorem qh_t:endM fp39.km [0,1,2,7] [0] 1 ((evQ qh (sq x y (.i .i64 i)) (ms0 s) 1).at true)=some ⟨.nrm,.tt,sq x y (.i .i64 i),ms0 s⟩:=by kernel_rfl
theorem qh_f:endM fp39.km [0,1,2] [0] 1 ((evQ qh (sq x y (.i .i64 i)) (ms0 s) 1).at false)=some ⟨.exit 0,.tt,sl0 x y,ms0 s⟩:=by kernel_rfl
theorem qi_ev:endM fp39.km [0,1,2,7] [0] 1 (evQ qi (sq x y (.i .i64 i)) (ms0 s) 1).pick=some ⟨.nrm,.tt,sq x y (.i .i64 (i+K 1)),ms0 s⟩:=by kernel_rfl
def okU (i:U):Bool:=vB (K 128+i) 128&&wB (K 128+i) 128
theorem u0_ev:endM fp72.km [0,1,2] [0] 1 (evU u0 (sl0 x y) (msF s) 1).pick=some ⟨.nrm,.tt,sl0 x y,msF s⟩:=by kernel_rfl
theorem u1_c:(evU u1 (sl0 x y) (msF s) 1).cnd=some (!(there22 x y)):=by kernel_rfl
theorem u1_x:endM fp72.km [6] [0] 1 ((evU u1 (sl0 x y) (msF s) 1).at true)=some ⟨.ret,.tt,[(6,one (.lit .i64 17))],msF s⟩:=by kernel_rfl
theorem u1_f:endM fp72.km [0,1,2] [0] 1 ((evU u1 (sl0 x y) (msF s) 1).at false)=some ⟨.nrm,.tt,sl0 x y,msF s⟩:=by kernel_rfl
theorem u3_ev:endM fp72.km [0,1,2,7] [0] 1 (evU u3 (sl0 x y) (msF s) 1).pick=some ⟨.nrm,.tt,sq x y (.i .i64 x),msF s⟩:=by kernel_rfl
theorem uh_c:(evU uh (sq x y (.i .i64 i)) (msF s) 1).cnd=some (BitVec.slt i (x+y)):=by kernel_rfl
theorem uh_t:endM fp72.km [0,1,2,7] [0] 1 ((evU uh (sq x y (.i .i64 i)) (msF s) 1).at true)=some ⟨.nrm,.tt,sq x y (.i .i64 i),msF s⟩:=by kernel_rfl
theorem uh_f:endM fp72.km [0,1,2] [0] 1 ((evU uh (sq x y (.i .i64 i)) (msF s) 1).at false)=some ⟨.exit 0,.tt,sl0 x y,msF s⟩:=by kernel_rfl
theorem ub_c:(evU ub (sq x y (.i .i64 i)) (msF s) 1).cnd=some (s.g (K 128+i).toNat==K 0):=by kernel_rfl
theorem ub_t:endM fp72.km [6] [0] 1 ((evU ub (sq x y (.i .i64 i)) (msF s) 1).at true)=some ⟨.ret,.b (okU i),[(6,one (.lit .i64 15))],msF s⟩:=by kernel_rfl
theorem ub_c2:(evU ub (sq x y (.i .i64 i)) (msF s) 1).nR.cnd=some (s.g (K 128+i).toNat==K 2):=by kernel_rfl
def okU2 (i:U):Bool:=(okU i&&vB (K 128+i) 128)&&wB (K 128+i) 128
theorem ub_t2:endM fp72.km [6] [0] 1 ((evU ub (sq x y (.i .i64 i)) (msF s) 1).nR.at true)=some ⟨.ret,.b (okU2 i),[(6,one (.lit .i64 14))],msF s⟩:=by kernel_rfl
theorem ub_f2:endM fp72.km [0,1,2,7] [0] 1 ((evU ub (sq x y (.i .i64 i)) (msF s) 1).nR.at false)=some ⟨.nrm,.b (okU2 i),sq x y (.i .i64 i),msF s⟩:=by kernel_rfl
theorem ui_ev:endM fp72.km [0,1,2,7] [0] 1 (evU ui (sq x y (.i .i64 i)) (msF s) 1).pick=some ⟨.nrm,.tt,sq x y (.i .i64 (i+K 1)),msF s⟩:=by kernel_rfl
theorem u10_x:endM fp72.km [6] [0] 1 (evU u10 (sl0 x y) (msF s) 1).pick=some ⟨.ret,.tt,[(6,one (.lit .i64 0))],msF s⟩:=by kernel_rfl
theorem q14_x:endM fp39.km [6] [0] 1 (evQ q14 (sl0 x y) (ms0 s) 1).pick=some ⟨.ret,.tt,[(6,one (.lit .i64 0))],ms0 s⟩:=by kernel_rfl
end
end Go.WE
end
