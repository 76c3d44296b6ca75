/- A part of a proof of the helpers' law; no condition of its own. -/
import Derived.MapKept
import Derived.Maps.Keyed
import Derived.Orders
import Derived.Test.YtoeealkcacgcgaaGreatDoorS04
set_option linter.unusedVariables false
set_option maxRecDepth 100000
noncomputable section
namespace Go.WE
open Go
def eqVs:List Bool->List Value->List Value->Option Bool
 | [],[],[]=>some true
 | false::s,.int k m::xs,.int k' n::ys=>if k=k' then (eqVs s xs ys).map fun r=>(m==n)&&r else none
 | true::s,.bool p::xs,.bool q::ys=>(eqVs s xs ys).map fun r=>(p==q)&&r
 | _,_,_=>none
section
variable {P:Program} {cx:Cx} {S:Nat->Prop} {ν:Nu} {w:World} {h:H}
theorem eqL_sound:∀{sh:List Bool} {xs ys:List A} {vx vy:List Value} {z:A},eqL sh xs ys=some z->relL ν xs vx->relL ν ys vy ->
 ∃r,eqVs sh vx vy=some r/\z.rel ν (.bool r)
 | [],[],[],vx,vy,z,h,hx,hy=>by simp only [relL] at hx hy;subst hx hy;simp [eqL] at h;subst h;exact ⟨true,rfl,by simp only [A.rel]⟩
 | s::sh,x::xs,y::ys,vx,vy,z,h,hx,hy=>by
   simp only [relL] at hx hy;obtain ⟨vx,vxs,rfl,hx1,hx2⟩:=hx;obtain ⟨vy,vys,rfl,hy1,hy2⟩:=hy;simp only [eqL] at h;split at h
   · rename_i p q e1 e2;obtain ⟨r,hr,hq⟩:=eqL_sound e2 hx2 hy2;cases s
     · simp only [eqA] at e1;split at e1<;>simp at e1
       rename_i eb;subst e1;obtain ⟨k,m,k',n,rfl,rfl⟩:=binInt_int eb hx1 hy1;obtain ⟨rfl,hz⟩:=binInt_eql eb hx1 hy1;exact ⟨(m==n)&&r,by simp [eqVs,hr],andA_sound h hz hq⟩
     · simp only [eqA] at e1;split at e1<;>simp at e1
       rename_i p' q' eb1 eb2;subst e1;have a1:=A.rel_bool hx1 eb1;have a2:=A.rel_bool hy1 eb2;subst a1 a2;exact ⟨(p'==q')&&r,by simp [eqVs,hr],andA_sound h (by simp only [A.rel]) hq⟩
   · cases h
 | [],_::_,_,_,_,_,h,_,_=>by simp [eqL] at h
 | [],[],_::_,_,_,_,h,_,_=>by simp [eqL] at h
 | _::_,[],_,_,_,_,h,_,_=>by simp [eqL] at h
 | _::_,_::_,[],_,_,_,h,_,_=>by simp [eqL] at h
theorem relL_append:∀{az bs:List A} {us ws:List Value},relL ν az us->relL ν bs ws->relL ν (az++bs) (us++ws)
 | [],bs,us,ws,h1,h2=>by simp only [relL] at h1;subst h1;exact h2
 | a::az,bs,us,ws,h1,h2=>by simp only [relL] at h1;obtain ⟨v,us',rfl,g1,g2⟩:=h1;simp only [List.cons_append,relL];exact ⟨v,us'++ws,rfl,g1,relL_append g2 h2⟩
theorem relLst_relTs {s:Nat}:∀{ts:List T} {vs:List Value},relLst ν s ts vs->relTs ν ts vs
 | [],_,h=>by simpa only [relLst,relTs] using h
 | t::ts,_,h=>by simp only [relLst] at h;obtain ⟨us,ws,e,_,h1,h2⟩:=h;simp only [relTs];exact ⟨us,ws,e,h1,relLst_relTs h2⟩
mutual
theorem flatT_rel:∀{t:T} {az:List A} {vs:List Value},flatT t=some az->t.rel ν vs->relL ν az vs
 | .a x,az,vs,h,hr=>by simp only [flatT,oI] at h;subst h;simp only [T.rel] at hr;obtain ⟨v,rfl,h1,_⟩:=hr;simp only [relL];exact ⟨v,[],rfl,h1,rfl⟩
 | .st fs,az,vs,h,hr=>by simp only [flatT] at h;simp only [T.rel] at hr;exact flatTs_rel h hr
 | .lst s ts,az,vs,h,hr=>by simp only [flatT] at h;simp only [T.rel] at hr;exact flatTs_rel h (relLst_relTs hr)
 | .arr _ _ _,_,_,h,_=>by simp only [flatT] at h;cases h
 | .bad,_,_,h,_=>by simp only [flatT] at h;cases h
 | .mp _ _ _,_,_,h,_=>by simp only [flatT] at h;cases h
theorem flatTs_rel:∀{ts:List T} {az:List A} {vs:List Value},flatTs ts=some az->relTs ν ts vs->relL ν az vs
 | [],az,vs,h,hr=>by simp only [flatTs,oI] at h;subst h;simp only [relTs] at hr;subst hr;simp only [relL]
 | t::ts,az,vs,h,hr=>by
   simp only [flatTs] at h;split at h
   · rename_i a b h1 h2;simp only [oI] at h;subst h;simp only [relTs] at hr;obtain ⟨us,ws,rfl,g1,g2⟩:=hr;exact relL_append (flatT_rel h1 g1) (flatTs_rel h2 g2)
   · cases h
end
def EqOK (cx:Cx):Prop:=∀t sh xs ys r,cx.eqT t=some sh->eqVs sh xs ys=some r ->
 ∀(w:World) (X Y:Operand),(do eqGuard .eql t X Y (.agg xs.toArray) (.agg ys.toArray);binOp .eql t (.agg xs.toArray) (.agg ys.toArray)).run cx.P w = .ok (.bool r) w /\
  (do eqGuard .neq t X Y (.agg xs.toArray) (.agg ys.toArray);binOp .neq t (.agg xs.toArray) (.agg ys.toArray)).run cx.P w = .ok (.bool (!r)) w
theorem eqGuard_int (op:BinOp) (t:TypeId) (X Y:Operand) (k k':IntKind) (m n:Int):(eqGuard op t X Y (.int k m) (.int k' n)).run P w = .ok () w:=by
 unfold eqGuard;cases op<;>simp
theorem eqGuard_bool (op:BinOp) (t:TypeId) (X Y:Operand) (p q:Bool):(eqGuard op t X Y (.bool p) (.bool q)).run P w = .ok () w:=by
 unfold eqGuard;cases op<;>simp
theorem run_equalIn_bool (d:Nat) {t:TypeId} (h:P.underlying t=some .bool) (p q:Bool):(Op.equalIn (d+1) t (.bool p) (.bool q)).run P w = .ok (p==q) w:=by
 rw [Op.equalIn,Sem.run_bind,run_underlying' h];rfl
theorem run_equal_bool {t:TypeId} (h:P.underlying t=some .bool) (p q:Bool):(Op.equal t (.bool p) (.bool q)).run P w = .ok (p==q) w:=
 run_equalIn_bool 9999 h p q
theorem run_equal_slice {t e:TypeId} (h:P.underlying t=some (.slice e)) (o1 o2:Option Addr) (l1 c1 l2 c2:Nat) (r:Bool)
 (hr:(o1=none/\o2.isNone=r)\/(o1.isSome=true/\o2=none/\r=false)) :
 (Op.equal t (.slice o1 l1 c1) (.slice o2 l2 c2)).run P w = .ok r w:=by
 show (Op.equalIn (9999+1) t _ _).run P w=_;unfold Op.equalIn;rw [Sem.run_bind,run_underlying' h];rcases hr with ⟨rfl,rfl⟩|⟨h1,rfl,rfl⟩
 · rfl
 · cases o1 with
   | none=>cases h1
   | some a=>rfl
theorem run_equal_ptr {t e:TypeId} (h:P.underlying t=some (.pointer e)) (o1 o2:Option Addr) (r:Bool)
 (hr:(o1=none/\o2.isNone=r)\/(o1.isSome=true/\o2=none/\r=false)):(Op.equal t (.pointer o1) (.pointer o2)).run P w = .ok r w:=by
 show (Op.equalIn (9999+1) t _ _).run P w=_;unfold Op.equalIn;rw [Sem.run_bind,run_underlying' h];rcases hr with ⟨rfl,rfl⟩|⟨h1,rfl,rfl⟩
 · cases o2<;>simp
 · cases o1 with
   | none=>cases h1
   | some a=>simp
theorem run_equal_func {t:TypeId} {a b:Array TypeId} {c:Bool} (h:P.underlying t=some (.func a b c)) (f g:Value) (r:Bool)
 (hr:(f = .nilFunc/\g = .nilFunc/\r=true)\/(f = .nilFunc/\(∃x y z,g = .func x y z)/\r=false)\/((∃x y z,f = .func x y z)/\g = .nilFunc/\r=false)):(Op.equal t f g).run P w = .ok r w:=by
 show (Op.equalIn (9999+1) t _ _).run P w=_;unfold Op.equalIn;rw [Sem.run_bind,run_underlying' h];rcases hr with ⟨rfl,rfl,rfl⟩|⟨rfl,⟨x,y,z,rfl⟩,rfl⟩|⟨⟨x,y,z,rfl⟩,rfl,rfl⟩<;>rfl
def Nilish (v:Value):Prop:=(∃o l c,v = .slice o l c)\/(∃o,v = .pointer o)\/v = .nilFunc\/∃x y z,v = .func x y z
theorem nilish_bin {t:TypeId} {vx vy:Value} {e:Bool} (hx:Nilish vx) (hy:Nilish vy) (op:BinOp) (X Y:Operand) (hr:(Op.equal t vx vy).run P w = .ok e w) :
 (eqGuard op t X Y vx vy).run P w = .ok () w/\(binOp .eql t vx vy).run P w = .ok (.bool e) w/\(binOp .neq t vx vy).run P w = .ok (.bool (!e)) w:=by
 have h2:(Op.equal t vx vy >>= fun z=>(pure (Value.bool z):Sem Value)).run P w = .ok (.bool e) w:=by rw [Sem.run_bind,hr];rfl
 have h3:(Op.equal t vx vy >>= fun z=>(pure (Value.bool (!z)):Sem Value)).run P w = .ok (.bool (!e)) w:=by rw [Sem.run_bind,hr];rfl
 rcases hx with ⟨o,l,c,rfl⟩|⟨o,rfl⟩|rfl|⟨x,y,z,rfl⟩<;>rcases hy with ⟨o',l',c',rfl⟩|⟨o',rfl⟩|rfl|⟨x',y',z',rfl⟩ <;>
  exact ⟨by cases op<;>rfl,h2,h3⟩
theorem nilEq_sound {t:TypeId} {x y:A} {e:Bool} {vx vy:Value} (h:nilEq P t x y=some e) (hx:x.rel ν vx) (hy:y.rel ν vy) (op:BinOp) (X Y:Operand) :
 (eqGuard op t X Y vx vy).run P w = .ok () w/\(binOp .eql t vx vy).run P w = .ok (.bool e) w/\(binOp .neq t vx vy).run P w = .ok (.bool (!e)) w:=by
 unfold nilEq at h;split at h
 · rename_i el hu;split at h<;>simp at h<;>subst h<;>simp only [A.rel] at hx hy
   · subst hx hy;exact nilish_bin (.inl ⟨_,_,_,rfl⟩) (.inl ⟨_,_,_,rfl⟩) op X Y (run_equal_slice hu _ _ _ _ _ _ _ (.inl ⟨rfl,rfl⟩))
   · obtain ⟨b,base,o,c,_,rfl,_⟩:=hx;subst hy;exact nilish_bin (.inl ⟨_,_,_,rfl⟩) (.inl ⟨_,_,_,rfl⟩) op X Y (run_equal_slice hu _ _ _ _ _ _ _ (.inr ⟨rfl,rfl,rfl⟩))
   · obtain ⟨b,base,o,c,_,rfl,_⟩:=hy;subst hx;exact nilish_bin (.inl ⟨_,_,_,rfl⟩) (.inl ⟨_,_,_,rfl⟩) op X Y (run_equal_slice hu _ _ _ _ _ _ _ (.inl ⟨rfl,rfl⟩))
 · rename_i el hu;split at h<;>simp at h<;>subst h<;>simp only [A.rel] at hx hy
   · subst hx hy;exact nilish_bin (.inr (.inl ⟨_,rfl⟩)) (.inr (.inl ⟨_,rfl⟩)) op X Y (run_equal_ptr hu _ _ _ (.inl ⟨rfl,rfl⟩))
   · obtain ⟨b,base,_,rfl⟩:=hx;subst hy;exact nilish_bin (.inr (.inl ⟨_,rfl⟩)) (.inr (.inl ⟨_,rfl⟩)) op X Y (run_equal_ptr hu _ _ _ (.inr ⟨rfl,rfl,rfl⟩))
   · obtain ⟨b,base,_,rfl⟩:=hy;subst hx;exact nilish_bin (.inr (.inl ⟨_,rfl⟩)) (.inr (.inl ⟨_,rfl⟩)) op X Y (run_equal_ptr hu _ _ _ (.inl ⟨rfl,rfl⟩))
 · rename_i a b c hu;split at h<;>simp at h<;>subst h<;>simp only [A.rel] at hx hy
   · subst hx hy;exact nilish_bin (.inr (.inr (.inl rfl))) (.inr (.inr (.inl rfl))) op X Y (run_equal_func hu _ _ _ (.inl ⟨rfl,rfl,rfl⟩))
   · obtain ⟨vs,rfl,_⟩:=hx;subst hy;exact nilish_bin (.inr (.inr (.inr ⟨_,_,_,rfl⟩))) (.inr (.inr (.inl rfl))) op X Y (run_equal_func hu _ _ _ (.inr (.inr ⟨⟨_,_,_,rfl⟩,rfl,rfl⟩)))
   · obtain ⟨vs,rfl,_⟩:=hy;subst hx;exact nilish_bin (.inr (.inr (.inl rfl))) (.inr (.inr (.inr ⟨_,_,_,rfl⟩))) op X Y (run_equal_func hu _ _ _ (.inr (.inl ⟨rfl,⟨_,_,_,rfl⟩,rfl⟩)))
 · cases h
theorem eqRes_sound (m:Mem S ν w h) {op:BinOp} {t:TypeId} {z:A} {r:OpR} {e:Bool} {vx vy:Value} {X Y:Operand} (he:eqRes h op z=some r) (hz:z.rel ν (.bool e))
 (h1:(do eqGuard .eql t X Y vx vy;binOp .eql t vx vy).run P w = .ok (.bool e) w) (h2:(do eqGuard .neq t X Y vx vy;binOp .neq t vx vy).run P w = .ok (.bool (!e)) w) :
 Runs P S ν w h (do eqGuard op t X Y vx vy;binOp op t vx vy) r:=by
 unfold eqRes at he;split at he
 · rw [mkA_eq he];exact Runs.same m h1 hz
 · split at he
   · rename_i z' hn;rw [mkA_eq he];exact Runs.same m h2 (notA_sound hn hz)
   · cases he
 · cases he
theorem evalBin_sound (hE:EqOK cx) (m:Mem S ν w h) {op:BinOp} {t:TypeId} {x y:V} {r:OpR} (he:evalBin cx h op t x y=some r) (hok:okB r.ok=true) {vx vy:Value} (hx:x.rel ν vx) (hy:y.rel ν vy) (X Y:Operand) :
 Runs cx.P S ν w h (do eqGuard op t X Y vx vy;binOp op t vx vy) r:=by
 unfold evalBin at he;split at he
 · rename_i x y;have hx:x.rel ν vx:=hx;have hy:y.rel ν vy:=hy;unfold evalBinA at he;split at he
   · rename_i ok z hb;simp only [oI] at he;subst he;obtain ⟨⟨k,a,k',b,rfl,rfl⟩,v',hr,hz⟩:=binInt_sound (P:=cx.P) (w:=w) t hb hok hx hy;exact Runs.same m (v:=v') (by rw [Sem.run_bind,eqGuard_int];exact hr) hz
   · split at he
     · rename_i e hn;obtain ⟨_,g2,g3⟩:=nilEq_sound (P:=cx.P) (w:=w) hn hx hy op X Y;have g1:=fun op=>(nilEq_sound (P:=cx.P) (w:=w) hn hx hy op X Y).1;exact eqRes_sound m he (ofDec_rel _ _) (by rw [Sem.run_bind,g1];exact g2) (by rw [Sem.run_bind,g1];exact g3)
     · split at he
       · rename_i p q hu hp hq;have a1:=A.rel_bool hx hp;have a2:=A.rel_bool hy hq;subst a1 a2;exact eqRes_sound m he (e:=p==q) (by simp only [A.rel]) (by rw [Sem.run_bind,eqGuard_bool];simp [binOp,run_equal_bool hu]) (by rw [Sem.run_bind,eqGuard_bool];simp [binOp,run_equal_bool hu])
       · cases he
 · rename_i x y _;split at he
   · rename_i hag;simp only [bA] at hag;unfold evalBinG at he;split at he
     · rename_i sh xs ys hsh hxs hys;split at he
       · rename_i z hz;have agg:∀{t:T} {v:Value} {az:List A},aggB t=true->flatT t=some az->t.relV ν v->∃vs:Array Value,v = .agg vs/\relL ν az vs.toList:=by
          intro t v az ha hf hr;cases t with
          | a x=>cases ha
          | bad=>simp [flatT] at hf
          | mp k ks ts=>simp [flatT] at hf
          | st fs=>obtain ⟨vs,e,g⟩:=hr;exact ⟨vs,e,flatT_rel hf g⟩
          | lst s ts=>obtain ⟨vs,e,g⟩:=hr;exact ⟨vs,e,flatT_rel hf g⟩
          | arr s n sh=>simp [flatT] at hf
         obtain ⟨us,rfl,hu⟩:=agg hag.1 hxs hx;obtain ⟨ws,rfl,hw⟩:=agg hag.2 hys hy;obtain ⟨q,hq,hzq⟩:=eqL_sound hz hu hw;have hrun:=hE t sh us.toList ws.toList q hsh hq w X Y;simp only [Array.toArray_toList] at hrun;exact eqRes_sound m he hzq hrun.1 hrun.2
       · cases he
     · cases he
   · cases he
 · cases he
end
def FnOK (P:Program) (f:FuncId) (args:List V) (h:H) (v:V) (h':H):Prop:=
 ∀(S:Nat->Prop) (ν:Nu) (w:World) (vs:List Value),(∀i,i∈h'.rd->S i)->(∀i,i∈h'.wr->S i)->Mem S ν w h->relV ν args vs ->
  Calls P f vs.toArray w (fun e w'=>∃u ν',e = .returned u/\v.rel ν' u/\Goes S ν w h ν' w' h')
def FnPan (P:Program) (f:FuncId) (args:List V) (h:H) (v:A) (h':H):Prop:=
 ∀(S:Nat->Prop) (ν:Nu) (w:World) (vs:List Value),(∀i,i∈h'.rd->S i)->(∀i,i∈h'.wr->S i)->Mem S ν w h->relV ν args vs ->
  Calls P f vs.toArray w (fun e w'=>∃u ν',e = .panicked [{ v:=u,recovered:=false }]/\v.rel ν' u/\Goes S ν w h ν' w' h')
def Enters (P:Program) (f:FuncId):Prop:=∀(args:Array Value) (w:World),(callFunc f args).run P w = .ok (.enter f args) w
def AtOnce (P:Program) (f:FuncId) (args:List V) (v:V):Prop:=
 ∀(ν:Nu) (w:World) (vs:List Value),relV ν args vs->∃u,(callFunc f vs.toArray).run P w = .ok (.value u) w/\v.rel ν u
structure CallOK (P:Program) (call:CallE):Prop where
 ok:∀f args h ok v h',(call f args h).pick=some (ok,v,h')->okB ok=true->(Enters P f/\FnOK P f args h v h')\/(AtOnce P f args v/\h'=h)
 pan:∀f args h ok v h',(call f args h).pickP=some (ok,v,h')->okB ok=true->Enters P f/\FnPan P f args h v h'
 ext:∀f args h,h.lo≤h.next->(call f args h).All (Ext h)
section
variable {P:Program} {cx:Cx} {S:Nat->Prop} {ν:Nu} {w:World} {h:H} {call:CallE} {a:Act} {o:Oper} {K:Act->World->Prop} {Q:Exit->Act->World->Prop}
theorem wp_of_value {v:Value} {w':World} (h:(execOp a.eval o).run P w = .ok (.value v) w') (hK:K (a.put o.dst v) w'):o.wp P a w K Q:=by
 unfold Oper.wp;rw [h];exact hK
theorem wp_of_skip {w':World} (h:(execOp a.eval o).run P w = .ok .skip w') (hK:K (a.put o.dst undef) w'):o.wp P a w K Q:=by
 unfold Oper.wp;rw [h];exact hK
theorem wp_of_enter {f:FuncId} {args:Array Value} (h:(execOp a.eval o).run P w = .ok (.enter f args) w)
 (hc:Calls P f args w (fun e w'=>∃v',e = .returned v'/\K (a.put o.dst v') w')):o.wp P a w K Q:=by
 unfold Oper.wp;rw [h];refine hc.mono ?_;rintro e w' ⟨v',rfl,hk⟩;exact hk
def Then (S:Nat->Prop) (ν:Nu) (w:World) (h:H) (a:Act) (o:Oper) (K:Act->World->Prop) (r:OpR):Prop:=
 ∀ν' w' v,r.v.rel ν' v->Goes S ν w h ν' w' r.h->K (a.put o.dst v) w'
theorem wp_runs {s:Sem Value} {r:OpR} (he:execOp a.eval o=(do pure (.value (← s)))) (hr:Runs P S ν w h s r) (hK:Then S ν w h a o K r):o.wp P a w K Q:=by
 obtain ⟨v,w',ν',h1,h2,h3⟩:=hr;refine wp_of_value (v:=v) (w':=w') ?_ (hK ν' w' v h2 h3);rw [he,Sem.run_bind,h1];rfl
theorem relV_append:∀{xs ys:List V} {us ws:List Value},relV ν xs us->relV ν ys ws->relV ν (xs++ys) (us++ws)
 | [],_,[],_,_,h=>h
 | _::_,_,_::_,_,h1,h2=>⟨h1.1,relV_append h1.2 h2⟩
 | [],_,_::_,_,h,_=>h.elim
 | _::_,_,[],_,h,_=>h.elim
theorem relV_of_relL:∀{xs:List A} {us:List Value},relL ν xs us->relV ν (xs.map fun x=>V.t (.a x)) us
 | [],us,h=>by simp only [relL] at h;subst h;trivial
 | x::xs,us,h=>by simp only [relL] at h;obtain ⟨v,vs,rfl,h1,h2⟩:=h;exact ⟨h1,relV_of_relL h2⟩
theorem foldl_min:∀{xs:List V} {vs:List Value} {x z:A} {v:Value},foldA minA x xs=some z->x.rel ν v->relV ν xs vs ->
 ∃v',(vs.foldlM Builtin.min2 v).run P w = .ok v' w/\z.rel ν v'
 | [],[],x,z,v,h,hx,_=>by simp [foldA] at h;subst h;exact ⟨v,rfl,hx⟩
 | .t (.a y)::xs,u::vs,x,z,v,h,hx,hs=>by
   simp only [foldA] at h;split at h
   · rename_i m hm;obtain ⟨k,p,k',q,rfl,rfl,hr⟩:=minA_sound hm hx hs.1;obtain ⟨v',h1,h2⟩:=foldl_min h hr hs.2;exact ⟨v',by rw [List.foldlM_cons,Sem.run_bind];simp only [Builtin.min2,Sem.run_pure,Result.andThen_ok];exact h1,h2⟩
   · cases h
 | .t (.st _)::_,_,_,_,_,h,_,_=>by simp [foldA] at h
 | .t (.lst _ _)::_,_,_,_,_,h,_,_=>by simp [foldA] at h
 | .t (.arr _ _ _)::_,_,_,_,_,h,_,_=>by simp [foldA] at h
 | .t .bad::_,_,_,_,_,h,_,_=>by simp [foldA] at h
 | .t (.mp _ _ _)::_,_,_,_,_,h,_,_=>by simp [foldA] at h
 | .tup _::_,_,_,_,_,h,_,_=>by simp [foldA] at h
 | [],_::_,_,_,_,_,_,h=>h.elim
 | .t (.a _)::_,[],_,_,_,_,_,h=>h.elim
theorem foldl_max:∀{xs:List V} {vs:List Value} {x z:A} {v:Value},foldA maxA x xs=some z->x.rel ν v->relV ν xs vs ->
 ∃v',(vs.foldlM Builtin.max2 v).run P w = .ok v' w/\z.rel ν v'
 | [],[],x,z,v,h,hx,_=>by simp [foldA] at h;subst h;exact ⟨v,rfl,hx⟩
 | .t (.a y)::xs,u::vs,x,z,v,h,hx,hs=>by
   simp only [foldA] at h;split at h
   · rename_i m hm;obtain ⟨k,p,k',q,rfl,rfl,hr⟩:=maxA_sound hm hx hs.1;obtain ⟨v',h1,h2⟩:=foldl_max h hr hs.2;exact ⟨v',by rw [List.foldlM_cons,Sem.run_bind];simp only [Builtin.max2,Sem.run_pure,Result.andThen_ok];exact h1,h2⟩
   · cases h
 | .t (.st _)::_,_,_,_,_,h,_,_=>by simp [foldA] at h
 | .t (.lst _ _)::_,_,_,_,_,h,_,_=>by simp [foldA] at h
 | .t (.arr _ _ _)::_,_,_,_,_,h,_,_=>by simp [foldA] at h
 | .t .bad::_,_,_,_,_,h,_,_=>by simp [foldA] at h
 | .t (.mp _ _ _)::_,_,_,_,_,h,_,_=>by simp [foldA] at h
 | .tup _::_,_,_,_,_,h,_,_=>by simp [foldA] at h
 | [],_::_,_,_,_,_,_,h=>h.elim
 | .t (.a _)::_,[],_,_,_,_,_,h=>h.elim
end
section
variable {cx:Cx} {S:Nat->Prop} {ν:Nu} {w:World} {h:H} {call:CallE} {a:Act} {o:Oper} {K:Act->World->Prop} {Q:Exit->Act->World->Prop}
theorem evalBuiltin_calm {b:Builtin} {vs:List V} {us:Array Value} {ts:Array TypeId} {t:TypeId} {cs:Array Bool} {r:OpR} (hb1:b ≠ .append) (hb2:b ≠ .copy) (he:evalBuiltin cx.P h b vs ts=some r) (hok:okB r.ok=true) (hv:relV ν vs us.toList) :
 ∃v,(builtin b ts t cs us).run cx.P w = .ok (.value v) w/\r.v.rel ν v/\r.h=h:=by
 unfold evalBuiltin at he;split at he
 · exact absurd rfl hb1
 · exact absurd rfl hb2
 · split at he
   · rename_i id p s st len cap elem hu;simp only [oI] at he;subst he;obtain ⟨t0,ht0,hu⟩:=bind_some hu;cases hl:us.toList with
     | nil=>rw [hl] at hv;exact hv.elim
     | cons x xs=>
       rw [hl] at hv;have hx:(A.sl id p s st len cap).rel ν x:=hv.1;simp only [A.rel] at hx;obtain ⟨b',base,o',c,_,rfl,_,_,_⟩:=hx;have e0:us[0]? = some (.slice (some ⟨b',o',none⟩) len.val c):=by rw [← Array.getElem?_toList,hl];rfl
       refine ⟨.int .i64 len.val,by simp [builtin,Builtin.len_,ht0,e0,run_underlying' hu,goInt],?_,rfl⟩
       show (ixInt len).rel ν _;cases len with
       | lit n=>
         simp only [ixInt,A.rel];refine ⟨rfl,?_⟩;have hok:okB (ofDec (decide (IntKind.i64.wrap (n:Int)=(n:Int))))=true:=hok;cases hd:decide (IntKind.i64.wrap (n:Int)=(n:Int)) with
         | false=>rw [hd] at hok;cases hok
         | true=>exact of_decide_eq_true hd
       | sym n=>
         simp only [ixInt,A.rel];have hok:okB (ixSmall (.sym n))=true:=hok;have hlt:n<2 ^ 63:=blt_lt hok;congr 1;show (n:Int)=vof .i64 (BitVec.ofNat 64 n);unfold vof;rw [BitVec.toNat_ofNat,Nat.mod_eq_of_lt (by omega)]
         simp [IntKind.wrap,IntKind.bits,IntKind.signed];omega
   · rename_i elem hu;rw [mkA_eq he];obtain ⟨t0,ht0,hu⟩:=bind_some hu;cases hl:us.toList with
     | nil=>rw [hl] at hv;exact hv.elim
     | cons x xs=>
       rw [hl] at hv;have hx:A.nils.rel ν x:=hv.1;simp only [A.rel] at hx;subst hx;have e0:us[0]? = some (.slice none 0 0):=by rw [← Array.getElem?_toList,hl];rfl
       refine ⟨.int .i64 0,by simp [builtin,Builtin.len_,ht0,e0,run_underlying' hu,goInt],?_,rfl⟩
       show (A.lit .i64 0).rel ν _;simp only [A.rel];exact ⟨trivial,by decide⟩
   · rename_i s hu;split at he
     · rename_i hw;rw [mkA_eq he];obtain ⟨t0,ht0,hu⟩:=bind_some hu;cases hl:us.toList with
       | nil=>rw [hl] at hv;exact hv.elim
       | cons x xs=>
         rw [hl] at hv;have hx:(A.raw (.string s)).rel ν x:=hv.1;simp only [A.rel] at hx;subst hx;have e0:us[0]? = some (.string s):=by rw [← Array.getElem?_toList,hl];rfl
         refine ⟨.int .i64 s.size,by simp [builtin,Builtin.len_,ht0,e0,run_underlying' hu,goInt],?_,rfl⟩
         show (A.lit .i64 s.size).rel ν _;simp only [A.rel];exact ⟨trivial,of_decide_eq_true hw⟩
     · cases he
   · cases he
 · split at he
   · rename_i x r;obtain ⟨z,hz,he⟩:=bind_some he;rw [mkA_eq he];cases hl:us.toList with
     | nil=>rw [hl] at hv;exact hv.elim
     | cons y ys=>
       rw [hl] at hv;obtain ⟨v',h1,h2⟩:=foldl_min (P:=cx.P) (w:=w) hz hv.1 hv.2;refine ⟨v',?_,h2,rfl⟩;simp only [builtin,Builtin.min_];rw [hl];simp only;rw [Sem.run_bind,h1];rfl
   · cases he
 · split at he
   · rename_i x r;obtain ⟨z,hz,he⟩:=bind_some he;rw [mkA_eq he];cases hl:us.toList with
     | nil=>rw [hl] at hv;exact hv.elim
     | cons y ys=>
       rw [hl] at hv;obtain ⟨v',h1,h2⟩:=foldl_max (P:=cx.P) (w:=w) hz hv.1 hv.2;refine ⟨v',?_,h2,rfl⟩;simp only [builtin,Builtin.max_];rw [hl];simp only;rw [Sem.run_bind,h1];rfl
   · cases he
 · cases he
theorem relV_two {x y:A} {us:Array Value} (h:relV ν [.t (.a x),.t (.a y)] us.toList):∃vx vy,us[0]? = some vx/\us[1]? = some vy/\x.rel ν vx/\y.rel ν vy:=by
 cases hl:us.toList with
 | nil=>rw [hl] at h;exact h.elim
 | cons u us1=>
   rw [hl] at h;obtain ⟨h1,h2⟩:=h;cases us1 with
   | nil=>exact h2.elim
   | cons u2 us2=>exact ⟨u,u2,by rw [← Array.getElem?_toList,hl];rfl,by rw [← Array.getElem?_toList,hl];rfl,h1,h2.1⟩
theorem evalBuiltin_sound (m:Mem S ν w h) {b:Builtin} {vs:List V} {us:Array Value} {ts:Array TypeId} {t:TypeId} {cs:Array Bool} {r:OpR} (he:evalBuiltin cx.P h b vs ts=some r) (hok:okB r.ok=true) (hS:∀i,i∈r.h.rd->S i) (hv:relV ν vs us.toList) :
 ∃v w' ν',(builtin b ts t cs us).run cx.P w = .ok (.value v) w'/\r.v.rel ν' v/\Goes S ν w h ν' w' r.h:=by
 by_cases h1:b = .append
 · subst h1;simp only [evalBuiltin] at he;split at he
   · rename_i x y t0 e2 ht0 ht1;obtain ⟨t1,ht1,hu2⟩:=bind_some ht1;obtain ⟨vx,vy,e0,e1,hx,hy⟩:=relV_two hv;obtain ⟨v,w',ν',g1,g2,g3⟩:=evAppendG_sound (P:=cx.P) m he hok hS ht0 ht1 hu2 hx hy e0 e1 t;refine ⟨v,w',ν',?_,g2,g3⟩;simp [builtin,g1]
   · cases he
 · by_cases h2:b = .copy
   · subst h2;simp only [evalBuiltin] at he;split at he
     · rename_i x y t0 ht0;obtain ⟨vx,vy,e0,e1,hx,hy⟩:=relV_two hv;obtain ⟨v,w',ν',g1,g2,g3⟩:=evCopy_sound (P:=cx.P) m he hok hS ht0 hx hy e0 e1 t;refine ⟨v,w',ν',?_,g2,g3⟩;simp [builtin,g1]
     · cases he
   · obtain ⟨v,g1,g2,g3⟩:=evalBuiltin_calm (w:=w) (t:=t) (cs:=cs) h1 h2 he hok hv;exact ⟨v,w,ν,g1,g2,by rw [g3];exact Goes.refl m⟩
theorem evalCall_sound (hC:CallOK cx.P call) (m:Mem S ν w h) {G:Cond} {gt:Nat->Ent} {c:Call} {r:OpR} (he:evalCall cx call G gt h c=some r) (hok:okB r.ok=true) (hrd:∀i,i∈r.h.rd->S i) (hwr:∀i,i∈r.h.wr->S i)
 (hop:o.op = .call c) (hG:holds a.tmps G) (hs:Slots ν a.tmps gt c.operands.toList) (hg:Glob ν c.operands.toList) (hK:Then S ν w h a o K r):o.wp cx.P a w K Q:=by
 unfold evalCall at he;split at he
 · cases he
 · rename_i vs hvs;have hsub:∀x,x∈c.args.toList->x∈c.operands.toList:=by intro x hx;simp [Call.operands];exact .inr (by simpa using hx)
   have hargs:=opVs_sound (a:=a) hG hvs (hs.sub hsub) (fun g hm=>hg g (hsub _ hm));have harr:(c.args.map a.eval).toList=c.args.toList.map a.eval:=by simp
   have hsem:execOp a.eval o=(do let d ← resolve a.eval c o.type;invoke d.target d.args):=by unfold execOp;rw [hop]
   split at he
   · rename_i f hcal;have hf1:∀x,x∈[f]->x∈c.operands.toList:=by intro x hx;simp [Call.operands,hcal];simp at hx;exact .inl hx
     split at he
     · rename_i f' caps hf;have hfv:=opA_sound (a:=a) hf hG (hs.sub hf1) (fun g hm=>hg g (hf1 _ hm));simp only [A.rel] at hfv;obtain ⟨cvs,hfv,hcaps⟩:=hfv;have hall:=relV_append hargs (relV_of_relL hcaps);have earr:c.args.map a.eval++cvs=(c.args.toList.map a.eval++cvs.toList).toArray:=by
        apply Array.ext';simp
       have hrun:(execOp a.eval o).run cx.P w=(callFunc f' (c.args.map a.eval++cvs)).run cx.P w:=by rw [hsem,Sem.run_bind];simp only [resolve,hcal,hfv,Deferred.ofValue,Sem.run_pure,Result.andThen_ok,invoke];simp
       unfold R.one at he;split at he
       · rename_i ok v h' hcall;simp only [oI] at he;subst he;have hp:(call f' (vs++caps.map fun x =>.t (.a x)) h).pick=some (ok,v,h'):=by rw [hcall];rfl
         rcases hC.ok _ _ _ _ _ _ hp hok with ⟨hent,hfn⟩|⟨hnow,e⟩
         · refine wp_of_enter (f:=f') (args:=c.args.map a.eval++cvs) (by rw [hrun];exact hent _ w) ?_
           rw [earr];refine (hfn S ν w _ hrd hwr m hall).mono ?_;rintro e w' ⟨u,ν',rfl,hu,hgo⟩;exact ⟨u,rfl,hK ν' w' u hu hgo⟩
         · obtain ⟨u,h1,h2⟩:=hnow ν w _ hall;refine wp_of_value (v:=u) (w':=w) (by rw [hrun,earr];exact h1) (hK ν w u h2 ?_)
           show Goes S ν w h ν w h';rw [e];exact Goes.refl m
       · cases he
     · cases he
   · rename_i b hcal;obtain ⟨v,w',ν',h1,h2,h3⟩:=evalBuiltin_sound (w:=w) m (t:=o.type) (cs:=c.args.map fun | .const _=>true|_=>false) (us:=c.args.map a.eval) he hok hrd (by rw [harr];exact hargs)
     refine wp_of_value (v:=v) (w':=w') ?_ (hK ν' w' v h2 h3);rw [hsem,Sem.run_bind];simp only [resolve,hcal,Sem.run_pure,Result.andThen_ok,invoke];exact h1
   · cases he
end
section
variable {cx:Cx} {S:Nat->Prop} {ν:Nu} {w:World} {h:H} {call:CallE} {a:Act} {o:Oper} {K:Act->World->Prop} {Q:Exit->Act->World->Prop}
theorem relLst_flat {z:T} {n:Nat} {zs:List Value} (hz:z.rel ν zs) (hl:zs.length=n):∀(len:Nat),relLst ν n (List.replicate len z) ((List.replicate len zs).flatten)
 | 0=>by simp [relLst]
 | len+1=>by simp only [List.replicate_succ,relLst,List.flatten_cons];exact ⟨zs,_,rfl,hl,hz,relLst_flat hz hl len⟩
theorem range_flat {zs:List Value} {n:Nat} (hl:zs.length=n) (f:Nat->Value) (hf:∀j,f j=zs.getD (j % n) undef):∀(len:Nat),(List.range (len*n)).map f=(List.replicate len zs).flatten
 | 0=>by simp
 | len+1=>by
   rw [Nat.succ_mul,Nat.add_comm,List.range_add,List.map_append,List.map_map,List.replicate_succ,List.flatten_cons];have h1:(List.range n).map f=zs:=by
    apply List.ext_getElem?;intro i;rw [List.getElem?_map];by_cases hi:i<n
    · rw [List.getElem?_range hi];simp only [Option.map_some,hf,Nat.mod_eq_of_lt hi];rw [List.getD_eq_getElem?_getD,List.getElem?_eq_getElem (by omega)]
      rfl
    · rw [List.getElem?_eq_none (by simp;omega),List.getElem?_eq_none (by omega)];rfl
   have h2:(List.range (len*n)).map (f ∘ fun x=>n+x)=(List.range (len*n)).map f:=by apply List.map_congr_left;intro j _;simp only [Function.comp,hf,Nat.add_mod_left]
   rw [h1,h2,range_flat hl f hf len]
theorem evBuildSlice_sound (m:Mem S ν w h) {t:TypeId} {len:Nat} {ps:Option (List (Nat×V))} {r:OpR} {qs:Array (Nat×Value)} (he:evBuildSlice cx h t len ps=some r) (hp:∀y,ps=some y->relP ν y qs.toList) :
 Runs cx.P S ν w h (Instr.buildSlice t len qs) r:=by
 unfold evBuildSlice at he;split at he
 · rename_i ps;split at he
   · rename_i elem hu;split at he
     · rename_i n hn;split at he
       · rename_i z hz;unfold evBuildSlice2 at he;split at he
         · rename_i hc;simp only [bA] at hc;obtain ⟨⟨⟨c1,c2⟩,c3⟩,c4⟩:=hc;have c1:=blt_lt c1;have c2:=blt_lt c2;have c3:=nL c3;obtain ⟨e4,n',hn'⟩:=optEqN_eq c4;rw [hn'] at e4;cases e4;split at he
           · rename_i u hpu;simp only [oI] at he;subst he;obtain ⟨zv,hzr,hzc⟩:=zeroT_run (ν:=ν) (w:=w) hz;have hzl:=size_length hn' hzc;have hzs:zv.cells.size=n:=by rw [← hzl];simp
             have hpos:len*n≠0:=Nat.mul_ne_zero (by omega) (by omega)
             have hcells:(((Array.range (len*n)).map (fun j=>zv.cells[j % zv.cells.size]!)):Array Value).toList=(List.replicate len zv.cells.toList).flatten:=by
              rw [Array.toList_map,Array.toList_range];refine range_flat hzl _ (fun j => ?_) len;rw [hzs];have:j % n<zv.cells.size:=by rw [hzs];exact Nat.mod_lt _ c1
              rw [getElem!_pos zv.cells (j % n) this,List.getD_eq_getElem?_getD,Array.getElem?_toList,Array.getElem?_eq_getElem this];rfl
             obtain ⟨vs',h1,h2⟩:=putParts_sound (fun i off k hp=>by simp at hp;simp only [stepOff,Ix.val];rw [← hp.1,hp.2,Nat.mul_comm]) hpu (hp _ rfl) (vs:=(Array.range (len*n)).map (fun j=>zv.cells[j % zv.cells.size]!)) (by
              rw [hcells];simp only [T.rel];exact relLst_flat hzc hzl len)
             refine ⟨.slice (some ⟨w.heap.size,0,none⟩) len len,_,_,?_,?_,m.alloc (vs:=vs') elem h2⟩
             · rw [Instr.buildSlice,Sem.run_bind,run_underlying' hu];simp only [Result.andThen_ok];rw [Sem.run_bind,run_sizeOf' hn];simp only [Result.andThen_ok];rw [if_neg (by omega),if_neg hpos]
               rw [Sem.run_bind,hzr];simp only [Result.andThen_ok,Sem.run_pure,Sem.run_bind];rw [h1];simp [newRow]
             · show (A.sl _ _ _ _ _ _).rel _ _;simp only [A.rel];exact ⟨w.heap.size,0,0,len,by simp [upd],rfl,fun _=>by simp [pathOff,Ix.val],Nat.le_refl _,fun c' e=>by simp at e;subst e;rfl⟩
           · cases he
         · cases he
       · cases he
     · cases he
   · cases he
 · cases he
theorem evalPick_sound (m:Mem S ν w h) {G:Cond} {gt:Nat->Ent} {c x y:Operand} {r:OpR} (he:evalPick h G gt c x y=some r) (hG:holds a.tmps G) (hs:Slots ν a.tmps gt [c,x,y]) (hg:Glob ν [c,x,y]) :
 Runs cx.P S ν w h (do pure (if ← asBool (a.eval c) then a.eval x else a.eval y)) r:=by
 have hex:∀p,a.eval c = .bool p->(do pure (if ← asBool (a.eval c) then a.eval x else a.eval y):Sem Value).run cx.P w = .ok (if p then a.eval x else a.eval y) w:=by intro p hp;rw [Sem.run_bind,hp];rfl
 have hX:∀want,a.eval c = .bool want->holds a.tmps (pickC c want):=by
  intro want hw;cases c with
  | tmp s=>exact hw
  | _=>trivial
 have sc:Slots ν a.tmps gt [c]:=hs.sub (by simp)
 have sx:Slots ν a.tmps gt [x]:=hs.sub (by simp)
 have sy:Slots ν a.tmps gt [y]:=hs.sub (by simp)
 have gc:Glob ν [c]:=fun g hm=>hg g (by simp at hm ⊢;exact .inl hm)
 have gx:Glob ν [x]:=fun g hm=>hg g (by simp at hm ⊢;exact .inr (.inl hm))
 have gy:Glob ν [y]:=fun g hm=>hg g (by simp at hm ⊢;exact .inr (.inr hm))
 unfold evalPick at he;split at he
 · rename_i hc;have hcv:=opA_sound (a:=a) hc hG sc gc;simp only [A.rel] at hcv;obtain ⟨v,hx,he⟩:=bind_some he;rw [mkR_eq he];exact Runs.same m (hex _ hcv) (opV_sound hx hG (hX _ hcv) sx gx)
 · rename_i hc;have hcv:=opA_sound (a:=a) hc hG sc gc;simp only [A.rel] at hcv;obtain ⟨v,hx,he⟩:=bind_some he;rw [mkR_eq he];exact Runs.same m (hex _ hcv) (opV_sound hx hG (hX _ hcv) sy gy)
 · rename_i p hc;have hcv:=opA_sound (a:=a) hc hG sc gc;simp only [A.rel] at hcv;split at he
   · rename_i va vb h1 h2;rw [mkR_eq he];refine Runs.same m (hex _ hcv) (mergeV_rel ?_);cases p
     · exact opV_sound h2 hG (hX _ hcv) sy gy
     · exact opV_sound h1 hG (hX _ hcv) sx gx
   · cases he
 · cases he
end
section
variable {cx:Cx} {S:Nat->Prop} {ν:Nu} {w:World} {h:H}
theorem mapTy_some {P:Program} {t e:TypeId} {k:IntKind} (h:mapTy P t=some (k,e)):∃kt,P.underlying t=some (.map kt e)/\P.underlying kt=some (.int k):=by
 unfold mapTy at h;split at h
 · rename_i kt e' h1;split at h
   · rename_i k' h2;simp only [oI,pI] at h;obtain ⟨rfl,rfl⟩:=h;exact ⟨kt,h1,h2⟩
   · cases h
 · cases h
theorem evMakeMap_sound (m:Mem S ν w h) {t:TypeId} {hint:Option Operand} {r:OpR} {a:Act} (he:evMakeMap cx h t hint=some r):Runs cx.P S ν w h (Instr.makeMap t (hint.map a.eval)) r:=by
 unfold evMakeMap at he;split at he
 · rename_i k e hh ht;obtain ⟨kt,h1,h2⟩:=mapTy_some ht;simp only [oI] at he;subst he;refine ⟨.map (some w.heap.size),w.alloc (.map #[] 0),_,?_,?_,m.allocO (t :=.mp k [] []) fun hle =>.inr ⟨w.heap.size,#[],0,by simp [upd],heap_alloc_new _ _,trivial⟩⟩
   · cases hint with
     | none=>rfl
     | some x=>
       cases x with
       | const v=>cases v with
         | int k n=>(simp [Instr.makeMap,newObj,run_underlying h1,Act.eval,asInt,asIntOf];rfl)
         | _=>cases hh
       | _=>cases hh
   · show (A.mapp h.next).rel _ _;simp only [A.rel];exact ⟨w.heap.size,by simp [upd],rfl⟩
 · cases he
theorem zeroT_run' {P:Program} {ν:Nu} {w:World} {t:TypeId} {z:T} (h:zeroT P t=some z):∃i v,P.info? t=some i/\i.zero=some v/\(zeroValue t).run P w = .ok v w/\z.rel ν v.cells.toList:=by
 unfold zeroT at h;split at h
 · rename_i i hi;split at h
   · rename_i v hz;split at h
     · rename_i hc;refine ⟨i,v,hi,hz,?_,(shape_all 1000).1 _ _ _ _ h (ofAtoms_rel _) (fun u hu=>cellB_cell (List.all_eq_true.1 hc u hu))⟩;simp [zeroValue,typeInfo,hi,hz]
     · cases h
   · cases h
 · cases h
theorem zeroV_run {P:Program} {ν:Nu} {w:World} {t:TypeId} {z:T} (h:zeroV P t=some z):∃v,(zeroValue t).run P w = .ok v w/\z.relV ν v:=by
 unfold zeroV at h;split at h
 · rename_i x v hz hv;split at h
   · rename_i hc;simp only [oI] at h;subst h;obtain ⟨i,u,h1,h2,h3,h4⟩:=zeroT_run' (ν:=ν) (w:=w) hz;rw [h1,Option.bind_some,h2] at hv;cases hv;refine ⟨v,h3,?_⟩;rw [cells_of (cellB_cell hc)] at h4;simp only [T.rel] at h4;obtain ⟨u,e,h5,_⟩:=h4;simp at e;subst e;exact h5
   · cases h
 · rename_i fs cs hz hv;simp only [oI] at h;subst h;obtain ⟨i,u,h1,h2,h3,h4⟩:=zeroT_run' (ν:=ν) (w:=w) hz;rw [h1,Option.bind_some,h2] at hv;cases hv;exact ⟨_,h3,cs,rfl,h4⟩
 · rename_i s ts cs hz hv;simp only [oI] at h;subst h;obtain ⟨i,u,h1,h2,h3,h4⟩:=zeroT_run' (ν:=ν) (w:=w) hz;rw [h1,Option.bind_some,h2] at hv;cases hv;exact ⟨_,h3,cs,rfl,h4⟩
 · cases h
theorem findNow_none {ν:Nu} {k:IntKind} {n:Int}:∀{ks:List Int} {ts:List T} {es:List MapEntry} (i:Nat),entsRel ν k ks ts es->(ks.any fun j=>decide (n=j))=false->Instr.findNow (.int k) (.int k n) es i=some none
 | [],[],[],_,_,_=>rfl
 | j::ks,t::ts,e::es,i,hr,hn=>by simp only [List.any_cons,Bool.or_eq_false_iff,decide_eq_false_iff_not] at hn;have h1:=hr.1.1;have h2:=findNow_none (i+1) hr.2.2 hn.2;have hb:(n==j)=false:=beq_false_of_ne hn.1;simp only [Instr.findNow,h1,Instr.sameNow,if_true,hb,h2]
 | [],[],_::_,_,h,_=>h.elim
 | [],_::_,_,_,h,_=>h.elim
 | _::_,[],_,_,h,_=>h.elim
 | _::_,_::_,[],_,h,_=>h.elim
theorem findK_some {ν:Nu} {k:IntKind} {n:Int} {u:T}:∀{ks:List Int} {ts:List T} {es:List MapEntry} (i:Nat),entsRel ν k ks ts es->findK n ks ts=some u->∃j v,Instr.findNow (.int k) (.int k n) es i=some (some (j,v))/\u.relV ν v
 | [],[],[],_,_,h=>by cases h
 | j::ks,t::ts,e::es,i,hr,hn=>by
   have h1:=hr.1.1;unfold findK at hn;split at hn
   · rename_i hd;have hd:=of_decide_eq_true hd;subst hd;cases hn;exact ⟨i,e.val,by simp only [Instr.findNow,h1,Instr.sameNow,if_true,beq_self_eq_true],hr.2.1⟩
   · rename_i hd;have hd:=of_decide_eq_false hd;obtain ⟨j',v,h2,h3⟩:=findK_some (i+1) hr.2.2 hn;have hb:(n==j)=false:=beq_false_of_ne hd;exact ⟨j',v,by simp only [Instr.findNow,h1,Instr.sameNow,if_true,hb,h2],h3⟩
 | [],[],_::_,_,h,_=>h.elim
 | [],_::_,_,_,h,_=>h.elim
 | _::_,[],_,_,h,_=>h.elim
 | _::_,_::_,[],_,h,_=>h.elim
theorem findK_none {ν:Nu} {k:IntKind} {n:Int}:∀{ks:List Int} {ts:List T} {es:List MapEntry},entsRel ν k ks ts es->findK n ks ts=none->(ks.any fun j=>decide (n=j))=false
 | [],[],[],_,_=>rfl
 | j::ks,t::ts,e::es,hr,hn=>by
   unfold findK at hn;split at hn
   · cases hn
   · rename_i hd;simp only [List.any_cons,hd,Bool.false_or];exact findK_none hr.2.2 hn
 | [],[],_::_,h,_=>h.elim
 | [],_::_,_,h,_=>h.elim
 | _::_,[],_,h,_=>h.elim
 | _::_,_::_,[],h,_=>h.elim
theorem entsRel_push {ν:Nu} {k:IntKind} {n:Int} {u:T} {e:MapEntry} (h1:e.key = .int k n/\k.wrap n=n) (h2:u.relV ν e.val):∀{ks:List Int} {ts:List T} {es:List MapEntry},entsRel ν k ks ts es->entsRel ν k (ks++[n]) (ts++[u]) (es++[e])
 | [],[],[],_=>⟨h1,h2,trivial⟩
 | j::ks,t::ts,e::es,hr=>⟨hr.1,hr.2.1,entsRel_push h1 h2 hr.2.2⟩
 | [],[],_::_,h=>h.elim
 | [],_::_,_,h=>h.elim
 | _::_,[],_,h=>h.elim
 | _::_,_::_,[],h=>h.elim
theorem run_findKey {P:Program} {w:World} {kt:TypeId} {k:IntKind} {n:Int} {es:List MapEntry} {r:Option (Nat×Value)} (hk:P.underlying kt=some (.int k)) (h:Instr.findNow (.int k) (.int k n) es 0=some r):(Instr.findKey kt (.int k n) es).run P w = .ok r w:=by
 simp [Instr.findKey,run_underlying hk,h,Result.andThen]
theorem run_checkKey_int {P:Program} {w:World} {kt:TypeId} {k:IntKind} {n:Int} (hk:P.underlying kt=some (.int k)) (b:Bool):(Instr.checkKey b 10000 kt (.int k n)).run P w = .ok () w:=by
 unfold Instr.checkKey;simp [run_underlying hk,Result.andThen]
theorem evMapUpdate_sound (m:Mem S ν w h) {t:TypeId} {x key:Option A} {v:Option V} {r:OpR} {vx vk vv:Value} (he:evMapUpdate cx h t x key v=some r) (hS:∀i,i∈r.h.rd->S i)
 (hx:∀y,x=some y->y.rel ν vx) (hk:∀y,key=some y->y.rel ν vk) (hv:∀y,v=some y->y.rel ν vv) :
 ∃w',(Instr.mapUpdate t vx vk vv).run cx.P w = .ok () w'/\r.v = .t (.a .undef)/\Goes S ν w h ν w' r.h:=by
 unfold evMapUpdate at he;split at he
 · rename_i id k n u k1 el ht;obtain ⟨kt,g1,g2⟩:=mapTy_some ht;split at he
   · rename_i b hb;split at he
     · rename_i k2 ks ts hbt;split at he
       · rename_i hc;simp only [bA,Bool.not_eq_true'] at hc;obtain ⟨⟨⟨hrw,hk1⟩,hk2⟩,hnew⟩:=hc;have hk1:=kEq_true hk1;have hk2:=kEq_true hk2;subst hk1 hk2;simp only [oI] at he;subst he;have hx:=hx _ rfl;have hk:=hk _ rfl;have hv:=hv _ rfl;simp only [A.rel] at hx hk;obtain ⟨q,e1,rfl⟩:=hx;obtain ⟨rfl,hn⟩:=hk;rcases m.seen id b hb (see_seen (h:=h) hS) with ⟨r',base,cs,ty,fr,pre,vs,post,_,_,_,_,q5,q6⟩|⟨r',es,c,q1,q2,q3⟩
         ·
          rw [hbt] at q5;simp only [T.rel] at q5
         · rw [e1] at q1;cases q1;rw [hbt] at q3;have q3:entsRel ν k ks ts es.toList:=q3;have hf:=findNow_none (n:=n) 0 q3 hnew;refine ⟨wset w q (.map (es.push { key :=.int k n,val:=vv,born:=c }) (c+1)),?_,rfl,(m.see id).trans ((m.see id).mem.storeO (id:=id) (b:=b) hb hrw e1 fun hg =>.inr ⟨q,_,_,e1,hg,?_⟩)⟩
           · simp only [Instr.mapUpdate];rw [Sem.run_bind,run_underlying g1];simp only [Result.andThen_ok];rw [Sem.run_bind,MapKept.run_getObj_map q2];simp only [Result.andThen_ok];rw [Sem.run_bind,run_checkKey_int g2];simp only [Result.andThen_ok];rw [Sem.run_bind,run_findKey g2 hf];simp only [Result.andThen_ok];exact MapKept.run_setObj_map _ q2
           · show entsRel ν k _ _ _;rw [Array.toList_push];exact entsRel_push (e:={ key :=.int k n,val:=vv,born:=c }) ⟨rfl,hn⟩ hv q3
       · cases he
     · cases he
   · cases he
 · cases he
theorem evLookup0_sound (m:Mem S ν w h) {t:TypeId} {x key:Option A} {ok:Bool} {r:OpR} {vx vk:Value} (he:evLookup0 cx h t x key ok=some r) (hS:∀i,i∈r.h.rd->S i)
 (hx:∀y,x=some y->y.rel ν vx) (hk:∀y,key=some y->y.rel ν vk):Runs cx.P S ν w h (Instr.lookup t vx vk ok) r:=by
 unfold evLookup0 at he;split at he
 · rename_i id k n k1 el ht;obtain ⟨kt,g1,g2⟩:=mapTy_some ht;split at he
   · rename_i b hb;split at he
     · rename_i k2 ks ts hbt;split at he
       · rename_i hc;simp only [bA] at hc;have hk1:=kEq_true hc.1;have hk2:=kEq_true hc.2;subst hk1 hk2;have hx:=hx _ rfl;have hk:=hk _ rfl;simp only [A.rel] at hx hk;obtain ⟨q,e1,rfl⟩:=hx;obtain ⟨rfl,hn⟩:=hk;have key:(∀i,i∈(h.see id).rd->S i)->∃es c,w.heap[q]? = some (.map es c)/\entsRel ν k ks ts es.toList:=fun hS=>by
          rcases m.seen id b hb (see_seen hS) with ⟨r',base,cs,ty,fr,pre,vs,post,_,_,_,_,q5,q6⟩|⟨r',es,c,q1,q2,q3⟩
          · rw [hbt] at q5;simp only [T.rel] at q5
          · rw [e1] at q1;cases q1;rw [hbt] at q3;exact ⟨es,c,q2,q3⟩
         split at he
         · rename_i u hu;simp only [oI] at he;subst he;obtain ⟨es,c,q2,q3⟩:=key (by cases ok<;>exact hS)
           obtain ⟨j,v,hf,hv⟩:=findK_some 0 q3 hu;have hrun:(Instr.lookup t (.map (some q)) (.int k n) ok).run cx.P w = .ok (if ok then .tuple #[v,.bool true] else v) w:=by simp [Instr.lookup,run_underlying g1,MapKept.run_getObj_map q2,run_checkKey_int g2,run_findKey g2 hf,Result.andThen]
           cases ok
           · exact ⟨v,w,ν,hrun,hv,m.see id⟩
           · refine ⟨.tuple #[v,.bool true],w,ν,hrun,?_,m.see id⟩;exact ⟨_,rfl,hv,by show (A.tt).rel ν _;simp only [A.rel],trivial⟩
         · rename_i hu;split at he
           · rename_i z hz;simp only [oI] at he;subst he;obtain ⟨es,c,q2,q3⟩:=key (by cases ok<;>exact hS)
             have hf:=findNow_none 0 q3 (findK_none q3 hu);obtain ⟨v,hv,hzv⟩:=zeroV_run (ν:=ν) (w:=w) hz;have hrun:(Instr.lookup t (.map (some q)) (.int k n) ok).run cx.P w = .ok (if ok then .tuple #[v,.bool false] else v) w:=by simp [Instr.lookup,run_underlying g1,MapKept.run_getObj_map q2,run_checkKey_int g2,run_findKey g2 hf,hv,Result.andThen]
             cases ok
             · exact ⟨v,w,ν,hrun,hzv,m.see id⟩
             · refine ⟨.tuple #[v,.bool false],w,ν,hrun,?_,m.see id⟩;exact ⟨_,rfl,hzv,by show (A.ff).rel ν _;simp only [A.rel],trivial⟩
           · cases he
       · cases he
     · cases he
   · cases he
 · cases he
theorem pinKey_rel {key k':Option A} {o:A} (he:pinKey cx key=(k',o)) (ho:okB o=true) {vk:Value} (hk:∀y,key=some y->y.rel ν vk):∀y,k'=some y->y.rel ν vk:=by
 unfold pinKey at he;split at he
 · rename_i k x;split at he
   · rename_i n hn;split at he
     · rename_i hw;simp only [pI] at he;obtain ⟨rfl,rfl⟩:=he;intro y hy;cases hy;have h1:=hk _ rfl;simp only [A.rel] at h1 ⊢;have h2:x=BitVec.ofInt 64 n:=eq_of_beq ho;have h3:=of_decide_eq_true hw;subst h2;exact ⟨by rw [h1,vof_ofInt h3],h3⟩
     · simp only [pI] at he;obtain ⟨rfl,rfl⟩:=he;intro y hy;cases hy
   · simp only [pI] at he;obtain ⟨rfl,rfl⟩:=he;intro y hy;cases hy
 · simp only [pI] at he;obtain ⟨rfl,rfl⟩:=he;exact hk
theorem evLookup_sound (m:Mem S ν w h) {t:TypeId} {x key:Option A} {ok:Bool} {r:OpR} {vx vk:Value} (he:evLookup cx h t x key ok=some r) (ho:okB r.ok=true) (hS:∀i,i∈r.h.rd->S i)
 (hx:∀y,x=some y->y.rel ν vx) (hk:∀y,key=some y->y.rel ν vk):Runs cx.P S ν w h (Instr.lookup t vx vk ok) r:=by
 unfold evLookup at he;split at he;rename_i k' o hp;split at he
 · rename_i r0 hr;cases he;have q:=evLookup0_sound m hr (fun i hi=>hS i hi) hx (pinKey_rel hp ho hk);exact q
 · cases he
theorem evMakeMap_ext {t:TypeId} {hint:Option Operand} {r:OpR} (hlo:h.lo≤h.next) (he:evMakeMap cx h t hint=some r):Ext h r.h:=by
 unfold evMakeMap at he;split at he
 · cases he;exact new_ext hlo _
 · cases he
theorem evMapUpdate_ext {t:TypeId} {x key:Option A} {v:Option V} {r:OpR} (he:evMapUpdate cx h t x key v=some r):Ext h r.h:=by
 unfold evMapUpdate at he;split at he
 · split at he
   · rename_i b hb;split at he
     · split at he
       · rename_i hc;simp only [bA] at hc;cases he;exact (see_ext h _).trans (put_ext (by exact hb) hc.1.1.1 rfl)
       · cases he
     · cases he
   · cases he
 · cases he
theorem evLookup_ext {t:TypeId} {x key:Option A} {ok:Bool} {r:OpR} (he:evLookup cx h t x key ok=some r):Ext h r.h:=by
 unfold evLookup at he;split at he;split at he
 · rename_i r0 hr;cases he;unfold evLookup0 at hr
   repeat' split at hr
   all_goals first|(cases hr;cases ok<;>exact see_ext h _)|cases hr
 · cases he
end
section
variable {cx:Cx} {S:Nat->Prop} {ν:Nu} {w:World} {h:H} {call:CallE} {a:Act} {o:Oper} {K:Act->World->Prop} {Q:Exit->Act->World->Prop}
theorem wp_move {x:Value} {r:OpR} (he:execOp a.eval o=pure (.value x)) (hr:Runs cx.P S ν w h (pure x) r) (hK:Then S ν w h a o K r):o.wp cx.P a w K Q:=by
 obtain ⟨v,w',ν',h1,h2,h3⟩:=hr;simp at h1;obtain ⟨rfl,rfl⟩:=h1;refine wp_of_value (v:=x) (w':=w) ?_ (hK ν' w x h2 h3);rw [he];rfl
theorem pinA_rel {n:Option Int} {a:A} (ho:okB (pinA n a).1=true) {ν:Nu} {v:Value} (h:a.rel ν v):(pinA n a).2.rel ν v:=by
 cases n with
 | none=>exact h
 | some n=>cases a with
   | i k x=>
     cases hw:decide (k.wrap n=n) with
     | true=>
       simp only [pinA,hw] at ho ⊢;simp only [A.rel] at h ⊢;have h2:x=BitVec.ofInt 64 n:=eq_of_beq ho;have h3:=of_decide_eq_true hw;subst h2;exact ⟨by rw [h,vof_ofInt h3],h3⟩
     | false=>
       simp only [pinA,hw] at ho ⊢;exact h
   | _=>exact h
theorem pinTs_rel {ν:Nu}:∀{ks:List (Option Int)} {ts:List T} {vs:List Value},okB (pinTs ks ts).1=true->relTs ν ts vs->relTs ν (pinTs ks ts).2 vs
 | k::ks,.a x::ts,vs,ho,h=>by simp only [pinTs,relTs] at ho h ⊢;obtain ⟨u,r,rfl,h1,h2⟩:=h;simp only [T.rel] at h1;obtain ⟨v,rfl,h1,hc⟩:=h1;exact ⟨_,r,rfl,by simp only [T.rel];exact ⟨v,rfl,pinA_rel (andOk_left ho) h1,hc⟩,pinTs_rel (andOk_right ho) h2⟩
 | [],ts,_,_,h=>by simpa only [pinTs] using h
 | _::_,[],_,_,h=>by simpa only [pinTs] using h
 | _::_,.st _::_,_,_,h=>by simpa only [pinTs] using h
 | _::_,.lst _ _::_,_,_,h=>by simpa only [pinTs] using h
 | _::_,.arr _ _ _::_,_,_,h=>by simpa only [pinTs] using h
 | _::_,.bad::_,_,_,h=>by simpa only [pinTs] using h
 | _::_,.mp _ _ _::_,_,_,h=>by simpa only [pinTs] using h
theorem pinV_rel {ks:List (Option Int)} {p:List Step} {v:V} (ho:okB (pinV ks p v).1=true) {ν:Nu} {u:Value} (h:v.rel ν u):(pinV ks p v).2.rel ν u:=by
 unfold pinV at ho ⊢;split
 · rename_i x;split
   · rename_i i hi;simp only [hi] at ho;exact pinA_rel ho h
   · exact h
 · rename_i ts;obtain ⟨vs,rfl,hr⟩:=h;simp only [T.rel] at hr;exact ⟨vs,rfl,by simp only [T.rel];exact pinTs_rel ho hr⟩
 · exact h
theorem evLoad1_sound {cx:Cx} {S:Nat->Prop} {ν:Nu} {w:World} {h:H} {t:TypeId} {x:A} {vx:Value} {r:OpR} (he:evLoad cx h t (some x)=some r) (hok:okB r.ok=true) (m:Mem S ν w h) (hS:∀i,i∈r.h.rd->S i)
 (hx:x.rel ν vx):∃v,(Instr.loadAt t vx).run cx.P w = .ok v w/\r.v.rel ν v/\Goes S ν w h ν w r.h:=by
 simp only [evLoad] at he;split at he
 · rename_i r0 h0;split at he
   · split at he
     · cases he;obtain ⟨v,h1,h2,h3⟩:=evalLoad_sound h0 (andOk_left hok) m hS hx;exact ⟨v,h1,pinV_rel (andOk_right hok) h2,h3⟩
     · cases he;exact evalLoad_sound h0 hok m hS hx
   · cases he;exact evalLoad_sound h0 hok m hS hx
 · cases he
theorem evalOp_sound (hE:EqOK cx) (hC:CallOK cx.P call) (m:Mem S ν w h) {G:Cond} {gt:Nat->Ent} {op:Op} {r:OpR} (he:evalOp cx call G gt h op=some r) (hok:okB r.ok=true) (hrd:∀i,i∈r.h.rd->S i) (hwr:∀i,i∈r.h.wr->S i)
 (hop:o.op=op) (hG:holds a.tmps G) (hs:Slots ν a.tmps gt op.operands.toList) (hg:Glob ν op.operands.toList) (hK:Then S ν w h a o K r):o.wp cx.P a w K Q:=by
 have vv:∀{x:Operand},x∈op.operands.toList->∀y,opV G none gt x=some y->y.rel ν (a.eval x):=by intro x hx y hy;exact opV_sound hy hG (X:=none) trivial (hs.sub (by intro z hz;simp at hz;subst hz;exact hx)) (fun g hm=>hg g (by simp at hm;subst hm;exact hx))
 have aa:∀{x:Operand},x∈op.operands.toList->∀y,opA G gt x=some y->y.rel ν (a.eval x):=by intro x hx y hy;exact opA_sound hy hG (hs.sub (by intro z hz;simp at hz;subst hz;exact hx)) (fun g hm=>hg g (by simp at hm;subst hm;exact hx))
 cases op<;>simp only [evalOp] at he
 case move x=>exact wp_move (by unfold execOp;rw [hop]) (evMove_sound m he (vv (by simp [Op.operands]))) hK
 case assign x=>exact wp_move (by unfold execOp;rw [hop]) (evMove_sound m he (vv (by simp [Op.operands]))) hK
 case pick c x y=>
  obtain ⟨v,w',ν',h1,h2,h3⟩:=evalPick_sound (cx:=cx) m he hG hs hg;refine wp_of_value (v:=v) (w':=w') ?_ (hK ν' w' v h2 h3);rw [Sem.run_bind] at h1;cases hb:(asBool (a.eval c)).run cx.P w with
  | ok b w1=>
    rw [hb] at h1
    replace h1:Result.ok (if b=true then a.eval x else a.eval y) w1=Result.ok v w':=h1
    injection h1 with h1 h4
    subst h1 h4;have:execOp a.eval o=(do pure (.value (if ← asBool (a.eval c) then a.eval x else a.eval y))):=by unfold execOp;rw [hop]
    rw [this,Sem.run_bind,hb];rfl
  | _=>rw [hb] at h1;cases h1
 case alloc t=>exact wp_runs (by unfold execOp;rw [hop]) (evAlloc_sound m he) hK
 case box t x=>exact wp_runs (by unfold execOp;rw [hop]) (evBox_sound m he (vv (by simp [Op.operands]))) hK
 case build t parts=>
  refine wp_runs (s:=Instr.build t (parts.map fun (i,x)=>(i,a.eval x))) (by unfold execOp;rw [hop]) (evBuild_sound m he ?_) hK
  intro y hy;have:=opParts_sound (a:=a) hG hy (hs.sub (by simp [Op.operands])) (fun g hm=>hg g (by simpa [Op.operands] using hm))
  simpa using this
 case buildSlice t len parts=>
  refine wp_runs (s:=Instr.buildSlice t len (parts.map fun (i,x)=>(i,a.eval x))) (by unfold execOp;rw [hop]) (evBuildSlice_sound m he ?_) hK
  intro y hy;have:=opParts_sound (a:=a) hG hy (hs.sub (by simp [Op.operands])) (fun g hm=>hg g (by simpa [Op.operands] using hm))
  simpa using this
 case load t x=>
  cases hxo:opA G gt x with
  | none=>rw [hxo] at he;cases he
  | some y=>
    have hy:=hxo;rw [hxo] at he;obtain ⟨v,h1,h2,h3⟩:=evLoad1_sound he hok m hrd (aa (by simp [Op.operands]) _ hy)
    exact wp_runs (by unfold execOp;rw [hop]) ⟨v,w,ν,h1,h2,h3⟩ hK
 case store t x y=>
  unfold evStore at he;split at he
  · rename_i x' hx';split at he
    · rename_i y' hy';obtain ⟨w',h1,h2,h3⟩:=evalStore_sound he hok m hrd (aa (by simp [Op.operands]) _ hx') (vv (by simp [Op.operands]) _ hy')
      refine wp_of_skip (w':=w') ?_ (hK ν w' undef (by rw [h2];show A.undef.rel ν _;simp only [A.rel]) h3)
      have:execOp a.eval o=(do Instr.storeAt t (a.eval x) (a.eval y);pure .skip):=by unfold execOp;rw [hop]
      rw [this,Sem.run_bind,h1];rfl
    · cases he
  · cases he
 case nilCheck x=>
  obtain ⟨⟨b,off,e⟩,hr⟩:=evNilCheck_sound (P:=cx.P) m he (aa (x:=x) (by simp [Op.operands]))
  refine wp_move (x:=a.eval x) ?_ hr hK;unfold execOp;rw [hop];simp only;rw [e]
 case binOp op t x y yt=>
  unfold evBin at he;split at he
  · rename_i x' hx';split at he
    · rename_i y' hy';exact wp_runs (by unfold execOp;rw [hop]) (evalBin_sound hE m he hok (vv (by simp [Op.operands]) _ hx') (vv (by simp [Op.operands]) _ hy') x y) hK
    · cases he
  · cases he
 case unOp op t x=>exact wp_runs (by unfold execOp;rw [hop]) (evUn_sound m he (aa (by simp [Op.operands]))) hK
 case convert src dst x=>exact wp_runs (by unfold execOp;rw [hop]) (evConv_sound m he (aa (by simp [Op.operands]))) hK
 case makeFunc fn first captured=>
  obtain ⟨e,hr⟩:=evMakeFunc_sound (P:=cx.P) (vs:=captured.map a.eval) m he (by
   intro y hy;have:=opAs_sound (a:=a) hG hy (hs.sub (by intro z hz;simp [Op.operands];exact .inr (by simpa using hz))) (fun g hm=>hg g (by simp [Op.operands];exact .inr (by simpa using hm)))
   simpa using this)
  refine wp_runs (s:=Instr.makeFunc fn #[] (captured.map a.eval)) ?_ hr hK;have e1:first = #[]:=by apply Array.ext';simpa using e
  subst e1;unfold execOp;rw [hop];simp
 case fieldAddr s x f=>exact wp_runs (by unfold execOp;rw [hop]) (evFieldAddr_sound m he (aa (by simp [Op.operands]))) hK
 case field s x f=>exact wp_runs (by unfold execOp;rw [hop]) (evField_sound m he hok (vv (by simp [Op.operands]))) hK
 case indexAddr t x ix=>exact wp_runs (by unfold execOp;rw [hop]) (evIndexAddr_sound m he hok (aa (by simp [Op.operands])) (aa (by simp [Op.operands]))) hK
 case index t x ix=>exact wp_runs (by unfold execOp;rw [hop]) (evIndex_sound m he hok (vv (by simp [Op.operands])) (aa (by simp [Op.operands]))) hK
 case extract x ix=>exact wp_runs (by unfold execOp;rw [hop]) (evExtract_sound m he (vv (by simp [Op.operands]))) hK
 case makeInterface t x=>
  obtain ⟨e,hr⟩:=evIface_sound m he (aa (x:=x) (by simp [Op.operands]))
  exact wp_runs (by unfold execOp;rw [hop]) hr hK
 case makeSlice t len cap=>exact wp_runs (by unfold execOp;rw [hop]) (evMakeSlice_sound m he hok (aa (by simp [Op.operands])) (aa (by simp [Op.operands]))) hK
 case slice t x lo hi mx=>
  have oo:∀{z:Option Operand},(∀q,z=some q->q∈(Op.slice t x lo hi mx).operands.toList)->(∀y,optA G gt z=some (some y)->∃v,z.map a.eval=some v/\y.rel ν v):=by
   intro z hz y hy;cases z with
   | none=>cases hy
   | some x'=>
     simp only [optA,oI] at hy;exact ⟨_,rfl,aa (x:=x') (hz x' rfl) y hy⟩
  have on:∀{z:Option Operand},optA G gt z=none->z.map a.eval=none:=by
   intro z hz;cases z with
   | none=>rfl
   | some x'=>cases hz
  refine wp_runs (s:=Instr.sliceAt t (a.eval x) (lo.map a.eval) (hi.map a.eval) (mx.map a.eval)) (by unfold execOp;rw [hop])
   (evSlice_sound m he hok (aa (by simp [Op.operands])) on (oo ?_) on (oo ?_) (fun e=>by rw [e];rfl)) hK
  · rintro x' rfl;simp [Op.operands]
  · rintro x' rfl;simp [Op.operands]
 case makeMap t r=>exact wp_runs (by unfold execOp;rw [hop]) (evMakeMap_sound (a:=a) m he) hK
 case lookup t x k ok'=>exact wp_runs (by unfold execOp;rw [hop]) (evLookup_sound m he hok hrd (aa (by simp [Op.operands])) (aa (by simp [Op.operands]))) hK
 case mapUpdate t x k y=>
  obtain ⟨w',h1,h2,h3⟩:=evMapUpdate_sound m he hrd (aa (x:=x) (by simp [Op.operands])) (aa (x:=k) (by simp [Op.operands])) (vv (x:=y) (by simp [Op.operands]))
  refine wp_of_skip (w':=w') ?_ (hK ν w' undef (by rw [h2];show A.undef.rel ν _;simp only [A.rel]) h3)
  have:execOp a.eval o=(do Instr.mapUpdate t (a.eval x) (a.eval k) (a.eval y);pure .skip):=by unfold execOp;rw [hop]
  rw [this,Sem.run_bind,h1];rfl
 case insert t x k y=>
  obtain ⟨w',h1,h2,h3⟩:=evMapUpdate_sound m he hrd (aa (x:=x) (by simp [Op.operands])) (aa (x:=k) (by simp [Op.operands])) (vv (x:=y) (by simp [Op.operands]))
  refine wp_of_skip (w':=w') ?_ (hK ν w' undef (by rw [h2];show A.undef.rel ν _;simp only [A.rel]) h3)
  have:execOp a.eval o=(do Instr.mapUpdate t (a.eval x) (a.eval k) (a.eval y);pure .skip):=by unfold execOp;rw [hop]
  rw [this,Sem.run_bind,h1];rfl
 case call c=>exact evalCall_sound hC m he hok hrd hwr hop hG (hs.sub (by simp [Op.operands])) (fun g hm=>hg g (by simpa [Op.operands] using hm)) hK
 all_goals cases he
end
section
variable {cx:Cx} {h:H} {call:CallE} {r:OpR}
theorem mkR_h {v:V} (he:mkR h v=some r):r.h=h:=by cases he;rfl
theorem mkA_h {x:A} (he:mkA h x=some r):r.h=h:=by cases he;rfl
theorem mkAgg_h {t:T} (he:mkAgg h t=some r):r.h=h:=by
 unfold mkAgg at he;split at he
 · exact mkR_h he
 · cases he
theorem eqRes_h {op:BinOp} {z:A} (he:eqRes h op z=some r):r.h=h:=by
 unfold eqRes at he
 repeat' split at he
 all_goals first|exact mkA_h he|cases he
theorem bind_h {α:Type} {x:Option α} {f:α->Option OpR} (hf:∀a r,f a=some r->r.h=h) (he:x.bind f=some r):r.h=h:=by
 cases x with
 | none=>cases he
 | some a=>exact hf a r he
theorem ext_of_h {h':H} (e:h'=h):Ext h h':=by subst e;exact Ext.refl _
theorem R.one_ext {t:R} (ha:t.All (Ext h)) (he:t.one=some r):Ext h r.h:=by
 cases t with
 | leaf ok v h'=>cases he;exact ha
 | _=>cases he
theorem readSl_ext {n:Nat} {x:A} {us:List T} {ok:A} {h1:H} (he:readSl h n x=some (us,ok,h1)):Ext h h1:=by
 unfold readSl at he
 repeat' split at he
 all_goals first|(cases he;exact see_ext h _)|(cases he;exact Ext.refl _)|cases he
theorem writeSl_ext {us:List T} {id:Nat} {p:List Step} {s:Nat} {st:Ix} {ok:A} {h1:H} (he:writeSl h us id p s st=some (ok,h1)):Ext h h1:=by
 unfold writeSl at he;split at he
 · rename_i b hb;split at he
   · rename_i hrw;simp only [bA] at hrw;split at he
     · split at he
       · cases he;exact (see_ext h _).trans (put_ext (by exact hb) hrw.1 rfl)
       · cases he
     · cases he
   · cases he
 · cases he
theorem grow_ext {h0 h1:H} (hlo:h.lo≤h.next) (e0:Ext h h0) (e1:Ext h0 h1) (b:Blk):Ext h (h1.new b):=
 (e0.trans e1).trans (new_ext (by rw [(e0.trans e1).lo];exact Nat.le_trans hlo (e0.trans e1).next) b)
theorem evGrow_ext {P:Program} {t:TypeId} {x y:A} {l c n:Nat} (hlo:h.lo≤h.next) (he:evGrow P h t x y l c n=some r):Ext h r.h:=by
 unfold evGrow at he;split at he
 · split at he
   · split at he
     · split at he
       · rename_i h1;split at he
         · rename_i h2;split at he
           · cases he;exact grow_ext hlo (readSl_ext h1) (readSl_ext h2) _
           · cases he
         · cases he
       · cases he
     · cases he
   · cases he
 · cases he
theorem evAppend_ext {t:TypeId} {x y:A} {P:Program} (he:evAppend P h t x y=some r):Ext h r.h:=by
 unfold evAppend at he
 repeat' split at he
 all_goals first
  | (rename_i h1 _ _ h2;cases he;exact (readSl_ext h1).trans (writeSl_ext h2))
  | (rename_i h1 _ _ _ h2;cases he;exact (readSl_ext h1).trans (writeSl_ext h2))
  | cases he
theorem evAppendG_ext {t:TypeId} {x y:A} {P:Program} (hlo:h.lo≤h.next) (he:evAppendG P h t x y=some r):Ext h r.h:=by
 unfold evAppendG at he;split at he
 · split at he
   · exact evGrow_ext hlo he
   · exact evAppend_ext he
 · exact evAppend_ext he
theorem evalBuiltin_ext {b:Builtin} {vs:List V} {ts:Array TypeId} (hlo:h.lo≤h.next) (he:evalBuiltin cx.P h b vs ts=some r):Ext h r.h:=by
 unfold evalBuiltin evCopy at he
 repeat' split at he
 all_goals first
  | exact ext_of_h (bind_h (fun a r=>mkA_h) he)
  | exact ext_of_h (mkA_h he)
  | exact evAppendG_ext hlo he
  | (rename_i h1 _ _ h2;cases he;exact (readSl_ext h1).trans (writeSl_ext h2))
  | (rename_i h1 _ _ _ h2;cases he;exact (readSl_ext h1).trans (writeSl_ext h2))
  | (cases he;exact Ext.refl _)
  | cases he
theorem evalLoad_ext {P:Program} {t:TypeId} {x:A} (he:evalLoad P h t x=some r):Ext h r.h:=by
 unfold evalLoad at he
 repeat' split at he
 all_goals first|(cases he;exact see_ext h _)|cases he
theorem evLoad_ext {t:TypeId} {x:Option A} (he:evLoad cx h t x=some r):Ext h r.h:=by
 cases x with
 | none=>cases he
 | some x=>
   simp only [evLoad] at he;split at he
   · rename_i r0 h0;have:=evalLoad_ext h0;split at he
     · split at he<;>(cases he;exact this)
     · cases he;exact this
   · cases he
theorem evalOp_ext (hC:CallOK cx.P call) (hlo:h.lo≤h.next) {G:Cond} {gt:Nat->Ent} {op:Op} (he:evalOp cx call G gt h op=some r):Ext h r.h:=by
 cases op<;>simp only [evalOp] at he
 case move x=>
  unfold evMove at he;split at he
  · exact ext_of_h (mkR_h he)
  · cases he
 case assign x=>
  unfold evMove at he;split at he
  · exact ext_of_h (mkR_h he)
  · cases he
 case pick c x y=>
  apply ext_of_h;unfold evalPick at he
  repeat' split at he
  all_goals first|exact bind_h (fun a r=>mkR_h) he|exact mkR_h he|cases he
 case alloc t=>
  unfold evAlloc at he;split at he
  · cases he;exact new_ext hlo _
  · cases he
 case box t x=>
  unfold evBox at he
  repeat' split at he
  all_goals first|(cases he;exact new_ext hlo _)|cases he
 case build t parts=>
  apply ext_of_h;unfold evBuild evBuild2 at he
  repeat' split at he
  all_goals first|exact bind_h (fun a r=>mkAgg_h) he|cases he
 case buildSlice t len parts=>
  unfold evBuildSlice evBuildSlice2 at he
  repeat' split at he
  all_goals first|(cases he;exact new_ext hlo _)|cases he
 case load t x=>
  exact evLoad_ext he
 case store t x y=>
  unfold evStore evalStore at he;split at he
  · split at he
    · split at he
      · split at he
        · rename_i b v hb _;split at he
          · rename_i hx;simp only [bA] at hx;split at he
            · cases he;exact (see_ext h _).trans (put_ext (by exact hb) hx.1 rfl)
            · cases he
          · cases he
        · cases he
      · cases he
    · cases he
  · cases he
 case nilCheck x=>
  apply ext_of_h;unfold evNilCheck at he;split at he
  · exact mkA_h he
  · cases he
 case binOp op t x y yt=>
  apply ext_of_h;unfold evBin evalBin evalBinA evalBinG at he
  repeat' split at he
  all_goals first|exact eqRes_h he|(cases he;rfl)|cases he
 case unOp op t x=>
  apply ext_of_h;unfold evUn at he;split at he
  · exact bind_h (fun a r=>mkA_h) he
  · cases he
 case convert src dst x=>
  apply ext_of_h;unfold evConv at he
  repeat' split at he
  all_goals first|exact bind_h (fun a r=>mkA_h) he|cases he
 case makeFunc fn first captured=>
  apply ext_of_h;unfold evMakeFunc at he
  repeat' split at he
  all_goals first|exact mkA_h he|cases he
 case fieldAddr s x f=>
  apply ext_of_h;unfold evFieldAddr at he
  repeat' split at he
  all_goals first|exact mkA_h he|cases he
 case field s x f=>
  apply ext_of_h;unfold evField at he
  repeat' split at he
  all_goals first|(cases he;rfl)|cases he
 case indexAddr t x ix=>
  apply ext_of_h;unfold evIndexAddr evIndexAddr2 at he
  repeat' split at he
  all_goals first|(cases he;rfl)|cases he
 case index t x ix=>
  apply ext_of_h;unfold evIndex evIndex2 at he
  repeat' split at he
  all_goals first|(cases he;rfl)|cases he
 case extract x ix=>
  apply ext_of_h;unfold evExtract at he
  repeat' split at he
  all_goals first|exact mkR_h he|cases he
 case makeInterface t x=>
  apply ext_of_h;unfold evIface at he
  repeat' split at he
  all_goals first|exact mkA_h he|cases he
 case makeSlice t len cap=>
  unfold evMakeSlice at he
  repeat' split at he
  all_goals first|(cases he;exact new_ext hlo _)|cases he
 case slice t x lo hi mx=>
  apply ext_of_h;unfold evSlice evSlice2 at he
  repeat' split at he
  all_goals first|(cases he;rfl)|cases he
 case makeMap t r=>exact evMakeMap_ext hlo he
 case mapUpdate t x k y=>exact evMapUpdate_ext he
 case insert t x k y=>exact evMapUpdate_ext he
 case lookup t x k ok=>exact evLookup_ext he
 case call c=>
  unfold evalCall at he
  repeat' split at he
  all_goals first|exact R.one_ext (hC.ext _ _ _ hlo) he|exact evalBuiltin_ext hlo he|cases he
 all_goals cases he
end
def EntOK (ν:Nu) (tmps:Array Value) (s:Nat) (e:Ent):Prop:=
 (holds tmps e.c->e.v.rel ν (tmps.getD s undef))/\(¬holds tmps e.c->tmps.getD s undef=undef)
theorem holds_put {a:Act} {d:Option Nat} {v:Value} {c:Cond} (h:∀sj x,c=some (sj,x)->d≠some sj):holds (a.put d v).tmps c↔holds a.tmps c:=by
 cases c with
 | none=>exact Iff.rfl
 | some p=>
   obtain ⟨sj,x⟩:=p;cases d with
   | none=>exact Iff.rfl
   | some d=>
     have hne:d≠sj:=fun e=>h sj x rfl (by rw [e])
     simp [holds,Act.put,Array.getD_eq_getD_getElem?,Array.getElem?_setIfInBounds_ne hne]
theorem getD_put_ne {a:Act} {d:Option Nat} {v:Value} {s:Nat} (h:d≠some s):(a.put d v).tmps.getD s undef=a.tmps.getD s undef:=by
 cases d with
 | none=>rfl
 | some d=>
   have hne:d≠s:=fun e=>h (by rw [e])
   simp [Act.put,Array.getD_eq_getD_getElem?,Array.getElem?_setIfInBounds_ne hne]
theorem getD_put_eq {a:Act} {d:Nat} {v:Value} (h:d<a.tmps.size):(a.put (some d) v).tmps.getD d undef=v:=by
 simp [Act.put,Array.getD_eq_getD_getElem?,h]
theorem size_put {a:Act} {d:Option Nat} {v:Value}:(a.put d v).tmps.size=a.tmps.size:=by cases d<;>simp [Act.put]
theorem put_defers {a:Act} {d:Option Nat} {v:Value}:(a.put d v).defers=a.defers:=by cases d<;>rfl
theorem get_cons (s':Nat) (e:Ent) (l:List (Nat×Ent)) (s:Nat):getT ((s',e)::l) s=if s'=s then e else getT l s:=by
 rw [getT];cases hb:Nat.beq s' s
 · rw [if_neg (beq_false hb)]
 · rw [if_pos (beq_true hb)]
def keepEnt (e:Ent):Ent:=match e.c with|none=>e|some _=>⟨none,.t (.a .poison)⟩
theorem put_true {km:Nat} {st:St} {d:Nat} {e:Ent} (h:bitB km d=true):st.put km (some d) e={ st with vars:=st.vars.set d (keepEnt e),vd:=d::st.vd }:=by
 simp only [St.put,h];rfl
theorem put_false {km:Nat} {st:St} {d:Nat} {e:Ent} (h:bitB km d=false):st.put km (some d) e={ st with tmps:=(d,e)::st.tmps }:=by
 simp only [St.put,h]
def varsGet (t:Tr Ent) (s:Nat):Ent:=match t.get s with
 | some e=>e
 | none=>⟨none,.t (.a .poison)⟩
theorem get_true {km:Nat} {st:St} {d:Nat} (h:bitB km d=true):st.get km d=varsGet st.vars d:=by simp only [St.get,h];rfl
theorem get_false {km:Nat} {st:St} {d:Nat} (h:bitB km d=false):st.get km d=getT st.tmps d:=by simp only [St.get,h]
theorem get_put_ne {km:Nat} {st:St} {d:Option Nat} {e:Ent} {s:Nat} (h:d≠some s):(st.put km d e).get km s=st.get km s:=by
 cases d with
 | none=>rfl
 | some d=>
   have hne:¬d=s:=fun e=>h (by rw [e])
   cases hd:bitB km d<;>cases hs:bitB km s
   · rw [put_false hd,get_false hs,get_false hs,get_cons,if_neg hne]
   · rw [put_false hd,get_true hs,get_true hs]
   · rw [put_true hd,get_false hs,get_false hs]
   · rw [put_true hd,get_true hs,get_true hs];simp only [varsGet,Tr.get_set,if_neg hne]
def entPut (km d:Nat) (e:Ent):Ent:=match bitB km d with|true=>keepEnt e|false=>e
theorem get_put_eq {km:Nat} {st:St} {d:Nat} {e:Ent}:(st.put km (some d) e).get km d=entPut km d e:=by
 unfold entPut;cases hd:bitB km d
 · rw [put_false hd,get_false hd,get_cons,if_pos rfl]
 · rw [put_true hd,get_true hd];simp only [varsGet,Tr.get_set,if_pos]
theorem put_h {km:Nat} {st:St} {d:Option Nat} {e:Ent}:(st.put km d e).h=st.h:=by
 cases d with
 | none=>rfl
 | some d=>cases hd:bitB km d<;>first|rw [put_false hd]|rw [put_true hd]
theorem put_ok {km:Nat} {st:St} {d:Option Nat} {e:Ent}:(st.put km d e).ok=st.ok:=by
 cases d with
 | none=>rfl
 | some d=>cases hd:bitB km d<;>first|rw [put_false hd]|rw [put_true hd]
theorem get_of_eq {km:Nat} {st st':St} (h1:st.vars=st'.vars) (h2:st.tmps=st'.tmps) (s:Nat):st.get km s=st'.get km s:=by
 unfold St.get;rw [h1,h2]
theorem wanted_guard {ops:List Oper} {tmps:Array Value} {o:Oper} {j sj:Nat} {want:Bool} (hg:o.guard=some (j,want)) (hd:dstOf ops j=some sj) :
 Region.wanted o (yielded ops.toArray tmps)=true↔holds tmps (some (sj,want)):=by
 unfold Region.wanted;rw [hg];simp only [beq_iff_eq];unfold dstOf at hd;split at hd
 · rename_i oj hj;unfold yielded;have e:((ops.toArray[j]?).bind fun x=>x.dst)=some sj:=by simp [hj,hd]
   rw [e];simp only [Option.bind_some,holds,Array.getD_eq_getD_getElem?];cases ht:tmps[sj]? with
   | none=>simp [undef]
   | some v=>cases v<;>simp
 · cases hd
theorem chkDst_spec {ops:List Oper} (h:chkDst ops=true) {i j:Nat} (hi:i<ops.length) (hj:j<i) {d:Nat} (h1:dstOf ops i=some d) (h2:dstOf ops j=some d):False:=by
 unfold chkDst allBelow at h;rw [List.all_eq_true] at h;have h3:=h i (List.mem_range.2 hi);rw [List.all_eq_true] at h3;have h4:=h3 j (List.mem_range.2 hj);rw [h1,h2] at h4;simp [optNe] at h4
theorem dstOf_lt {ops:List Oper} {i d:Nat} (h:dstOf ops i=some d):i<ops.length:=by
 unfold dstOf at h;split at h
 · rename_i o ho;exact (List.getElem?_eq_some_iff.1 ho).1
 · cases h
theorem chkDst_inj {ops:List Oper} (h:chkDst ops=true) {i j d:Nat} (h1:dstOf ops i=some d) (h2:dstOf ops j=some d):i=j:=by
 rcases Nat.lt_trichotomy i j with hl|he|hl
 · exact (chkDst_spec h (dstOf_lt h2) hl h2 h1).elim
 · exact he
 · exact (chkDst_spec h (dstOf_lt h1) hl h1 h2).elim
end Go.WE
end
