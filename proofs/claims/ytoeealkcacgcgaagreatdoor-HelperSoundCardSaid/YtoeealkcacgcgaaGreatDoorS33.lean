/- A part of a proof of the helpers' law; no condition of its own. -/
import Derived.Test.YtoeealkcacgcgaaGreatDoorS31
import Derived.Test.YtoeealkcacgcgaaGreatDoorS32
set_option linter.unusedVariables false
set_option maxRecDepth 100000
noncomputable section
namespace Go.WE
open Go Go.Proofs Go.RowKit
theorem must_evG (c:Bool) (k:Nat):resR (evalF cxK noΓ 400 20 61 [one (.b c),one (.lit .i64 (.ofNat k))] H.none)=some (!c,.tt,(.tup []),.iface 24 (.lit .i64 (.ofNat k)),.tt):=by kernel_rfl
theorem must_evS (c:Bool) (e:U):resR (evalF cxK noΓ 400 20 61 [one (.b c),one (.i .i64 e)] H.none)=some (!c,.tt,(.tup []),.iface 24 (.i .i64 e),.tt):=by kernel_rfl
def mustA (k0:Nat):List V->H->Option R
 | [.t (.a (.b c)),.t (.a (.lit .i64 (.ofNat k)))],h=>match Nat.beq k k0 with
   | true=>some (.pan (.b (!c)) (.iface 24 (.lit .i64 (.ofNat k))) h)
   | false=>some (.leaf (.b c) (.tup []) h)
 | [.t (.a (.b c)),.t (.a (.i .i64 e))],h=>match Nat.beq k0 99 with
   | true=>some (.pan (.b (!c)) (.iface 24 (.i .i64 e)) h)
   | false=>some (.leaf (.b c) (.tup []) h)
 | _,_=>none
theorem mustA_inv {k0:Nat} {args:List V} {h:H} {r:R} (e:mustA k0 args h=some r):∃c x,args=[one (.b c),one x]/\x.free=true/\resR (evalF cxK noΓ 400 20 61 [one (.b c),one x] H.none)=some (!c,.tt,(.tup []),.iface 24 x,.tt)/\(r = .pan (.b (!c)) (.iface 24 x) h\/r = .leaf (.b c) (.tup []) h):=by
 unfold mustA at e;split at e
 · rename_i c k;split at e
   · cases e;exact ⟨c,_,rfl,rfl,must_evG c k,.inl rfl⟩
   · cases e;exact ⟨c,_,rfl,rfl,must_evG c k,.inr rfl⟩
 · rename_i c x;split at e
   · cases e;exact ⟨c,_,rfl,rfl,must_evS c x,.inl rfl⟩
   · cases e;exact ⟨c,_,rfl,rfl,must_evS c x,.inr rfl⟩
 · cases e
theorem mustA_ok (k0:Nat):AnyOK Tryz.prog 61 (mustA k0) where
 ent:=enters_of entK 61 _ Tryz.func61 (by simp [Tryz.f61])
 ok:=by
  intro args h r ok v h' he hp hok;obtain ⟨c,x,rfl,hx,hev,rfl|rfl⟩:=mustA_inv he
  · cases hp
  · simp only [R.pick,oI,pI] at hp;obtain ⟨rfl,rfl,rfl⟩:=hp;have hc:c=true:=hok;subst hc;obtain ⟨h1,h2,e⟩:=resR_some hev;have hp:(evalF cxK noΓ 400 20 61 [one (.b true),one x] H.none).pick=some (.tt,(.tup []),h2):=by rw [e];rfl
    obtain ⟨_,hfn⟩:=evalF_fn (XK noΓ_ok) rfl hp rfl;exact fnOK_any hfn (by simp [freeVs,V.free,T.free,A.free,hx]) rfl h
 pan:=by
  intro args h r ok v h' he hp hok;obtain ⟨c,x,rfl,hx,hev,rfl|rfl⟩:=mustA_inv he
  · simp only [R.pickP,oI,pI] at hp;obtain ⟨rfl,rfl,rfl⟩:=hp;have hc:c=false:=by
     have:(!c)=true:=hok;simpa using this
    subst hc;obtain ⟨h1,h2,e⟩:=resR_some hev;have hp:(evalF cxK noΓ 400 20 61 [one (.b false),one x] H.none).pickP=some (.tt,.iface 24 x,h1):=by rw [e];rfl
    have hfn:=((evalF_sound (XK noΓ_ok).eq (XK noΓ_ok).gam (XK noΓ_ok).dfr (XK noΓ_ok).lam (XK noΓ_ok).ent (fuel:=400) 20).pan _ _ _ _ _ _ hp rfl).2;exact fnPan_any hfn (by simp [freeVs,V.free,T.free,A.free,hx]) (by simp [A.free,hx]) h
  · cases hp
 ext:=by intro args h r he hlo;obtain ⟨c,x,rfl,hx,hev,rfl|rfl⟩:=mustA_inv he<;>exact Ext.refl _
def argN (s:FSt) (r:RW) (n:Nat):Nat->U
 | 2=>cond (r.k==K 0) (K 15) (cond (r.k != K 1) (K 14) (K 0))
 | 3=>cond (r.k==K 0) (K 15) (cond (r.k != K 3) (K 14) (cond (!(roomB r.o n)) (K 17) (K 0)))
 | _=>cond (r.k==K 0) (K 15) (cond (r.k != K 3) (K 14) (readR s.g r.o (K n)))
end Go.WE
end
