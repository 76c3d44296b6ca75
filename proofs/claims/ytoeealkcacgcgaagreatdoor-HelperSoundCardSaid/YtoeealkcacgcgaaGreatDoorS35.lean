/- A part of a proof of the helpers' law; no condition of its own. -/
import Derived.Test.YtoeealkcacgcgaaGreatDoorS33
set_option linter.unusedVariables false
set_option maxRecDepth 100000
noncomputable section
namespace Go.WE
open Go Go.Proofs Go.RowKit
def obsRW (r:R):Option (Bool×RW×Bool×List Nat):=match r.pick with
 | some (ok,.t t,h)=>match rwOfT t with
   | some w=>some (okB ok,w,t.free,h.wr)
   | none=>none
 | _=>none
theorem obsRW_some {r:R} {b f:Bool} {w:RW} {wr:List Nat} (h:obsRW r=some (b,w,f,wr)):∃ok t h',r.pick=some (ok,.t t,h')/\okB ok=b/\rwOfT t=some w/\t.free=f/\h'.wr=wr:=by
 unfold obsRW at h;split at h
 · rename_i ok t h' hp;split at h
   · rename_i w' hw;simp only [oI,pI] at h;obtain ⟨rfl,rfl,rfl,rfl⟩:=h;exact ⟨ok,t,h',hp,rfl,hw,rfl,rfl⟩
   · cases h
 · cases h
def kOut:RW:=⟨K 1,K 0,K 0,K 0,K 0,K 18446744073709551615,K 0,K 18446744073709551615,K (-21),K 0⟩
def kCpu:RW:=⟨K 1,K 0,K 0,K 0,K 0,K 3,K 0,K 3,K 0,K 3⟩
theorem k63a:obsRW (evalF cxK noΓ 400 20 63 [one (.lit .i64 (-21)),one (.lit .i64 0)] (hM [] 0))=some (true,kOut,true,[]):=by kernel_rfl
theorem k63b:obsRW (evalF cxK noΓ 400 20 63 [one (.lit .i64 0),one (.lit .i64 3)] (hM [] 0))=some (true,kCpu,true,[]):=by kernel_rfl
def kOf (a b:Int):Option RW:=if a = -21/\b=0 then some kOut else if a=0/\b=3 then some kCpu else none
theorem kOf_some {a b:Int} {r:RW} (h:kOf a b=some r):(a = -21/\b=0/\r=kOut)\/(a=0/\b=3/\r=kCpu):=by
 unfold kOf at h;split at h
 · rename_i h1;cases h;exact .inl ⟨h1.1,h1.2,rfl⟩
 · split at h
   · rename_i h1;cases h;exact .inr ⟨h1.1,h1.2,rfl⟩
   · cases h
def knSp:List V->H->Option R
 | [.t (.a (.lit .i64 a)),.t (.a (.lit .i64 b))],h=>match kOf a b with
   | some r=>some (.leaf .tt (.t r.t) (h.sees []))
   | none=>none
 | _,_=>none
theorem knSp_inv {args:List V} {h:H} {q:R} (e:knSp args h=some q):∃a b r,args=[one (.lit .i64 a),one (.lit .i64 b)]/\kOf a b=some r/\q = .leaf .tt (.t r.t) (h.sees []):=by
 unfold knSp at e;split at e
 · split at e
   · rename_i h1;cases e;exact ⟨_,_,_,rfl,h1,rfl⟩
   · cases e
 · cases e
theorem litI {ν ν':Nu} {n:Int} {u:Value} (h:(one (.lit .i64 n)).rel ν u):(one (.lit .i64 n)).rel ν' u:=by
 have h:(A.lit .i64 n).rel ν u:=h;show (A.lit .i64 n).rel ν' u;simpa only [A.rel] using h
theorem kn_fn {f:Nat} (hent:Enters Tryz.prog f) (hΓ:∀{a b:Int} {r:RW},kOf a b=some r->obsRW (evalF cxK noΓ 400 20 f [one (.lit .i64 a),one (.lit .i64 b)] (hM [] 0))=some (true,r,true,[])):AnyOK Tryz.prog f knSp where
 ent:=hent
 ok:=by
  intro args h q ok v h' he hp hok;obtain ⟨a,b,r,rfl,hk,rfl⟩:=knSp_inv he;simp only [R.pick,oI,pI] at hp;obtain ⟨rfl,rfl,rfl⟩:=hp;refine fn_calm [] fun S ν W us hm hS hus => ?_
  match us,hus with
  | [u0,u1],⟨q0,q1,_⟩=>
    obtain ⟨ok,t,h',hp,hko,hrt,hf,hw⟩:=obsRW_some (hΓ hk);obtain ⟨_,hfn⟩:=evalF_fn (XK noΓ_ok) rfl hp hko;refine (calls_read hfn (mem_z0 W) hw hf (us:=[u0,u1]) ⟨litI q0,litI q1,trivial⟩ ν).mono ?_;rintro e w' ⟨u,rfl,hu,hb⟩;exact ⟨u,rfl,rwOfT_rel hrt hu,hb⟩
 pan:=by intro args h q ok v h' he hp hok;obtain ⟨a,b,r,rfl,hk,rfl⟩:=knSp_inv he;simp [R.pickP] at hp
 ext:=by intro args h q he hlo;obtain ⟨a,b,r,rfl,hk,rfl⟩:=knSp_inv he;exact sees_ext _ h
theorem kn63_ok:AnyOK Tryz.prog 63 knSp:=kn_fn (enters_of entK 63 _ Tryz.func63 (by simp [Tryz.f63])) fun h=>by
 rcases kOf_some h with ⟨rfl,rfl,rfl⟩|⟨rfl,rfl,rfl⟩
 · exact k63a
 · exact k63b
end Go.WE
end
