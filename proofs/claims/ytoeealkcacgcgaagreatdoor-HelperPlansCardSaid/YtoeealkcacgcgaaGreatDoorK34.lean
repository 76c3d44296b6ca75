/- A part of a proof of the helpers' law; no condition of its own. -/
import Derived.Test.YtoeealkcacgcgaaGreatDoorK16
import Derived.Test.YtoeealkcacgcgaaGreatDoorK17
set_option linter.unusedVariables false
set_option maxRecDepth 100000
noncomputable section
namespace Go.WE
open Go Go.Proofs
def xP (k:Nat):Int:=(k:Int)-128
def ldxR (s:FSt) (k:Nat):U:=readR s.g (K (xP k)) (K 8)
def nzB (r:U) (a:U):U:=cond (r != K 0) (K 0) a
def nzT (r:U):T :=.st [.a (.i .i64 (nzB r (K 1))),.a (.lit .i64 0),.a (.lit .i64 0),.a (.lit .i64 0),.st [.st [.a (.lit .u64 0),.a (.i .u64 (nzB r (K 18446744073709551615)))],.st [.a (.lit .u64 0),.a (.i .u64 (nzB r (K 18446744073709551615)))],.st [.a (.i .i64 (nzB r (K (-9223372036854775808)))),.a (.i .i64 (nzB r (K 9223372036854775807)))]]]
def nzW (r:U):RW:=⟨nzB r (K 1),K 0,K 0,K 0,K 0,nzB r (K 18446744073709551615),K 0,nzB r (K 18446744073709551615),nzB r (K (-9223372036854775808)),nzB r (K 9223372036854775807)⟩
def zRT:T :=.st [.a (.lit .i64 0),.a (.lit .i64 0),.a (.lit .i64 0),.a (.lit .i64 0),.st [.st [.a (.lit .u64 0),.a (.lit .u64 0)],.st [.a (.lit .u64 0),.a (.lit .u64 0)],.st [.a (.lit .i64 0),.a (.lit .i64 0)]]]
def ldxT (s:FSt) (k:Nat):V:=match k % 8 with
 | 0 =>.tup [(ldW s (k / 8)).t,.a (.i .i64 (ldE s (k / 8)))]
 | _ =>.tup [nzT (ldxR s k),.a (.i .i64 (cond (ldxR s k != K 0) (ldxR s k) (K 0)))]
def ldxT22 (s:FSt) (k:Nat):V:=match Nat.blt 120 k with
 | true =>.tup [zRT,.a (.lit .i64 17)]
 | false=>ldxT s k
def ldxW (s:FSt) (k:Nat):RW:=match k % 8 with
 | 0=>ldW s (k / 8)
 | _=>nzW (ldxR s k)
def ldxE (s:FSt) (k:Nat):U:=match k % 8 with
 | 0=>ldE s (k / 8)
 | _=>cond (ldxR s k != K 0) (ldxR s k) (K 0)
theorem ldx_lit (s:FSt):∀k:Nat,k<128->(resM (evS 69 s [one (.lit .i64 (xP k)),lt8])).map (fun p=>(p.1,p.2.1,p.2.2.1))=some (.tt,ldxT s k,[])
 | 0,_=>by kernel_rfl|1,_=>by kernel_rfl|2,_=>by kernel_rfl|3,_=>by kernel_rfl|4,_=>by kernel_rfl|5,_=>by kernel_rfl|6,_=>by kernel_rfl|7,_=>by kernel_rfl|8,_=>by kernel_rfl|9,_=>by kernel_rfl|10,_=>by kernel_rfl|11,_=>by kernel_rfl
 | 12,_=>by kernel_rfl|13,_=>by kernel_rfl|14,_=>by kernel_rfl|15,_=>by kernel_rfl|16,_=>by kernel_rfl|17,_=>by kernel_rfl|18,_=>by kernel_rfl|19,_=>by kernel_rfl|20,_=>by kernel_rfl|21,_=>by kernel_rfl|22,_=>by kernel_rfl|23,_=>by kernel_rfl
 | 24,_=>by kernel_rfl|25,_=>by kernel_rfl|26,_=>by kernel_rfl|27,_=>by kernel_rfl|28,_=>by kernel_rfl|29,_=>by kernel_rfl|30,_=>by kernel_rfl|31,_=>by kernel_rfl|32,_=>by kernel_rfl|33,_=>by kernel_rfl|34,_=>by kernel_rfl|35,_=>by kernel_rfl
 | 36,_=>by kernel_rfl|37,_=>by kernel_rfl|38,_=>by kernel_rfl|39,_=>by kernel_rfl|40,_=>by kernel_rfl|41,_=>by kernel_rfl|42,_=>by kernel_rfl|43,_=>by kernel_rfl|44,_=>by kernel_rfl|45,_=>by kernel_rfl|46,_=>by kernel_rfl|47,_=>by kernel_rfl
 | 48,_=>by kernel_rfl|49,_=>by kernel_rfl|50,_=>by kernel_rfl|51,_=>by kernel_rfl|52,_=>by kernel_rfl|53,_=>by kernel_rfl|54,_=>by kernel_rfl|55,_=>by kernel_rfl|56,_=>by kernel_rfl|57,_=>by kernel_rfl|58,_=>by kernel_rfl|59,_=>by kernel_rfl
 | 60,_=>by kernel_rfl|61,_=>by kernel_rfl|62,_=>by kernel_rfl|63,_=>by kernel_rfl|64,_=>by kernel_rfl|65,_=>by kernel_rfl|66,_=>by kernel_rfl|67,_=>by kernel_rfl|68,_=>by kernel_rfl|69,_=>by kernel_rfl|70,_=>by kernel_rfl|71,_=>by kernel_rfl
 | 72,_=>by kernel_rfl|73,_=>by kernel_rfl|74,_=>by kernel_rfl|75,_=>by kernel_rfl|76,_=>by kernel_rfl|77,_=>by kernel_rfl|78,_=>by kernel_rfl|79,_=>by kernel_rfl|80,_=>by kernel_rfl|81,_=>by kernel_rfl|82,_=>by kernel_rfl|83,_=>by kernel_rfl
 | 84,_=>by kernel_rfl|85,_=>by kernel_rfl|86,_=>by kernel_rfl|87,_=>by kernel_rfl|88,_=>by kernel_rfl|89,_=>by kernel_rfl|90,_=>by kernel_rfl|91,_=>by kernel_rfl|92,_=>by kernel_rfl|93,_=>by kernel_rfl|94,_=>by kernel_rfl|95,_=>by kernel_rfl
 | 96,_=>by kernel_rfl|97,_=>by kernel_rfl|98,_=>by kernel_rfl|99,_=>by kernel_rfl|100,_=>by kernel_rfl|101,_=>by kernel_rfl|102,_=>by kernel_rfl|103,_=>by kernel_rfl|104,_=>by kernel_rfl|105,_=>by kernel_rfl|106,_=>by kernel_rfl|107,_=>by kernel_rfl
 | 108,_=>by kernel_rfl|109,_=>by kernel_rfl|110,_=>by kernel_rfl|111,_=>by kernel_rfl|112,_=>by kernel_rfl|113,_=>by kernel_rfl|114,_=>by kernel_rfl|115,_=>by kernel_rfl|116,_=>by kernel_rfl|117,_=>by kernel_rfl|118,_=>by kernel_rfl|119,_=>by kernel_rfl
 | 120,_=>by kernel_rfl|121,_=>by kernel_rfl|122,_=>by kernel_rfl|123,_=>by kernel_rfl|124,_=>by kernel_rfl|125,_=>by kernel_rfl|126,_=>by kernel_rfl|127,_=>by kernel_rfl|n+128,h=>absurd h (by omega)
theorem ldx22_lit (s:FSt):∀k:Nat,k<128->(resM (evS 70 s [one (.lit .i64 (xP k)),lt8])).map (fun p=>(p.1,p.2.1,p.2.2.1))=some (.tt,ldxT22 s k,[])
 | 0,_=>by kernel_rfl|1,_=>by kernel_rfl|2,_=>by kernel_rfl|3,_=>by kernel_rfl|4,_=>by kernel_rfl|5,_=>by kernel_rfl|6,_=>by kernel_rfl|7,_=>by kernel_rfl|8,_=>by kernel_rfl|9,_=>by kernel_rfl|10,_=>by kernel_rfl|11,_=>by kernel_rfl
 | 12,_=>by kernel_rfl|13,_=>by kernel_rfl|14,_=>by kernel_rfl|15,_=>by kernel_rfl|16,_=>by kernel_rfl|17,_=>by kernel_rfl|18,_=>by kernel_rfl|19,_=>by kernel_rfl|20,_=>by kernel_rfl|21,_=>by kernel_rfl|22,_=>by kernel_rfl|23,_=>by kernel_rfl
 | 24,_=>by kernel_rfl|25,_=>by kernel_rfl|26,_=>by kernel_rfl|27,_=>by kernel_rfl|28,_=>by kernel_rfl|29,_=>by kernel_rfl|30,_=>by kernel_rfl|31,_=>by kernel_rfl|32,_=>by kernel_rfl|33,_=>by kernel_rfl|34,_=>by kernel_rfl|35,_=>by kernel_rfl
 | 36,_=>by kernel_rfl|37,_=>by kernel_rfl|38,_=>by kernel_rfl|39,_=>by kernel_rfl|40,_=>by kernel_rfl|41,_=>by kernel_rfl|42,_=>by kernel_rfl|43,_=>by kernel_rfl|44,_=>by kernel_rfl|45,_=>by kernel_rfl|46,_=>by kernel_rfl|47,_=>by kernel_rfl
 | 48,_=>by kernel_rfl|49,_=>by kernel_rfl|50,_=>by kernel_rfl|51,_=>by kernel_rfl|52,_=>by kernel_rfl|53,_=>by kernel_rfl|54,_=>by kernel_rfl|55,_=>by kernel_rfl|56,_=>by kernel_rfl|57,_=>by kernel_rfl|58,_=>by kernel_rfl|59,_=>by kernel_rfl
 | 60,_=>by kernel_rfl|61,_=>by kernel_rfl|62,_=>by kernel_rfl|63,_=>by kernel_rfl|64,_=>by kernel_rfl|65,_=>by kernel_rfl|66,_=>by kernel_rfl|67,_=>by kernel_rfl|68,_=>by kernel_rfl|69,_=>by kernel_rfl|70,_=>by kernel_rfl|71,_=>by kernel_rfl
 | 72,_=>by kernel_rfl|73,_=>by kernel_rfl|74,_=>by kernel_rfl|75,_=>by kernel_rfl|76,_=>by kernel_rfl|77,_=>by kernel_rfl|78,_=>by kernel_rfl|79,_=>by kernel_rfl|80,_=>by kernel_rfl|81,_=>by kernel_rfl|82,_=>by kernel_rfl|83,_=>by kernel_rfl
 | 84,_=>by kernel_rfl|85,_=>by kernel_rfl|86,_=>by kernel_rfl|87,_=>by kernel_rfl|88,_=>by kernel_rfl|89,_=>by kernel_rfl|90,_=>by kernel_rfl|91,_=>by kernel_rfl|92,_=>by kernel_rfl|93,_=>by kernel_rfl|94,_=>by kernel_rfl|95,_=>by kernel_rfl
 | 96,_=>by kernel_rfl|97,_=>by kernel_rfl|98,_=>by kernel_rfl|99,_=>by kernel_rfl|100,_=>by kernel_rfl|101,_=>by kernel_rfl|102,_=>by kernel_rfl|103,_=>by kernel_rfl|104,_=>by kernel_rfl|105,_=>by kernel_rfl|106,_=>by kernel_rfl|107,_=>by kernel_rfl
 | 108,_=>by kernel_rfl|109,_=>by kernel_rfl|110,_=>by kernel_rfl|111,_=>by kernel_rfl|112,_=>by kernel_rfl|113,_=>by kernel_rfl|114,_=>by kernel_rfl|115,_=>by kernel_rfl|116,_=>by kernel_rfl|117,_=>by kernel_rfl|118,_=>by kernel_rfl|119,_=>by kernel_rfl
 | 120,_=>by kernel_rfl|121,_=>by kernel_rfl|122,_=>by kernel_rfl|123,_=>by kernel_rfl|124,_=>by kernel_rfl|125,_=>by kernel_rfl|126,_=>by kernel_rfl|127,_=>by kernel_rfl|n+128,h=>absurd h (by omega)
theorem ldx_rel {s:FSt} {k:Nat} {ν:Nu} {u:Value} (h:(ldxT s k).rel ν u):(V.tup [(ldxW s k).t,.a (.i .i64 (ldxE s k))]).rel ν u:=by
 unfold ldxT at h;unfold ldxW ldxE;split at h
 · exact h
 · obtain ⟨xs,rfl,hx⟩:=h;refine ⟨xs,rfl,?_⟩
   match xs,hx with
   | ⟨[u1,u2]⟩,⟨r1,r2,_⟩=>exact ⟨rwOfT_rel (t:=nzT (ldxR s k)) rfl r1,r2,trivial⟩
theorem ldx22_17 (s:FSt):∀k:Nat,k<128->120<k->ldxW s k=nzW (K 17)/\ldxE s k=K 17
 | 0,_,h=>absurd h (by decide)|1,_,h=>absurd h (by decide)|2,_,h=>absurd h (by decide)|3,_,h=>absurd h (by decide)|4,_,h=>absurd h (by decide)|5,_,h=>absurd h (by decide)|6,_,h=>absurd h (by decide)|7,_,h=>absurd h (by decide)|8,_,h=>absurd h (by decide)|9,_,h=>absurd h (by decide)|10,_,h=>absurd h (by decide)|11,_,h=>absurd h (by decide)|12,_,h=>absurd h (by decide)|13,_,h=>absurd h (by decide)|14,_,h=>absurd h (by decide)|15,_,h=>absurd h (by decide)|16,_,h=>absurd h (by decide)|17,_,h=>absurd h (by decide)|18,_,h=>absurd h (by decide)|19,_,h=>absurd h (by decide)|20,_,h=>absurd h (by decide)|21,_,h=>absurd h (by decide)|22,_,h=>absurd h (by decide)|23,_,h=>absurd h (by decide)|24,_,h=>absurd h (by decide)|25,_,h=>absurd h (by decide)|26,_,h=>absurd h (by decide)|27,_,h=>absurd h (by decide)|28,_,h=>absurd h (by decide)|29,_,h=>absurd h (by decide)|30,_,h=>absurd h (by decide)|31,_,h=>absurd h (by decide)|32,_,h=>absurd h (by decide)|33,_,h=>absurd h (by decide)|34,_,h=>absurd h (by decide)|35,_,h=>absurd h (by decide)|36,_,h=>absurd h (by decide)|37,_,h=>absurd h (by decide)|38,_,h=>absurd h (by decide)|39,_,h=>absurd h (by decide)|40,_,h=>absurd h (by decide)|41,_,h=>absurd h (by decide)|42,_,h=>absurd h (by decide)|43,_,h=>absurd h (by decide)|44,_,h=>absurd h (by decide)|45,_,h=>absurd h (by decide)|46,_,h=>absurd h (by decide)|47,_,h=>absurd h (by decide)|48,_,h=>absurd h (by decide)|49,_,h=>absurd h (by decide)|50,_,h=>absurd h (by decide)|51,_,h=>absurd h (by decide)|52,_,h=>absurd h (by decide)|53,_,h=>absurd h (by decide)|54,_,h=>absurd h (by decide)|55,_,h=>absurd h (by decide)|56,_,h=>absurd h (by decide)|57,_,h=>absurd h (by decide)|58,_,h=>absurd h (by decide)|59,_,h=>absurd h (by decide)|60,_,h=>absurd h (by decide)|61,_,h=>absurd h (by decide)|62,_,h=>absurd h (by decide)|63,_,h=>absurd h (by decide)|64,_,h=>absurd h (by decide)|65,_,h=>absurd h (by decide)|66,_,h=>absurd h (by decide)|67,_,h=>absurd h (by decide)|68,_,h=>absurd h (by decide)|69,_,h=>absurd h (by decide)|70,_,h=>absurd h (by decide)|71,_,h=>absurd h (by decide)|72,_,h=>absurd h (by decide)|73,_,h=>absurd h (by decide)|74,_,h=>absurd h (by decide)|75,_,h=>absurd h (by decide)|76,_,h=>absurd h (by decide)|77,_,h=>absurd h (by decide)|78,_,h=>absurd h (by decide)|79,_,h=>absurd h (by decide)|80,_,h=>absurd h (by decide)|81,_,h=>absurd h (by decide)|82,_,h=>absurd h (by decide)|83,_,h=>absurd h (by decide)|84,_,h=>absurd h (by decide)|85,_,h=>absurd h (by decide)|86,_,h=>absurd h (by decide)|87,_,h=>absurd h (by decide)|88,_,h=>absurd h (by decide)|89,_,h=>absurd h (by decide)|90,_,h=>absurd h (by decide)|91,_,h=>absurd h (by decide)|92,_,h=>absurd h (by decide)|93,_,h=>absurd h (by decide)|94,_,h=>absurd h (by decide)|95,_,h=>absurd h (by decide)|96,_,h=>absurd h (by decide)|97,_,h=>absurd h (by decide)|98,_,h=>absurd h (by decide)|99,_,h=>absurd h (by decide)|100,_,h=>absurd h (by decide)|101,_,h=>absurd h (by decide)|102,_,h=>absurd h (by decide)|103,_,h=>absurd h (by decide)|104,_,h=>absurd h (by decide)|105,_,h=>absurd h (by decide)|106,_,h=>absurd h (by decide)|107,_,h=>absurd h (by decide)|108,_,h=>absurd h (by decide)|109,_,h=>absurd h (by decide)|110,_,h=>absurd h (by decide)|111,_,h=>absurd h (by decide)|112,_,h=>absurd h (by decide)|113,_,h=>absurd h (by decide)|114,_,h=>absurd h (by decide)|115,_,h=>absurd h (by decide)|116,_,h=>absurd h (by decide)|117,_,h=>absurd h (by decide)|118,_,h=>absurd h (by decide)|119,_,h=>absurd h (by decide)|120,_,h=>absurd h (by decide)
 | 121,_,_=>⟨rfl,rfl⟩|122,_,_=>⟨rfl,rfl⟩|123,_,_=>⟨rfl,rfl⟩|124,_,_=>⟨rfl,rfl⟩|125,_,_=>⟨rfl,rfl⟩|126,_,_=>⟨rfl,rfl⟩|127,_,_=>⟨rfl,rfl⟩|n+128,h,_=>absurd h (by omega)
theorem ldx22_rel {s:FSt} {k:Nat} (hk:k<128) {ν:Nu} {u:Value} (h:(ldxT22 s k).rel ν u):(V.tup [(ldxW s k).t,.a (.i .i64 (ldxE s k))]).rel ν u:=by
 unfold ldxT22 at h;split at h
 · rename_i hb;obtain ⟨e1,e2⟩:=ldx22_17 s k hk (nL hb);rw [e1,e2];obtain ⟨xs,rfl,hx⟩:=h;refine ⟨xs,rfl,?_⟩
   match xs,hx with
   | ⟨[u1,u2]⟩,⟨r1,r2,_⟩=>
     refine ⟨rwOfT_rel (t:=zRT) rfl r1,?_,trivial⟩;have r2:(A.lit .i64 17).rel ν u2:=r2;show (A.i .i64 (K 17)).rel ν u2;simp only [A.rel] at r2 ⊢;rw [r2.1];rfl
 · exact ldx_rel h
def isPlc (x:U):Bool:=(List.range 128).any fun k=>x==K (xP k)
def plcN (x:U):Nat:=(x+K 128).toNat
theorem isPlc_some {x:U} (h:isPlc x=true):∃k,k<128/\x=K (xP k)/\plcN x=k:=by
 unfold isPlc at h;rw [List.any_eq_true] at h;obtain ⟨k,hk,e⟩:=h;have hk:=List.mem_range.1 hk;have e:x=K (xP k):=by simpa using e
 refine ⟨k,hk,e,?_⟩;rw [e];exact (show ∀k:Fin 128,plcN (K (xP k.val))=k.val by decide +kernel) ⟨k,hk⟩
theorem xP_val:∀k:Fin 128,vof .i64 (K (xP k.val))=xP k.val/\IntKind.i64.wrap (xP k.val)=xP k.val:=by decide +kernel
theorem xP_rel {ν ν':Nu} {ax:A} {x:U} {k:Nat} (hk:k<128) (hx:i64Of ax=some x) (e:x=K (xP k)) {u:Value} (h:ax.rel ν u):(A.lit .i64 (xP k)).rel ν' u:=by
 have:=i64Of_rel hx h;simp only [A.rel];obtain ⟨h1,h2⟩:=xP_val ⟨k,hk⟩;rw [e,h1] at this;exact ⟨this,h2⟩
theorem SaysR.weak {f:Nat} {s:FSt} {rest:List V} {v v':V} (h:SaysR f s rest v) (hv:∀ν u,v.rel ν u->v'.rel ν u):SaysR f s rest v':=⟨h.1,fun h' id hs=>fn_weak (h.2 h' id hs) hv⟩
def ldX (s:FSt):List V->Option (A×V)
 | [.t (.a ax),.t (.a (.lit .i64 n))]=>match i64Of ax,decide (n=8) with
   | some x,true=>some (.b (isPlc x),.tup [(ldxW s (plcN x)).t,.a (.i .i64 (ldxE s (plcN x)))])
   | _,_=>none
 | _=>none
theorem ldxT_free (s:FSt) (k:Nat):(ldxT s k).free=true:=by
 unfold ldxT;split<;>rfl
theorem ldx_ok {Γ:Gam} (hΓ:ΓOK Tryz.prog Γ):ΓOK Tryz.prog (rdΓ 69 ldX Γ):=by
 refine rdΓ_ok (fun s rest ok v hs hok => ?_) hΓ;unfold ldX at hs;split at hs
 · split at hs
   · rename_i h1 h3;cases hs;have hn:=of_decide_eq_true h3;subst hn;obtain ⟨k,hk,e,e2⟩:=isPlc_some hok;rw [e2];refine (saysR_ev rfl (ldx_lit s k hk) rfl (ldxT_free s k) fun ν ν' us hu => ?_).weak fun ν u=>ldx_rel
     match us,hu with
     | [u1,u2],⟨r1,r2,_⟩=>exact ⟨xP_rel (ν:=ν) (ν':=ν') hk h1 e r1,lt8_rel (ν:=ν) (ν':=ν') r2,trivial⟩
   · cases hs
 · cases hs
theorem ldx22_ok {Γ:Gam} (hΓ:ΓOK Tryz.prog Γ):ΓOK Tryz.prog (rdΓ 70 ldX Γ):=by
 refine rdΓ_ok (fun s rest ok v hs hok => ?_) hΓ;unfold ldX at hs;split at hs
 · split at hs
   · rename_i h1 h3;cases hs;have hn:=of_decide_eq_true h3;subst hn;obtain ⟨k,hk,e,e2⟩:=isPlc_some hok;rw [e2];refine (saysR_ev rfl (ldx22_lit s k hk) rfl (by unfold ldxT22;split;rfl;exact ldxT_free s k) fun ν ν' us hu => ?_).weak fun ν u=>ldx22_rel hk
     match us,hu with
     | [u1,u2],⟨r1,r2,_⟩=>exact ⟨xP_rel (ν:=ν) (ν':=ν') hk h1 e r1,lt8_rel (ν:=ν) (ν':=ν') r2,trivial⟩
   · cases hs
 · cases hs
end Go.WE
end
