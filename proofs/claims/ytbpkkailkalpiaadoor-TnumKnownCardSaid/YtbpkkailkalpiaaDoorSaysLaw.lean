/- What the law TnumSays comes to, and that it is true. -/
import Derived.Test.YtbpkkailkalpiaaDoorSaysA
namespace Go.WE
set_option linter.unusedVariables false
open Go Go.TL Go.Proofs

def saysF (pa pao pb pbo px pxo ps pso pd pdo pm pmo pl plo pr pro pz pzo pc pco pin pwi pj pjo pe peo pk cz ms : Bool) : Bool × Bool :=
  let t20 := cond (pa && pao) (pb && pbo) false
  let t26 := cond t20 (px && pxo) false
  let t42 := cond (ps && pso) (pd && pdo) false
  let t51 := cond t42 (pm && pmo) false
  let t52 := cond t26 t51 false
  let t68 := cond (pl && plo) (pr && pro) false
  let t76 := cond t68 (pz && pzo) false
  let t84 := cond t76 (pc && pco) false
  let t85 := cond t52 t84 false
  let t95 := cond pin pwi false
  let t101 := cond t95 (pj && pjo) false
  let t112 := cond t101 (pe && peo) false
  let t115 := cond t112 pk false
  let t116 := cond t85 t115 false
  let t119 := (!t42) || (cond cz true (!ms))
  (cond t116 t119 t119, cond t116 true false)

abbrev cutK : U := K 4294967295
abbrev byN (n : U) : Nat := (n &&& K 63).toNat
def saysB (av am bv bm v n : U) : Bool × Bool :=
  saysF (((lo av am &&& lo bv bm) &&& ~~~(aM av am bv bm)) == ((lo av am &&& lo bv bm) &&& ~~~(aM av am bv bm))) (aM av am bv bm == aM av am bv bm)
    (((lo av am ||| lo bv bm) &&& ~~~(oM av am bv bm)) == ((lo av am ||| lo bv bm) &&& ~~~(oM av am bv bm))) (oM av am bv bm == oM av am bv bm)
    (((av ^^^ bv) &&& ~~~(op2 am bm)) == ((av ^^^ bv) &&& ~~~(op2 am bm))) (op2 am bm == op2 am bm)
    (((lo av am + lo bv bm) &&& ~~~(sM av am bv bm)) == ((lo av am + lo bv bm) &&& ~~~(sM av am bv bm))) (sM av am bv bm == sM av am bv bm)
    (((lo av am - lo bv bm) &&& ~~~(dM av am bv bm)) == ((lo av am - lo bv bm) &&& ~~~(dM av am bv bm))) (dM av am bv bm == dM av am bv bm)
    (mulV av am bv bm == mulV av am bv bm) (mulM av am bv bm == mulM av am bv bm)
    ((av <<< byN n &&& ~~~(am <<< byN n)) == (av <<< byN n &&& ~~~(am <<< byN n))) ((am <<< byN n) == (am <<< byN n))
    ((av >>> byN n &&& ~~~(am >>> byN n)) == (av >>> byN n &&& ~~~(am >>> byN n))) ((am >>> byN n) == (am >>> byN n))
    ((BitVec.sshiftRight av (byN n) &&& ~~~(BitVec.sshiftRight am (byN n))) == (BitVec.sshiftRight av (byN n) &&& ~~~(BitVec.sshiftRight am (byN n)))) ((BitVec.sshiftRight am (byN n)) == (BitVec.sshiftRight am (byN n)))
    (((av &&& cutK) &&& ~~~(am &&& cutK)) == ((lo av am &&& lo cutK (K 0)) &&& ~~~(aM av am cutK (K 0)))) ((am &&& cutK) == aM av am cutK (K 0))
    (((av ^^^ v) &&& ~~~am == K 0) == ((av ^^^ v) &&& ~~~am == K 0)) ((cond (am &&& ~~~bm == K 0) ((bv ^^^ av) &&& ~~~bm == K 0) false) == (cond (am &&& ~~~bm == K 0) ((bv ^^^ av) &&& ~~~bm == K 0) false))
    ((av &&& ~~~(jM av am bv bm)) == (av &&& ~~~(jM av am bv bm))) (jM av am bv bm == jM av am bv bm)
    ((cond (mC av am bv bm != K 0) (K 0) (mV av am bv bm)) == (cond (mC av am bv bm != K 0) (K 0) (mV av am bv bm))) ((cond (mC av am bv bm != K 0) (K 0) (am &&& bm)) == (cond (mC av am bv bm != K 0) (K 0) (am &&& bm)))
    ((cond (mC av am bv bm != K 0) false true) == (cond (mC av am bv bm != K 0) false true)) (op2 am bm == K 0) (tz (av ||| am) + tz (bv ||| bm)).msb

theorem cut_m (av am : U) : aM av am cutK (K 0) = am &&& cutK := TL.ext fun i hi => by
  unfold aM
  rw [TL.K0]
  simp only [BitVec.getLsbD_and, BitVec.getLsbD_or, BitVec.getLsbD_not, BitVec.getLsbD_zero, Bool.or_false, hi, decide_true, Bool.true_and, lo_bit _ _ _ hi]
  generalize av.getLsbD i = a; generalize am.getLsbD i = b; generalize (BitVec.ofInt 64 4294967295).getLsbD i = c
  revert a b c; decide
theorem cut_v (av am : U) : (lo av am &&& lo cutK (K 0)) &&& ~~~(am &&& cutK) = (av &&& cutK) &&& ~~~(am &&& cutK) := TL.ext fun i hi => by
  rw [TL.K0]
  simp only [BitVec.getLsbD_and, BitVec.getLsbD_not, BitVec.getLsbD_zero, hi, decide_true, Bool.true_and, lo_bit _ _ _ hi]
  generalize av.getLsbD i = a; generalize am.getLsbD i = b; generalize (BitVec.ofInt 64 4294967295).getLsbD i = c
  revert a b c; decide

theorem saysB_true (av am bv bm v n : U) : saysB av am bv bm v n = (true, true) := by
  unfold saysB
  rw [cut_m, cut_v, tz_msb]
  simp only [beq_self_eq_true]
  cases op2 am bm == K 0 <;> rfl

set_option maxRecDepth 100000 in
theorem says_ev (av am bv bm v n : U) : (evalF cxT ΓD 400 20 3 [.t (tnT av am), .t (tnT bv bm), .t (.a (.i .u64 v)), .t (.a (.i .i64 n))] (H.tab 0 .u8 dbt)).res = some (.b (saysB av am bv bm v n).1, .t (.a (.b (saysB av am bv bm v n).2))) := by kernel_rfl
end Go.WE
