/- What the law TnumSound comes to, and that it is true. -/
import Derived.Test.YtbpkkailkalpiaaDoorTz
namespace Go.WE
open Go Go.TL Go.Proofs

def soundF (p3 p7 p15 p21 p28 p36 p41 p44 p52 p57 p62 p67 pz pm : Bool) : Bool × Bool :=
  let t8 := cond p3 true p7
  let t29 := cond p21 p28 false
  let t30 := cond p15 t29 false
  let t45 := cond p41 p44 false
  let t46 := cond p36 t45 false
  let t47 := cond t30 t46 false
  let t68 := cond p62 p67 false
  let t69 := cond p57 t68 false
  let t70 := cond p52 t69 false
  let t71 := cond t47 t70 false
  let t73 := cond pz true (!pm)
  let t74 := cond p21 t73 true
  let t75 := cond p15 t74 true
  let t76 := cond p41 t75 t75
  let t77 := cond p36 t76 t75
  let t78 := cond p62 t77 t77
  let t79 := cond p57 t78 t77
  let t80 := cond p52 t79 t77
  let t81 := cond t71 t80 t80
  let t82 := cond t8 true t81
  let t83 := cond t71 true false
  let t84 := cond t8 false t83
  (t82, t84)

def inn (v m x : U) : U := (v ^^^ x) &&& ~~~m
def by1 (n : U) : Nat := (n &&& K 63).toNat
def by2 (n : U) : Nat := (n % K 64).toNat
def op2 (am bm : U) : U := K 0 ||| am ||| bm

def soundB (av am bv bm v w n : U) : Bool × Bool :=
  soundF (!(inn av am (sm av am v) == K 0)) (!(inn bv bm (sm bv bm w) == K 0))
    (inn (lo av am + lo bv bm &&& ~~~(sM av am bv bm)) (sM av am bv bm) (sm av am v + sm bv bm w) == K 0)
    (inn (lo av am - lo bv bm &&& ~~~(dM av am bv bm)) (dM av am bv bm) (sm av am v - sm bv bm w) == K 0)
    (inn (mulV av am bv bm) (mulM av am bv bm) (sm av am v * sm bv bm w) == K 0)
    (inn ((lo av am &&& lo bv bm) &&& ~~~(aM av am bv bm)) (aM av am bv bm) (sm av am v &&& sm bv bm w) == K 0)
    (inn ((lo av am ||| lo bv bm) &&& ~~~(oM av am bv bm)) (oM av am bv bm) (sm av am v ||| sm bv bm w) == K 0)
    (inn ((av ^^^ bv) &&& ~~~(op2 am bm)) (op2 am bm) (sm av am v ^^^ sm bv bm w) == K 0)
    (inn (av <<< by1 n &&& ~~~(am <<< by1 n)) (am <<< by1 n) (sm av am v <<< by2 n) == K 0)
    (inn (av >>> by1 n &&& ~~~(am >>> by1 n)) (am >>> by1 n) (sm av am v >>> by2 n) == K 0)
    (inn (BitVec.sshiftRight av (by1 n) &&& ~~~(BitVec.sshiftRight am (by1 n))) (BitVec.sshiftRight am (by1 n)) (BitVec.sshiftRight (sm av am v) (by2 n)) == K 0)
    (inn ((av &&& K 4294967295) &&& ~~~(am &&& K 4294967295)) (am &&& K 4294967295) (sm av am v % K 4294967296) == K 0)
    (op2 am bm == K 0) (tz (av ||| am) + tz (bv ||| bm)).msb

theorem beq_of {x : U} (h : x = K 0) : (x == K 0) = true := beq_iff_eq.2 h

theorem soundB_true (av am bv bm v w n : U) : soundB av am bv bm v w n = (true, true) := by
  have hb : by2 n = by1 n := mod64 n
  unfold soundB inn op2
  rw [hb, mod32, beq_of (in_self av am v), beq_of (in_self bv bm w), beq_of (in_add av am bv bm v w), beq_of (in_sub av am bv bm v w), beq_of (in_mul av am bv bm v w), beq_of (in_and av am bv bm v w),
    beq_of (in_or av am bv bm v w), beq_of (in_xor av am bv bm v w), beq_of (in_shl av am v _), beq_of (in_shr av am v _), beq_of (in_sar av am v _), beq_of (in_cut av am v _), tz_msb]
  cases (K 0 ||| am ||| bm) == K 0 <;> rfl

set_option maxRecDepth 100000 in
theorem sound_ev (av am bv bm v w n : U) : (evalF cxT ΓT 400 20 5 [.t (.st [.a (.i .u64 av), .a (.i .u64 am)]), .t (.st [.a (.i .u64 bv), .a (.i .u64 bm)]), .t (.a (.i .u64 v)), .t (.a (.i .u64 w)), .t (.a (.i .i64 n))] (H.tab 0 .u8 dbt)).res =
    some (.b (soundB av am bv bm v w n).1, .t (.a (.b (soundB av am bv bm v w n).2))) := by kernel_rfl
end Go.WE
