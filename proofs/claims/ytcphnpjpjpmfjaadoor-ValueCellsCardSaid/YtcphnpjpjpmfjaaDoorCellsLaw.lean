/- The law ValueCells, in eight cases. -/
import Derived.Test.YtcphnpjpjpmfjaaDoorCaught
namespace Go.WE
set_option linter.unusedVariables false
open Go Go.Proofs

def atT (n off : U) : U := n + (cond (BitVec.slt (BitVec.srem off (K 400)) (K 0)) (BitVec.srem off (K 400) + K 400) (BitVec.srem off (K 400)) - K 200)
def fitT (lim s : Int) (n off : U) : Bool := cond (BitVec.ule (atT n off) (K lim)) ((atT n off % K s) == K 0) false

def cellsT (j lim s : Int) (a n off v : U) : Bool × Bool :=
  let t3 := atT n off
  let t6 := fitT lim s n off
  let t12 : Bool := ((pickT 4 a == K j) && t6) && t6
  let t13 : Bool := cond (t3 == t3) (t3 == t3) false
  let t14 : Bool := cond t13 true false
  let t15 : Bool := cond t14 true false
  let t16 : Bool := cond t15 true false
  let t17 : Bool := cond t16 true false
  let t18 : Bool := cond t17 true false
  let t19 : Bool := cond t18 true false
  let t20 : Bool := cond t19 true false
  let t21 : Bool := cond t20 (v == v) false
  let t22 : Bool := cond t21 t12 t12
  let t23 : Bool := cond (!t6) t12 t22
  let t24 : Bool := cond (!(t6 == true)) t12 t23
  let t25 : Bool := cond t21 true false
  let t26 : Bool := cond (!t6) false t25
  let t27 : Bool := cond (!(t6 == true)) false t26
  (t24, t27)

def cellsF (j lim s : Int) (a n off v : U) : Bool × Bool :=
  let t6 := fitT lim s n off
  let t7 : Bool := !(t6 == false)
  let t13 : Bool := ((pickT 4 a == K j) && (!t6)) && (!t6)
  let t14 : Bool := cond (!t6) t13 t13
  let t15 : Bool := cond t7 t13 t14
  let t16 : Bool := cond (!t6) true false
  let t17 : Bool := cond t7 false t16
  (t15, t17)

abbrev cellsArgs (a n off v : U) : List V := [.t (.a (.i .i64 a)), .t (.a (.i .u64 n)), .t (.a (.i .i64 off)), .t (.a (.i .u64 v))]

theorem ev0T (a n off v : U) : (evalF cxV (mustΓ true (pinΓ 6 (pinS 4 0) noΓ)) 400 20 3 (cellsArgs a n off v) H.none).res = some (.b (cellsT 0 7 1 a n off v).1, .t (.a (.b (cellsT 0 7 1 a n off v).2))) := by kernel_rfl
theorem ev0F (a n off v : U) : (evalF cxV (mustΓ false (pinΓ 6 (pinS 4 0) noΓ)) 400 20 3 (cellsArgs a n off v) H.none).res = some (.b (cellsF 0 7 1 a n off v).1, .t (.a (.b (cellsF 0 7 1 a n off v).2))) := by kernel_rfl
theorem ev1T (a n off v : U) : (evalF cxV (mustΓ true (pinΓ 6 (pinS 4 1) noΓ)) 400 20 3 (cellsArgs a n off v) H.none).res = some (.b (cellsT 1 6 2 a n off v).1, .t (.a (.b (cellsT 1 6 2 a n off v).2))) := by kernel_rfl
theorem ev1F (a n off v : U) : (evalF cxV (mustΓ false (pinΓ 6 (pinS 4 1) noΓ)) 400 20 3 (cellsArgs a n off v) H.none).res = some (.b (cellsF 1 6 2 a n off v).1, .t (.a (.b (cellsF 1 6 2 a n off v).2))) := by kernel_rfl
theorem ev2T (a n off v : U) : (evalF cxV (mustΓ true (pinΓ 6 (pinS 4 2) noΓ)) 400 20 3 (cellsArgs a n off v) H.none).res = some (.b (cellsT 2 4 4 a n off v).1, .t (.a (.b (cellsT 2 4 4 a n off v).2))) := by kernel_rfl
theorem ev2F (a n off v : U) : (evalF cxV (mustΓ false (pinΓ 6 (pinS 4 2) noΓ)) 400 20 3 (cellsArgs a n off v) H.none).res = some (.b (cellsF 2 4 4 a n off v).1, .t (.a (.b (cellsF 2 4 4 a n off v).2))) := by kernel_rfl
theorem ev3T (a n off v : U) : (evalF cxV (mustΓ true (pinΓ 6 (pinS 4 3) noΓ)) 400 20 3 (cellsArgs a n off v) H.none).res = some (.b (cellsT 3 0 8 a n off v).1, .t (.a (.b (cellsT 3 0 8 a n off v).2))) := by kernel_rfl
theorem ev3F (a n off v : U) : (evalF cxV (mustΓ false (pinΓ 6 (pinS 4 3) noΓ)) 400 20 3 (cellsArgs a n off v) H.none).res = some (.b (cellsF 3 0 8 a n off v).1, .t (.a (.b (cellsF 3 0 8 a n off v).2))) := by kernel_rfl

theorem cellsT_ok {j lim s : Int} {a n off v : U} (hj : pickT 4 a = K j) (hf : fitT lim s n off = true) : (cellsT j lim s a n off v).1 = true ∧ (cellsT j lim s a n off v).2 = true := by
  simp [cellsT, hj, hf]
theorem cellsF_ok {j lim s : Int} {a n off v : U} (hj : pickT 4 a = K j) (hf : fitT lim s n off = false) : (cellsF j lim s a n off v).1 = true ∧ (cellsF j lim s a n off v).2 = true := by
  simp [cellsF, hj, hf]
end Go.WE
