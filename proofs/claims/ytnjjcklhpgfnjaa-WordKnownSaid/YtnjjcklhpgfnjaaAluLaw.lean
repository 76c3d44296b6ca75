/- What WordAlu and WordJumps come to. -/
import Derived.Test.YtnjjcklhpgfnjaaC
namespace Go.Proofs.Ytnjjcklhpgfnjaa.Con
open Go Go.VE
set_option linter.unusedVariables false
def alu3 (op : U) (x : Bool) (a : U) (b : U) : Option (A × V) :=
  let t0 : U := aluV x op a b
  let t1 : Bool := Go.VE.aluOk op
  let t2 : Bool := cond (t0 == t0) (t1 == t1) false
  let t3 : Bool := cond t2 true false
  some (.tt, (.a (.b t3)))
def jump4 (op : U) (x : Bool) (a : U) (b : U) : Option (A × V) :=
  let t0 : Bool := jumpV x op a b
  let t1 : Bool := Go.VE.jumpOk op
  let t2 : Bool := cond (t0 == t0) (t1 == t1) false
  let t3 : U := Go.VE.swapV op x a
  let t4 : Bool := cond t2 (t3 == t3) false
  let t5 : Bool := Go.VE.swapOk op
  let t6 : Bool := cond t4 (t5 == t5) false
  let t7 : Bool := cond t6 true false
  some (.tt, (.a (.b t7)))
theorem alu3_true (op : U) (x : Bool) (a b : U) : ∃ o, alu3 op x a b = some (o, .a (.b true)) ∧ okB o = true :=
  ⟨.tt, by simp only [alu3, beq_self_eq_true, cond_true], rfl⟩
theorem jump4_true (op : U) (x : Bool) (a b : U) : ∃ o, jump4 op x a b = some (o, .a (.b true)) ∧ okB o = true :=
  ⟨.tt, by simp only [jump4, beq_self_eq_true, cond_true], rfl⟩
end Go.Proofs.Ytnjjcklhpgfnjaa.Con
