/- What WordOrders comes to. -/
import Derived.Test.YtnjjcklhpgfnjaaOps
namespace Go.Proofs.Ytnjjcklhpgfnjaa.Con
open Go Go.VE
set_option linter.unusedVariables false
def ord6 (x : Bool) (a : U) (b : U) (c : U) : Option (A × V) :=
  let t0 : Bool := jumpV x (K 16) a b
  let t1 : Bool := Go.VE.jumpOk (K 16)
  let t2 : Bool := cond t0 t1 false
  let t3 : Bool := jumpV x (K 80) a b
  let t4 : Bool := Go.VE.jumpOk (K 80)
  let t5 : Bool := cond t3 t4 false
  let t6 : Bool := jumpV x (K 160) a b
  let t7 : Bool := Go.VE.jumpOk (K 160)
  let t8 : Bool := cond t6 t7 false
  let t9 : Bool := jumpV x (K 32) a b
  let t10 : Bool := Go.VE.jumpOk (K 32)
  let t11 : Bool := cond t9 t10 false
  let t12 : Bool := cond t8 t11 false
  let t13 : Bool := cond t8 true t11
  let t14 : Bool := cond t12 true (t13 == t2)
  let t15 : Bool := jumpV x (K 176) a b
  let t16 : Bool := Go.VE.jumpOk (K 176)
  let t17 : Bool := cond t15 t16 false
  let t18 : Bool := cond t8 true t2
  let t19 : Bool := cond t14 true (!(t17 == t18))
  let t20 : Bool := jumpV x (K 48) a b
  let t21 : Bool := Go.VE.jumpOk (K 48)
  let t22 : Bool := cond t20 t21 false
  let t23 : Bool := cond t11 true t2
  let t24 : Bool := cond t19 true (!(t22 == t23))
  let t25 : Bool := jumpV x (K 160) b a
  let t26 : Bool := cond t25 t7 false
  let t27 : Bool := cond t24 true (!(t11 == t26))
  let t28 : Bool := jumpV x (K 192) a b
  let t29 : Bool := Go.VE.jumpOk (K 192)
  let t30 : Bool := cond t28 t29 false
  let t31 : Bool := jumpV x (K 96) a b
  let t32 : Bool := Go.VE.jumpOk (K 96)
  let t33 : Bool := cond t31 t32 false
  let t34 : Bool := cond t30 t33 false
  let t35 : Bool := cond t30 true t33
  let t36 : Bool := cond t34 true (t35 == t2)
  let t37 : Bool := jumpV x (K 208) a b
  let t38 : Bool := Go.VE.jumpOk (K 208)
  let t39 : Bool := cond t37 t38 false
  let t40 : Bool := cond t30 true t2
  let t41 : Bool := cond t36 true (!(t39 == t40))
  let t42 : Bool := jumpV x (K 112) a b
  let t43 : Bool := Go.VE.jumpOk (K 112)
  let t44 : Bool := cond t42 t43 false
  let t45 : Bool := cond t33 true t2
  let t46 : Bool := cond t41 true (!(t44 == t45))
  let t47 : Bool := jumpV x (K 192) b a
  let t48 : Bool := cond t47 t29 false
  let t49 : Bool := cond t46 true (!(t33 == t48))
  let t50 : Bool := jumpV x (K 64) a b
  let t51 : Bool := Go.VE.jumpOk (K 64)
  let t52 : Bool := cond t50 t51 false
  let t53 : Bool := Go.VE.aluOk (K 80)
  let t54 : U := aluV x (K 80) a b
  let t55 : U := cond (!t53) (K 205452675308461) t54
  let t56 : Bool := t52 == (t55 != (K 0))
  let t57 : Bool := jumpV false (K 160) a b
  let t58 : Bool := cond t57 t7 false
  let t59 : U := a % (K 4294967296)
  let t60 : U := c <<< (BitVec.toNat (K 32))
  let t61 : Bool := jumpV false (K 160) (t59 + t60) b
  let t62 : Bool := cond t61 t7 false
  let t63 : Bool := jumpV false (K 176) a b
  let t64 : Bool := cond t63 t16 false
  let t65 : Bool := jumpV false (K 176) (t59 + t60) b
  let t66 : Bool := cond t65 t16 false
  let t67 : Bool := jumpV false (K 32) a b
  let t68 : Bool := cond t67 t10 false
  let t69 : Bool := jumpV false (K 32) (t59 + t60) b
  let t70 : Bool := cond t69 t10 false
  let t71 : Bool := jumpV false (K 48) a b
  let t72 : Bool := cond t71 t21 false
  let t73 : Bool := jumpV false (K 48) (t59 + t60) b
  let t74 : Bool := cond t73 t21 false
  let t75 : Bool := jumpV false (K 192) a b
  let t76 : Bool := cond t75 t29 false
  let t77 : Bool := jumpV false (K 192) (t59 + t60) b
  let t78 : Bool := cond t77 t29 false
  let t79 : Bool := jumpV false (K 208) a b
  let t80 : Bool := cond t79 t38 false
  let t81 : Bool := jumpV false (K 208) (t59 + t60) b
  let t82 : Bool := cond t81 t38 false
  let t83 : Bool := jumpV false (K 96) a b
  let t84 : Bool := cond t83 t32 false
  let t85 : Bool := jumpV false (K 96) (t59 + t60) b
  let t86 : Bool := cond t85 t32 false
  let t87 : Bool := jumpV false (K 112) a b
  let t88 : Bool := cond t87 t43 false
  let t89 : Bool := jumpV false (K 112) (t59 + t60) b
  let t90 : Bool := cond t89 t43 false
  let t91 : Bool := cond (!(t88 == t90)) false true
  let t92 : Bool := cond (!(t84 == t86)) false t91
  let t93 : Bool := cond (!(t80 == t82)) false t92
  let t94 : Bool := cond (!(t76 == t78)) false t93
  let t95 : Bool := cond (!(t72 == t74)) false t94
  let t96 : Bool := cond (!(t68 == t70)) false t95
  let t97 : Bool := cond (!(t64 == t66)) false t96
  let t98 : Bool := cond (!(t58 == t62)) false t97
  let t99 : Bool := cond (!t56) false t98
  let t100 : Bool := cond t49 false t99
  let t101 : Bool := cond t27 false t100
  let t102 : Bool := cond (t2 == t5) false t101
  some (.tt, (.a (.b t102)))
/-- Two numbers, without sign. -/
theorem tri (a b : U) : ((a == b) = true ∧ a.ult b = false ∧ b.ult a = false ∧ a.ule b = true ∧ b.ule a = true) ∨ ((a == b) = false ∧ a.ult b = true ∧ b.ult a = false ∧ a.ule b = true ∧ b.ule a = false) ∨
    ((a == b) = false ∧ a.ult b = false ∧ b.ult a = true ∧ a.ule b = false ∧ b.ule a = true) := by
  have he : (a == b) = decide (a.toNat = b.toNat) := by rw [Bool.eq_iff_iff, beq_iff_eq, decide_eq_true_iff, BitVec.toNat_inj]
  simp only [he, BitVec.ult, BitVec.ule, decide_eq_true_eq, decide_eq_false_iff_not]
  omega
theorem stri (a b : U) : ((a == b) = true ∧ a.slt b = false ∧ b.slt a = false ∧ a.sle b = true ∧ b.sle a = true) ∨ ((a == b) = false ∧ a.slt b = true ∧ b.slt a = false ∧ a.sle b = true ∧ b.sle a = false) ∨
    ((a == b) = false ∧ a.slt b = false ∧ b.slt a = true ∧ a.sle b = false ∧ b.sle a = true) := by
  have he : (a == b) = decide (a.toInt = b.toInt) := by rw [Bool.eq_iff_iff, beq_iff_eq, decide_eq_true_iff, BitVec.toInt_inj]
  simp only [he, BitVec.slt, BitVec.sle, decide_eq_true_eq, decide_eq_false_iff_not]
  omega
theorem setWidth_high (a c : U) : (a % K 4294967296 + c <<< (K 32).toNat).setWidth 32 = a.setWidth 32 := by
  apply BitVec.eq_of_toNat_eq
  rw [BitVec.toNat_setWidth, BitVec.toNat_setWidth, BitVec.toNat_add, BitVec.toNat_umod, BitVec.toNat_shiftLeft, show (K 32).toNat = 32 from by decide, show (K 4294967296).toNat = 4294967296 from by decide, Nat.shiftLeft_eq]
  omega
theorem u32_high (a c : U) : nrm .u32 (a % K 4294967296 + c <<< (K 32).toNat) = nrm .u32 a := by
  show BitVec.setWidth 64 (BitVec.setWidth 32 _) = _; rw [setWidth_high]; rfl
theorem i32_high (a c : U) : nrm .i32 (a % K 4294967296 + c <<< (K 32).toNat) = nrm .i32 a := by
  show BitVec.signExtend 64 (BitVec.setWidth 32 _) = _; rw [setWidth_high]; rfl
theorem u32_i32 (a b : U) : (nrm .i32 a == nrm .i32 b) = (nrm .u32 a == nrm .u32 b) := by
  rw [Bool.eq_iff_iff, beq_iff_eq, beq_iff_eq]
  constructor
  · intro h
    have h2 : (nrm .i32 a).setWidth 32 = (nrm .i32 b).setWidth 32 := by rw [h]
    have e : ∀ x : U, (nrm .i32 x).setWidth 32 = x.setWidth 32 := fun x => by
      show ((x.setWidth 32).signExtend 64).setWidth 32 = _
      apply BitVec.eq_of_getLsbD_eq
      intro i hi
      rw [BitVec.getLsbD_setWidth, BitVec.getLsbD_signExtend]
      have : i < 64 := by omega
      simp [hi, this]
    rw [e, e] at h2
    show BitVec.setWidth 64 (BitVec.setWidth 32 a) = BitVec.setWidth 64 (BitVec.setWidth 32 b)
    rw [h2]
  · intro h
    have h2 : (nrm .u32 a).setWidth 32 = (nrm .u32 b).setWidth 32 := by rw [h]
    have e : ∀ x : U, (nrm .u32 x).setWidth 32 = x.setWidth 32 := fun x => by
      show ((x.setWidth 32).setWidth 64).setWidth 32 = _
      apply BitVec.eq_of_toNat_eq
      simp only [BitVec.toNat_setWidth]
      omega
    rw [e, e] at h2
    show BitVec.signExtend 64 (BitVec.setWidth 32 a) = BitVec.signExtend 64 (BitVec.setWidth 32 b)
    rw [h2]
theorem nrm00 : nrm .u32 0#64 = 0#64 := by decide
theorem cTF (c : Bool) : cond c true false = c := by cases c <;> rfl
theorem beqTF : (true == false) = false := rfl
theorem beqFT : (false == true) = false := rfl
theorem ord6_true (x : Bool) (a b c : U) : ∃ o, ord6 x a b c = some (o, .a (.b true)) ∧ okB o = true := by
  refine ⟨.tt, ?_, rfl⟩
  cases x
  · simp only [ord6, jo16, jo32, jo48, jo64, jo80, jo96, jo112, jo160, jo176, jo192, jo208, ao80, an80, jn16, jn32, jn48, jn64, jn80, jn96, jn112, jn160, jn176, jn192, jn208, u32_high, i32_high, beq_self_eq_true, Bool.not_true, cond_false, cTF, nrm00, K0, bne]
    rcases tri (nrm .u32 a) (nrm .u32 b) with ⟨h1, h2, h3, h4, h5⟩ | ⟨h1, h2, h3, h4, h5⟩ | ⟨h1, h2, h3, h4, h5⟩ <;>
    rcases stri (nrm .i32 a) (nrm .i32 b) with ⟨g1, g2, g3, g4, g5⟩ | ⟨g1, g2, g3, g4, g5⟩ | ⟨g1, g2, g3, g4, g5⟩ <;>
    rw [u32_i32, h1] at g1 <;> first | (cases g1; done) | simp only [h1, h2, h3, h4, h5, g2, g3, g4, g5, cond_false, cond_true, Bool.not_true, Bool.not_false, beq_self_eq_true, beqTF, beqFT]
  · simp only [ord6, jo16, jo32, jo48, jo64, jo80, jo96, jo112, jo160, jo176, jo192, jo208, ao80, aw80, jw16, jw32, jw48, jw64, jw80, jw96, jw112, jw160, jw176, jw192, jw208, jn32, jn48, jn96, jn112, jn160, jn176, jn192, jn208, u32_high, i32_high, beq_self_eq_true, Bool.not_true, cond_false, cTF, K0, bne]
    rcases tri a b with ⟨h1, h2, h3, h4, h5⟩ | ⟨h1, h2, h3, h4, h5⟩ | ⟨h1, h2, h3, h4, h5⟩ <;>
    rcases stri a b with ⟨g1, g2, g3, g4, g5⟩ | ⟨g1, g2, g3, g4, g5⟩ | ⟨g1, g2, g3, g4, g5⟩ <;>
    rw [h1] at g1 <;> first | (cases g1; done) | simp only [h1, h2, h3, h4, h5, g2, g3, g4, g5, cond_false, cond_true, Bool.not_true, Bool.not_false, beq_self_eq_true, beqTF, beqFT]
end Go.Proofs.Ytnjjcklhpgfnjaa.Con
