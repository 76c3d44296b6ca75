/- What WordRing comes to. -/
import Derived.Test.YtnjjcklhpgfnjaaOps
namespace Go.Proofs.Ytnjjcklhpgfnjaa.Con
open Go Go.VE
set_option linter.unusedVariables false
def ring5 (x : Bool) (a : U) (b : U) (c : U) : Option (A × V) :=
  let t0 : Bool := Go.VE.aluOk (K 0)
  let t1 : U := aluV x (K 0) a b
  let t2 : U := cond (!t0) (K 205452675308461) t1
  let t3 : U := aluV x (K 0) b a
  let t4 : U := cond (!t0) (K 205452675308461) t3
  let t5 : Bool := Go.VE.aluOk (K 16)
  let t6 : U := aluV x (K 16) t2 b
  let t7 : U := cond (!t5) (K 205452675308461) t6
  let t8 : Bool := Go.VE.aluOk (K 176)
  let t9 : U := aluV x (K 176) (K 0) a
  let t10 : U := cond (!t8) (K 205452675308461) t9
  let t11 : Bool := cond (t2 != t4) true (t7 != t10)
  let t12 : Bool := Go.VE.aluOk (K 32)
  let t13 : U := aluV x (K 0) b c
  let t14 : U := cond (!t0) (K 205452675308461) t13
  let t15 : U := aluV x (K 32) a t14
  let t16 : U := cond (!t12) (K 205452675308461) t15
  let t17 : U := aluV x (K 32) a b
  let t18 : U := cond (!t12) (K 205452675308461) t17
  let t19 : U := aluV x (K 32) a c
  let t20 : U := cond (!t12) (K 205452675308461) t19
  let t21 : U := aluV x (K 0) t18 t20
  let t22 : U := cond (!t0) (K 205452675308461) t21
  let t23 : Bool := cond t11 true (t16 != t22)
  let t24 : Bool := Go.VE.aluOk (K 64)
  let t25 : U := aluV x (K 64) a b
  let t26 : U := cond (!t24) (K 205452675308461) t25
  let t27 : Bool := Go.VE.aluOk (K 80)
  let t28 : U := aluV x (K 80) a b
  let t29 : U := cond (!t27) (K 205452675308461) t28
  let t30 : U := aluV x (K 0) t26 t29
  let t31 : U := cond (!t0) (K 205452675308461) t30
  let t32 : Bool := Go.VE.aluOk (K 160)
  let t33 : U := aluV x (K 160) a b
  let t34 : U := cond (!t32) (K 205452675308461) t33
  let t35 : U := aluV x (K 160) t34 b
  let t36 : U := cond (!t32) (K 205452675308461) t35
  let t37 : Bool := cond (t31 != t2) true (t36 != t10)
  let t38 : Bool := Go.VE.aluOk (K 128)
  let t39 : U := aluV x (K 128) a b
  let t40 : U := cond (!t38) (K 205452675308461) t39
  let t41 : U := aluV x (K 128) t40 c
  let t42 : U := cond (!t38) (K 205452675308461) t41
  let t43 : Bool := cond t37 true (t42 != t10)
  let t44 : Bool := Go.VE.aluOk (K 48)
  let t45 : U := aluV x (K 48) a b
  let t46 : U := cond (!t44) (K 205452675308461) t45
  let t47 : U := aluV x (K 32) t46 b
  let t48 : U := cond (!t12) (K 205452675308461) t47
  let t49 : Bool := Go.VE.aluOk (K 144)
  let t50 : U := aluV x (K 144) a b
  let t51 : U := cond (!t49) (K 205452675308461) t50
  let t52 : U := aluV x (K 0) t48 t51
  let t53 : U := cond (!t0) (K 205452675308461) t52
  let t54 : U := cond x (K 64) (K 32)
  let t55 : Bool := t54 != BitVec.ofNat 64 0
  let t56 : Bool := cond (t53 != t10) true t55
  let t57 : Bool := cond t43 true t56
  let t58 : Bool := cond t23 true t57
  let t59 : Bool := Go.VE.aluOk (K 96)
  let t60 : U := aluV x (K 96) a c
  let t61 : U := cond (!t59) (K 205452675308461) t60
  let t62 : U := aluV x (K 96) (K 1) (c % t54)
  let t63 : U := cond (!t59) (K 205452675308461) t62
  let t64 : U := aluV x (K 32) a t63
  let t65 : U := cond (!t12) (K 205452675308461) t64
  let t66 : Bool := Go.VE.aluOk (K 112)
  let t67 : U := aluV x (K 112) a c
  let t68 : U := cond (!t66) (K 205452675308461) t67
  let t69 : U := aluV x (K 48) a t63
  let t70 : U := cond (!t44) (K 205452675308461) t69
  let t71 : Bool := cond (t61 == t65) (t68 == t70) false
  let t72 : Bool := cond t71 true false
  let t73 : Bool := cond (t53 != t10) false t72
  let t74 : Bool := cond t43 false t73
  let t75 : Bool := cond t23 false t74
  some ((.b t58), (.a (.b t75)))
section
variable {w : Nat} (a b : BitVec w)
theorem or_add_and : (a ||| b) + (a &&& b) = a + b := by
  have h1 : (a &&& b) &&& (a &&& ~~~b) = 0#w := BitVec.eq_of_getLsbD_eq fun i hi => by
    simp only [BitVec.getLsbD_and, BitVec.getLsbD_not, hi, BitVec.getLsbD_zero, decide_true, Bool.true_and]; cases a.getLsbD i <;> cases b.getLsbD i <;> rfl
  have h2 : b &&& (a &&& ~~~b) = 0#w := BitVec.eq_of_getLsbD_eq fun i hi => by
    simp only [BitVec.getLsbD_and, BitVec.getLsbD_not, hi, BitVec.getLsbD_zero, decide_true, Bool.true_and]; cases a.getLsbD i <;> cases b.getLsbD i <;> rfl
  have e1 : a = (a &&& b) + (a &&& ~~~b) := by
    rw [BitVec.add_eq_or_of_and_eq_zero _ _ h1]
    apply BitVec.eq_of_getLsbD_eq; intro i hi
    simp only [BitVec.getLsbD_or, BitVec.getLsbD_and, BitVec.getLsbD_not, hi, decide_true, Bool.true_and]; cases a.getLsbD i <;> cases b.getLsbD i <;> rfl
  have e2 : a ||| b = b + (a &&& ~~~b) := by
    rw [BitVec.add_eq_or_of_and_eq_zero _ _ h2]
    apply BitVec.eq_of_getLsbD_eq; intro i hi
    simp only [BitVec.getLsbD_or, BitVec.getLsbD_and, BitVec.getLsbD_not, hi, decide_true, Bool.true_and]; cases a.getLsbD i <;> cases b.getLsbD i <;> rfl
  rw [e2, BitVec.add_assoc, BitVec.add_comm (a &&& ~~~b), ← e1, BitVec.add_comm]
theorem div_mod : cond (b == 0#w) 0#w (a / b) * b + cond (b == 0#w) a (a % b) = a := by
  cases h : b == 0#w
  · simp only [cond_false]
    apply BitVec.eq_of_toNat_eq
    rw [BitVec.toNat_add, BitVec.toNat_mul, BitVec.toNat_udiv, BitVec.toNat_umod, Nat.mod_add_mod, Nat.div_add_mod']
    exact Nat.mod_eq_of_lt a.isLt
  · have : b = 0#w := by simpa using h
    subst this
    simp
theorem neg_neg' : 0#w - (0#w - a) = a := by simp
theorem xor_xor : a ^^^ b ^^^ b = a := by rw [BitVec.xor_assoc]; simp
theorem shl_mul (s : Nat) : a <<< s = a * (1#w <<< s) := BitVec.shiftLeft_eq_mul_twoPow a s
end
theorem one_shl_toNat {w : Nat} (s : Nat) (h : s < w) : (1#w <<< s).toNat = 2 ^ s := by
  rw [BitVec.toNat_shiftLeft, Nat.shiftLeft_eq, BitVec.toNat_ofNat]
  have h1 : 1 % 2 ^ w = 1 := Nat.mod_eq_of_lt (Nat.one_lt_two_pow (by omega))
  rw [h1, Nat.one_mul]
  exact Nat.mod_eq_of_lt (Nat.pow_lt_pow_right (by omega) h)
theorem shr_div {w : Nat} (a : BitVec w) (s : Nat) (h : s < w) : a >>> s = cond (1#w <<< s == 0#w) 0#w (a / (1#w <<< s)) := by
  have hn := one_shl_toNat s h
  have hz : (1#w <<< s == 0#w) = false := by
    rw [beq_eq_false_iff_ne]; intro e
    have := congrArg BitVec.toNat e
    rw [hn] at this
    have h2 := Nat.two_pow_pos s
    simp at this
  rw [hz, cond_false]
  apply BitVec.eq_of_toNat_eq
  rw [BitVec.toNat_ushiftRight, BitVec.toNat_udiv, hn, Nat.shiftRight_eq_div_pow]
/-- The lower half, and a number of it. -/
def lo (a : U) : BitVec 32 := a.setWidth 32
def up (a : BitVec 32) : U := a.setWidth 64
theorem nrm_up (a : U) : nrm .u32 a = up (lo a) := rfl
theorem lo_up (a : BitVec 32) : lo (up a) = a := by apply BitVec.eq_of_toNat_eq; simp [lo, up]
theorem lo_add (a b : U) : lo (a + b) = lo a + lo b := BitVec.setWidth_add _ _ (by omega)
theorem lo_mul (a b : U) : lo (a * b) = lo a * lo b := BitVec.setWidth_mul _ _ (by omega)
theorem lo_sub (a b : U) : lo (a - b) = lo a - lo b := by
  apply BitVec.eq_of_toNat_eq
  simp only [lo, BitVec.toNat_setWidth, BitVec.toNat_sub]
  omega
theorem lo_or (a b : U) : lo (a ||| b) = lo a ||| lo b := BitVec.setWidth_or
theorem lo_and (a b : U) : lo (a &&& b) = lo a &&& lo b := BitVec.setWidth_and
theorem lo_xor (a b : U) : lo (a ^^^ b) = lo a ^^^ lo b := BitVec.setWidth_xor
theorem lo_zero : lo 0#64 = 0#32 := by decide
theorem lo_shl (a : U) (n : Nat) (h : n < 32) : lo (a <<< n) = lo a <<< n := by
  apply BitVec.eq_of_getLsbD_eq
  intro i hi
  simp only [lo, BitVec.getLsbD_setWidth, BitVec.getLsbD_shiftLeft]
  have : i < 64 := by omega
  have h3 : i - n < 32 := by omega
  simp [hi, this, h3]
theorem up_shr (a : BitVec 32) (n : Nat) : up a >>> n = up (a >>> n) := by
  apply BitVec.eq_of_toNat_eq
  have := Nat.shiftRight_le a.toNat n
  have := a.isLt
  simp only [up, BitVec.toNat_ushiftRight, BitVec.toNat_setWidth]
  rw [Nat.mod_eq_of_lt (by omega), Nat.mod_eq_of_lt (by omega)]
theorem up_div (a b : BitVec 32) : up a / up b = up (a / b) := by
  apply BitVec.eq_of_toNat_eq
  have := a.isLt; have := b.isLt; have := Nat.div_le_self a.toNat b.toNat
  simp only [up, BitVec.toNat_udiv, BitVec.toNat_setWidth]
  rw [Nat.mod_eq_of_lt (by omega), Nat.mod_eq_of_lt (by omega), Nat.mod_eq_of_lt (by omega)]
theorem up_mod (a b : BitVec 32) : up a % up b = up (a % b) := by
  apply BitVec.eq_of_toNat_eq
  have := a.isLt; have := b.isLt; have := Nat.mod_le a.toNat b.toNat
  simp only [up, BitVec.toNat_umod, BitVec.toNat_setWidth]
  have e1 : a.toNat % 2 ^ 64 = a.toNat := Nat.mod_eq_of_lt (by omega)
  have e2 : b.toNat % 2 ^ 64 = b.toNat := Nat.mod_eq_of_lt (by omega)
  rw [e1, e2]
  exact (Nat.mod_eq_of_lt (by omega)).symm
theorem up_eq (a b : BitVec 32) : (up a == up b) = (a == b) := by
  rw [Bool.eq_iff_iff, beq_iff_eq, beq_iff_eq]
  exact ⟨fun h => by rw [← lo_up a, h, lo_up], fun h => by rw [h]⟩
theorem lo_cond (c : Bool) (a b : U) : lo (cond c a b) = cond c (lo a) (lo b) := by cases c <;> rfl
theorem lo_k0 : lo (K 0) = 0#32 := by decide
theorem lo_k1 : lo (K 1) = 1#32 := by decide
theorem k32 : K 32 = up 32#32 := by decide
theorem n48 (a b : U) : aluV false (K 48) a b = up (cond (lo b == 0#32) 0#32 (lo a / lo b)) := by
  rw [an48, nrm_up b, nrm_up a, nrm_up (K 0), nrm_up, lo_k0, up_eq, up_div, lo_cond, lo_k0, lo_up]
theorem n144 (a b : U) : aluV false (K 144) a b = up (cond (lo b == 0#32) (lo a) (lo a % lo b)) := by
  rw [an144, nrm_up b, nrm_up a, nrm_up (K 0), nrm_up, lo_k0, up_eq, up_mod, lo_cond, lo_up]
theorem shn (b : U) : (nrm .u32 b % K 32).toNat = (lo b % 32#32).toNat := by
  rw [nrm_up, k32, up_mod]; have := (lo b % 32#32).isLt; simp only [up, BitVec.toNat_setWidth]; omega
theorem lt32 (c : BitVec 32) : (c % 32#32).toNat < 32 := by rw [BitVec.toNat_umod]; exact Nat.mod_lt _ (by decide)
theorem n96 (a b : U) : aluV false (K 96) a b = up (lo a <<< (lo b % 32#32).toNat) := by
  rw [an96, shn, nrm_up, lo_shl _ _ (lt32 _)]
theorem n112 (a b : U) : aluV false (K 112) a b = up (lo a >>> (lo b % 32#32).toNat) := by
  rw [an112, shn, nrm_up, nrm_up, up_shr, lo_up]
theorem lo_mod32 (c : U) : lo (c % K 32) % 32#32 = lo c % 32#32 := by
  apply BitVec.eq_of_toNat_eq
  simp only [lo, BitVec.toNat_umod, BitVec.toNat_setWidth, show (K 32).toNat = 32 from by decide, BitVec.toNat_ofNat, Nat.reducePow, Nat.reduceMod]
  omega
theorem mod64 (c : U) : c % K 64 % K 64 = c % K 64 := by
  apply BitVec.eq_of_toNat_eq
  simp only [BitVec.toNat_umod, show (K 64).toNat = 64 from by decide]
  omega
theorem lt64 (c : U) : (c % K 64).toNat < 64 := by rw [BitVec.toNat_umod]; exact Nat.mod_lt _ (by decide)
theorem ring5_true (x : Bool) (a b c : U) : ∃ o, ring5 x a b c = some (o, .a (.b true)) ∧ okB o = true := by
  cases x
  · refine ⟨.b true, ?_, rfl⟩
    simp only [ring5, ao0, ao16, ao32, ao48, ao144, ao64, ao80, ao160, ao96, ao112, ao192, ao128, ao176, Bool.not_true, cond_false, n48, n144, n96, n112, an0, an16, an32, an64, an80, an160, an128, an176, nrm_up, lo_add, lo_sub, lo_mul, lo_or, lo_and, lo_xor, lo_up, lo_zero, lo_k1, lo_mod32]
    rw [BitVec.add_comm (lo b) (lo a), BitVec.add_sub_cancel, ← BitVec.mul_add, or_add_and, xor_xor, neg_neg', div_mod, ← shl_mul, ← shr_div _ _ (lt32 _)]
    simp only [bne_self_eq_false, beq_self_eq_true, cond_false, cond_true]
    rw [show (K 32 != 0#64) = true from by decide]
  · refine ⟨.b true, ?_, rfl⟩
    simp only [ring5, ao0, ao16, ao32, ao48, ao144, ao64, ao80, ao160, ao96, ao112, ao192, ao128, ao176, Bool.not_true, cond_false, cond_true, aw48, aw144, aw96, aw112, aw0, aw16, aw32, aw64, aw80, aw160, aw128, aw176, mod64]
    rw [K1, K0, BitVec.add_comm b a, BitVec.add_sub_cancel, ← BitVec.mul_add, or_add_and, xor_xor, neg_neg', div_mod, ← shl_mul, ← shr_div _ _ (lt64 _)]
    simp only [bne_self_eq_false, beq_self_eq_true, cond_false, cond_true]
    rw [show (K 64 != 0#64) = true from by decide]
end Go.Proofs.Ytnjjcklhpgfnjaa.Con
