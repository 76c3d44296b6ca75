/- What the operations and comparisons come to (the definitions in SSA's form were printed by a program of ours off the evaluator). -/
import Derived.Test.YtnjjcklhpgfnjaaShift
import Derived.KernelRfl
namespace Go.VE
open Go
set_option linter.unusedVariables false
def sh (n : Nat) (op a b : U) : U := bsum (shF n op a b) n
def ok1 : Option (A × V) → Bool
  | some (o, _) => okB o
  | none => false

def aluW (op : U) (a : U) (b : U) : Option (A × V) :=
  let t0 : Bool := cond (op == (K 192)) true false
  let t1 : Bool := b != BitVec.ofNat 64 0
  let t2 : Bool := cond (b == (K 0)) true (t1 && t1)
  let t3 : Bool := cond (b == (K 0)) true (t1 && t1)
  let t4 : Bool := cond (op == (K 144)) t3 true
  let t5 : Bool := cond (op == (K 48)) t2 t4
  let t6 : Bool := cond (op == (K 32)) true t5
  let t7 : Bool := cond (op == (K 16)) true t6
  let t8 : Bool := cond (op == (K 0)) true t7
  let t9 : Bool := cond (op == (K 192)) true t8
  let t10 : Bool := cond t0 true t9
  let t11 : U := BitVec.sshiftRight a (BitVec.toNat (b % (K 64)))
  let t12 : U := BitVec.sshiftRight (nrm .i32 a) (BitVec.toNat (b % (K 32)))
  let t13 : U := nrm .u32 (nrm .i32 t12)
  let t14 : U := cond (b == (K 0)) (K 0) (a / b)
  let t15 : U := cond (b == (K 0)) a (a % b)
  let t16 : U := a <<< (BitVec.toNat (b % (K 64)))
  let t17 : U := a >>> (BitVec.toNat (b % (K 64)))
  let t18 : U := BitVec.ofNat 64 0 - a
  let t19 : U := cond (op == (K 176)) b (K 0)
  let t20 : U := cond (op == (K 128)) t18 t19
  let t21 : U := cond (op == (K 112)) t17 t20
  let t22 : U := cond (op == (K 96)) t16 t21
  let t23 : U := cond (op == (K 160)) (a ^^^ b) t22
  let t24 : U := cond (op == (K 80)) (a &&& b) t23
  let t25 : U := cond (op == (K 64)) (a ||| b) t24
  let t26 : U := cond (op == (K 144)) t15 t25
  let t27 : U := cond (op == (K 48)) t14 t26
  let t28 : U := cond (op == (K 32)) (a * b) t27
  let t29 : U := cond (op == (K 16)) (a - b) t28
  let t30 : U := cond (op == (K 0)) (a + b) t29
  let t31 : U := cond (op == (K 192)) t13 t30
  let t32 : U := cond t0 t11 t31
  let t33 : Bool := cond (op == (K 176)) true false
  let t34 : Bool := cond (op == (K 128)) true t33
  let t35 : Bool := cond (op == (K 112)) true t34
  let t36 : Bool := cond (op == (K 96)) true t35
  let t37 : Bool := cond (op == (K 160)) true t36
  let t38 : Bool := cond (op == (K 80)) true t37
  let t39 : Bool := cond (op == (K 64)) true t38
  let t40 : Bool := cond (op == (K 144)) true t39
  let t41 : Bool := cond (op == (K 48)) true t40
  let t42 : Bool := cond (op == (K 32)) true t41
  let t43 : Bool := cond (op == (K 16)) true t42
  let t44 : Bool := cond (op == (K 0)) true t43
  let t45 : Bool := cond (op == (K 192)) true t44
  let t46 : Bool := cond t0 true t45
  some ((.b t10), (.t ((.a (.i .u64 t32)) :: ((.a (.b t46)) :: []))))

def aluN (op : U) (a : U) (b : U) : Option (A × V) :=
  let t0 : U := nrm .u32 (K 0)
  let t1 : Bool := (nrm .u32 b) == t0
  let t2 : Bool := (nrm .u32 b) != BitVec.ofNat 64 0
  let t3 : Bool := cond t1 true (t2 && t2)
  let t4 : Bool := cond t1 true (t2 && t2)
  let t5 : Bool := cond (op == (K 144)) t4 true
  let t6 : Bool := cond (op == (K 48)) t3 t5
  let t7 : Bool := cond (op == (K 32)) true t6
  let t8 : Bool := cond (op == (K 16)) true t7
  let t9 : Bool := cond (op == (K 0)) true t8
  let t10 : Bool := cond (op == (K 192)) true t9
  let t11 : U := BitVec.sshiftRight (nrm .i32 a) (BitVec.toNat (b % (K 32)))
  let t12 : U := nrm .u32 (nrm .i32 t11)
  let t13 : U := (nrm .u32 a) / (nrm .u32 b)
  let t14 : U := cond t1 (K 0) t13
  let t15 : U := (nrm .u32 a) % (nrm .u32 b)
  let t16 : U := (nrm .u32 b) % (K 32)
  let t17 : U := a <<< (BitVec.toNat t16)
  let t18 : U := (nrm .u32 a) >>> (BitVec.toNat t16)
  let t19 : U := BitVec.ofNat 64 0 - a
  let t20 : U := cond (op == (K 176)) b (K 0)
  let t21 : U := cond (op == (K 128)) t19 t20
  let t22 : U := cond (op == (K 112)) t18 t21
  let t23 : U := cond (op == (K 96)) t17 t22
  let t24 : U := cond (op == (K 160)) (a ^^^ b) t23
  let t25 : U := cond (op == (K 80)) (a &&& b) t24
  let t26 : U := cond (op == (K 64)) (a ||| b) t25
  let t27 : U := cond (op == (K 144)) (cond t1 a t15) t26
  let t28 : U := cond (op == (K 48)) t14 t27
  let t29 : U := cond (op == (K 32)) (a * b) t28
  let t30 : U := cond (op == (K 16)) (a - b) t29
  let t31 : U := cond (op == (K 0)) (a + b) t30
  let t32 : U := cond (op == (K 192)) t12 (nrm .u32 t31)
  let t33 : Bool := cond (op == (K 176)) true false
  let t34 : Bool := cond (op == (K 128)) true t33
  let t35 : Bool := cond (op == (K 112)) true t34
  let t36 : Bool := cond (op == (K 96)) true t35
  let t37 : Bool := cond (op == (K 160)) true t36
  let t38 : Bool := cond (op == (K 80)) true t37
  let t39 : Bool := cond (op == (K 64)) true t38
  let t40 : Bool := cond (op == (K 144)) true t39
  let t41 : Bool := cond (op == (K 48)) true t40
  let t42 : Bool := cond (op == (K 32)) true t41
  let t43 : Bool := cond (op == (K 16)) true t42
  let t44 : Bool := cond (op == (K 0)) true t43
  let t45 : Bool := cond (op == (K 192)) true t44
  some ((.b t10), (.t ((.a (.i .u64 t32)) :: ((.a (.b t45)) :: []))))

def refAluW (op : U) (a : U) (b : U) : Option (A × V) :=
  let t0 : Bool := cond (op == (K 80)) (op == (K 80)) (op == (K 160))
  let t1 : Bool := cond (op == (K 64)) (op == (K 64)) t0
  let t2 : Bool := cond (op == (K 112)) (op == (K 112)) (op == (K 192))
  let t3 : Bool := cond (op == (K 96)) (op == (K 96)) t2
  let t4 : Bool := b != BitVec.ofNat 64 0
  let t5 : Bool := cond (b == (K 0)) true t4
  let t6 : Bool := cond (b == (K 0)) true t4
  let t7 : Bool := cond (op == (K 144)) t6 true
  let t8 : Bool := cond (op == (K 48)) t5 t7
  let t9 : Bool := cond (op == (K 32)) true t8
  let t10 : Bool := cond (op == (K 16)) true t9
  let t11 : Bool := cond (op == (K 0)) true t10
  let t12 : Bool := cond t3 true t11
  let t13 : Bool := cond t1 true t12
  let t14 : U := Go.VE.bw op a b
  let t15 : U := cond (b == (K 0)) (K 0) (a / b)
  let t16 : U := cond (b == (K 0)) a (a % b)
  let t17 : U := cond (op == (K 176)) b (K 0)
  let t18 : U := cond (op == (K 128)) ((K 0) - a) t17
  let t19 : U := cond (op == (K 144)) t16 t18
  let t20 : U := cond (op == (K 48)) t15 t19
  let t21 : U := cond (op == (K 32)) (a * b) t20
  let t22 : U := cond (op == (K 16)) (a - b) t21
  let t23 : U := cond (op == (K 0)) (a + b) t22
  let t24 : U := cond t3 (sh 64 op a b) t23
  let t25 : U := cond t1 t14 t24
  let t26 : Bool := cond (op == (K 176)) true false
  let t27 : Bool := cond (op == (K 128)) true t26
  let t28 : Bool := cond (op == (K 144)) true t27
  let t29 : Bool := cond (op == (K 48)) true t28
  let t30 : Bool := cond (op == (K 32)) true t29
  let t31 : Bool := cond (op == (K 16)) true t30
  let t32 : Bool := cond (op == (K 0)) true t31
  let t33 : Bool := cond t3 true t32
  let t34 : Bool := cond t1 true t33
  some ((.b t13), (.t ((.a (.i .u64 t25)) :: ((.a (.b t34)) :: []))))

def refAluN (op : U) (a : U) (b : U) : Option (A × V) :=
  let t0 : Bool := cond (op == (K 80)) (op == (K 80)) (op == (K 160))
  let t1 : Bool := cond (op == (K 64)) (op == (K 64)) t0
  let t2 : Bool := cond (op == (K 112)) (op == (K 112)) (op == (K 192))
  let t3 : Bool := cond (op == (K 96)) (op == (K 96)) t2
  let t4 : Bool := (nrm .u32 b) == (K 0)
  let t5 : Bool := (nrm .u32 b) != BitVec.ofNat 64 0
  let t6 : Bool := cond t4 true t5
  let t7 : Bool := cond t4 true t5
  let t8 : Bool := cond (op == (K 144)) t7 true
  let t9 : Bool := cond (op == (K 48)) t6 t8
  let t10 : Bool := cond (op == (K 32)) true t9
  let t11 : Bool := cond (op == (K 16)) true t10
  let t12 : Bool := cond (op == (K 0)) true t11
  let t13 : Bool := cond t3 true t12
  let t14 : Bool := cond t1 true t13
  let t15 : U := Go.VE.bw op (nrm .u32 a) (nrm .u32 b)
  let t16 : U := sh 32 op (nrm .u32 a) (nrm .u32 b)
  let t17 : U := (nrm .u32 a) + (nrm .u32 b)
  let t18 : U := (nrm .u32 a) - (nrm .u32 b)
  let t19 : U := (nrm .u32 a) * (nrm .u32 b)
  let t20 : U := (nrm .u32 a) / (nrm .u32 b)
  let t21 : U := cond t4 (K 0) t20
  let t22 : U := (nrm .u32 a) % (nrm .u32 b)
  let t23 : U := cond t4 (nrm .u32 a) t22
  let t24 : U := (K 0) - (nrm .u32 a)
  let t25 : U := cond (op == (K 176)) (nrm .u32 b) (K 0)
  let t26 : U := cond (op == (K 128)) t24 t25
  let t27 : U := cond (op == (K 144)) t23 t26
  let t28 : U := cond (op == (K 48)) t21 t27
  let t29 : U := cond (op == (K 32)) t19 t28
  let t30 : U := cond (op == (K 16)) t18 t29
  let t31 : U := cond (op == (K 0)) t17 t30
  let t32 : U := cond t3 t16 (nrm .u32 t31)
  let t33 : U := cond t1 t15 t32
  let t34 : Bool := cond (op == (K 176)) true false
  let t35 : Bool := cond (op == (K 128)) true t34
  let t36 : Bool := cond (op == (K 144)) true t35
  let t37 : Bool := cond (op == (K 48)) true t36
  let t38 : Bool := cond (op == (K 32)) true t37
  let t39 : Bool := cond (op == (K 16)) true t38
  let t40 : Bool := cond (op == (K 0)) true t39
  let t41 : Bool := cond t3 true t40
  let t42 : Bool := cond t1 true t41
  some ((.b t14), (.t ((.a (.i .u64 t33)) :: ((.a (.b t42)) :: []))))

def jumpW (op : U) (a : U) (b : U) : Option (A × V) :=
  let t0 : Bool := cond (op == (K 64)) true false
  let t1 : Bool := cond (op == (K 176)) true t0
  let t2 : Bool := cond (op == (K 160)) true t1
  let t3 : Bool := cond (op == (K 48)) true t2
  let t4 : Bool := cond (op == (K 32)) true t3
  let t5 : Bool := cond (op == (K 80)) true t4
  let t6 : Bool := cond (op == (K 16)) true t5
  let t7 : Bool := BitVec.ult b a
  let t8 : Bool := BitVec.ule b a
  let t9 : Bool := BitVec.ult a b
  let t10 : Bool := BitVec.ule a b
  let t11 : Bool := (a &&& b) != (K 0)
  let t12 : Bool := cond (op == (K 64)) t11 false
  let t13 : Bool := cond (op == (K 176)) t10 t12
  let t14 : Bool := cond (op == (K 160)) t9 t13
  let t15 : Bool := cond (op == (K 48)) t8 t14
  let t16 : Bool := cond (op == (K 32)) t7 t15
  let t17 : Bool := cond (op == (K 80)) (a != b) t16
  let t18 : Bool := cond (op == (K 16)) (a == b) t17
  let t19 : Bool := BitVec.slt b a
  let t20 : Bool := BitVec.sle b a
  let t21 : Bool := BitVec.slt a b
  let t22 : Bool := BitVec.sle a b
  let t23 : Bool := cond (op == (K 208)) t22 false
  let t24 : Bool := cond (op == (K 192)) t21 t23
  let t25 : Bool := cond (op == (K 112)) t20 t24
  let t26 : Bool := cond (op == (K 96)) t19 t25
  let t27 : Bool := cond t6 t18 t26
  let t28 : Bool := cond (op == (K 208)) true false
  let t29 : Bool := cond (op == (K 192)) true t28
  let t30 : Bool := cond (op == (K 112)) true t29
  let t31 : Bool := cond (op == (K 96)) true t30
  let t32 : Bool := cond t6 true t31
  some (.tt, (.t ((.a (.b t27)) :: ((.a (.b t32)) :: []))))

def jumpN (op : U) (a : U) (b : U) : Option (A × V) :=
  let t0 : Bool := cond (op == (K 64)) true false
  let t1 : Bool := cond (op == (K 176)) true t0
  let t2 : Bool := cond (op == (K 160)) true t1
  let t3 : Bool := cond (op == (K 48)) true t2
  let t4 : Bool := cond (op == (K 32)) true t3
  let t5 : Bool := cond (op == (K 80)) true t4
  let t6 : Bool := cond (op == (K 16)) true t5
  let t7 : Bool := (nrm .u32 a) == (nrm .u32 b)
  let t8 : Bool := (nrm .u32 a) != (nrm .u32 b)
  let t9 : Bool := BitVec.ult (nrm .u32 b) (nrm .u32 a)
  let t10 : Bool := BitVec.ule (nrm .u32 b) (nrm .u32 a)
  let t11 : Bool := BitVec.ult (nrm .u32 a) (nrm .u32 b)
  let t12 : Bool := BitVec.ule (nrm .u32 a) (nrm .u32 b)
  let t13 : U := nrm .u32 (a &&& b)
  let t14 : U := nrm .u32 (K 0)
  let t15 : Bool := cond (op == (K 64)) (t13 != t14) false
  let t16 : Bool := cond (op == (K 176)) t12 t15
  let t17 : Bool := cond (op == (K 160)) t11 t16
  let t18 : Bool := cond (op == (K 48)) t10 t17
  let t19 : Bool := cond (op == (K 32)) t9 t18
  let t20 : Bool := cond (op == (K 80)) t8 t19
  let t21 : Bool := cond (op == (K 16)) t7 t20
  let t22 : Bool := BitVec.slt (nrm .i32 b) (nrm .i32 a)
  let t23 : Bool := BitVec.sle (nrm .i32 b) (nrm .i32 a)
  let t24 : Bool := BitVec.slt (nrm .i32 a) (nrm .i32 b)
  let t25 : Bool := BitVec.sle (nrm .i32 a) (nrm .i32 b)
  let t26 : Bool := cond (op == (K 208)) t25 false
  let t27 : Bool := cond (op == (K 192)) t24 t26
  let t28 : Bool := cond (op == (K 112)) t23 t27
  let t29 : Bool := cond (op == (K 96)) t22 t28
  let t30 : Bool := cond t6 t21 t29
  let t31 : Bool := cond (op == (K 208)) true false
  let t32 : Bool := cond (op == (K 192)) true t31
  let t33 : Bool := cond (op == (K 112)) true t32
  let t34 : Bool := cond (op == (K 96)) true t33
  let t35 : Bool := cond t6 true t34
  some (.tt, (.t ((.a (.b t30)) :: ((.a (.b t35)) :: []))))

def refJumpW (op : U) (a : U) (b : U) : Option (A × V) :=
  let t0 : Bool := BitVec.ult b a
  let t1 : Bool := BitVec.ule b a
  let t2 : U := Go.VE.bw (K 80) a b
  let t3 : Bool := BitVec.ult (K 0) t2
  let t4 : Bool := BitVec.slt b a
  let t5 : Bool := BitVec.sle b a
  let t6 : Bool := BitVec.ult a b
  let t7 : Bool := BitVec.ule a b
  let t8 : Bool := BitVec.slt a b
  let t9 : Bool := BitVec.sle a b
  let t10 : Bool := cond (op == (K 208)) t9 false
  let t11 : Bool := cond (op == (K 192)) t8 t10
  let t12 : Bool := cond (op == (K 176)) t7 t11
  let t13 : Bool := cond (op == (K 160)) t6 t12
  let t14 : Bool := cond (op == (K 112)) t5 t13
  let t15 : Bool := cond (op == (K 96)) t4 t14
  let t16 : Bool := cond (op == (K 80)) (a != b) t15
  let t17 : Bool := cond (op == (K 64)) t3 t16
  let t18 : Bool := cond (op == (K 48)) t1 t17
  let t19 : Bool := cond (op == (K 32)) t0 t18
  let t20 : Bool := cond (op == (K 16)) (a == b) t19
  let t21 : Bool := cond (op == (K 208)) true false
  let t22 : Bool := cond (op == (K 192)) true t21
  let t23 : Bool := cond (op == (K 176)) true t22
  let t24 : Bool := cond (op == (K 160)) true t23
  let t25 : Bool := cond (op == (K 112)) true t24
  let t26 : Bool := cond (op == (K 96)) true t25
  let t27 : Bool := cond (op == (K 80)) true t26
  let t28 : Bool := cond (op == (K 64)) true t27
  let t29 : Bool := cond (op == (K 48)) true t28
  let t30 : Bool := cond (op == (K 32)) true t29
  let t31 : Bool := cond (op == (K 16)) true t30
  some (.tt, (.t ((.a (.b t20)) :: ((.a (.b t31)) :: []))))

def refJumpN (op : U) (a : U) (b : U) : Option (A × V) :=
  let t0 : Bool := (nrm .u32 a) == (nrm .u32 b)
  let t1 : Bool := BitVec.ult (nrm .u32 b) (nrm .u32 a)
  let t2 : Bool := BitVec.ule (nrm .u32 b) (nrm .u32 a)
  let t3 : U := Go.VE.bw (K 80) (nrm .u32 a) (nrm .u32 b)
  let t4 : Bool := BitVec.ult (K 0) t3
  let t5 : Bool := (nrm .u32 a) != (nrm .u32 b)
  let t6 : U := (nrm .u32 b) >>> (BitVec.toNat (K 31))
  let t7 : Bool := (t6 % (K 2)) == (K 1)
  let t8 : U := (nrm .u32 b) - (K 4294967296)
  let t9 : U := cond t7 t8 (nrm .u32 b)
  let t10 : U := (nrm .u32 a) >>> (BitVec.toNat (K 31))
  let t11 : Bool := (t10 % (K 2)) == (K 1)
  let t12 : U := (nrm .u32 a) - (K 4294967296)
  let t13 : U := cond t11 t12 (nrm .u32 a)
  let t14 : Bool := BitVec.slt t9 t13
  let t15 : Bool := BitVec.sle t9 t13
  let t16 : Bool := BitVec.ult (nrm .u32 a) (nrm .u32 b)
  let t17 : Bool := BitVec.ule (nrm .u32 a) (nrm .u32 b)
  let t18 : Bool := BitVec.slt t13 t9
  let t19 : Bool := BitVec.sle t13 t9
  let t20 : Bool := cond (op == (K 208)) t19 false
  let t21 : Bool := cond (op == (K 192)) t18 t20
  let t22 : Bool := cond (op == (K 176)) t17 t21
  let t23 : Bool := cond (op == (K 160)) t16 t22
  let t24 : Bool := cond (op == (K 112)) t15 t23
  let t25 : Bool := cond (op == (K 96)) t14 t24
  let t26 : Bool := cond (op == (K 80)) t5 t25
  let t27 : Bool := cond (op == (K 64)) t4 t26
  let t28 : Bool := cond (op == (K 48)) t2 t27
  let t29 : Bool := cond (op == (K 32)) t1 t28
  let t30 : Bool := cond (op == (K 16)) t0 t29
  let t31 : Bool := cond (op == (K 208)) true false
  let t32 : Bool := cond (op == (K 192)) true t31
  let t33 : Bool := cond (op == (K 176)) true t32
  let t34 : Bool := cond (op == (K 160)) true t33
  let t35 : Bool := cond (op == (K 112)) true t34
  let t36 : Bool := cond (op == (K 96)) true t35
  let t37 : Bool := cond (op == (K 80)) true t36
  let t38 : Bool := cond (op == (K 64)) true t37
  let t39 : Bool := cond (op == (K 48)) true t38
  let t40 : Bool := cond (op == (K 32)) true t39
  let t41 : Bool := cond (op == (K 16)) true t40
  some (.tt, (.t ((.a (.b t30)) :: ((.a (.b t41)) :: []))))

def aluOk (op : U) : Bool := (cond (op == K 0) true (cond (op == K 16) true (cond (op == K 32) true (cond (op == K 48) true (cond (op == K 144) true (cond (op == K 64) true (cond (op == K 80) true (cond (op == K 160) true (cond (op == K 96) true (cond (op == K 112) true (cond (op == K 192) true (cond (op == K 128) true (cond (op == K 176) true false)))))))))))))
def aluVW (op a b : U) : U := (cond (op == K 0) (a + b) (cond (op == K 16) (a - b) (cond (op == K 32) (a * b) (cond (op == K 48) (cond (b == K 0) (K 0) (a / b)) (cond (op == K 144) (cond (b == K 0) a (a % b)) (cond (op == K 64) (a ||| b) (cond (op == K 80) (a &&& b) (cond (op == K 160) (a ^^^ b) (cond (op == K 96) (a <<< (b % K 64).toNat) (cond (op == K 112) (a >>> (b % K 64).toNat) (cond (op == K 192) (a.sshiftRight (b % K 64).toNat) (cond (op == K 128) (0#64 - a) (cond (op == K 176) b (K 0))))))))))))))
def aluVN (op a b : U) : U := (cond (op == K 0) (nrm .u32 (a + b)) (cond (op == K 16) (nrm .u32 (a - b)) (cond (op == K 32) (nrm .u32 (a * b)) (cond (op == K 48) (nrm .u32 (cond (nrm .u32 b == nrm .u32 (K 0)) (K 0) (nrm .u32 a / nrm .u32 b))) (cond (op == K 144) (nrm .u32 (cond (nrm .u32 b == nrm .u32 (K 0)) a (nrm .u32 a % nrm .u32 b))) (cond (op == K 64) (nrm .u32 (a ||| b)) (cond (op == K 80) (nrm .u32 (a &&& b)) (cond (op == K 160) (nrm .u32 (a ^^^ b)) (cond (op == K 96) (nrm .u32 (a <<< (nrm .u32 b % K 32).toNat)) (cond (op == K 112) (nrm .u32 (nrm .u32 a >>> (nrm .u32 b % K 32).toNat)) (cond (op == K 192) (nrm .u32 (nrm .i32 ((nrm .i32 a).sshiftRight (b % K 32).toNat))) (cond (op == K 128) (nrm .u32 (0#64 - a)) (cond (op == K 176) (nrm .u32 b) (nrm .u32 (K 0)))))))))))))))
def jumpOk (op : U) : Bool := (cond (op == K 16) true (cond (op == K 32) true (cond (op == K 48) true (cond (op == K 64) true (cond (op == K 80) true (cond (op == K 96) true (cond (op == K 112) true (cond (op == K 160) true (cond (op == K 176) true (cond (op == K 192) true (cond (op == K 208) true false)))))))))))
def jumpVW (op a b : U) : Bool := (cond (op == K 16) (a == b) (cond (op == K 32) (b.ult a) (cond (op == K 48) (b.ule a) (cond (op == K 64) ((a &&& b) != K 0) (cond (op == K 80) (a != b) (cond (op == K 96) (b.slt a) (cond (op == K 112) (b.sle a) (cond (op == K 160) (a.ult b) (cond (op == K 176) (a.ule b) (cond (op == K 192) (a.slt b) (cond (op == K 208) (a.sle b) false)))))))))))
def jumpVN (op a b : U) : Bool := (cond (op == K 16) (nrm .u32 a == nrm .u32 b) (cond (op == K 32) ((nrm .u32 b).ult (nrm .u32 a)) (cond (op == K 48) ((nrm .u32 b).ule (nrm .u32 a)) (cond (op == K 64) (nrm .u32 (a &&& b) != nrm .u32 (K 0)) (cond (op == K 80) (nrm .u32 a != nrm .u32 b) (cond (op == K 96) ((nrm .i32 b).slt (nrm .i32 a)) (cond (op == K 112) ((nrm .i32 b).sle (nrm .i32 a)) (cond (op == K 160) ((nrm .u32 a).ult (nrm .u32 b)) (cond (op == K 176) ((nrm .u32 a).ule (nrm .u32 b)) (cond (op == K 192) ((nrm .i32 a).slt (nrm .i32 b)) (cond (op == K 208) ((nrm .i32 a).sle (nrm .i32 b)) false)))))))))))
theorem opCases {p : U → Prop} (h0 : p (K 0)) (h16 : p (K 16)) (h32 : p (K 32)) (h48 : p (K 48)) (h144 : p (K 144)) (h64 : p (K 64)) (h80 : p (K 80)) (h160 : p (K 160)) (h96 : p (K 96)) (h112 : p (K 112)) (h192 : p (K 192)) (h128 : p (K 128)) (h176 : p (K 176)) (hn : ∀ op, (op == K 0) = false → (op == K 16) = false → (op == K 32) = false → (op == K 48) = false → (op == K 144) = false → (op == K 64) = false → (op == K 80) = false → (op == K 160) = false → (op == K 96) = false → (op == K 112) = false → (op == K 192) = false → (op == K 128) = false → (op == K 176) = false → p op) (op : U) : p op := by
  cases e0 : op == K 0
  case true => rw [beq_iff_eq.1 e0]; exact h0
  cases e16 : op == K 16
  case true => rw [beq_iff_eq.1 e16]; exact h16
  cases e32 : op == K 32
  case true => rw [beq_iff_eq.1 e32]; exact h32
  cases e48 : op == K 48
  case true => rw [beq_iff_eq.1 e48]; exact h48
  cases e144 : op == K 144
  case true => rw [beq_iff_eq.1 e144]; exact h144
  cases e64 : op == K 64
  case true => rw [beq_iff_eq.1 e64]; exact h64
  cases e80 : op == K 80
  case true => rw [beq_iff_eq.1 e80]; exact h80
  cases e160 : op == K 160
  case true => rw [beq_iff_eq.1 e160]; exact h160
  cases e96 : op == K 96
  case true => rw [beq_iff_eq.1 e96]; exact h96
  cases e112 : op == K 112
  case true => rw [beq_iff_eq.1 e112]; exact h112
  cases e192 : op == K 192
  case true => rw [beq_iff_eq.1 e192]; exact h192
  cases e128 : op == K 128
  case true => rw [beq_iff_eq.1 e128]; exact h128
  cases e176 : op == K 176
  case true => rw [beq_iff_eq.1 e176]; exact h176
  exact hn op e0 e16 e32 e48 e144 e64 e80 e160 e96 e112 e192 e128 e176

theorem jopCases {p : U → Prop} (h16 : p (K 16)) (h32 : p (K 32)) (h48 : p (K 48)) (h64 : p (K 64)) (h80 : p (K 80)) (h96 : p (K 96)) (h112 : p (K 112)) (h160 : p (K 160)) (h176 : p (K 176)) (h192 : p (K 192)) (h208 : p (K 208)) (hn : ∀ op, (op == K 16) = false → (op == K 32) = false → (op == K 48) = false → (op == K 64) = false → (op == K 80) = false → (op == K 96) = false → (op == K 112) = false → (op == K 160) = false → (op == K 176) = false → (op == K 192) = false → (op == K 208) = false → p op) (op : U) : p op := by
  cases e16 : op == K 16
  case true => rw [beq_iff_eq.1 e16]; exact h16
  cases e32 : op == K 32
  case true => rw [beq_iff_eq.1 e32]; exact h32
  cases e48 : op == K 48
  case true => rw [beq_iff_eq.1 e48]; exact h48
  cases e64 : op == K 64
  case true => rw [beq_iff_eq.1 e64]; exact h64
  cases e80 : op == K 80
  case true => rw [beq_iff_eq.1 e80]; exact h80
  cases e96 : op == K 96
  case true => rw [beq_iff_eq.1 e96]; exact h96
  cases e112 : op == K 112
  case true => rw [beq_iff_eq.1 e112]; exact h112
  cases e160 : op == K 160
  case true => rw [beq_iff_eq.1 e160]; exact h160
  cases e176 : op == K 176
  case true => rw [beq_iff_eq.1 e176]; exact h176
  cases e192 : op == K 192
  case true => rw [beq_iff_eq.1 e192]; exact h192
  cases e208 : op == K 208
  case true => rw [beq_iff_eq.1 e208]; exact h208
  exact hn op e16 e32 e48 e64 e80 e96 e112 e160 e176 e192 e208

theorem divOk (b : U) : cond (b == K 0) true (b != 0#64) = true := by rw [K0]; simp only [bne]; cases (b == 0#64) <;> rfl
theorem divOk2 (b : U) : cond (b == K 0) true (b != 0#64 && b != 0#64) = true := by rw [K0]; simp only [bne]; cases (b == 0#64) <;> rfl
theorem nrm0 : nrm .u32 (K 0) = 0#64 := by decide
theorem divOk3 (b : U) : cond (nrm .u32 b == nrm .u32 (K 0)) true (nrm .u32 b != 0#64 && nrm .u32 b != 0#64) = true := by rw [nrm0]; simp only [bne]; cases (nrm .u32 b == 0#64) <;> rfl
theorem condTT (c : Bool) : cond c true true = true := by cases c <;> rfl

theorem aluW_ok (op a b : U) : ok1 (aluW op a b) = true := by
  simp only [aluW, ok1, okB, divOk2, condTT]
theorem aluN_ok (op a b : U) : ok1 (aluN op a b) = true := by
  simp only [aluN, ok1, okB, divOk3, condTT]
theorem refAluW_ok (op a b : U) : ok1 (refAluW op a b) = true := by
  simp only [refAluW, ok1, okB, divOk, condTT]
theorem refAluN_ok (op a b : U) : ok1 (refAluN op a b) = true := by
  simp only [refAluN, ok1, okB, divOk, condTT]

theorem aluW_val (op a b : U) : (aluW op a b).map Prod.snd = some (.t [.a (.i .u64 (aluVW op a b)), .a (.b (aluOk op))]) := by
  revert op
  refine opCases ?_ ?_ ?_ ?_ ?_ ?_ ?_ ?_ ?_ ?_ ?_ ?_ ?_ ?_
  · kernel_rfl
  · kernel_rfl
  · kernel_rfl
  · kernel_rfl
  · kernel_rfl
  · kernel_rfl
  · kernel_rfl
  · kernel_rfl
  · kernel_rfl
  · kernel_rfl
  · kernel_rfl
  · kernel_rfl
  · kernel_rfl
  · intro op e0 e16 e32 e48 e144 e64 e80 e160 e96 e112 e192 e128 e176
    simp only [aluW, aluVW, aluOk, e0, e16, e32, e48, e144, e64, e80, e160, e96, e112, e192, e128, e176, cond_false, cond_true, Option.map]

theorem aluN_val (op a b : U) : (aluN op a b).map Prod.snd = some (.t [.a (.i .u64 (aluVN op a b)), .a (.b (aluOk op))]) := by
  revert op
  refine opCases ?_ ?_ ?_ ?_ ?_ ?_ ?_ ?_ ?_ ?_ ?_ ?_ ?_ ?_
  · kernel_rfl
  · kernel_rfl
  · kernel_rfl
  · kernel_rfl
  · kernel_rfl
  · kernel_rfl
  · kernel_rfl
  · kernel_rfl
  · kernel_rfl
  · kernel_rfl
  · kernel_rfl
  · kernel_rfl
  · kernel_rfl
  · intro op e0 e16 e32 e48 e144 e64 e80 e160 e96 e112 e192 e128 e176
    simp only [aluN, aluVN, aluOk, e0, e16, e32, e48, e144, e64, e80, e160, e96, e112, e192, e128, e176, cond_false, cond_true, Option.map]

theorem refAluW_val (op a b : U) : (refAluW op a b).map Prod.snd = some (.t [.a (.i .u64 (aluVW op a b)), .a (.b (aluOk op))]) := by
  revert op
  refine opCases ?_ ?_ ?_ ?_ ?_ ?_ ?_ ?_ ?_ ?_ ?_ ?_ ?_ ?_
  · kernel_rfl
  · kernel_rfl
  · kernel_rfl
  · kernel_rfl
  · kernel_rfl
  · kernel_rfl
  · kernel_rfl
  · kernel_rfl
  · show some (V.t [.a (.i .u64 (bsum (shF 64 (K 96) a b) 64)), .a (.b true)]) = _; rw [sh_lsh64]; kernel_rfl
  · show some (V.t [.a (.i .u64 (bsum (shF 64 (K 112) a b) 64)), .a (.b true)]) = _; rw [sh_rsh64]; kernel_rfl
  · show some (V.t [.a (.i .u64 (bsum (shF 64 (K 192) a b) 64)), .a (.b true)]) = _; rw [sh_arsh64]; kernel_rfl
  · kernel_rfl
  · kernel_rfl
  · intro op e0 e16 e32 e48 e144 e64 e80 e160 e96 e112 e192 e128 e176
    simp only [refAluW, aluVW, aluOk, e0, e16, e32, e48, e144, e64, e80, e160, e96, e112, e192, e128, e176, cond_false, cond_true, Option.map]

theorem nrm_bits {x y : U} (h : ∀ j, j < 32 → x.getLsbD j = y.getLsbD j) : nrm .u32 x = nrm .u32 y := by
  apply BitVec.eq_of_getLsbD_eq
  intro j _
  rw [nrm_u32_bit, nrm_u32_bit]
  by_cases hj : j < 32
  · rw [h j hj]
  · simp [hj]
theorem nrm_u32_toNat (x : U) : (nrm .u32 x).toNat = x.toNat % 4294967296 := by
  unfold nrm
  simp only [BitVec.toNat_setWidth]
  omega
theorem nrm_nat {x y : U} (h : x.toNat % 4294967296 = y.toNat % 4294967296) : nrm .u32 x = nrm .u32 y := by
  apply BitVec.eq_of_toNat_eq; rw [nrm_u32_toNat, nrm_u32_toNat, h]
theorem nrm_add (a b : U) : nrm .u32 (nrm .u32 a + nrm .u32 b) = nrm .u32 (a + b) := nrm_nat (by rw [BitVec.toNat_add, BitVec.toNat_add, nrm_u32_toNat, nrm_u32_toNat]; omega)
theorem nrm_sub (a b : U) : nrm .u32 (nrm .u32 a - nrm .u32 b) = nrm .u32 (a - b) := nrm_nat (by rw [BitVec.toNat_sub, BitVec.toNat_sub, nrm_u32_toNat, nrm_u32_toNat]; omega)
theorem nrm_neg (a : U) : nrm .u32 (K 0 - nrm .u32 a) = nrm .u32 (0#64 - a) := nrm_nat (by rw [BitVec.toNat_sub, BitVec.toNat_sub, nrm_u32_toNat, K0]; simp only [BitVec.toNat_ofNat]; omega)
theorem nrm_mul (a b : U) : nrm .u32 (nrm .u32 a * nrm .u32 b) = nrm .u32 (a * b) := nrm_nat (by
  rw [BitVec.toNat_mul, BitVec.toNat_mul, nrm_u32_toNat, nrm_u32_toNat, Nat.mod_mod_of_dvd _ (by decide), Nat.mod_mod_of_dvd _ (by decide)]
  exact (Nat.mul_mod _ _ _).symm)
theorem nrm_or (a b : U) : nrm .u32 a ||| nrm .u32 b = nrm .u32 (a ||| b) := BitVec.eq_of_getLsbD_eq fun j _ => by
  rw [BitVec.getLsbD_or, nrm_u32_bit, nrm_u32_bit, nrm_u32_bit, BitVec.getLsbD_or]; cases decide (j < 32) <;> rfl
theorem nrm_and (a b : U) : nrm .u32 a &&& nrm .u32 b = nrm .u32 (a &&& b) := BitVec.eq_of_getLsbD_eq fun j _ => by
  rw [BitVec.getLsbD_and, nrm_u32_bit, nrm_u32_bit, nrm_u32_bit, BitVec.getLsbD_and]; cases decide (j < 32) <;> rfl
theorem nrm_xor (a b : U) : nrm .u32 a ^^^ nrm .u32 b = nrm .u32 (a ^^^ b) := BitVec.eq_of_getLsbD_eq fun j _ => by
  rw [BitVec.getLsbD_xor, nrm_u32_bit, nrm_u32_bit, nrm_u32_bit, BitVec.getLsbD_xor]; cases decide (j < 32) <;> rfl
theorem nrm_nrm (a : U) : nrm .u32 (nrm .u32 a) = nrm .u32 a := nrm_nat (by rw [nrm_u32_toNat]; omega)
theorem nrm_div (a b : U) : nrm .u32 (cond (nrm .u32 b == K 0) (K 0) (nrm .u32 a / nrm .u32 b)) = nrm .u32 (cond (nrm .u32 b == nrm .u32 (K 0)) (K 0) (nrm .u32 a / nrm .u32 b)) := by rw [nrm0, K0]
theorem nrm_mod (a b : U) : nrm .u32 (cond (nrm .u32 b == K 0) (nrm .u32 a) (nrm .u32 a % nrm .u32 b)) = nrm .u32 (cond (nrm .u32 b == nrm .u32 (K 0)) a (nrm .u32 a % nrm .u32 b)) := by
  rw [nrm0, K0]; cases nrm .u32 b == 0#64
  · rfl
  · simp only [cond_true, nrm_nrm]

theorem refAluN_val (op a b : U) : (refAluN op a b).map Prod.snd = some (.t [.a (.i .u64 (aluVN op a b)), .a (.b (aluOk op))]) := by
  revert op
  refine opCases ?_ ?_ ?_ ?_ ?_ ?_ ?_ ?_ ?_ ?_ ?_ ?_ ?_ ?_
  · show some (V.t [.a (.i .u64 (nrm .u32 (nrm .u32 a + nrm .u32 b))), .a (.b true)]) = _; rw [nrm_add]; kernel_rfl
  · show some (V.t [.a (.i .u64 (nrm .u32 (nrm .u32 a - nrm .u32 b))), .a (.b true)]) = _; rw [nrm_sub]; kernel_rfl
  · show some (V.t [.a (.i .u64 (nrm .u32 (nrm .u32 a * nrm .u32 b))), .a (.b true)]) = _; rw [nrm_mul]; kernel_rfl
  · show some (V.t [.a (.i .u64 (nrm .u32 (cond (nrm .u32 b == K 0) (K 0) (nrm .u32 a / nrm .u32 b)))), .a (.b true)]) = _; rw [nrm_div]; kernel_rfl
  · show some (V.t [.a (.i .u64 (nrm .u32 (cond (nrm .u32 b == K 0) (nrm .u32 a) (nrm .u32 a % nrm .u32 b)))), .a (.b true)]) = _; rw [nrm_mod]; kernel_rfl
  · show some (V.t [.a (.i .u64 (nrm .u32 a ||| nrm .u32 b)), .a (.b true)]) = _; rw [nrm_or]; kernel_rfl
  · show some (V.t [.a (.i .u64 (nrm .u32 a &&& nrm .u32 b)), .a (.b true)]) = _; rw [nrm_and]; kernel_rfl
  · show some (V.t [.a (.i .u64 (nrm .u32 a ^^^ nrm .u32 b)), .a (.b true)]) = _; rw [nrm_xor]; kernel_rfl
  · show some (V.t [.a (.i .u64 (bsum (shF 32 (K 96) (nrm .u32 a) (nrm .u32 b)) 32)), .a (.b true)]) = _; rw [sh_lsh32]; kernel_rfl
  · show some (V.t [.a (.i .u64 (bsum (shF 32 (K 112) (nrm .u32 a) (nrm .u32 b)) 32)), .a (.b true)]) = _; rw [sh_rsh32]; kernel_rfl
  · show some (V.t [.a (.i .u64 (bsum (shF 32 (K 192) (nrm .u32 a) (nrm .u32 b)) 32)), .a (.b true)]) = _; rw [sh_arsh32]; kernel_rfl
  · show some (V.t [.a (.i .u64 (nrm .u32 (K 0 - nrm .u32 a))), .a (.b true)]) = _; rw [nrm_neg]; kernel_rfl
  · show some (V.t [.a (.i .u64 (nrm .u32 (nrm .u32 b))), .a (.b true)]) = _; rw [nrm_nrm]; kernel_rfl
  · intro op e0 e16 e32 e48 e144 e64 e80 e160 e96 e112 e192 e128 e176
    simp only [refAluN, aluVN, aluOk, e0, e16, e32, e48, e144, e64, e80, e160, e96, e112, e192, e128, e176, cond_false, cond_true, Option.map]

theorem jumpW_val (op a b : U) : (jumpW op a b).map Prod.snd = some (.t [.a (.b (jumpVW op a b)), .a (.b (jumpOk op))]) := by
  revert op
  refine jopCases ?_ ?_ ?_ ?_ ?_ ?_ ?_ ?_ ?_ ?_ ?_ ?_
  · kernel_rfl
  · kernel_rfl
  · kernel_rfl
  · kernel_rfl
  · kernel_rfl
  · kernel_rfl
  · kernel_rfl
  · kernel_rfl
  · kernel_rfl
  · kernel_rfl
  · kernel_rfl
  · intro op e16 e32 e48 e64 e80 e96 e112 e160 e176 e192 e208
    simp only [jumpW, jumpVW, jumpOk, e16, e32, e48, e64, e80, e96, e112, e160, e176, e192, e208, cond_false, cond_true, Option.map]

theorem jumpN_val (op a b : U) : (jumpN op a b).map Prod.snd = some (.t [.a (.b (jumpVN op a b)), .a (.b (jumpOk op))]) := by
  revert op
  refine jopCases ?_ ?_ ?_ ?_ ?_ ?_ ?_ ?_ ?_ ?_ ?_ ?_
  · kernel_rfl
  · kernel_rfl
  · kernel_rfl
  · kernel_rfl
  · kernel_rfl
  · kernel_rfl
  · kernel_rfl
  · kernel_rfl
  · kernel_rfl
  · kernel_rfl
  · kernel_rfl
  · intro op e16 e32 e48 e64 e80 e96 e112 e160 e176 e192 e208
    simp only [jumpN, jumpVN, jumpOk, e16, e32, e48, e64, e80, e96, e112, e160, e176, e192, e208, cond_false, cond_true, Option.map]

theorem pos_ne (x : U) : (K 0).ult x = (x != K 0) := by
  rw [K0, Bool.eq_iff_iff, bne_iff_ne, BitVec.ult, decide_eq_true_iff, ne_eq, ← BitVec.toNat_inj]
  simp only [BitVec.toNat_ofNat]; omega
def sg32 (a : U) : U := cond ((nrm .u32 a >>> (K 31).toNat) % K 2 == K 1) (nrm .u32 a - K 4294967296) (nrm .u32 a)
theorem sg32_eq (a : U) : sg32 a = nrm .i32 a := by
  unfold sg32
  rw [show ((nrm .u32 a >>> (K 31).toNat) % K 2 == K 1) = (nrm .u32 a).getLsbD 31 from bitT_eq _ 31 (by decide), nrm_u32_bit]
  have hm : (a.setWidth 32).msb = a.getLsbD 31 := by rw [BitVec.msb_eq_getLsbD_last]; simp
  have e : (nrm .i32 a) = (a.setWidth 32).signExtend 64 := rfl
  have hc : a.getLsbD 31 = true ↔ 2147483648 ≤ a.toNat % 4294967296 := by
    rw [← hm, BitVec.msb_eq_decide, decide_eq_true_iff]
    simp
  apply BitVec.eq_of_toNat_eq
  rw [e, BitVec.toNat_signExtend, hm]
  cases h : a.getLsbD 31
  · have : ¬ 2147483648 ≤ a.toNat % 4294967296 := fun h' => by rw [hc.2 h'] at h; cases h
    simp [nrm_u32_toNat]
    omega
  · have h' := hc.1 h
    simp only [Bool.and_true, show decide (31 < 32) = true from rfl, cond_true, if_true]
    rw [BitVec.toNat_sub, nrm_u32_toNat, show (K 4294967296).toNat = 4294967296 from by decide]
    simp
    omega

theorem refJumpW_val (op a b : U) : (refJumpW op a b).map Prod.snd = some (.t [.a (.b (jumpVW op a b)), .a (.b (jumpOk op))]) := by
  revert op
  refine jopCases ?_ ?_ ?_ ?_ ?_ ?_ ?_ ?_ ?_ ?_ ?_ ?_
  · kernel_rfl
  · kernel_rfl
  · kernel_rfl
  · show some (V.t [.a (.b ((K 0).ult (a &&& b))), .a (.b true)]) = _; rw [pos_ne]; kernel_rfl
  · kernel_rfl
  · kernel_rfl
  · kernel_rfl
  · kernel_rfl
  · kernel_rfl
  · kernel_rfl
  · kernel_rfl
  · intro op e16 e32 e48 e64 e80 e96 e112 e160 e176 e192 e208
    simp only [refJumpW, jumpVW, jumpOk, e16, e32, e48, e64, e80, e96, e112, e160, e176, e192, e208, cond_false, cond_true, Option.map]

theorem refJumpN_val (op a b : U) : (refJumpN op a b).map Prod.snd = some (.t [.a (.b (jumpVN op a b)), .a (.b (jumpOk op))]) := by
  revert op
  refine jopCases ?_ ?_ ?_ ?_ ?_ ?_ ?_ ?_ ?_ ?_ ?_ ?_
  · have e16 : (K 16 == K 16) = true := by decide
    have e32 : (K 16 == K 32) = false := by decide
    have e48 : (K 16 == K 48) = false := by decide
    have e64 : (K 16 == K 64) = false := by decide
    have e80 : (K 16 == K 80) = false := by decide
    have e96 : (K 16 == K 96) = false := by decide
    have e112 : (K 16 == K 112) = false := by decide
    have e160 : (K 16 == K 160) = false := by decide
    have e176 : (K 16 == K 176) = false := by decide
    have e192 : (K 16 == K 192) = false := by decide
    have e208 : (K 16 == K 208) = false := by decide
    simp only [refJumpN, jumpVN, jumpOk, e16, e32, e48, e64, e80, e96, e112, e160, e176, e192, e208, cond_false, cond_true, Option.map]
  · have e16 : (K 32 == K 16) = false := by decide
    have e32 : (K 32 == K 32) = true := by decide
    have e48 : (K 32 == K 48) = false := by decide
    have e64 : (K 32 == K 64) = false := by decide
    have e80 : (K 32 == K 80) = false := by decide
    have e96 : (K 32 == K 96) = false := by decide
    have e112 : (K 32 == K 112) = false := by decide
    have e160 : (K 32 == K 160) = false := by decide
    have e176 : (K 32 == K 176) = false := by decide
    have e192 : (K 32 == K 192) = false := by decide
    have e208 : (K 32 == K 208) = false := by decide
    simp only [refJumpN, jumpVN, jumpOk, e16, e32, e48, e64, e80, e96, e112, e160, e176, e192, e208, cond_false, cond_true, Option.map]
  · have e16 : (K 48 == K 16) = false := by decide
    have e32 : (K 48 == K 32) = false := by decide
    have e48 : (K 48 == K 48) = true := by decide
    have e64 : (K 48 == K 64) = false := by decide
    have e80 : (K 48 == K 80) = false := by decide
    have e96 : (K 48 == K 96) = false := by decide
    have e112 : (K 48 == K 112) = false := by decide
    have e160 : (K 48 == K 160) = false := by decide
    have e176 : (K 48 == K 176) = false := by decide
    have e192 : (K 48 == K 192) = false := by decide
    have e208 : (K 48 == K 208) = false := by decide
    simp only [refJumpN, jumpVN, jumpOk, e16, e32, e48, e64, e80, e96, e112, e160, e176, e192, e208, cond_false, cond_true, Option.map]
  · show some (V.t [.a (.b ((K 0).ult (nrm .u32 a &&& nrm .u32 b))), .a (.b true)]) = _; rw [pos_ne, nrm_and]; kernel_rfl
  · have e16 : (K 80 == K 16) = false := by decide
    have e32 : (K 80 == K 32) = false := by decide
    have e48 : (K 80 == K 48) = false := by decide
    have e64 : (K 80 == K 64) = false := by decide
    have e80 : (K 80 == K 80) = true := by decide
    have e96 : (K 80 == K 96) = false := by decide
    have e112 : (K 80 == K 112) = false := by decide
    have e160 : (K 80 == K 160) = false := by decide
    have e176 : (K 80 == K 176) = false := by decide
    have e192 : (K 80 == K 192) = false := by decide
    have e208 : (K 80 == K 208) = false := by decide
    simp only [refJumpN, jumpVN, jumpOk, e16, e32, e48, e64, e80, e96, e112, e160, e176, e192, e208, cond_false, cond_true, Option.map]
  · show some (V.t [.a (.b ((sg32 b).slt (sg32 a))), .a (.b true)]) = _; rw [sg32_eq, sg32_eq]; kernel_rfl
  · show some (V.t [.a (.b ((sg32 b).sle (sg32 a))), .a (.b true)]) = _; rw [sg32_eq, sg32_eq]; kernel_rfl
  · have e16 : (K 160 == K 16) = false := by decide
    have e32 : (K 160 == K 32) = false := by decide
    have e48 : (K 160 == K 48) = false := by decide
    have e64 : (K 160 == K 64) = false := by decide
    have e80 : (K 160 == K 80) = false := by decide
    have e96 : (K 160 == K 96) = false := by decide
    have e112 : (K 160 == K 112) = false := by decide
    have e160 : (K 160 == K 160) = true := by decide
    have e176 : (K 160 == K 176) = false := by decide
    have e192 : (K 160 == K 192) = false := by decide
    have e208 : (K 160 == K 208) = false := by decide
    simp only [refJumpN, jumpVN, jumpOk, e16, e32, e48, e64, e80, e96, e112, e160, e176, e192, e208, cond_false, cond_true, Option.map]
  · have e16 : (K 176 == K 16) = false := by decide
    have e32 : (K 176 == K 32) = false := by decide
    have e48 : (K 176 == K 48) = false := by decide
    have e64 : (K 176 == K 64) = false := by decide
    have e80 : (K 176 == K 80) = false := by decide
    have e96 : (K 176 == K 96) = false := by decide
    have e112 : (K 176 == K 112) = false := by decide
    have e160 : (K 176 == K 160) = false := by decide
    have e176 : (K 176 == K 176) = true := by decide
    have e192 : (K 176 == K 192) = false := by decide
    have e208 : (K 176 == K 208) = false := by decide
    simp only [refJumpN, jumpVN, jumpOk, e16, e32, e48, e64, e80, e96, e112, e160, e176, e192, e208, cond_false, cond_true, Option.map]
  · show some (V.t [.a (.b ((sg32 a).slt (sg32 b))), .a (.b true)]) = _; rw [sg32_eq, sg32_eq]; kernel_rfl
  · show some (V.t [.a (.b ((sg32 a).sle (sg32 b))), .a (.b true)]) = _; rw [sg32_eq, sg32_eq]; kernel_rfl
  · intro op e16 e32 e48 e64 e80 e96 e112 e160 e176 e192 e208
    simp only [refJumpN, jumpVN, jumpOk, e16, e32, e48, e64, e80, e96, e112, e160, e176, e192, e208, cond_false, cond_true, Option.map]

end Go.VE