/- The law WordBack: what is put is got, all else stays; of a list of any length. -/
import Derived.Test.YtnjjcklhpgfnjaaListC
namespace Go.WE
set_option linter.unusedVariables false
set_option maxRecDepth 100000
open Go Go.Proofs

abbrev UU := BitVec 64
/-- A list into which a number's bytes are put. -/
def xB (g : Nat → UU) (p : Nat) (v : UU) : Nat → Nat → UU
  | 0 => g
  | k + 1 => fun j => bif Nat.beq j (p + k) then v >>> (KK (Int.ofNat (8 * k))).toNat else xB g p v k j
def getB (x : Nat → UU) (p : Nat) : Nat → UU
  | 0 => KK 0
  | k + 1 => getB x p k ||| (nrm .u8 (x (p + k))) <<< (KK (Int.ofNat (8 * k))).toNat
def okP (n s : Nat) (a : UU) : Nat → Bool
  | 0 => fitB n a s && (Nat.ble n CC && isSize s)
  | k + 1 => okP n s a k && Nat.blt (a.toNat + k) n
def sz (n : Nat) : Bool := Nat.ble n CC && Nat.ble n CC
def okIn (st len n : Nat) : Bool := Nat.ble (st + len) n && (Nat.ble (st + len) n && sz len)

/-- A number put where it fits. -/
def backF (s : Nat) (want : UU) (n : Nat) (g : Nat → UU) (a v : UU) : Bool × Bool :=
  let x := xB g a.toNat v s
  let q := KK (Int.ofNat s)
  let t0 := BitVec.sle (KK 0) a
  let t1 := BitVec.sle q (BitVec.ofNat 64 n)
  let t5 := cond t0 (cond t1 (BitVec.sle a (BitVec.ofNat 64 n - q)) false) false
  let t6 := cond (!(true == t5)) true (!(true == t5))
  let t8 := cond t6 true (BitVec.ofNat 64 n != BitVec.ofNat 64 n)
  let t10 := Nat.blt 0 n && (Nat.beq n n && Nat.ble n CC)
  let t13 := okP n s a s
  let t14 := Nat.blt n (2 ^ 63)
  let t15 := (t10 && t13) && t14
  let t16 := cond t1 (t15 && t14) t15
  let t17 := cond t0 t16 (t10 && t13)
  let t18 := (t17 && t13) && t14
  let t19 := cond t6 (t17 && t13) (t18 && t14)
  let got := getB x a.toNat s
  let t27 := okIn 0 n n
  let d1 := sameD n n (fun j => x (0 + j)) (fun j => g (0 + j))
  let t28 := cond d1 (t19 && t27) (t19 && t27)
  let t29 := cond (got == KK 0) t28 t19
  let t30 := got == want
  let t33 := (!t30) || ((!(BitVec.msb a)) && (Nat.ble 0 a.toNat && Nat.ble a.toNat n))
  let t35 := a.toNat - 0
  let t39 := ((t19 && t33) && t33) && ((!t30) || okIn 0 t35 n)
  let t40 := cond t30 (sameD t35 t35 (fun j => x (0 + j)) (fun j => g (0 + j))) false
  let t43 := (!t40) || ((!(BitVec.msb (a + q))) && (Nat.ble (a + q).toNat n && Nat.ble n n))
  let t45 := 0 + (a + q).toNat
  let t46 := n - (a + q).toNat
  let t50 := ((t39 && t43) && t43) && ((!t40) || okIn t45 t46 n)
  let t51 := cond (!t5) t29 t50
  let t53 := cond d1 true false
  let t54 := cond (got == KK 0) t53 false
  let t55 := cond t40 (sameD t46 t46 (fun j => x (t45 + j)) (fun j => g (t45 + j))) false
  (cond t8 t19 t51, cond t8 false (cond (!t5) t54 (cond t55 true false)))

theorem backF_1 (n : Nat) (g : Nat → UU) (a v : UU) : (evalF cxB (ΓB true) 400 20 9 [slV 0 n none, ui a, li 1, .t (.a (.i .u64 v))] (hB n g)).res = some (.b (backF 1 (v % KK 256) n g a v).1, .t (.a (.b (backF 1 (v % KK 256) n g a v).2))) := by kernel_rfl
theorem backF_2 (n : Nat) (g : Nat → UU) (a v : UU) : (evalF cxB (ΓB true) 400 20 9 [slV 0 n none, ui a, li 2, .t (.a (.i .u64 v))] (hB n g)).res = some (.b (backF 2 (v % KK 65536) n g a v).1, .t (.a (.b (backF 2 (v % KK 65536) n g a v).2))) := by kernel_rfl
theorem backF_4 (n : Nat) (g : Nat → UU) (a v : UU) : (evalF cxB (ΓB true) 400 20 9 [slV 0 n none, ui a, li 4, .t (.a (.i .u64 v))] (hB n g)).res = some (.b (backF 4 (v % KK 4294967296) n g a v).1, .t (.a (.b (backF 4 (v % KK 4294967296) n g a v).2))) := by kernel_rfl
theorem backF_8 (n : Nat) (g : Nat → UU) (a v : UU) : (evalF cxB (ΓB true) 400 20 9 [slV 0 n none, ui a, li 8, .t (.a (.i .u64 v))] (hB n g)).res = some (.b (backF 8 (v) n g a v).1, .t (.a (.b (backF 8 (v) n g a v).2))) := by kernel_rfl

def sizeOK (s : UU) : Bool := cond (cond (cond (s == KK 1) true (s == KK 2)) true (s == KK 4)) true (s == KK 8)
/-- A number that does not fit. -/
def backN (n : Nat) (g : Nat → UU) (a s v : UU) : Bool × Bool :=
  let t4 := cond (sizeOK s) (BitVec.sle (KK 0) a) false
  let t5 := BitVec.sle s (BitVec.ofNat 64 n)
  let t9 := cond t4 (cond t5 (BitVec.sle a (BitVec.ofNat 64 n - s)) false) false
  let t10 := !(false == t9)
  let t11 := cond t10 true t10
  let t13 := cond t11 true (BitVec.ofNat 64 n != BitVec.ofNat 64 n)
  let t15 := Nat.blt 0 n && (Nat.beq n n && Nat.ble n CC)
  let t16 := pbad n a s && Nat.ble n CC
  let t17 := Nat.blt n (2 ^ 63)
  let t18 := (t15 && t16) && t17
  let t19 := cond t5 (t18 && t17) t18
  let t20 := cond t4 t19 (t15 && t16)
  let t21 := (t20 && t16) && t17
  let t22 := cond t11 (t20 && t16) (t21 && t17)
  let t25 := okIn 0 n n
  let d1 := sameD n n (fun j => g (0 + j)) (fun j => g (0 + j))
  let t26 := cond d1 (t22 && t25) (t22 && t25)
  let t27 := BitVec.slt s (KK 8)
  let t28 : UU := KK 1 <<< (KK 8 * s).toNat
  let t29 := t28 != BitVec.ofNat 64 0
  let t30 := cond t27 (t22 && t29) t22
  let t31 := cond t27 (v % t28) v
  let t32 := !(KK 0 == t31)
  let t35 := t32 || ((!(BitVec.msb a)) && (Nat.ble 0 a.toNat && Nat.ble a.toNat n))
  let t37 := a.toNat - 0
  let t41 := ((t30 && t35) && t35) && (t32 || okIn 0 t37 n)
  let t42 := cond (KK 0 == t31) (sameD t37 t37 (fun j => g (0 + j)) (fun j => g (0 + j))) false
  let t45 := (!t42) || ((!(BitVec.msb (a + s))) && (Nat.ble (a + s).toNat n && Nat.ble n n))
  let t47 := 0 + (a + s).toNat
  let t48 := n - (a + s).toNat
  let t52 := ((t41 && t45) && t45) && ((!t42) || okIn t47 t48 n)
  let t53 := cond (!t9) t26 t52
  let t55 := cond d1 true false
  let t56 := cond t42 (sameD t48 t48 (fun j => g (t47 + j)) (fun j => g (t47 + j))) false
  (cond t13 t22 t53, cond t13 false (cond (!t9) t55 (cond t56 true false)))
theorem backN_ev (n : Nat) (g : Nat → UU) (a s v : UU) : (evalF cxB (ΓB false) 400 20 9 [slV 0 n none, ui a, ui s, .t (.a (.i .u64 v))] (hB n g)).res = some (.b (backN n g a s v).1, .t (.a (.b (backN n g a s v).2))) := by kernel_rfl

/-! ### no list -/

noncomputable def r3 (n : Nat) (a s v : UU) : R := evalF cxB Γ0 400 20 9 [slV 0 n none, ui a, ui s, .t (.a (.i .u64 v))] (hM [] 1)
noncomputable def r4 (a s v : UU) : R := evalF cxB ΓZ 400 20 9 [.t (.a .nils), ui a, ui s, .t (.a (.i .u64 v))] H.none
def fits4 (sl : Bool) (d : UU) (a s : UU) : Bool := cond (cond (sizeOK s) (BitVec.sle (KK 0) a) false) (cond sl (BitVec.sle a d) false) false
def t13B (t9 e : Bool) : Bool := cond (cond (!(false == t9)) true (!(false == t9))) true e
def c3B (n : Nat) (a s : UU) : Bool :=
  let t9 := fits4 (BitVec.sle s (BitVec.ofNat 64 n)) (BitVec.ofNat 64 n - s) a s
  cond (t13B t9 (KK 0 != BitVec.ofNat 64 n)) true ((!t9) && true)
def v3B (n : Nat) (a s : UU) : Bool × Bool :=
  let t5 := BitVec.sle s (BitVec.ofNat 64 n)
  let t4 := cond (sizeOK s) (BitVec.sle (KK 0) a) false
  let t9 := fits4 t5 (BitVec.ofNat 64 n - s) a s
  let t10 := !(false == t9)
  let t11 := cond t10 true t10
  let t13 := t13B t9 (KK 0 != BitVec.ofNat 64 n)
  let t14 := Nat.beq n 0 && pbad0 a s
  let t15 := Nat.blt n (2 ^ 63)
  let t16 := (t14 && t15) && t15
  let t17 := cond t5 t16 (t14 && t15)
  let t18 := cond t4 t17 t14
  let t19 := t18 && pbad0 a s
  let t20 := cond t11 t19 (t19 && t15)
  let t21 := t20 && Nat.beq n 0
  (cond t13 t20 t21, cond t13 false true)
theorem r3_c (n : Nat) (a s v : UU) : (r3 n a s v).cnd = some (c3B n a s) := by kernel_rfl
theorem r3_v (n : Nat) (a s v : UU) : (r3 n a s v).atV true = some (.b (v3B n a s).1, .t (.a (.b (v3B n a s).2))) := by kernel_rfl
def c4B (a s : UU) : Bool :=
  let t9 := fits4 (BitVec.sle s (KK 0)) (KK 0 - s) a s
  cond (t13B t9 false) true ((!t9) && true)
def v4B (a s : UU) : Bool × Bool :=
  let t5 := BitVec.sle s (KK 0)
  let t4 := cond (sizeOK s) (BitVec.sle (KK 0) a) false
  let t9 := fits4 t5 (KK 0 - s) a s
  let t10 := !(false == t9)
  let t11 := t13B t9 false
  let t12 := cond t5 (pbad0 a s) (pbad0 a s)
  let t13 := cond t4 t12 (pbad0 a s)
  let t14 := t13 && pbad0 a s
  let t15 := cond (cond t10 true t10) t14 t14
  (cond t11 t15 t15, cond t11 false true)
theorem r4_c (a s v : UU) : (r4 a s v).cnd = some (c4B a s) := by kernel_rfl
theorem r4_v (a s v : UU) : (r4 a s v).atV true = some (.b (v4B a s).1, .t (.a (.b (v4B a s).2))) := by kernel_rfl
end Go.WE
