/- math/bits.Mul64 as it is written, and what it is. -/
import Derived.Test.YtkkkcocehkfbcaaLoops
namespace Go.VE
open Go
def m32 (x : U) : U := x &&& BitVec.ofInt 64 4294967295
def s32 (x : U) : U := x >>> (BitVec.ofInt 64 32).toNat
def mulT (x y : U) : U := s32 x * m32 y + s32 (m32 x * m32 y)
def mulW (x y : U) : U := m32 (mulT x y) + m32 x * s32 y
def mulHiT (x y : U) : U := s32 x * s32 y + s32 (mulT x y) + s32 (mulW x y)
def mulHi (x y : U) : U := BitVec.ofNat 64 (x.toNat * y.toNat / 2 ^ 64)

theorem m32_toNat (x : U) : (m32 x).toNat = x.toNat % 4294967296 := by
  unfold m32
  rw [BitVec.toNat_and, show (BitVec.ofInt 64 4294967295).toNat = 2 ^ 32 - 1 by decide, Nat.and_two_pow_sub_one_eq_mod]
theorem s32_toNat (x : U) : (s32 x).toNat = x.toNat / 4294967296 := by
  unfold s32
  rw [show (BitVec.ofInt 64 32).toNat = 32 by decide, BitVec.toNat_ushiftRight, Nat.shiftRight_eq_div_pow]

theorem prod_lt {a b : Nat} (ha : a ≤ 4294967295) (hb : b ≤ 4294967295) : a * b ≤ 18446744065119617025 :=
  Nat.mul_le_mul ha hb

theorem mulHi_eq (x y : U) : mulHiT x y = mulHi x y := by
  have hx := x.isLt
  have hy := y.isLt
  generalize hx0 : x.toNat % 4294967296 = x0
  generalize hx1 : x.toNat / 4294967296 = x1
  generalize hy0 : y.toNat % 4294967296 = y0
  generalize hy1 : y.toNat / 4294967296 = y1
  have p00 := prod_lt (a := x0) (b := y0) (by omega) (by omega)
  have p01 := prod_lt (a := x0) (b := y1) (by omega) (by omega)
  have p10 := prod_lt (a := x1) (b := y0) (by omega) (by omega)
  have p11 := prod_lt (a := x1) (b := y1) (by omega) (by omega)
  have ex : x.toNat = x1 * 4294967296 + x0 := by omega
  have ey : y.toNat = y1 * 4294967296 + y0 := by omega
  have e : x.toNat * y.toNat = x1 * y1 * 18446744073709551616 + (x1 * y0 + x0 * y1) * 4294967296 + x0 * y0 := by
    rw [ex, ey, Nat.add_mul, Nat.mul_add, Nat.mul_add]
    have a1 : x1 * 4294967296 * (y1 * 4294967296) = x1 * y1 * 18446744073709551616 := by
      rw [Nat.mul_mul_mul_comm]
    have a2 : x1 * 4294967296 * y0 = x1 * y0 * 4294967296 := by rw [Nat.mul_right_comm]
    have a3 : x0 * (y1 * 4294967296) = x0 * y1 * 4294967296 := by rw [Nat.mul_assoc]
    rw [a1, a2, a3, Nat.add_mul]
    omega
  have ht : (mulT x y).toNat = x1 * y0 + x0 * y0 / 4294967296 := by
    unfold mulT
    rw [BitVec.toNat_add, BitVec.toNat_mul, s32_toNat, m32_toNat, s32_toNat, BitVec.toNat_mul, m32_toNat, m32_toNat, hx0, hx1, hy0]
    rw [Nat.mod_eq_of_lt (a := x0 * y0) (by omega), Nat.mod_eq_of_lt (a := x1 * y0) (by omega)]
    omega
  have hw : (mulW x y).toNat = (x1 * y0 + x0 * y0 / 4294967296) % 4294967296 + x0 * y1 := by
    unfold mulW
    rw [BitVec.toNat_add, BitVec.toNat_mul, m32_toNat, m32_toNat, s32_toNat, ht, hx0, hy1]
    rw [Nat.mod_eq_of_lt (a := x0 * y1) (by omega)]
    omega
  apply BitVec.eq_of_toNat_eq
  unfold mulHiT mulHi
  rw [BitVec.toNat_add, BitVec.toNat_add, BitVec.toNat_mul, s32_toNat, s32_toNat, s32_toNat, s32_toNat, ht, hw, hx1, hy1, BitVec.toNat_ofNat, e]
  rw [Nat.mod_eq_of_lt (a := x1 * y1) (by omega)]
  generalize x0 * y0 = q00 at *
  generalize x0 * y1 = q01 at *
  generalize x1 * y0 = q10 at *
  generalize x1 * y1 = q11 at *
  omega

/-! ### as the evaluator tells them: numbers that it knows, and that are the same, are one -/

def A.val (a : A) : U := match a.bv with
  | some (_, y) => y
  | none => 0#64

theorem mergeA_bv {c : Bool} {x y : A} {k : IntKind} {p q : U} (hx : x.bv = some (k, p)) (hy : y.bv = some (k, q)) : (mergeA c x y).bv = some (k, cond c p q) := by
  have hk : kEq k k = true := by simp [kEq]
  have hm : (mergeInt c x y).bv = some (k, cond c p q) := by unfold mergeInt; rw [hx, hy]; simp only [hk, if_true]; rfl
  have hb : ∀ z : A, z.bv ≠ none → z.bool? = none := by intro z hz; cases z <;> simp [A.bv] at hz <;> rfl
  have hB : mergeBool c x y = mergeInt c x y := by
    unfold mergeBool
    rw [hb x (by rw [hx]; simp), hb y (by rw [hy]; simp)]
  cases x <;> simp [A.bv] at hx
  · rename_i k1 m
    cases y <;> simp [A.bv] at hy
    · rename_i k2 n
      obtain ⟨rfl, rfl⟩ := hx
      obtain ⟨rfl, rfl⟩ := hy
      simp only [mergeA]
      split
      · rename_i h
        simp only [Bool.and_eq_true, decide_eq_true_eq] at h
        rw [h.2]
        simp only [A.bv]
        cases c <;> rfl
      · exact hm
    · simp only [mergeA]; rw [hB]; exact hm
  · cases y <;> simp [A.bv] at hy
    · simp only [mergeA]; rw [hB]; exact hm
    · simp only [mergeA]; rw [hB]; exact hm

def onesA : Nat → Int → U → A
  | 0, n, _ => .lit .u64 n
  | k + 1, n, v => mergeA ((BitVec.ofInt 64 n).ult v) (onesA k (IntKind.u64.wrap (IntKind.u64.wrap (2 * n) + 1)) v) (.lit .u64 n)
theorem onesA_bv (v : U) : ∀ (k : Nat) (n : Int), (onesA k n v).bv = some (.u64, onesT k n v)
  | 0, _ => rfl
  | k + 1, _ => mergeA_bv (onesA_bv v k _) rfl

def byA : Nat → Int → Int → U → A
  | 0, _, p, _ => .lit .u64 p
  | k + 1, i, p, n => mergeA ((BitVec.ofInt 64 i).slt n) (byA k (IntKind.i64.wrap (i + 1)) (IntKind.u64.wrap (2 * p)) n) (.lit .u64 p)
theorem byA_bv (n : U) : ∀ (k : Nat) (i p : Int), (byA k i p n).bv = some (.u64, byT k i p n)
  | 0, _, _ => rfl
  | k + 1, _, _ => mergeA_bv (byA_bv n k _ _) rfl

theorem onesA_val (v : U) (k : Nat) (n : Int) : (onesA k n v).val = onesT k n v := by unfold A.val; rw [onesA_bv]
theorem byA_val (n : U) (k : Nat) (i p : Int) : (byA k i p n).val = byT k i p n := by unfold A.val; rw [byA_bv]
end Go.VE
