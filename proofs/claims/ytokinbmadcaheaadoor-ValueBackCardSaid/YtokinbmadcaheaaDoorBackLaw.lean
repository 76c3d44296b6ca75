/- ValueBack, at each place. -/
import Derived.Test.YtokinbmadcaheaaDoorBackB
namespace Go.WE
set_option linter.unusedVariables false
set_option maxRecDepth 100000
open Go Go.Proofs

theorem byte_nat (v : U) (n : Nat) : (nrm .u8 (v >>> n)).toNat = v.toNat / 2 ^ n % 256 := by
  simp [nrm, Nat.shiftRight_eq_div_pow, BitVec.toNat_ushiftRight]
  omega
theorem byte_bit (v : U) (n i : Nat) : (nrm .u8 (v >>> n)).getLsbD i = (decide (i < 8) && v.getLsbD (n + i)) := by
  simp [nrm, BitVec.getLsbD_setWidth]
  intro h
  omega
theorem or_bytes {v x : U} {n : Nat} (hx : ∀ i, x.getLsbD i = (decide (i < n) && v.getLsbD i)) (hn : n ≤ 56) (i : Nat) : (x ||| (nrm .u8 (v >>> n)) <<< n).getLsbD i = (decide (i < n + 8) && v.getLsbD i) := by
  rw [BitVec.getLsbD_or, BitVec.getLsbD_shiftLeft, byte_bit, hx]
  by_cases h1 : i < n
  · simp [h1]; omega
  · by_cases h2 : i < n + 8
    · have e : n + (i - n) = i := by omega
      have : i < 64 := by omega
      have : i - n < 8 := by omega
      simp [*]
    · have : ¬ i - n < 8 := by omega
      simp [*]
theorem or_z (v : U) (i : Nat) : (K 0).getLsbD i = (decide (i < 0) && v.getLsbD i) := by simp
theorem low_nat {v x : U} {n : Nat} (hx : ∀ i, x.getLsbD i = (decide (i < n) && v.getLsbD i)) : x.toNat = v.toNat % 2 ^ n := by
  apply Nat.eq_of_testBit_eq
  intro i
  rw [Nat.testBit_mod_two_pow]
  exact hx i
theorem sum_nat {v x : U} {m n : Nat} (hx : x.toNat = v.toNat / 2 ^ (n + 8) % 2 ^ m) (hm : m ≤ 56) : (K 256 * x + nrm .u8 (v >>> n)).toNat = v.toNat / 2 ^ n % 2 ^ (m + 8) := by
  have hk : (K 256).toNat = 256 := rfl
  rw [BitVec.toNat_add, BitVec.toNat_mul, byte_nat, hx, hk]
  have e1 : v.toNat / 2 ^ (n + 8) = v.toNat / 2 ^ n / 256 := by rw [Nat.pow_add, ← Nat.div_div_eq_div_mul]
  rw [e1]
  generalize v.toNat / 2 ^ n = w
  have h2 : w / 256 % 2 ^ m < 2 ^ m := Nat.mod_lt _ (Nat.two_pow_pos _)
  have h3 : 2 ^ m ≤ 2 ^ 56 := Nat.pow_le_pow_right (by omega) hm
  have h4 : w % 2 ^ (m + 8) = 256 * (w / 256 % 2 ^ m) + w % 256 := by
    rw [Nat.pow_add, Nat.mul_comm (2 ^ m) (2 ^ 8), Nat.mod_mul, show 2 ^ 8 = 256 from rfl]
    omega
  rw [h4]
  omega
theorem sum_z {v : U} {n : Nat} : (K 0 + nrm .u8 (v >>> n)).toNat = v.toNat / 2 ^ n % 2 ^ (0 + 8) := by
  rw [BitVec.toNat_add, byte_nat]
  have hk : (K 0).toNat = 0 := rfl
  rw [hk]
  omega
theorem ne_no {x y : U} (h : x.toNat = y.toNat) : (x != y) = false := by
  rw [BitVec.eq_of_toNat_eq h]
  simp
theorem bad_no {x y c : U} (h1 : x.toNat = c.toNat) (h2 : y.toNat = c.toNat) : cond (x != c) true (y != c) = false := by
  rw [ne_no h1, ne_no h2]; rfl
def or0 (v : U) : U := (K 0 ||| (nrm .u8 (v >>> (BitVec.toNat (K 0)))) <<< (BitVec.toNat (K 0)))
def sum0 (v : U) : U := (K 0 + nrm .u8 (v >>> (BitVec.toNat (K 0))))
def cut0 (v : U) : U := v % K 256
def bad0 (v : U) : Bool := cond (or0 v != cut0 v) true (sum0 v != cut0 v)
def or1 (v : U) : U := ((K 0 ||| (nrm .u8 (v >>> (BitVec.toNat (K 0)))) <<< (BitVec.toNat (K 0))) ||| (nrm .u8 (v >>> (BitVec.toNat (K 8)))) <<< (BitVec.toNat (K 8)))
def sum1 (v : U) : U := (K 256 * (K 0 + nrm .u8 (v >>> (BitVec.toNat (K 8)))) + nrm .u8 (v >>> (BitVec.toNat (K 0))))
def cut1 (v : U) : U := v % K 65536
def bad1 (v : U) : Bool := cond (or1 v != cut1 v) true (sum1 v != cut1 v)
def or2 (v : U) : U := ((((K 0 ||| (nrm .u8 (v >>> (BitVec.toNat (K 0)))) <<< (BitVec.toNat (K 0))) ||| (nrm .u8 (v >>> (BitVec.toNat (K 8)))) <<< (BitVec.toNat (K 8))) ||| (nrm .u8 (v >>> (BitVec.toNat (K 16)))) <<< (BitVec.toNat (K 16))) ||| (nrm .u8 (v >>> (BitVec.toNat (K 24)))) <<< (BitVec.toNat (K 24)))
def sum2 (v : U) : U := (K 256 * (K 256 * (K 256 * (K 0 + nrm .u8 (v >>> (BitVec.toNat (K 24)))) + nrm .u8 (v >>> (BitVec.toNat (K 16)))) + nrm .u8 (v >>> (BitVec.toNat (K 8)))) + nrm .u8 (v >>> (BitVec.toNat (K 0))))
def cut2 (v : U) : U := v % K 4294967296
def bad2 (v : U) : Bool := cond (or2 v != cut2 v) true (sum2 v != cut2 v)
def or3 (v : U) : U := ((((((((K 0 ||| (nrm .u8 (v >>> (BitVec.toNat (K 0)))) <<< (BitVec.toNat (K 0))) ||| (nrm .u8 (v >>> (BitVec.toNat (K 8)))) <<< (BitVec.toNat (K 8))) ||| (nrm .u8 (v >>> (BitVec.toNat (K 16)))) <<< (BitVec.toNat (K 16))) ||| (nrm .u8 (v >>> (BitVec.toNat (K 24)))) <<< (BitVec.toNat (K 24))) ||| (nrm .u8 (v >>> (BitVec.toNat (K 32)))) <<< (BitVec.toNat (K 32))) ||| (nrm .u8 (v >>> (BitVec.toNat (K 40)))) <<< (BitVec.toNat (K 40))) ||| (nrm .u8 (v >>> (BitVec.toNat (K 48)))) <<< (BitVec.toNat (K 48))) ||| (nrm .u8 (v >>> (BitVec.toNat (K 56)))) <<< (BitVec.toNat (K 56)))
def sum3 (v : U) : U := (K 256 * (K 256 * (K 256 * (K 256 * (K 256 * (K 256 * (K 256 * (K 0 + nrm .u8 (v >>> (BitVec.toNat (K 56)))) + nrm .u8 (v >>> (BitVec.toNat (K 48)))) + nrm .u8 (v >>> (BitVec.toNat (K 40)))) + nrm .u8 (v >>> (BitVec.toNat (K 32)))) + nrm .u8 (v >>> (BitVec.toNat (K 24)))) + nrm .u8 (v >>> (BitVec.toNat (K 16)))) + nrm .u8 (v >>> (BitVec.toNat (K 8)))) + nrm .u8 (v >>> (BitVec.toNat (K 0))))
def cut3 (v : U) : U := v
def bad3 (v : U) : Bool := cond (or3 v != cut3 v) true (sum3 v != cut3 v)
theorem bad0_no (v : U) : bad0 v = false := by
  have hc : (cut0 v).toNat = v.toNat % 2 ^ 8 := by rw [cut0, BitVec.toNat_umod]; rfl
  refine bad_no ?_ ?_
  · rw [hc]; exact low_nat (or_bytes (or_z v) (by decide))
  · rw [hc]; refine (sum_z (v := v) (n := 0)).trans ?_; rw [Nat.pow_zero, Nat.div_one]
theorem bad1_no (v : U) : bad1 v = false := by
  have hc : (cut1 v).toNat = v.toNat % 2 ^ 16 := by rw [cut1, BitVec.toNat_umod]; rfl
  refine bad_no ?_ ?_
  · rw [hc]; exact low_nat (or_bytes (or_bytes (or_z v) (by decide)) (by decide))
  · rw [hc]; refine (sum_nat (v := v) (n := 0) (sum_z (v := v) (n := 8)) (by decide)).trans ?_; rw [Nat.pow_zero, Nat.div_one]
theorem bad2_no (v : U) : bad2 v = false := by
  have hc : (cut2 v).toNat = v.toNat % 2 ^ 32 := by rw [cut2, BitVec.toNat_umod]; rfl
  refine bad_no ?_ ?_
  · rw [hc]; exact low_nat (or_bytes (or_bytes (or_bytes (or_bytes (or_z v) (by decide)) (by decide)) (by decide)) (by decide))
  · rw [hc]; refine (sum_nat (v := v) (n := 0) (sum_nat (n := 8) (sum_nat (n := 16) (sum_z (v := v) (n := 24)) (by decide)) (by decide)) (by decide)).trans ?_; rw [Nat.pow_zero, Nat.div_one]
theorem bad3_no (v : U) : bad3 v = false := by
  have hc : (cut3 v).toNat = v.toNat % 2 ^ 64 := (Nat.mod_eq_of_lt v.isLt).symm
  refine bad_no ?_ ?_
  · rw [hc]; exact low_nat (or_bytes (or_bytes (or_bytes (or_bytes (or_bytes (or_bytes (or_bytes (or_bytes (or_z v) (by decide)) (by decide)) (by decide)) (by decide)) (by decide)) (by decide)) (by decide)) (by decide))
  · rw [hc]; refine (sum_nat (v := v) (n := 0) (sum_nat (n := 8) (sum_nat (n := 16) (sum_nat (n := 24) (sum_nat (n := 32) (sum_nat (n := 40) (sum_nat (n := 48) (sum_z (v := v) (n := 56)) (by decide)) (by decide)) (by decide)) (by decide)) (by decide)) (by decide)) (by decide)).trans ?_; rw [Nat.pow_zero, Nat.div_one]
/-- What ValueBack comes to at a place. -/
def want0 (p : Nat) (v : U) : Bool × Bool := bif Nat.ble 72 p && Nat.ble (p + 1) 200 then (cond (bad0 v) true true, cond (bad0 v) false true) else (true, true)
abbrev P0 (p : Nat) : Prop := ∀ v : U, vb0 true (K (Int.ofNat p)) v = want0 p v
theorem p0_0 (v : U) : vb0 true (K (Int.ofNat 0)) v = want0 0 v := by kernel_rfl
theorem p0_1 (v : U) : vb0 true (K (Int.ofNat 1)) v = want0 1 v := by kernel_rfl
theorem p0_2 (v : U) : vb0 true (K (Int.ofNat 2)) v = want0 2 v := by kernel_rfl
theorem p0_3 (v : U) : vb0 true (K (Int.ofNat 3)) v = want0 3 v := by kernel_rfl
theorem p0_4 (v : U) : vb0 true (K (Int.ofNat 4)) v = want0 4 v := by kernel_rfl
theorem p0_5 (v : U) : vb0 true (K (Int.ofNat 5)) v = want0 5 v := by kernel_rfl
theorem p0_6 (v : U) : vb0 true (K (Int.ofNat 6)) v = want0 6 v := by kernel_rfl
theorem p0_7 (v : U) : vb0 true (K (Int.ofNat 7)) v = want0 7 v := by kernel_rfl
theorem p0_8 (v : U) : vb0 true (K (Int.ofNat 8)) v = want0 8 v := by kernel_rfl
theorem p0_9 (v : U) : vb0 true (K (Int.ofNat 9)) v = want0 9 v := by kernel_rfl
theorem p0_10 (v : U) : vb0 true (K (Int.ofNat 10)) v = want0 10 v := by kernel_rfl
theorem p0_11 (v : U) : vb0 true (K (Int.ofNat 11)) v = want0 11 v := by kernel_rfl
theorem p0_12 (v : U) : vb0 true (K (Int.ofNat 12)) v = want0 12 v := by kernel_rfl
theorem p0_13 (v : U) : vb0 true (K (Int.ofNat 13)) v = want0 13 v := by kernel_rfl
theorem p0_14 (v : U) : vb0 true (K (Int.ofNat 14)) v = want0 14 v := by kernel_rfl
theorem p0_15 (v : U) : vb0 true (K (Int.ofNat 15)) v = want0 15 v := by kernel_rfl
theorem p0_16 (v : U) : vb0 true (K (Int.ofNat 16)) v = want0 16 v := by kernel_rfl
theorem p0_17 (v : U) : vb0 true (K (Int.ofNat 17)) v = want0 17 v := by kernel_rfl
theorem p0_18 (v : U) : vb0 true (K (Int.ofNat 18)) v = want0 18 v := by kernel_rfl
theorem p0_19 (v : U) : vb0 true (K (Int.ofNat 19)) v = want0 19 v := by kernel_rfl
theorem p0_20 (v : U) : vb0 true (K (Int.ofNat 20)) v = want0 20 v := by kernel_rfl
theorem p0_21 (v : U) : vb0 true (K (Int.ofNat 21)) v = want0 21 v := by kernel_rfl
theorem p0_22 (v : U) : vb0 true (K (Int.ofNat 22)) v = want0 22 v := by kernel_rfl
theorem p0_23 (v : U) : vb0 true (K (Int.ofNat 23)) v = want0 23 v := by kernel_rfl
theorem p0_24 (v : U) : vb0 true (K (Int.ofNat 24)) v = want0 24 v := by kernel_rfl
theorem p0_25 (v : U) : vb0 true (K (Int.ofNat 25)) v = want0 25 v := by kernel_rfl
theorem p0_26 (v : U) : vb0 true (K (Int.ofNat 26)) v = want0 26 v := by kernel_rfl
theorem p0_27 (v : U) : vb0 true (K (Int.ofNat 27)) v = want0 27 v := by kernel_rfl
theorem p0_28 (v : U) : vb0 true (K (Int.ofNat 28)) v = want0 28 v := by kernel_rfl
theorem p0_29 (v : U) : vb0 true (K (Int.ofNat 29)) v = want0 29 v := by kernel_rfl
theorem p0_30 (v : U) : vb0 true (K (Int.ofNat 30)) v = want0 30 v := by kernel_rfl
theorem p0_31 (v : U) : vb0 true (K (Int.ofNat 31)) v = want0 31 v := by kernel_rfl
theorem p0_32 (v : U) : vb0 true (K (Int.ofNat 32)) v = want0 32 v := by kernel_rfl
theorem p0_33 (v : U) : vb0 true (K (Int.ofNat 33)) v = want0 33 v := by kernel_rfl
theorem p0_34 (v : U) : vb0 true (K (Int.ofNat 34)) v = want0 34 v := by kernel_rfl
theorem p0_35 (v : U) : vb0 true (K (Int.ofNat 35)) v = want0 35 v := by kernel_rfl
theorem p0_36 (v : U) : vb0 true (K (Int.ofNat 36)) v = want0 36 v := by kernel_rfl
theorem p0_37 (v : U) : vb0 true (K (Int.ofNat 37)) v = want0 37 v := by kernel_rfl
theorem p0_38 (v : U) : vb0 true (K (Int.ofNat 38)) v = want0 38 v := by kernel_rfl
theorem p0_39 (v : U) : vb0 true (K (Int.ofNat 39)) v = want0 39 v := by kernel_rfl
theorem p0_40 (v : U) : vb0 true (K (Int.ofNat 40)) v = want0 40 v := by kernel_rfl
theorem p0_41 (v : U) : vb0 true (K (Int.ofNat 41)) v = want0 41 v := by kernel_rfl
theorem p0_42 (v : U) : vb0 true (K (Int.ofNat 42)) v = want0 42 v := by kernel_rfl
theorem p0_43 (v : U) : vb0 true (K (Int.ofNat 43)) v = want0 43 v := by kernel_rfl
theorem p0_44 (v : U) : vb0 true (K (Int.ofNat 44)) v = want0 44 v := by kernel_rfl
theorem p0_45 (v : U) : vb0 true (K (Int.ofNat 45)) v = want0 45 v := by kernel_rfl
theorem p0_46 (v : U) : vb0 true (K (Int.ofNat 46)) v = want0 46 v := by kernel_rfl
theorem p0_47 (v : U) : vb0 true (K (Int.ofNat 47)) v = want0 47 v := by kernel_rfl
theorem p0_48 (v : U) : vb0 true (K (Int.ofNat 48)) v = want0 48 v := by kernel_rfl
theorem p0_49 (v : U) : vb0 true (K (Int.ofNat 49)) v = want0 49 v := by kernel_rfl
theorem p0_50 (v : U) : vb0 true (K (Int.ofNat 50)) v = want0 50 v := by kernel_rfl
theorem p0_51 (v : U) : vb0 true (K (Int.ofNat 51)) v = want0 51 v := by kernel_rfl
theorem p0_52 (v : U) : vb0 true (K (Int.ofNat 52)) v = want0 52 v := by kernel_rfl
theorem p0_53 (v : U) : vb0 true (K (Int.ofNat 53)) v = want0 53 v := by kernel_rfl
theorem p0_54 (v : U) : vb0 true (K (Int.ofNat 54)) v = want0 54 v := by kernel_rfl
theorem p0_55 (v : U) : vb0 true (K (Int.ofNat 55)) v = want0 55 v := by kernel_rfl
theorem p0_56 (v : U) : vb0 true (K (Int.ofNat 56)) v = want0 56 v := by kernel_rfl
theorem p0_57 (v : U) : vb0 true (K (Int.ofNat 57)) v = want0 57 v := by kernel_rfl
theorem p0_58 (v : U) : vb0 true (K (Int.ofNat 58)) v = want0 58 v := by kernel_rfl
theorem p0_59 (v : U) : vb0 true (K (Int.ofNat 59)) v = want0 59 v := by kernel_rfl
theorem p0_60 (v : U) : vb0 true (K (Int.ofNat 60)) v = want0 60 v := by kernel_rfl
theorem p0_61 (v : U) : vb0 true (K (Int.ofNat 61)) v = want0 61 v := by kernel_rfl
theorem p0_62 (v : U) : vb0 true (K (Int.ofNat 62)) v = want0 62 v := by kernel_rfl
theorem p0_63 (v : U) : vb0 true (K (Int.ofNat 63)) v = want0 63 v := by kernel_rfl
theorem p0_64 (v : U) : vb0 true (K (Int.ofNat 64)) v = want0 64 v := by kernel_rfl
theorem p0_65 (v : U) : vb0 true (K (Int.ofNat 65)) v = want0 65 v := by kernel_rfl
theorem p0_66 (v : U) : vb0 true (K (Int.ofNat 66)) v = want0 66 v := by kernel_rfl
theorem p0_67 (v : U) : vb0 true (K (Int.ofNat 67)) v = want0 67 v := by kernel_rfl
theorem p0_68 (v : U) : vb0 true (K (Int.ofNat 68)) v = want0 68 v := by kernel_rfl
theorem p0_69 (v : U) : vb0 true (K (Int.ofNat 69)) v = want0 69 v := by kernel_rfl
theorem p0_70 (v : U) : vb0 true (K (Int.ofNat 70)) v = want0 70 v := by kernel_rfl
theorem p0_71 (v : U) : vb0 true (K (Int.ofNat 71)) v = want0 71 v := by kernel_rfl
theorem p0_72 (v : U) : vb0 true (K (Int.ofNat 72)) v = want0 72 v := by kernel_rfl
theorem p0_73 (v : U) : vb0 true (K (Int.ofNat 73)) v = want0 73 v := by kernel_rfl
theorem p0_74 (v : U) : vb0 true (K (Int.ofNat 74)) v = want0 74 v := by kernel_rfl
theorem p0_75 (v : U) : vb0 true (K (Int.ofNat 75)) v = want0 75 v := by kernel_rfl
theorem p0_76 (v : U) : vb0 true (K (Int.ofNat 76)) v = want0 76 v := by kernel_rfl
theorem p0_77 (v : U) : vb0 true (K (Int.ofNat 77)) v = want0 77 v := by kernel_rfl
theorem p0_78 (v : U) : vb0 true (K (Int.ofNat 78)) v = want0 78 v := by kernel_rfl
theorem p0_79 (v : U) : vb0 true (K (Int.ofNat 79)) v = want0 79 v := by kernel_rfl
theorem p0_80 (v : U) : vb0 true (K (Int.ofNat 80)) v = want0 80 v := by kernel_rfl
theorem p0_81 (v : U) : vb0 true (K (Int.ofNat 81)) v = want0 81 v := by kernel_rfl
theorem p0_82 (v : U) : vb0 true (K (Int.ofNat 82)) v = want0 82 v := by kernel_rfl
theorem p0_83 (v : U) : vb0 true (K (Int.ofNat 83)) v = want0 83 v := by kernel_rfl
theorem p0_84 (v : U) : vb0 true (K (Int.ofNat 84)) v = want0 84 v := by kernel_rfl
theorem p0_85 (v : U) : vb0 true (K (Int.ofNat 85)) v = want0 85 v := by kernel_rfl
theorem p0_86 (v : U) : vb0 true (K (Int.ofNat 86)) v = want0 86 v := by kernel_rfl
theorem p0_87 (v : U) : vb0 true (K (Int.ofNat 87)) v = want0 87 v := by kernel_rfl
theorem p0_88 (v : U) : vb0 true (K (Int.ofNat 88)) v = want0 88 v := by kernel_rfl
theorem p0_89 (v : U) : vb0 true (K (Int.ofNat 89)) v = want0 89 v := by kernel_rfl
theorem p0_90 (v : U) : vb0 true (K (Int.ofNat 90)) v = want0 90 v := by kernel_rfl
theorem p0_91 (v : U) : vb0 true (K (Int.ofNat 91)) v = want0 91 v := by kernel_rfl
theorem p0_92 (v : U) : vb0 true (K (Int.ofNat 92)) v = want0 92 v := by kernel_rfl
theorem p0_93 (v : U) : vb0 true (K (Int.ofNat 93)) v = want0 93 v := by kernel_rfl
theorem p0_94 (v : U) : vb0 true (K (Int.ofNat 94)) v = want0 94 v := by kernel_rfl
theorem p0_95 (v : U) : vb0 true (K (Int.ofNat 95)) v = want0 95 v := by kernel_rfl
theorem p0_96 (v : U) : vb0 true (K (Int.ofNat 96)) v = want0 96 v := by kernel_rfl
theorem p0_97 (v : U) : vb0 true (K (Int.ofNat 97)) v = want0 97 v := by kernel_rfl
theorem p0_98 (v : U) : vb0 true (K (Int.ofNat 98)) v = want0 98 v := by kernel_rfl
theorem p0_99 (v : U) : vb0 true (K (Int.ofNat 99)) v = want0 99 v := by kernel_rfl
theorem p0_100 (v : U) : vb0 true (K (Int.ofNat 100)) v = want0 100 v := by kernel_rfl
theorem p0_101 (v : U) : vb0 true (K (Int.ofNat 101)) v = want0 101 v := by kernel_rfl
theorem p0_102 (v : U) : vb0 true (K (Int.ofNat 102)) v = want0 102 v := by kernel_rfl
theorem p0_103 (v : U) : vb0 true (K (Int.ofNat 103)) v = want0 103 v := by kernel_rfl
theorem p0_104 (v : U) : vb0 true (K (Int.ofNat 104)) v = want0 104 v := by kernel_rfl
theorem p0_105 (v : U) : vb0 true (K (Int.ofNat 105)) v = want0 105 v := by kernel_rfl
theorem p0_106 (v : U) : vb0 true (K (Int.ofNat 106)) v = want0 106 v := by kernel_rfl
theorem p0_107 (v : U) : vb0 true (K (Int.ofNat 107)) v = want0 107 v := by kernel_rfl
theorem p0_108 (v : U) : vb0 true (K (Int.ofNat 108)) v = want0 108 v := by kernel_rfl
theorem p0_109 (v : U) : vb0 true (K (Int.ofNat 109)) v = want0 109 v := by kernel_rfl
theorem p0_110 (v : U) : vb0 true (K (Int.ofNat 110)) v = want0 110 v := by kernel_rfl
theorem p0_111 (v : U) : vb0 true (K (Int.ofNat 111)) v = want0 111 v := by kernel_rfl
theorem p0_112 (v : U) : vb0 true (K (Int.ofNat 112)) v = want0 112 v := by kernel_rfl
theorem p0_113 (v : U) : vb0 true (K (Int.ofNat 113)) v = want0 113 v := by kernel_rfl
theorem p0_114 (v : U) : vb0 true (K (Int.ofNat 114)) v = want0 114 v := by kernel_rfl
theorem p0_115 (v : U) : vb0 true (K (Int.ofNat 115)) v = want0 115 v := by kernel_rfl
theorem p0_116 (v : U) : vb0 true (K (Int.ofNat 116)) v = want0 116 v := by kernel_rfl
theorem p0_117 (v : U) : vb0 true (K (Int.ofNat 117)) v = want0 117 v := by kernel_rfl
theorem p0_118 (v : U) : vb0 true (K (Int.ofNat 118)) v = want0 118 v := by kernel_rfl
theorem p0_119 (v : U) : vb0 true (K (Int.ofNat 119)) v = want0 119 v := by kernel_rfl
theorem p0_120 (v : U) : vb0 true (K (Int.ofNat 120)) v = want0 120 v := by kernel_rfl
theorem p0_121 (v : U) : vb0 true (K (Int.ofNat 121)) v = want0 121 v := by kernel_rfl
theorem p0_122 (v : U) : vb0 true (K (Int.ofNat 122)) v = want0 122 v := by kernel_rfl
theorem p0_123 (v : U) : vb0 true (K (Int.ofNat 123)) v = want0 123 v := by kernel_rfl
theorem p0_124 (v : U) : vb0 true (K (Int.ofNat 124)) v = want0 124 v := by kernel_rfl
theorem p0_125 (v : U) : vb0 true (K (Int.ofNat 125)) v = want0 125 v := by kernel_rfl
theorem p0_126 (v : U) : vb0 true (K (Int.ofNat 126)) v = want0 126 v := by kernel_rfl
theorem p0_127 (v : U) : vb0 true (K (Int.ofNat 127)) v = want0 127 v := by kernel_rfl
theorem p0_128 (v : U) : vb0 true (K (Int.ofNat 128)) v = want0 128 v := by kernel_rfl
theorem p0_129 (v : U) : vb0 true (K (Int.ofNat 129)) v = want0 129 v := by kernel_rfl
theorem p0_130 (v : U) : vb0 true (K (Int.ofNat 130)) v = want0 130 v := by kernel_rfl
theorem p0_131 (v : U) : vb0 true (K (Int.ofNat 131)) v = want0 131 v := by kernel_rfl
theorem p0_132 (v : U) : vb0 true (K (Int.ofNat 132)) v = want0 132 v := by kernel_rfl
theorem p0_133 (v : U) : vb0 true (K (Int.ofNat 133)) v = want0 133 v := by kernel_rfl
theorem p0_134 (v : U) : vb0 true (K (Int.ofNat 134)) v = want0 134 v := by kernel_rfl
theorem p0_135 (v : U) : vb0 true (K (Int.ofNat 135)) v = want0 135 v := by kernel_rfl
theorem p0_136 (v : U) : vb0 true (K (Int.ofNat 136)) v = want0 136 v := by kernel_rfl
theorem p0_137 (v : U) : vb0 true (K (Int.ofNat 137)) v = want0 137 v := by kernel_rfl
theorem p0_138 (v : U) : vb0 true (K (Int.ofNat 138)) v = want0 138 v := by kernel_rfl
theorem p0_139 (v : U) : vb0 true (K (Int.ofNat 139)) v = want0 139 v := by kernel_rfl
theorem p0_140 (v : U) : vb0 true (K (Int.ofNat 140)) v = want0 140 v := by kernel_rfl
theorem p0_141 (v : U) : vb0 true (K (Int.ofNat 141)) v = want0 141 v := by kernel_rfl
theorem p0_142 (v : U) : vb0 true (K (Int.ofNat 142)) v = want0 142 v := by kernel_rfl
theorem p0_143 (v : U) : vb0 true (K (Int.ofNat 143)) v = want0 143 v := by kernel_rfl
theorem p0_144 (v : U) : vb0 true (K (Int.ofNat 144)) v = want0 144 v := by kernel_rfl
theorem p0_145 (v : U) : vb0 true (K (Int.ofNat 145)) v = want0 145 v := by kernel_rfl
theorem p0_146 (v : U) : vb0 true (K (Int.ofNat 146)) v = want0 146 v := by kernel_rfl
theorem p0_147 (v : U) : vb0 true (K (Int.ofNat 147)) v = want0 147 v := by kernel_rfl
theorem p0_148 (v : U) : vb0 true (K (Int.ofNat 148)) v = want0 148 v := by kernel_rfl
theorem p0_149 (v : U) : vb0 true (K (Int.ofNat 149)) v = want0 149 v := by kernel_rfl
theorem p0_150 (v : U) : vb0 true (K (Int.ofNat 150)) v = want0 150 v := by kernel_rfl
theorem p0_151 (v : U) : vb0 true (K (Int.ofNat 151)) v = want0 151 v := by kernel_rfl
theorem p0_152 (v : U) : vb0 true (K (Int.ofNat 152)) v = want0 152 v := by kernel_rfl
theorem p0_153 (v : U) : vb0 true (K (Int.ofNat 153)) v = want0 153 v := by kernel_rfl
theorem p0_154 (v : U) : vb0 true (K (Int.ofNat 154)) v = want0 154 v := by kernel_rfl
theorem p0_155 (v : U) : vb0 true (K (Int.ofNat 155)) v = want0 155 v := by kernel_rfl
theorem p0_156 (v : U) : vb0 true (K (Int.ofNat 156)) v = want0 156 v := by kernel_rfl
theorem p0_157 (v : U) : vb0 true (K (Int.ofNat 157)) v = want0 157 v := by kernel_rfl
theorem p0_158 (v : U) : vb0 true (K (Int.ofNat 158)) v = want0 158 v := by kernel_rfl
theorem p0_159 (v : U) : vb0 true (K (Int.ofNat 159)) v = want0 159 v := by kernel_rfl
theorem p0_160 (v : U) : vb0 true (K (Int.ofNat 160)) v = want0 160 v := by kernel_rfl
theorem p0_161 (v : U) : vb0 true (K (Int.ofNat 161)) v = want0 161 v := by kernel_rfl
theorem p0_162 (v : U) : vb0 true (K (Int.ofNat 162)) v = want0 162 v := by kernel_rfl
theorem p0_163 (v : U) : vb0 true (K (Int.ofNat 163)) v = want0 163 v := by kernel_rfl
theorem p0_164 (v : U) : vb0 true (K (Int.ofNat 164)) v = want0 164 v := by kernel_rfl
theorem p0_165 (v : U) : vb0 true (K (Int.ofNat 165)) v = want0 165 v := by kernel_rfl
theorem p0_166 (v : U) : vb0 true (K (Int.ofNat 166)) v = want0 166 v := by kernel_rfl
theorem p0_167 (v : U) : vb0 true (K (Int.ofNat 167)) v = want0 167 v := by kernel_rfl
theorem p0_168 (v : U) : vb0 true (K (Int.ofNat 168)) v = want0 168 v := by kernel_rfl
theorem p0_169 (v : U) : vb0 true (K (Int.ofNat 169)) v = want0 169 v := by kernel_rfl
theorem p0_170 (v : U) : vb0 true (K (Int.ofNat 170)) v = want0 170 v := by kernel_rfl
theorem p0_171 (v : U) : vb0 true (K (Int.ofNat 171)) v = want0 171 v := by kernel_rfl
theorem p0_172 (v : U) : vb0 true (K (Int.ofNat 172)) v = want0 172 v := by kernel_rfl
theorem p0_173 (v : U) : vb0 true (K (Int.ofNat 173)) v = want0 173 v := by kernel_rfl
theorem p0_174 (v : U) : vb0 true (K (Int.ofNat 174)) v = want0 174 v := by kernel_rfl
theorem p0_175 (v : U) : vb0 true (K (Int.ofNat 175)) v = want0 175 v := by kernel_rfl
theorem p0_176 (v : U) : vb0 true (K (Int.ofNat 176)) v = want0 176 v := by kernel_rfl
theorem p0_177 (v : U) : vb0 true (K (Int.ofNat 177)) v = want0 177 v := by kernel_rfl
theorem p0_178 (v : U) : vb0 true (K (Int.ofNat 178)) v = want0 178 v := by kernel_rfl
theorem p0_179 (v : U) : vb0 true (K (Int.ofNat 179)) v = want0 179 v := by kernel_rfl
theorem p0_180 (v : U) : vb0 true (K (Int.ofNat 180)) v = want0 180 v := by kernel_rfl
theorem p0_181 (v : U) : vb0 true (K (Int.ofNat 181)) v = want0 181 v := by kernel_rfl
theorem p0_182 (v : U) : vb0 true (K (Int.ofNat 182)) v = want0 182 v := by kernel_rfl
theorem p0_183 (v : U) : vb0 true (K (Int.ofNat 183)) v = want0 183 v := by kernel_rfl
theorem p0_184 (v : U) : vb0 true (K (Int.ofNat 184)) v = want0 184 v := by kernel_rfl
theorem p0_185 (v : U) : vb0 true (K (Int.ofNat 185)) v = want0 185 v := by kernel_rfl
theorem p0_186 (v : U) : vb0 true (K (Int.ofNat 186)) v = want0 186 v := by kernel_rfl
theorem p0_187 (v : U) : vb0 true (K (Int.ofNat 187)) v = want0 187 v := by kernel_rfl
theorem p0_188 (v : U) : vb0 true (K (Int.ofNat 188)) v = want0 188 v := by kernel_rfl
theorem p0_189 (v : U) : vb0 true (K (Int.ofNat 189)) v = want0 189 v := by kernel_rfl
theorem p0_190 (v : U) : vb0 true (K (Int.ofNat 190)) v = want0 190 v := by kernel_rfl
theorem p0_191 (v : U) : vb0 true (K (Int.ofNat 191)) v = want0 191 v := by kernel_rfl
theorem p0_192 (v : U) : vb0 true (K (Int.ofNat 192)) v = want0 192 v := by kernel_rfl
theorem p0_193 (v : U) : vb0 true (K (Int.ofNat 193)) v = want0 193 v := by kernel_rfl
theorem p0_194 (v : U) : vb0 true (K (Int.ofNat 194)) v = want0 194 v := by kernel_rfl
theorem p0_195 (v : U) : vb0 true (K (Int.ofNat 195)) v = want0 195 v := by kernel_rfl
theorem p0_196 (v : U) : vb0 true (K (Int.ofNat 196)) v = want0 196 v := by kernel_rfl
theorem p0_197 (v : U) : vb0 true (K (Int.ofNat 197)) v = want0 197 v := by kernel_rfl
theorem p0_198 (v : U) : vb0 true (K (Int.ofNat 198)) v = want0 198 v := by kernel_rfl
theorem p0_199 (v : U) : vb0 true (K (Int.ofNat 199)) v = want0 199 v := by kernel_rfl
theorem p0_200 (v : U) : vb0 true (K (Int.ofNat 200)) v = want0 200 v := by kernel_rfl
theorem p0_201 (v : U) : vb0 true (K (Int.ofNat 201)) v = want0 201 v := by kernel_rfl
theorem p0_202 (v : U) : vb0 true (K (Int.ofNat 202)) v = want0 202 v := by kernel_rfl
theorem p0_203 (v : U) : vb0 true (K (Int.ofNat 203)) v = want0 203 v := by kernel_rfl
theorem p0_204 (v : U) : vb0 true (K (Int.ofNat 204)) v = want0 204 v := by kernel_rfl
theorem p0_205 (v : U) : vb0 true (K (Int.ofNat 205)) v = want0 205 v := by kernel_rfl
theorem p0_206 (v : U) : vb0 true (K (Int.ofNat 206)) v = want0 206 v := by kernel_rfl
theorem p0_207 (v : U) : vb0 true (K (Int.ofNat 207)) v = want0 207 v := by kernel_rfl
theorem p0_208 (v : U) : vb0 true (K (Int.ofNat 208)) v = want0 208 v := by kernel_rfl
theorem p0_209 (v : U) : vb0 true (K (Int.ofNat 209)) v = want0 209 v := by kernel_rfl
theorem p0_210 (v : U) : vb0 true (K (Int.ofNat 210)) v = want0 210 v := by kernel_rfl
theorem p0_211 (v : U) : vb0 true (K (Int.ofNat 211)) v = want0 211 v := by kernel_rfl
theorem p0_212 (v : U) : vb0 true (K (Int.ofNat 212)) v = want0 212 v := by kernel_rfl
theorem p0_213 (v : U) : vb0 true (K (Int.ofNat 213)) v = want0 213 v := by kernel_rfl
theorem p0_214 (v : U) : vb0 true (K (Int.ofNat 214)) v = want0 214 v := by kernel_rfl
theorem p0_215 (v : U) : vb0 true (K (Int.ofNat 215)) v = want0 215 v := by kernel_rfl
theorem p0_216 (v : U) : vb0 true (K (Int.ofNat 216)) v = want0 216 v := by kernel_rfl
theorem p0_217 (v : U) : vb0 true (K (Int.ofNat 217)) v = want0 217 v := by kernel_rfl
theorem p0_218 (v : U) : vb0 true (K (Int.ofNat 218)) v = want0 218 v := by kernel_rfl
theorem p0_219 (v : U) : vb0 true (K (Int.ofNat 219)) v = want0 219 v := by kernel_rfl
theorem p0_220 (v : U) : vb0 true (K (Int.ofNat 220)) v = want0 220 v := by kernel_rfl
theorem p0_221 (v : U) : vb0 true (K (Int.ofNat 221)) v = want0 221 v := by kernel_rfl
theorem p0_222 (v : U) : vb0 true (K (Int.ofNat 222)) v = want0 222 v := by kernel_rfl
theorem p0_223 (v : U) : vb0 true (K (Int.ofNat 223)) v = want0 223 v := by kernel_rfl
theorem p0_224 (v : U) : vb0 true (K (Int.ofNat 224)) v = want0 224 v := by kernel_rfl
theorem p0_225 (v : U) : vb0 true (K (Int.ofNat 225)) v = want0 225 v := by kernel_rfl
theorem p0_226 (v : U) : vb0 true (K (Int.ofNat 226)) v = want0 226 v := by kernel_rfl
theorem p0_227 (v : U) : vb0 true (K (Int.ofNat 227)) v = want0 227 v := by kernel_rfl
theorem p0_228 (v : U) : vb0 true (K (Int.ofNat 228)) v = want0 228 v := by kernel_rfl
theorem p0_229 (v : U) : vb0 true (K (Int.ofNat 229)) v = want0 229 v := by kernel_rfl
theorem p0_230 (v : U) : vb0 true (K (Int.ofNat 230)) v = want0 230 v := by kernel_rfl
theorem p0_231 (v : U) : vb0 true (K (Int.ofNat 231)) v = want0 231 v := by kernel_rfl
theorem p0_232 (v : U) : vb0 true (K (Int.ofNat 232)) v = want0 232 v := by kernel_rfl
theorem p0_233 (v : U) : vb0 true (K (Int.ofNat 233)) v = want0 233 v := by kernel_rfl
theorem p0_234 (v : U) : vb0 true (K (Int.ofNat 234)) v = want0 234 v := by kernel_rfl
theorem p0_235 (v : U) : vb0 true (K (Int.ofNat 235)) v = want0 235 v := by kernel_rfl
theorem p0_236 (v : U) : vb0 true (K (Int.ofNat 236)) v = want0 236 v := by kernel_rfl
theorem p0_237 (v : U) : vb0 true (K (Int.ofNat 237)) v = want0 237 v := by kernel_rfl
theorem p0_238 (v : U) : vb0 true (K (Int.ofNat 238)) v = want0 238 v := by kernel_rfl
theorem p0_239 (v : U) : vb0 true (K (Int.ofNat 239)) v = want0 239 v := by kernel_rfl
theorem p0_240 (v : U) : vb0 true (K (Int.ofNat 240)) v = want0 240 v := by kernel_rfl
theorem p0_241 (v : U) : vb0 true (K (Int.ofNat 241)) v = want0 241 v := by kernel_rfl
theorem p0_242 (v : U) : vb0 true (K (Int.ofNat 242)) v = want0 242 v := by kernel_rfl
theorem p0_243 (v : U) : vb0 true (K (Int.ofNat 243)) v = want0 243 v := by kernel_rfl
theorem p0_244 (v : U) : vb0 true (K (Int.ofNat 244)) v = want0 244 v := by kernel_rfl
theorem p0_245 (v : U) : vb0 true (K (Int.ofNat 245)) v = want0 245 v := by kernel_rfl
theorem p0_246 (v : U) : vb0 true (K (Int.ofNat 246)) v = want0 246 v := by kernel_rfl
theorem p0_247 (v : U) : vb0 true (K (Int.ofNat 247)) v = want0 247 v := by kernel_rfl
theorem p0_248 (v : U) : vb0 true (K (Int.ofNat 248)) v = want0 248 v := by kernel_rfl
theorem p0_249 (v : U) : vb0 true (K (Int.ofNat 249)) v = want0 249 v := by kernel_rfl
theorem p0_250 (v : U) : vb0 true (K (Int.ofNat 250)) v = want0 250 v := by kernel_rfl
theorem p0_251 (v : U) : vb0 true (K (Int.ofNat 251)) v = want0 251 v := by kernel_rfl
theorem p0_252 (v : U) : vb0 true (K (Int.ofNat 252)) v = want0 252 v := by kernel_rfl
theorem p0_253 (v : U) : vb0 true (K (Int.ofNat 253)) v = want0 253 v := by kernel_rfl
theorem p0_254 (v : U) : vb0 true (K (Int.ofNat 254)) v = want0 254 v := by kernel_rfl
theorem p0_255 (v : U) : vb0 true (K (Int.ofNat 255)) v = want0 255 v := by kernel_rfl
theorem p0_256 (v : U) : vb0 true (K (Int.ofNat 256)) v = want0 256 v := by kernel_rfl
theorem p0_257 (v : U) : vb0 true (K (Int.ofNat 257)) v = want0 257 v := by kernel_rfl
theorem p0_258 (v : U) : vb0 true (K (Int.ofNat 258)) v = want0 258 v := by kernel_rfl
theorem p0_259 (v : U) : vb0 true (K (Int.ofNat 259)) v = want0 259 v := by kernel_rfl
theorem p0_260 (v : U) : vb0 true (K (Int.ofNat 260)) v = want0 260 v := by kernel_rfl
theorem p0_261 (v : U) : vb0 true (K (Int.ofNat 261)) v = want0 261 v := by kernel_rfl
theorem p0_262 (v : U) : vb0 true (K (Int.ofNat 262)) v = want0 262 v := by kernel_rfl
theorem p0_263 (v : U) : vb0 true (K (Int.ofNat 263)) v = want0 263 v := by kernel_rfl
theorem p0_264 (v : U) : vb0 true (K (Int.ofNat 264)) v = want0 264 v := by kernel_rfl
theorem p0_265 (v : U) : vb0 true (K (Int.ofNat 265)) v = want0 265 v := by kernel_rfl
theorem p0_266 (v : U) : vb0 true (K (Int.ofNat 266)) v = want0 266 v := by kernel_rfl
theorem p0_267 (v : U) : vb0 true (K (Int.ofNat 267)) v = want0 267 v := by kernel_rfl
theorem p0_268 (v : U) : vb0 true (K (Int.ofNat 268)) v = want0 268 v := by kernel_rfl
theorem p0_269 (v : U) : vb0 true (K (Int.ofNat 269)) v = want0 269 v := by kernel_rfl
theorem p0_270 (v : U) : vb0 true (K (Int.ofNat 270)) v = want0 270 v := by kernel_rfl
theorem p0_271 (v : U) : vb0 true (K (Int.ofNat 271)) v = want0 271 v := by kernel_rfl
theorem p0_272 (v : U) : vb0 true (K (Int.ofNat 272)) v = want0 272 v := by kernel_rfl
theorem p0_273 (v : U) : vb0 true (K (Int.ofNat 273)) v = want0 273 v := by kernel_rfl
theorem p0_274 (v : U) : vb0 true (K (Int.ofNat 274)) v = want0 274 v := by kernel_rfl
theorem p0_275 (v : U) : vb0 true (K (Int.ofNat 275)) v = want0 275 v := by kernel_rfl
theorem p0_276 (v : U) : vb0 true (K (Int.ofNat 276)) v = want0 276 v := by kernel_rfl
theorem p0_277 (v : U) : vb0 true (K (Int.ofNat 277)) v = want0 277 v := by kernel_rfl
theorem p0_278 (v : U) : vb0 true (K (Int.ofNat 278)) v = want0 278 v := by kernel_rfl
theorem p0_279 (v : U) : vb0 true (K (Int.ofNat 279)) v = want0 279 v := by kernel_rfl
theorem p0_280 (v : U) : vb0 true (K (Int.ofNat 280)) v = want0 280 v := by kernel_rfl
theorem p0_281 (v : U) : vb0 true (K (Int.ofNat 281)) v = want0 281 v := by kernel_rfl
theorem p0_282 (v : U) : vb0 true (K (Int.ofNat 282)) v = want0 282 v := by kernel_rfl
theorem p0_283 (v : U) : vb0 true (K (Int.ofNat 283)) v = want0 283 v := by kernel_rfl
theorem p0_284 (v : U) : vb0 true (K (Int.ofNat 284)) v = want0 284 v := by kernel_rfl
theorem p0_285 (v : U) : vb0 true (K (Int.ofNat 285)) v = want0 285 v := by kernel_rfl
theorem p0_286 (v : U) : vb0 true (K (Int.ofNat 286)) v = want0 286 v := by kernel_rfl
theorem p0_287 (v : U) : vb0 true (K (Int.ofNat 287)) v = want0 287 v := by kernel_rfl
theorem p0_288 (v : U) : vb0 true (K (Int.ofNat 288)) v = want0 288 v := by kernel_rfl
theorem p0_289 (v : U) : vb0 true (K (Int.ofNat 289)) v = want0 289 v := by kernel_rfl
theorem p0_290 (v : U) : vb0 true (K (Int.ofNat 290)) v = want0 290 v := by kernel_rfl
theorem p0_291 (v : U) : vb0 true (K (Int.ofNat 291)) v = want0 291 v := by kernel_rfl
theorem p0_292 (v : U) : vb0 true (K (Int.ofNat 292)) v = want0 292 v := by kernel_rfl
theorem p0_293 (v : U) : vb0 true (K (Int.ofNat 293)) v = want0 293 v := by kernel_rfl
theorem p0_294 (v : U) : vb0 true (K (Int.ofNat 294)) v = want0 294 v := by kernel_rfl
theorem p0_295 (v : U) : vb0 true (K (Int.ofNat 295)) v = want0 295 v := by kernel_rfl
theorem p0_296 (v : U) : vb0 true (K (Int.ofNat 296)) v = want0 296 v := by kernel_rfl
theorem p0_297 (v : U) : vb0 true (K (Int.ofNat 297)) v = want0 297 v := by kernel_rfl
theorem p0_298 (v : U) : vb0 true (K (Int.ofNat 298)) v = want0 298 v := by kernel_rfl
theorem p0_299 (v : U) : vb0 true (K (Int.ofNat 299)) v = want0 299 v := by kernel_rfl
theorem all0_25 : AllP P0 25 := ⟨⟨⟨⟨⟨⟨⟨⟨⟨⟨⟨⟨⟨⟨⟨⟨⟨⟨⟨⟨⟨⟨⟨⟨⟨trivial, p0_0⟩, p0_1⟩, p0_2⟩, p0_3⟩, p0_4⟩, p0_5⟩, p0_6⟩, p0_7⟩, p0_8⟩, p0_9⟩, p0_10⟩, p0_11⟩, p0_12⟩, p0_13⟩, p0_14⟩, p0_15⟩, p0_16⟩, p0_17⟩, p0_18⟩, p0_19⟩, p0_20⟩, p0_21⟩, p0_22⟩, p0_23⟩, p0_24⟩
theorem all0_50 : AllP P0 50 := ⟨⟨⟨⟨⟨⟨⟨⟨⟨⟨⟨⟨⟨⟨⟨⟨⟨⟨⟨⟨⟨⟨⟨⟨⟨all0_25, p0_25⟩, p0_26⟩, p0_27⟩, p0_28⟩, p0_29⟩, p0_30⟩, p0_31⟩, p0_32⟩, p0_33⟩, p0_34⟩, p0_35⟩, p0_36⟩, p0_37⟩, p0_38⟩, p0_39⟩, p0_40⟩, p0_41⟩, p0_42⟩, p0_43⟩, p0_44⟩, p0_45⟩, p0_46⟩, p0_47⟩, p0_48⟩, p0_49⟩
theorem all0_75 : AllP P0 75 := ⟨⟨⟨⟨⟨⟨⟨⟨⟨⟨⟨⟨⟨⟨⟨⟨⟨⟨⟨⟨⟨⟨⟨⟨⟨all0_50, p0_50⟩, p0_51⟩, p0_52⟩, p0_53⟩, p0_54⟩, p0_55⟩, p0_56⟩, p0_57⟩, p0_58⟩, p0_59⟩, p0_60⟩, p0_61⟩, p0_62⟩, p0_63⟩, p0_64⟩, p0_65⟩, p0_66⟩, p0_67⟩, p0_68⟩, p0_69⟩, p0_70⟩, p0_71⟩, p0_72⟩, p0_73⟩, p0_74⟩
theorem all0_100 : AllP P0 100 := ⟨⟨⟨⟨⟨⟨⟨⟨⟨⟨⟨⟨⟨⟨⟨⟨⟨⟨⟨⟨⟨⟨⟨⟨⟨all0_75, p0_75⟩, p0_76⟩, p0_77⟩, p0_78⟩, p0_79⟩, p0_80⟩, p0_81⟩, p0_82⟩, p0_83⟩, p0_84⟩, p0_85⟩, p0_86⟩, p0_87⟩, p0_88⟩, p0_89⟩, p0_90⟩, p0_91⟩, p0_92⟩, p0_93⟩, p0_94⟩, p0_95⟩, p0_96⟩, p0_97⟩, p0_98⟩, p0_99⟩
theorem all0_125 : AllP P0 125 := ⟨⟨⟨⟨⟨⟨⟨⟨⟨⟨⟨⟨⟨⟨⟨⟨⟨⟨⟨⟨⟨⟨⟨⟨⟨all0_100, p0_100⟩, p0_101⟩, p0_102⟩, p0_103⟩, p0_104⟩, p0_105⟩, p0_106⟩, p0_107⟩, p0_108⟩, p0_109⟩, p0_110⟩, p0_111⟩, p0_112⟩, p0_113⟩, p0_114⟩, p0_115⟩, p0_116⟩, p0_117⟩, p0_118⟩, p0_119⟩, p0_120⟩, p0_121⟩, p0_122⟩, p0_123⟩, p0_124⟩
theorem all0_150 : AllP P0 150 := ⟨⟨⟨⟨⟨⟨⟨⟨⟨⟨⟨⟨⟨⟨⟨⟨⟨⟨⟨⟨⟨⟨⟨⟨⟨all0_125, p0_125⟩, p0_126⟩, p0_127⟩, p0_128⟩, p0_129⟩, p0_130⟩, p0_131⟩, p0_132⟩, p0_133⟩, p0_134⟩, p0_135⟩, p0_136⟩, p0_137⟩, p0_138⟩, p0_139⟩, p0_140⟩, p0_141⟩, p0_142⟩, p0_143⟩, p0_144⟩, p0_145⟩, p0_146⟩, p0_147⟩, p0_148⟩, p0_149⟩
theorem all0_175 : AllP P0 175 := ⟨⟨⟨⟨⟨⟨⟨⟨⟨⟨⟨⟨⟨⟨⟨⟨⟨⟨⟨⟨⟨⟨⟨⟨⟨all0_150, p0_150⟩, p0_151⟩, p0_152⟩, p0_153⟩, p0_154⟩, p0_155⟩, p0_156⟩, p0_157⟩, p0_158⟩, p0_159⟩, p0_160⟩, p0_161⟩, p0_162⟩, p0_163⟩, p0_164⟩, p0_165⟩, p0_166⟩, p0_167⟩, p0_168⟩, p0_169⟩, p0_170⟩, p0_171⟩, p0_172⟩, p0_173⟩, p0_174⟩
theorem all0_200 : AllP P0 200 := ⟨⟨⟨⟨⟨⟨⟨⟨⟨⟨⟨⟨⟨⟨⟨⟨⟨⟨⟨⟨⟨⟨⟨⟨⟨all0_175, p0_175⟩, p0_176⟩, p0_177⟩, p0_178⟩, p0_179⟩, p0_180⟩, p0_181⟩, p0_182⟩, p0_183⟩, p0_184⟩, p0_185⟩, p0_186⟩, p0_187⟩, p0_188⟩, p0_189⟩, p0_190⟩, p0_191⟩, p0_192⟩, p0_193⟩, p0_194⟩, p0_195⟩, p0_196⟩, p0_197⟩, p0_198⟩, p0_199⟩
theorem all0_225 : AllP P0 225 := ⟨⟨⟨⟨⟨⟨⟨⟨⟨⟨⟨⟨⟨⟨⟨⟨⟨⟨⟨⟨⟨⟨⟨⟨⟨all0_200, p0_200⟩, p0_201⟩, p0_202⟩, p0_203⟩, p0_204⟩, p0_205⟩, p0_206⟩, p0_207⟩, p0_208⟩, p0_209⟩, p0_210⟩, p0_211⟩, p0_212⟩, p0_213⟩, p0_214⟩, p0_215⟩, p0_216⟩, p0_217⟩, p0_218⟩, p0_219⟩, p0_220⟩, p0_221⟩, p0_222⟩, p0_223⟩, p0_224⟩
theorem all0_250 : AllP P0 250 := ⟨⟨⟨⟨⟨⟨⟨⟨⟨⟨⟨⟨⟨⟨⟨⟨⟨⟨⟨⟨⟨⟨⟨⟨⟨all0_225, p0_225⟩, p0_226⟩, p0_227⟩, p0_228⟩, p0_229⟩, p0_230⟩, p0_231⟩, p0_232⟩, p0_233⟩, p0_234⟩, p0_235⟩, p0_236⟩, p0_237⟩, p0_238⟩, p0_239⟩, p0_240⟩, p0_241⟩, p0_242⟩, p0_243⟩, p0_244⟩, p0_245⟩, p0_246⟩, p0_247⟩, p0_248⟩, p0_249⟩
theorem all0_275 : AllP P0 275 := ⟨⟨⟨⟨⟨⟨⟨⟨⟨⟨⟨⟨⟨⟨⟨⟨⟨⟨⟨⟨⟨⟨⟨⟨⟨all0_250, p0_250⟩, p0_251⟩, p0_252⟩, p0_253⟩, p0_254⟩, p0_255⟩, p0_256⟩, p0_257⟩, p0_258⟩, p0_259⟩, p0_260⟩, p0_261⟩, p0_262⟩, p0_263⟩, p0_264⟩, p0_265⟩, p0_266⟩, p0_267⟩, p0_268⟩, p0_269⟩, p0_270⟩, p0_271⟩, p0_272⟩, p0_273⟩, p0_274⟩
theorem all0_300 : AllP P0 300 := ⟨⟨⟨⟨⟨⟨⟨⟨⟨⟨⟨⟨⟨⟨⟨⟨⟨⟨⟨⟨⟨⟨⟨⟨⟨all0_275, p0_275⟩, p0_276⟩, p0_277⟩, p0_278⟩, p0_279⟩, p0_280⟩, p0_281⟩, p0_282⟩, p0_283⟩, p0_284⟩, p0_285⟩, p0_286⟩, p0_287⟩, p0_288⟩, p0_289⟩, p0_290⟩, p0_291⟩, p0_292⟩, p0_293⟩, p0_294⟩, p0_295⟩, p0_296⟩, p0_297⟩, p0_298⟩, p0_299⟩
theorem vb0_ok {p : Nat} (hp : p < 300) (v : U) : vb0 true (K (Int.ofNat p)) v = (true, true) := by
  rw [all0_300.get hp v, want0, bad0_no]
  cases Nat.ble 72 p && Nat.ble (p + 1) 200 <;> rfl
/-- What ValueBack comes to at a place. -/
def want1 (p : Nat) (v : U) : Bool × Bool := bif Nat.ble 72 p && Nat.ble (p + 2) 200 then (cond (bad1 v) true true, cond (bad1 v) false true) else (true, true)
abbrev P1 (p : Nat) : Prop := ∀ v : U, vb1 true (K (Int.ofNat p)) v = want1 p v
theorem p1_0 (v : U) : vb1 true (K (Int.ofNat 0)) v = want1 0 v := by kernel_rfl
theorem p1_1 (v : U) : vb1 true (K (Int.ofNat 1)) v = want1 1 v := by kernel_rfl
theorem p1_2 (v : U) : vb1 true (K (Int.ofNat 2)) v = want1 2 v := by kernel_rfl
theorem p1_3 (v : U) : vb1 true (K (Int.ofNat 3)) v = want1 3 v := by kernel_rfl
theorem p1_4 (v : U) : vb1 true (K (Int.ofNat 4)) v = want1 4 v := by kernel_rfl
theorem p1_5 (v : U) : vb1 true (K (Int.ofNat 5)) v = want1 5 v := by kernel_rfl
theorem p1_6 (v : U) : vb1 true (K (Int.ofNat 6)) v = want1 6 v := by kernel_rfl
theorem p1_7 (v : U) : vb1 true (K (Int.ofNat 7)) v = want1 7 v := by kernel_rfl
theorem p1_8 (v : U) : vb1 true (K (Int.ofNat 8)) v = want1 8 v := by kernel_rfl
theorem p1_9 (v : U) : vb1 true (K (Int.ofNat 9)) v = want1 9 v := by kernel_rfl
theorem p1_10 (v : U) : vb1 true (K (Int.ofNat 10)) v = want1 10 v := by kernel_rfl
theorem p1_11 (v : U) : vb1 true (K (Int.ofNat 11)) v = want1 11 v := by kernel_rfl
theorem p1_12 (v : U) : vb1 true (K (Int.ofNat 12)) v = want1 12 v := by kernel_rfl
theorem p1_13 (v : U) : vb1 true (K (Int.ofNat 13)) v = want1 13 v := by kernel_rfl
theorem p1_14 (v : U) : vb1 true (K (Int.ofNat 14)) v = want1 14 v := by kernel_rfl
theorem p1_15 (v : U) : vb1 true (K (Int.ofNat 15)) v = want1 15 v := by kernel_rfl
theorem p1_16 (v : U) : vb1 true (K (Int.ofNat 16)) v = want1 16 v := by kernel_rfl
theorem p1_17 (v : U) : vb1 true (K (Int.ofNat 17)) v = want1 17 v := by kernel_rfl
theorem p1_18 (v : U) : vb1 true (K (Int.ofNat 18)) v = want1 18 v := by kernel_rfl
theorem p1_19 (v : U) : vb1 true (K (Int.ofNat 19)) v = want1 19 v := by kernel_rfl
theorem p1_20 (v : U) : vb1 true (K (Int.ofNat 20)) v = want1 20 v := by kernel_rfl
theorem p1_21 (v : U) : vb1 true (K (Int.ofNat 21)) v = want1 21 v := by kernel_rfl
theorem p1_22 (v : U) : vb1 true (K (Int.ofNat 22)) v = want1 22 v := by kernel_rfl
theorem p1_23 (v : U) : vb1 true (K (Int.ofNat 23)) v = want1 23 v := by kernel_rfl
theorem p1_24 (v : U) : vb1 true (K (Int.ofNat 24)) v = want1 24 v := by kernel_rfl
theorem p1_25 (v : U) : vb1 true (K (Int.ofNat 25)) v = want1 25 v := by kernel_rfl
theorem p1_26 (v : U) : vb1 true (K (Int.ofNat 26)) v = want1 26 v := by kernel_rfl
theorem p1_27 (v : U) : vb1 true (K (Int.ofNat 27)) v = want1 27 v := by kernel_rfl
theorem p1_28 (v : U) : vb1 true (K (Int.ofNat 28)) v = want1 28 v := by kernel_rfl
theorem p1_29 (v : U) : vb1 true (K (Int.ofNat 29)) v = want1 29 v := by kernel_rfl
theorem p1_30 (v : U) : vb1 true (K (Int.ofNat 30)) v = want1 30 v := by kernel_rfl
theorem p1_31 (v : U) : vb1 true (K (Int.ofNat 31)) v = want1 31 v := by kernel_rfl
theorem p1_32 (v : U) : vb1 true (K (Int.ofNat 32)) v = want1 32 v := by kernel_rfl
theorem p1_33 (v : U) : vb1 true (K (Int.ofNat 33)) v = want1 33 v := by kernel_rfl
theorem p1_34 (v : U) : vb1 true (K (Int.ofNat 34)) v = want1 34 v := by kernel_rfl
theorem p1_35 (v : U) : vb1 true (K (Int.ofNat 35)) v = want1 35 v := by kernel_rfl
theorem p1_36 (v : U) : vb1 true (K (Int.ofNat 36)) v = want1 36 v := by kernel_rfl
theorem p1_37 (v : U) : vb1 true (K (Int.ofNat 37)) v = want1 37 v := by kernel_rfl
theorem p1_38 (v : U) : vb1 true (K (Int.ofNat 38)) v = want1 38 v := by kernel_rfl
theorem p1_39 (v : U) : vb1 true (K (Int.ofNat 39)) v = want1 39 v := by kernel_rfl
theorem p1_40 (v : U) : vb1 true (K (Int.ofNat 40)) v = want1 40 v := by kernel_rfl
theorem p1_41 (v : U) : vb1 true (K (Int.ofNat 41)) v = want1 41 v := by kernel_rfl
theorem p1_42 (v : U) : vb1 true (K (Int.ofNat 42)) v = want1 42 v := by kernel_rfl
theorem p1_43 (v : U) : vb1 true (K (Int.ofNat 43)) v = want1 43 v := by kernel_rfl
theorem p1_44 (v : U) : vb1 true (K (Int.ofNat 44)) v = want1 44 v := by kernel_rfl
theorem p1_45 (v : U) : vb1 true (K (Int.ofNat 45)) v = want1 45 v := by kernel_rfl
theorem p1_46 (v : U) : vb1 true (K (Int.ofNat 46)) v = want1 46 v := by kernel_rfl
theorem p1_47 (v : U) : vb1 true (K (Int.ofNat 47)) v = want1 47 v := by kernel_rfl
theorem p1_48 (v : U) : vb1 true (K (Int.ofNat 48)) v = want1 48 v := by kernel_rfl
theorem p1_49 (v : U) : vb1 true (K (Int.ofNat 49)) v = want1 49 v := by kernel_rfl
theorem p1_50 (v : U) : vb1 true (K (Int.ofNat 50)) v = want1 50 v := by kernel_rfl
theorem p1_51 (v : U) : vb1 true (K (Int.ofNat 51)) v = want1 51 v := by kernel_rfl
theorem p1_52 (v : U) : vb1 true (K (Int.ofNat 52)) v = want1 52 v := by kernel_rfl
theorem p1_53 (v : U) : vb1 true (K (Int.ofNat 53)) v = want1 53 v := by kernel_rfl
theorem p1_54 (v : U) : vb1 true (K (Int.ofNat 54)) v = want1 54 v := by kernel_rfl
theorem p1_55 (v : U) : vb1 true (K (Int.ofNat 55)) v = want1 55 v := by kernel_rfl
theorem p1_56 (v : U) : vb1 true (K (Int.ofNat 56)) v = want1 56 v := by kernel_rfl
theorem p1_57 (v : U) : vb1 true (K (Int.ofNat 57)) v = want1 57 v := by kernel_rfl
theorem p1_58 (v : U) : vb1 true (K (Int.ofNat 58)) v = want1 58 v := by kernel_rfl
theorem p1_59 (v : U) : vb1 true (K (Int.ofNat 59)) v = want1 59 v := by kernel_rfl
theorem p1_60 (v : U) : vb1 true (K (Int.ofNat 60)) v = want1 60 v := by kernel_rfl
theorem p1_61 (v : U) : vb1 true (K (Int.ofNat 61)) v = want1 61 v := by kernel_rfl
theorem p1_62 (v : U) : vb1 true (K (Int.ofNat 62)) v = want1 62 v := by kernel_rfl
theorem p1_63 (v : U) : vb1 true (K (Int.ofNat 63)) v = want1 63 v := by kernel_rfl
theorem p1_64 (v : U) : vb1 true (K (Int.ofNat 64)) v = want1 64 v := by kernel_rfl
theorem p1_65 (v : U) : vb1 true (K (Int.ofNat 65)) v = want1 65 v := by kernel_rfl
theorem p1_66 (v : U) : vb1 true (K (Int.ofNat 66)) v = want1 66 v := by kernel_rfl
theorem p1_67 (v : U) : vb1 true (K (Int.ofNat 67)) v = want1 67 v := by kernel_rfl
theorem p1_68 (v : U) : vb1 true (K (Int.ofNat 68)) v = want1 68 v := by kernel_rfl
theorem p1_69 (v : U) : vb1 true (K (Int.ofNat 69)) v = want1 69 v := by kernel_rfl
theorem p1_70 (v : U) : vb1 true (K (Int.ofNat 70)) v = want1 70 v := by kernel_rfl
theorem p1_71 (v : U) : vb1 true (K (Int.ofNat 71)) v = want1 71 v := by kernel_rfl
theorem p1_72 (v : U) : vb1 true (K (Int.ofNat 72)) v = want1 72 v := by kernel_rfl
theorem p1_73 (v : U) : vb1 true (K (Int.ofNat 73)) v = want1 73 v := by kernel_rfl
theorem p1_74 (v : U) : vb1 true (K (Int.ofNat 74)) v = want1 74 v := by kernel_rfl
theorem p1_75 (v : U) : vb1 true (K (Int.ofNat 75)) v = want1 75 v := by kernel_rfl
theorem p1_76 (v : U) : vb1 true (K (Int.ofNat 76)) v = want1 76 v := by kernel_rfl
theorem p1_77 (v : U) : vb1 true (K (Int.ofNat 77)) v = want1 77 v := by kernel_rfl
theorem p1_78 (v : U) : vb1 true (K (Int.ofNat 78)) v = want1 78 v := by kernel_rfl
theorem p1_79 (v : U) : vb1 true (K (Int.ofNat 79)) v = want1 79 v := by kernel_rfl
theorem p1_80 (v : U) : vb1 true (K (Int.ofNat 80)) v = want1 80 v := by kernel_rfl
theorem p1_81 (v : U) : vb1 true (K (Int.ofNat 81)) v = want1 81 v := by kernel_rfl
theorem p1_82 (v : U) : vb1 true (K (Int.ofNat 82)) v = want1 82 v := by kernel_rfl
theorem p1_83 (v : U) : vb1 true (K (Int.ofNat 83)) v = want1 83 v := by kernel_rfl
theorem p1_84 (v : U) : vb1 true (K (Int.ofNat 84)) v = want1 84 v := by kernel_rfl
theorem p1_85 (v : U) : vb1 true (K (Int.ofNat 85)) v = want1 85 v := by kernel_rfl
theorem p1_86 (v : U) : vb1 true (K (Int.ofNat 86)) v = want1 86 v := by kernel_rfl
theorem p1_87 (v : U) : vb1 true (K (Int.ofNat 87)) v = want1 87 v := by kernel_rfl
theorem p1_88 (v : U) : vb1 true (K (Int.ofNat 88)) v = want1 88 v := by kernel_rfl
theorem p1_89 (v : U) : vb1 true (K (Int.ofNat 89)) v = want1 89 v := by kernel_rfl
theorem p1_90 (v : U) : vb1 true (K (Int.ofNat 90)) v = want1 90 v := by kernel_rfl
theorem p1_91 (v : U) : vb1 true (K (Int.ofNat 91)) v = want1 91 v := by kernel_rfl
theorem p1_92 (v : U) : vb1 true (K (Int.ofNat 92)) v = want1 92 v := by kernel_rfl
theorem p1_93 (v : U) : vb1 true (K (Int.ofNat 93)) v = want1 93 v := by kernel_rfl
theorem p1_94 (v : U) : vb1 true (K (Int.ofNat 94)) v = want1 94 v := by kernel_rfl
theorem p1_95 (v : U) : vb1 true (K (Int.ofNat 95)) v = want1 95 v := by kernel_rfl
theorem p1_96 (v : U) : vb1 true (K (Int.ofNat 96)) v = want1 96 v := by kernel_rfl
theorem p1_97 (v : U) : vb1 true (K (Int.ofNat 97)) v = want1 97 v := by kernel_rfl
theorem p1_98 (v : U) : vb1 true (K (Int.ofNat 98)) v = want1 98 v := by kernel_rfl
theorem p1_99 (v : U) : vb1 true (K (Int.ofNat 99)) v = want1 99 v := by kernel_rfl
theorem p1_100 (v : U) : vb1 true (K (Int.ofNat 100)) v = want1 100 v := by kernel_rfl
theorem p1_101 (v : U) : vb1 true (K (Int.ofNat 101)) v = want1 101 v := by kernel_rfl
theorem p1_102 (v : U) : vb1 true (K (Int.ofNat 102)) v = want1 102 v := by kernel_rfl
theorem p1_103 (v : U) : vb1 true (K (Int.ofNat 103)) v = want1 103 v := by kernel_rfl
theorem p1_104 (v : U) : vb1 true (K (Int.ofNat 104)) v = want1 104 v := by kernel_rfl
theorem p1_105 (v : U) : vb1 true (K (Int.ofNat 105)) v = want1 105 v := by kernel_rfl
theorem p1_106 (v : U) : vb1 true (K (Int.ofNat 106)) v = want1 106 v := by kernel_rfl
theorem p1_107 (v : U) : vb1 true (K (Int.ofNat 107)) v = want1 107 v := by kernel_rfl
theorem p1_108 (v : U) : vb1 true (K (Int.ofNat 108)) v = want1 108 v := by kernel_rfl
theorem p1_109 (v : U) : vb1 true (K (Int.ofNat 109)) v = want1 109 v := by kernel_rfl
theorem p1_110 (v : U) : vb1 true (K (Int.ofNat 110)) v = want1 110 v := by kernel_rfl
theorem p1_111 (v : U) : vb1 true (K (Int.ofNat 111)) v = want1 111 v := by kernel_rfl
theorem p1_112 (v : U) : vb1 true (K (Int.ofNat 112)) v = want1 112 v := by kernel_rfl
theorem p1_113 (v : U) : vb1 true (K (Int.ofNat 113)) v = want1 113 v := by kernel_rfl
theorem p1_114 (v : U) : vb1 true (K (Int.ofNat 114)) v = want1 114 v := by kernel_rfl
theorem p1_115 (v : U) : vb1 true (K (Int.ofNat 115)) v = want1 115 v := by kernel_rfl
theorem p1_116 (v : U) : vb1 true (K (Int.ofNat 116)) v = want1 116 v := by kernel_rfl
theorem p1_117 (v : U) : vb1 true (K (Int.ofNat 117)) v = want1 117 v := by kernel_rfl
theorem p1_118 (v : U) : vb1 true (K (Int.ofNat 118)) v = want1 118 v := by kernel_rfl
theorem p1_119 (v : U) : vb1 true (K (Int.ofNat 119)) v = want1 119 v := by kernel_rfl
theorem p1_120 (v : U) : vb1 true (K (Int.ofNat 120)) v = want1 120 v := by kernel_rfl
theorem p1_121 (v : U) : vb1 true (K (Int.ofNat 121)) v = want1 121 v := by kernel_rfl
theorem p1_122 (v : U) : vb1 true (K (Int.ofNat 122)) v = want1 122 v := by kernel_rfl
theorem p1_123 (v : U) : vb1 true (K (Int.ofNat 123)) v = want1 123 v := by kernel_rfl
theorem p1_124 (v : U) : vb1 true (K (Int.ofNat 124)) v = want1 124 v := by kernel_rfl
theorem p1_125 (v : U) : vb1 true (K (Int.ofNat 125)) v = want1 125 v := by kernel_rfl
theorem p1_126 (v : U) : vb1 true (K (Int.ofNat 126)) v = want1 126 v := by kernel_rfl
theorem p1_127 (v : U) : vb1 true (K (Int.ofNat 127)) v = want1 127 v := by kernel_rfl
theorem p1_128 (v : U) : vb1 true (K (Int.ofNat 128)) v = want1 128 v := by kernel_rfl
theorem p1_129 (v : U) : vb1 true (K (Int.ofNat 129)) v = want1 129 v := by kernel_rfl
theorem p1_130 (v : U) : vb1 true (K (Int.ofNat 130)) v = want1 130 v := by kernel_rfl
theorem p1_131 (v : U) : vb1 true (K (Int.ofNat 131)) v = want1 131 v := by kernel_rfl
theorem p1_132 (v : U) : vb1 true (K (Int.ofNat 132)) v = want1 132 v := by kernel_rfl
theorem p1_133 (v : U) : vb1 true (K (Int.ofNat 133)) v = want1 133 v := by kernel_rfl
theorem p1_134 (v : U) : vb1 true (K (Int.ofNat 134)) v = want1 134 v := by kernel_rfl
theorem p1_135 (v : U) : vb1 true (K (Int.ofNat 135)) v = want1 135 v := by kernel_rfl
theorem p1_136 (v : U) : vb1 true (K (Int.ofNat 136)) v = want1 136 v := by kernel_rfl
theorem p1_137 (v : U) : vb1 true (K (Int.ofNat 137)) v = want1 137 v := by kernel_rfl
theorem p1_138 (v : U) : vb1 true (K (Int.ofNat 138)) v = want1 138 v := by kernel_rfl
theorem p1_139 (v : U) : vb1 true (K (Int.ofNat 139)) v = want1 139 v := by kernel_rfl
theorem p1_140 (v : U) : vb1 true (K (Int.ofNat 140)) v = want1 140 v := by kernel_rfl
theorem p1_141 (v : U) : vb1 true (K (Int.ofNat 141)) v = want1 141 v := by kernel_rfl
theorem p1_142 (v : U) : vb1 true (K (Int.ofNat 142)) v = want1 142 v := by kernel_rfl
theorem p1_143 (v : U) : vb1 true (K (Int.ofNat 143)) v = want1 143 v := by kernel_rfl
theorem p1_144 (v : U) : vb1 true (K (Int.ofNat 144)) v = want1 144 v := by kernel_rfl
theorem p1_145 (v : U) : vb1 true (K (Int.ofNat 145)) v = want1 145 v := by kernel_rfl
theorem p1_146 (v : U) : vb1 true (K (Int.ofNat 146)) v = want1 146 v := by kernel_rfl
theorem p1_147 (v : U) : vb1 true (K (Int.ofNat 147)) v = want1 147 v := by kernel_rfl
theorem p1_148 (v : U) : vb1 true (K (Int.ofNat 148)) v = want1 148 v := by kernel_rfl
theorem p1_149 (v : U) : vb1 true (K (Int.ofNat 149)) v = want1 149 v := by kernel_rfl
theorem p1_150 (v : U) : vb1 true (K (Int.ofNat 150)) v = want1 150 v := by kernel_rfl
theorem p1_151 (v : U) : vb1 true (K (Int.ofNat 151)) v = want1 151 v := by kernel_rfl
theorem p1_152 (v : U) : vb1 true (K (Int.ofNat 152)) v = want1 152 v := by kernel_rfl
theorem p1_153 (v : U) : vb1 true (K (Int.ofNat 153)) v = want1 153 v := by kernel_rfl
theorem p1_154 (v : U) : vb1 true (K (Int.ofNat 154)) v = want1 154 v := by kernel_rfl
theorem p1_155 (v : U) : vb1 true (K (Int.ofNat 155)) v = want1 155 v := by kernel_rfl
theorem p1_156 (v : U) : vb1 true (K (Int.ofNat 156)) v = want1 156 v := by kernel_rfl
theorem p1_157 (v : U) : vb1 true (K (Int.ofNat 157)) v = want1 157 v := by kernel_rfl
theorem p1_158 (v : U) : vb1 true (K (Int.ofNat 158)) v = want1 158 v := by kernel_rfl
theorem p1_159 (v : U) : vb1 true (K (Int.ofNat 159)) v = want1 159 v := by kernel_rfl
theorem p1_160 (v : U) : vb1 true (K (Int.ofNat 160)) v = want1 160 v := by kernel_rfl
theorem p1_161 (v : U) : vb1 true (K (Int.ofNat 161)) v = want1 161 v := by kernel_rfl
theorem p1_162 (v : U) : vb1 true (K (Int.ofNat 162)) v = want1 162 v := by kernel_rfl
theorem p1_163 (v : U) : vb1 true (K (Int.ofNat 163)) v = want1 163 v := by kernel_rfl
theorem p1_164 (v : U) : vb1 true (K (Int.ofNat 164)) v = want1 164 v := by kernel_rfl
theorem p1_165 (v : U) : vb1 true (K (Int.ofNat 165)) v = want1 165 v := by kernel_rfl
theorem p1_166 (v : U) : vb1 true (K (Int.ofNat 166)) v = want1 166 v := by kernel_rfl
theorem p1_167 (v : U) : vb1 true (K (Int.ofNat 167)) v = want1 167 v := by kernel_rfl
theorem p1_168 (v : U) : vb1 true (K (Int.ofNat 168)) v = want1 168 v := by kernel_rfl
theorem p1_169 (v : U) : vb1 true (K (Int.ofNat 169)) v = want1 169 v := by kernel_rfl
theorem p1_170 (v : U) : vb1 true (K (Int.ofNat 170)) v = want1 170 v := by kernel_rfl
theorem p1_171 (v : U) : vb1 true (K (Int.ofNat 171)) v = want1 171 v := by kernel_rfl
theorem p1_172 (v : U) : vb1 true (K (Int.ofNat 172)) v = want1 172 v := by kernel_rfl
theorem p1_173 (v : U) : vb1 true (K (Int.ofNat 173)) v = want1 173 v := by kernel_rfl
theorem p1_174 (v : U) : vb1 true (K (Int.ofNat 174)) v = want1 174 v := by kernel_rfl
theorem p1_175 (v : U) : vb1 true (K (Int.ofNat 175)) v = want1 175 v := by kernel_rfl
theorem p1_176 (v : U) : vb1 true (K (Int.ofNat 176)) v = want1 176 v := by kernel_rfl
theorem p1_177 (v : U) : vb1 true (K (Int.ofNat 177)) v = want1 177 v := by kernel_rfl
theorem p1_178 (v : U) : vb1 true (K (Int.ofNat 178)) v = want1 178 v := by kernel_rfl
theorem p1_179 (v : U) : vb1 true (K (Int.ofNat 179)) v = want1 179 v := by kernel_rfl
theorem p1_180 (v : U) : vb1 true (K (Int.ofNat 180)) v = want1 180 v := by kernel_rfl
theorem p1_181 (v : U) : vb1 true (K (Int.ofNat 181)) v = want1 181 v := by kernel_rfl
theorem p1_182 (v : U) : vb1 true (K (Int.ofNat 182)) v = want1 182 v := by kernel_rfl
theorem p1_183 (v : U) : vb1 true (K (Int.ofNat 183)) v = want1 183 v := by kernel_rfl
theorem p1_184 (v : U) : vb1 true (K (Int.ofNat 184)) v = want1 184 v := by kernel_rfl
theorem p1_185 (v : U) : vb1 true (K (Int.ofNat 185)) v = want1 185 v := by kernel_rfl
theorem p1_186 (v : U) : vb1 true (K (Int.ofNat 186)) v = want1 186 v := by kernel_rfl
theorem p1_187 (v : U) : vb1 true (K (Int.ofNat 187)) v = want1 187 v := by kernel_rfl
theorem p1_188 (v : U) : vb1 true (K (Int.ofNat 188)) v = want1 188 v := by kernel_rfl
theorem p1_189 (v : U) : vb1 true (K (Int.ofNat 189)) v = want1 189 v := by kernel_rfl
theorem p1_190 (v : U) : vb1 true (K (Int.ofNat 190)) v = want1 190 v := by kernel_rfl
theorem p1_191 (v : U) : vb1 true (K (Int.ofNat 191)) v = want1 191 v := by kernel_rfl
theorem p1_192 (v : U) : vb1 true (K (Int.ofNat 192)) v = want1 192 v := by kernel_rfl
theorem p1_193 (v : U) : vb1 true (K (Int.ofNat 193)) v = want1 193 v := by kernel_rfl
theorem p1_194 (v : U) : vb1 true (K (Int.ofNat 194)) v = want1 194 v := by kernel_rfl
theorem p1_195 (v : U) : vb1 true (K (Int.ofNat 195)) v = want1 195 v := by kernel_rfl
theorem p1_196 (v : U) : vb1 true (K (Int.ofNat 196)) v = want1 196 v := by kernel_rfl
theorem p1_197 (v : U) : vb1 true (K (Int.ofNat 197)) v = want1 197 v := by kernel_rfl
theorem p1_198 (v : U) : vb1 true (K (Int.ofNat 198)) v = want1 198 v := by kernel_rfl
theorem p1_199 (v : U) : vb1 true (K (Int.ofNat 199)) v = want1 199 v := by kernel_rfl
theorem p1_200 (v : U) : vb1 true (K (Int.ofNat 200)) v = want1 200 v := by kernel_rfl
theorem p1_201 (v : U) : vb1 true (K (Int.ofNat 201)) v = want1 201 v := by kernel_rfl
theorem p1_202 (v : U) : vb1 true (K (Int.ofNat 202)) v = want1 202 v := by kernel_rfl
theorem p1_203 (v : U) : vb1 true (K (Int.ofNat 203)) v = want1 203 v := by kernel_rfl
theorem p1_204 (v : U) : vb1 true (K (Int.ofNat 204)) v = want1 204 v := by kernel_rfl
theorem p1_205 (v : U) : vb1 true (K (Int.ofNat 205)) v = want1 205 v := by kernel_rfl
theorem p1_206 (v : U) : vb1 true (K (Int.ofNat 206)) v = want1 206 v := by kernel_rfl
theorem p1_207 (v : U) : vb1 true (K (Int.ofNat 207)) v = want1 207 v := by kernel_rfl
theorem p1_208 (v : U) : vb1 true (K (Int.ofNat 208)) v = want1 208 v := by kernel_rfl
theorem p1_209 (v : U) : vb1 true (K (Int.ofNat 209)) v = want1 209 v := by kernel_rfl
theorem p1_210 (v : U) : vb1 true (K (Int.ofNat 210)) v = want1 210 v := by kernel_rfl
theorem p1_211 (v : U) : vb1 true (K (Int.ofNat 211)) v = want1 211 v := by kernel_rfl
theorem p1_212 (v : U) : vb1 true (K (Int.ofNat 212)) v = want1 212 v := by kernel_rfl
theorem p1_213 (v : U) : vb1 true (K (Int.ofNat 213)) v = want1 213 v := by kernel_rfl
theorem p1_214 (v : U) : vb1 true (K (Int.ofNat 214)) v = want1 214 v := by kernel_rfl
theorem p1_215 (v : U) : vb1 true (K (Int.ofNat 215)) v = want1 215 v := by kernel_rfl
theorem p1_216 (v : U) : vb1 true (K (Int.ofNat 216)) v = want1 216 v := by kernel_rfl
theorem p1_217 (v : U) : vb1 true (K (Int.ofNat 217)) v = want1 217 v := by kernel_rfl
theorem p1_218 (v : U) : vb1 true (K (Int.ofNat 218)) v = want1 218 v := by kernel_rfl
theorem p1_219 (v : U) : vb1 true (K (Int.ofNat 219)) v = want1 219 v := by kernel_rfl
theorem p1_220 (v : U) : vb1 true (K (Int.ofNat 220)) v = want1 220 v := by kernel_rfl
theorem p1_221 (v : U) : vb1 true (K (Int.ofNat 221)) v = want1 221 v := by kernel_rfl
theorem p1_222 (v : U) : vb1 true (K (Int.ofNat 222)) v = want1 222 v := by kernel_rfl
theorem p1_223 (v : U) : vb1 true (K (Int.ofNat 223)) v = want1 223 v := by kernel_rfl
theorem p1_224 (v : U) : vb1 true (K (Int.ofNat 224)) v = want1 224 v := by kernel_rfl
theorem p1_225 (v : U) : vb1 true (K (Int.ofNat 225)) v = want1 225 v := by kernel_rfl
theorem p1_226 (v : U) : vb1 true (K (Int.ofNat 226)) v = want1 226 v := by kernel_rfl
theorem p1_227 (v : U) : vb1 true (K (Int.ofNat 227)) v = want1 227 v := by kernel_rfl
theorem p1_228 (v : U) : vb1 true (K (Int.ofNat 228)) v = want1 228 v := by kernel_rfl
theorem p1_229 (v : U) : vb1 true (K (Int.ofNat 229)) v = want1 229 v := by kernel_rfl
theorem p1_230 (v : U) : vb1 true (K (Int.ofNat 230)) v = want1 230 v := by kernel_rfl
theorem p1_231 (v : U) : vb1 true (K (Int.ofNat 231)) v = want1 231 v := by kernel_rfl
theorem p1_232 (v : U) : vb1 true (K (Int.ofNat 232)) v = want1 232 v := by kernel_rfl
theorem p1_233 (v : U) : vb1 true (K (Int.ofNat 233)) v = want1 233 v := by kernel_rfl
theorem p1_234 (v : U) : vb1 true (K (Int.ofNat 234)) v = want1 234 v := by kernel_rfl
theorem p1_235 (v : U) : vb1 true (K (Int.ofNat 235)) v = want1 235 v := by kernel_rfl
theorem p1_236 (v : U) : vb1 true (K (Int.ofNat 236)) v = want1 236 v := by kernel_rfl
theorem p1_237 (v : U) : vb1 true (K (Int.ofNat 237)) v = want1 237 v := by kernel_rfl
theorem p1_238 (v : U) : vb1 true (K (Int.ofNat 238)) v = want1 238 v := by kernel_rfl
theorem p1_239 (v : U) : vb1 true (K (Int.ofNat 239)) v = want1 239 v := by kernel_rfl
theorem p1_240 (v : U) : vb1 true (K (Int.ofNat 240)) v = want1 240 v := by kernel_rfl
theorem p1_241 (v : U) : vb1 true (K (Int.ofNat 241)) v = want1 241 v := by kernel_rfl
theorem p1_242 (v : U) : vb1 true (K (Int.ofNat 242)) v = want1 242 v := by kernel_rfl
theorem p1_243 (v : U) : vb1 true (K (Int.ofNat 243)) v = want1 243 v := by kernel_rfl
theorem p1_244 (v : U) : vb1 true (K (Int.ofNat 244)) v = want1 244 v := by kernel_rfl
theorem p1_245 (v : U) : vb1 true (K (Int.ofNat 245)) v = want1 245 v := by kernel_rfl
theorem p1_246 (v : U) : vb1 true (K (Int.ofNat 246)) v = want1 246 v := by kernel_rfl
theorem p1_247 (v : U) : vb1 true (K (Int.ofNat 247)) v = want1 247 v := by kernel_rfl
theorem p1_248 (v : U) : vb1 true (K (Int.ofNat 248)) v = want1 248 v := by kernel_rfl
theorem p1_249 (v : U) : vb1 true (K (Int.ofNat 249)) v = want1 249 v := by kernel_rfl
theorem p1_250 (v : U) : vb1 true (K (Int.ofNat 250)) v = want1 250 v := by kernel_rfl
theorem p1_251 (v : U) : vb1 true (K (Int.ofNat 251)) v = want1 251 v := by kernel_rfl
theorem p1_252 (v : U) : vb1 true (K (Int.ofNat 252)) v = want1 252 v := by kernel_rfl
theorem p1_253 (v : U) : vb1 true (K (Int.ofNat 253)) v = want1 253 v := by kernel_rfl
theorem p1_254 (v : U) : vb1 true (K (Int.ofNat 254)) v = want1 254 v := by kernel_rfl
theorem p1_255 (v : U) : vb1 true (K (Int.ofNat 255)) v = want1 255 v := by kernel_rfl
theorem p1_256 (v : U) : vb1 true (K (Int.ofNat 256)) v = want1 256 v := by kernel_rfl
theorem p1_257 (v : U) : vb1 true (K (Int.ofNat 257)) v = want1 257 v := by kernel_rfl
theorem p1_258 (v : U) : vb1 true (K (Int.ofNat 258)) v = want1 258 v := by kernel_rfl
theorem p1_259 (v : U) : vb1 true (K (Int.ofNat 259)) v = want1 259 v := by kernel_rfl
theorem p1_260 (v : U) : vb1 true (K (Int.ofNat 260)) v = want1 260 v := by kernel_rfl
theorem p1_261 (v : U) : vb1 true (K (Int.ofNat 261)) v = want1 261 v := by kernel_rfl
theorem p1_262 (v : U) : vb1 true (K (Int.ofNat 262)) v = want1 262 v := by kernel_rfl
theorem p1_263 (v : U) : vb1 true (K (Int.ofNat 263)) v = want1 263 v := by kernel_rfl
theorem p1_264 (v : U) : vb1 true (K (Int.ofNat 264)) v = want1 264 v := by kernel_rfl
theorem p1_265 (v : U) : vb1 true (K (Int.ofNat 265)) v = want1 265 v := by kernel_rfl
theorem p1_266 (v : U) : vb1 true (K (Int.ofNat 266)) v = want1 266 v := by kernel_rfl
theorem p1_267 (v : U) : vb1 true (K (Int.ofNat 267)) v = want1 267 v := by kernel_rfl
theorem p1_268 (v : U) : vb1 true (K (Int.ofNat 268)) v = want1 268 v := by kernel_rfl
theorem p1_269 (v : U) : vb1 true (K (Int.ofNat 269)) v = want1 269 v := by kernel_rfl
theorem p1_270 (v : U) : vb1 true (K (Int.ofNat 270)) v = want1 270 v := by kernel_rfl
theorem p1_271 (v : U) : vb1 true (K (Int.ofNat 271)) v = want1 271 v := by kernel_rfl
theorem p1_272 (v : U) : vb1 true (K (Int.ofNat 272)) v = want1 272 v := by kernel_rfl
theorem p1_273 (v : U) : vb1 true (K (Int.ofNat 273)) v = want1 273 v := by kernel_rfl
theorem p1_274 (v : U) : vb1 true (K (Int.ofNat 274)) v = want1 274 v := by kernel_rfl
theorem p1_275 (v : U) : vb1 true (K (Int.ofNat 275)) v = want1 275 v := by kernel_rfl
theorem p1_276 (v : U) : vb1 true (K (Int.ofNat 276)) v = want1 276 v := by kernel_rfl
theorem p1_277 (v : U) : vb1 true (K (Int.ofNat 277)) v = want1 277 v := by kernel_rfl
theorem p1_278 (v : U) : vb1 true (K (Int.ofNat 278)) v = want1 278 v := by kernel_rfl
theorem p1_279 (v : U) : vb1 true (K (Int.ofNat 279)) v = want1 279 v := by kernel_rfl
theorem p1_280 (v : U) : vb1 true (K (Int.ofNat 280)) v = want1 280 v := by kernel_rfl
theorem p1_281 (v : U) : vb1 true (K (Int.ofNat 281)) v = want1 281 v := by kernel_rfl
theorem p1_282 (v : U) : vb1 true (K (Int.ofNat 282)) v = want1 282 v := by kernel_rfl
theorem p1_283 (v : U) : vb1 true (K (Int.ofNat 283)) v = want1 283 v := by kernel_rfl
theorem p1_284 (v : U) : vb1 true (K (Int.ofNat 284)) v = want1 284 v := by kernel_rfl
theorem p1_285 (v : U) : vb1 true (K (Int.ofNat 285)) v = want1 285 v := by kernel_rfl
theorem p1_286 (v : U) : vb1 true (K (Int.ofNat 286)) v = want1 286 v := by kernel_rfl
theorem p1_287 (v : U) : vb1 true (K (Int.ofNat 287)) v = want1 287 v := by kernel_rfl
theorem p1_288 (v : U) : vb1 true (K (Int.ofNat 288)) v = want1 288 v := by kernel_rfl
theorem p1_289 (v : U) : vb1 true (K (Int.ofNat 289)) v = want1 289 v := by kernel_rfl
theorem p1_290 (v : U) : vb1 true (K (Int.ofNat 290)) v = want1 290 v := by kernel_rfl
theorem p1_291 (v : U) : vb1 true (K (Int.ofNat 291)) v = want1 291 v := by kernel_rfl
theorem p1_292 (v : U) : vb1 true (K (Int.ofNat 292)) v = want1 292 v := by kernel_rfl
theorem p1_293 (v : U) : vb1 true (K (Int.ofNat 293)) v = want1 293 v := by kernel_rfl
theorem p1_294 (v : U) : vb1 true (K (Int.ofNat 294)) v = want1 294 v := by kernel_rfl
theorem p1_295 (v : U) : vb1 true (K (Int.ofNat 295)) v = want1 295 v := by kernel_rfl
theorem p1_296 (v : U) : vb1 true (K (Int.ofNat 296)) v = want1 296 v := by kernel_rfl
theorem p1_297 (v : U) : vb1 true (K (Int.ofNat 297)) v = want1 297 v := by kernel_rfl
theorem p1_298 (v : U) : vb1 true (K (Int.ofNat 298)) v = want1 298 v := by kernel_rfl
theorem p1_299 (v : U) : vb1 true (K (Int.ofNat 299)) v = want1 299 v := by kernel_rfl
theorem all1_25 : AllP P1 25 := ⟨⟨⟨⟨⟨⟨⟨⟨⟨⟨⟨⟨⟨⟨⟨⟨⟨⟨⟨⟨⟨⟨⟨⟨⟨trivial, p1_0⟩, p1_1⟩, p1_2⟩, p1_3⟩, p1_4⟩, p1_5⟩, p1_6⟩, p1_7⟩, p1_8⟩, p1_9⟩, p1_10⟩, p1_11⟩, p1_12⟩, p1_13⟩, p1_14⟩, p1_15⟩, p1_16⟩, p1_17⟩, p1_18⟩, p1_19⟩, p1_20⟩, p1_21⟩, p1_22⟩, p1_23⟩, p1_24⟩
theorem all1_50 : AllP P1 50 := ⟨⟨⟨⟨⟨⟨⟨⟨⟨⟨⟨⟨⟨⟨⟨⟨⟨⟨⟨⟨⟨⟨⟨⟨⟨all1_25, p1_25⟩, p1_26⟩, p1_27⟩, p1_28⟩, p1_29⟩, p1_30⟩, p1_31⟩, p1_32⟩, p1_33⟩, p1_34⟩, p1_35⟩, p1_36⟩, p1_37⟩, p1_38⟩, p1_39⟩, p1_40⟩, p1_41⟩, p1_42⟩, p1_43⟩, p1_44⟩, p1_45⟩, p1_46⟩, p1_47⟩, p1_48⟩, p1_49⟩
theorem all1_75 : AllP P1 75 := ⟨⟨⟨⟨⟨⟨⟨⟨⟨⟨⟨⟨⟨⟨⟨⟨⟨⟨⟨⟨⟨⟨⟨⟨⟨all1_50, p1_50⟩, p1_51⟩, p1_52⟩, p1_53⟩, p1_54⟩, p1_55⟩, p1_56⟩, p1_57⟩, p1_58⟩, p1_59⟩, p1_60⟩, p1_61⟩, p1_62⟩, p1_63⟩, p1_64⟩, p1_65⟩, p1_66⟩, p1_67⟩, p1_68⟩, p1_69⟩, p1_70⟩, p1_71⟩, p1_72⟩, p1_73⟩, p1_74⟩
theorem all1_100 : AllP P1 100 := ⟨⟨⟨⟨⟨⟨⟨⟨⟨⟨⟨⟨⟨⟨⟨⟨⟨⟨⟨⟨⟨⟨⟨⟨⟨all1_75, p1_75⟩, p1_76⟩, p1_77⟩, p1_78⟩, p1_79⟩, p1_80⟩, p1_81⟩, p1_82⟩, p1_83⟩, p1_84⟩, p1_85⟩, p1_86⟩, p1_87⟩, p1_88⟩, p1_89⟩, p1_90⟩, p1_91⟩, p1_92⟩, p1_93⟩, p1_94⟩, p1_95⟩, p1_96⟩, p1_97⟩, p1_98⟩, p1_99⟩
theorem all1_125 : AllP P1 125 := ⟨⟨⟨⟨⟨⟨⟨⟨⟨⟨⟨⟨⟨⟨⟨⟨⟨⟨⟨⟨⟨⟨⟨⟨⟨all1_100, p1_100⟩, p1_101⟩, p1_102⟩, p1_103⟩, p1_104⟩, p1_105⟩, p1_106⟩, p1_107⟩, p1_108⟩, p1_109⟩, p1_110⟩, p1_111⟩, p1_112⟩, p1_113⟩, p1_114⟩, p1_115⟩, p1_116⟩, p1_117⟩, p1_118⟩, p1_119⟩, p1_120⟩, p1_121⟩, p1_122⟩, p1_123⟩, p1_124⟩
theorem all1_150 : AllP P1 150 := ⟨⟨⟨⟨⟨⟨⟨⟨⟨⟨⟨⟨⟨⟨⟨⟨⟨⟨⟨⟨⟨⟨⟨⟨⟨all1_125, p1_125⟩, p1_126⟩, p1_127⟩, p1_128⟩, p1_129⟩, p1_130⟩, p1_131⟩, p1_132⟩, p1_133⟩, p1_134⟩, p1_135⟩, p1_136⟩, p1_137⟩, p1_138⟩, p1_139⟩, p1_140⟩, p1_141⟩, p1_142⟩, p1_143⟩, p1_144⟩, p1_145⟩, p1_146⟩, p1_147⟩, p1_148⟩, p1_149⟩
theorem all1_175 : AllP P1 175 := ⟨⟨⟨⟨⟨⟨⟨⟨⟨⟨⟨⟨⟨⟨⟨⟨⟨⟨⟨⟨⟨⟨⟨⟨⟨all1_150, p1_150⟩, p1_151⟩, p1_152⟩, p1_153⟩, p1_154⟩, p1_155⟩, p1_156⟩, p1_157⟩, p1_158⟩, p1_159⟩, p1_160⟩, p1_161⟩, p1_162⟩, p1_163⟩, p1_164⟩, p1_165⟩, p1_166⟩, p1_167⟩, p1_168⟩, p1_169⟩, p1_170⟩, p1_171⟩, p1_172⟩, p1_173⟩, p1_174⟩
theorem all1_200 : AllP P1 200 := ⟨⟨⟨⟨⟨⟨⟨⟨⟨⟨⟨⟨⟨⟨⟨⟨⟨⟨⟨⟨⟨⟨⟨⟨⟨all1_175, p1_175⟩, p1_176⟩, p1_177⟩, p1_178⟩, p1_179⟩, p1_180⟩, p1_181⟩, p1_182⟩, p1_183⟩, p1_184⟩, p1_185⟩, p1_186⟩, p1_187⟩, p1_188⟩, p1_189⟩, p1_190⟩, p1_191⟩, p1_192⟩, p1_193⟩, p1_194⟩, p1_195⟩, p1_196⟩, p1_197⟩, p1_198⟩, p1_199⟩
theorem all1_225 : AllP P1 225 := ⟨⟨⟨⟨⟨⟨⟨⟨⟨⟨⟨⟨⟨⟨⟨⟨⟨⟨⟨⟨⟨⟨⟨⟨⟨all1_200, p1_200⟩, p1_201⟩, p1_202⟩, p1_203⟩, p1_204⟩, p1_205⟩, p1_206⟩, p1_207⟩, p1_208⟩, p1_209⟩, p1_210⟩, p1_211⟩, p1_212⟩, p1_213⟩, p1_214⟩, p1_215⟩, p1_216⟩, p1_217⟩, p1_218⟩, p1_219⟩, p1_220⟩, p1_221⟩, p1_222⟩, p1_223⟩, p1_224⟩
theorem all1_250 : AllP P1 250 := ⟨⟨⟨⟨⟨⟨⟨⟨⟨⟨⟨⟨⟨⟨⟨⟨⟨⟨⟨⟨⟨⟨⟨⟨⟨all1_225, p1_225⟩, p1_226⟩, p1_227⟩, p1_228⟩, p1_229⟩, p1_230⟩, p1_231⟩, p1_232⟩, p1_233⟩, p1_234⟩, p1_235⟩, p1_236⟩, p1_237⟩, p1_238⟩, p1_239⟩, p1_240⟩, p1_241⟩, p1_242⟩, p1_243⟩, p1_244⟩, p1_245⟩, p1_246⟩, p1_247⟩, p1_248⟩, p1_249⟩
theorem all1_275 : AllP P1 275 := ⟨⟨⟨⟨⟨⟨⟨⟨⟨⟨⟨⟨⟨⟨⟨⟨⟨⟨⟨⟨⟨⟨⟨⟨⟨all1_250, p1_250⟩, p1_251⟩, p1_252⟩, p1_253⟩, p1_254⟩, p1_255⟩, p1_256⟩, p1_257⟩, p1_258⟩, p1_259⟩, p1_260⟩, p1_261⟩, p1_262⟩, p1_263⟩, p1_264⟩, p1_265⟩, p1_266⟩, p1_267⟩, p1_268⟩, p1_269⟩, p1_270⟩, p1_271⟩, p1_272⟩, p1_273⟩, p1_274⟩
theorem all1_300 : AllP P1 300 := ⟨⟨⟨⟨⟨⟨⟨⟨⟨⟨⟨⟨⟨⟨⟨⟨⟨⟨⟨⟨⟨⟨⟨⟨⟨all1_275, p1_275⟩, p1_276⟩, p1_277⟩, p1_278⟩, p1_279⟩, p1_280⟩, p1_281⟩, p1_282⟩, p1_283⟩, p1_284⟩, p1_285⟩, p1_286⟩, p1_287⟩, p1_288⟩, p1_289⟩, p1_290⟩, p1_291⟩, p1_292⟩, p1_293⟩, p1_294⟩, p1_295⟩, p1_296⟩, p1_297⟩, p1_298⟩, p1_299⟩
theorem vb1_ok {p : Nat} (hp : p < 300) (v : U) : vb1 true (K (Int.ofNat p)) v = (true, true) := by
  rw [all1_300.get hp v, want1, bad1_no]
  cases Nat.ble 72 p && Nat.ble (p + 2) 200 <;> rfl
/-- What ValueBack comes to at a place. -/
def want2 (p : Nat) (v : U) : Bool × Bool := bif Nat.ble 72 p && Nat.ble (p + 4) 200 then (cond (bad2 v) true true, cond (bad2 v) false true) else (true, true)
abbrev P2 (p : Nat) : Prop := ∀ v : U, vb2 true (K (Int.ofNat p)) v = want2 p v
theorem p2_0 (v : U) : vb2 true (K (Int.ofNat 0)) v = want2 0 v := by kernel_rfl
theorem p2_1 (v : U) : vb2 true (K (Int.ofNat 1)) v = want2 1 v := by kernel_rfl
theorem p2_2 (v : U) : vb2 true (K (Int.ofNat 2)) v = want2 2 v := by kernel_rfl
theorem p2_3 (v : U) : vb2 true (K (Int.ofNat 3)) v = want2 3 v := by kernel_rfl
theorem p2_4 (v : U) : vb2 true (K (Int.ofNat 4)) v = want2 4 v := by kernel_rfl
theorem p2_5 (v : U) : vb2 true (K (Int.ofNat 5)) v = want2 5 v := by kernel_rfl
theorem p2_6 (v : U) : vb2 true (K (Int.ofNat 6)) v = want2 6 v := by kernel_rfl
theorem p2_7 (v : U) : vb2 true (K (Int.ofNat 7)) v = want2 7 v := by kernel_rfl
theorem p2_8 (v : U) : vb2 true (K (Int.ofNat 8)) v = want2 8 v := by kernel_rfl
theorem p2_9 (v : U) : vb2 true (K (Int.ofNat 9)) v = want2 9 v := by kernel_rfl
theorem p2_10 (v : U) : vb2 true (K (Int.ofNat 10)) v = want2 10 v := by kernel_rfl
theorem p2_11 (v : U) : vb2 true (K (Int.ofNat 11)) v = want2 11 v := by kernel_rfl
theorem p2_12 (v : U) : vb2 true (K (Int.ofNat 12)) v = want2 12 v := by kernel_rfl
theorem p2_13 (v : U) : vb2 true (K (Int.ofNat 13)) v = want2 13 v := by kernel_rfl
theorem p2_14 (v : U) : vb2 true (K (Int.ofNat 14)) v = want2 14 v := by kernel_rfl
theorem p2_15 (v : U) : vb2 true (K (Int.ofNat 15)) v = want2 15 v := by kernel_rfl
theorem p2_16 (v : U) : vb2 true (K (Int.ofNat 16)) v = want2 16 v := by kernel_rfl
theorem p2_17 (v : U) : vb2 true (K (Int.ofNat 17)) v = want2 17 v := by kernel_rfl
theorem p2_18 (v : U) : vb2 true (K (Int.ofNat 18)) v = want2 18 v := by kernel_rfl
theorem p2_19 (v : U) : vb2 true (K (Int.ofNat 19)) v = want2 19 v := by kernel_rfl
theorem p2_20 (v : U) : vb2 true (K (Int.ofNat 20)) v = want2 20 v := by kernel_rfl
theorem p2_21 (v : U) : vb2 true (K (Int.ofNat 21)) v = want2 21 v := by kernel_rfl
theorem p2_22 (v : U) : vb2 true (K (Int.ofNat 22)) v = want2 22 v := by kernel_rfl
theorem p2_23 (v : U) : vb2 true (K (Int.ofNat 23)) v = want2 23 v := by kernel_rfl
theorem p2_24 (v : U) : vb2 true (K (Int.ofNat 24)) v = want2 24 v := by kernel_rfl
theorem p2_25 (v : U) : vb2 true (K (Int.ofNat 25)) v = want2 25 v := by kernel_rfl
theorem p2_26 (v : U) : vb2 true (K (Int.ofNat 26)) v = want2 26 v := by kernel_rfl
theorem p2_27 (v : U) : vb2 true (K (Int.ofNat 27)) v = want2 27 v := by kernel_rfl
theorem p2_28 (v : U) : vb2 true (K (Int.ofNat 28)) v = want2 28 v := by kernel_rfl
theorem p2_29 (v : U) : vb2 true (K (Int.ofNat 29)) v = want2 29 v := by kernel_rfl
theorem p2_30 (v : U) : vb2 true (K (Int.ofNat 30)) v = want2 30 v := by kernel_rfl
theorem p2_31 (v : U) : vb2 true (K (Int.ofNat 31)) v = want2 31 v := by kernel_rfl
theorem p2_32 (v : U) : vb2 true (K (Int.ofNat 32)) v = want2 32 v := by kernel_rfl
theorem p2_33 (v : U) : vb2 true (K (Int.ofNat 33)) v = want2 33 v := by kernel_rfl
theorem p2_34 (v : U) : vb2 true (K (Int.ofNat 34)) v = want2 34 v := by kernel_rfl
theorem p2_35 (v : U) : vb2 true (K (Int.ofNat 35)) v = want2 35 v := by kernel_rfl
theorem p2_36 (v : U) : vb2 true (K (Int.ofNat 36)) v = want2 36 v := by kernel_rfl
theorem p2_37 (v : U) : vb2 true (K (Int.ofNat 37)) v = want2 37 v := by kernel_rfl
theorem p2_38 (v : U) : vb2 true (K (Int.ofNat 38)) v = want2 38 v := by kernel_rfl
theorem p2_39 (v : U) : vb2 true (K (Int.ofNat 39)) v = want2 39 v := by kernel_rfl
theorem p2_40 (v : U) : vb2 true (K (Int.ofNat 40)) v = want2 40 v := by kernel_rfl
theorem p2_41 (v : U) : vb2 true (K (Int.ofNat 41)) v = want2 41 v := by kernel_rfl
theorem p2_42 (v : U) : vb2 true (K (Int.ofNat 42)) v = want2 42 v := by kernel_rfl
theorem p2_43 (v : U) : vb2 true (K (Int.ofNat 43)) v = want2 43 v := by kernel_rfl
theorem p2_44 (v : U) : vb2 true (K (Int.ofNat 44)) v = want2 44 v := by kernel_rfl
theorem p2_45 (v : U) : vb2 true (K (Int.ofNat 45)) v = want2 45 v := by kernel_rfl
theorem p2_46 (v : U) : vb2 true (K (Int.ofNat 46)) v = want2 46 v := by kernel_rfl
theorem p2_47 (v : U) : vb2 true (K (Int.ofNat 47)) v = want2 47 v := by kernel_rfl
theorem p2_48 (v : U) : vb2 true (K (Int.ofNat 48)) v = want2 48 v := by kernel_rfl
theorem p2_49 (v : U) : vb2 true (K (Int.ofNat 49)) v = want2 49 v := by kernel_rfl
theorem p2_50 (v : U) : vb2 true (K (Int.ofNat 50)) v = want2 50 v := by kernel_rfl
theorem p2_51 (v : U) : vb2 true (K (Int.ofNat 51)) v = want2 51 v := by kernel_rfl
theorem p2_52 (v : U) : vb2 true (K (Int.ofNat 52)) v = want2 52 v := by kernel_rfl
theorem p2_53 (v : U) : vb2 true (K (Int.ofNat 53)) v = want2 53 v := by kernel_rfl
theorem p2_54 (v : U) : vb2 true (K (Int.ofNat 54)) v = want2 54 v := by kernel_rfl
theorem p2_55 (v : U) : vb2 true (K (Int.ofNat 55)) v = want2 55 v := by kernel_rfl
theorem p2_56 (v : U) : vb2 true (K (Int.ofNat 56)) v = want2 56 v := by kernel_rfl
theorem p2_57 (v : U) : vb2 true (K (Int.ofNat 57)) v = want2 57 v := by kernel_rfl
theorem p2_58 (v : U) : vb2 true (K (Int.ofNat 58)) v = want2 58 v := by kernel_rfl
theorem p2_59 (v : U) : vb2 true (K (Int.ofNat 59)) v = want2 59 v := by kernel_rfl
theorem p2_60 (v : U) : vb2 true (K (Int.ofNat 60)) v = want2 60 v := by kernel_rfl
theorem p2_61 (v : U) : vb2 true (K (Int.ofNat 61)) v = want2 61 v := by kernel_rfl
theorem p2_62 (v : U) : vb2 true (K (Int.ofNat 62)) v = want2 62 v := by kernel_rfl
theorem p2_63 (v : U) : vb2 true (K (Int.ofNat 63)) v = want2 63 v := by kernel_rfl
theorem p2_64 (v : U) : vb2 true (K (Int.ofNat 64)) v = want2 64 v := by kernel_rfl
theorem p2_65 (v : U) : vb2 true (K (Int.ofNat 65)) v = want2 65 v := by kernel_rfl
theorem p2_66 (v : U) : vb2 true (K (Int.ofNat 66)) v = want2 66 v := by kernel_rfl
theorem p2_67 (v : U) : vb2 true (K (Int.ofNat 67)) v = want2 67 v := by kernel_rfl
theorem p2_68 (v : U) : vb2 true (K (Int.ofNat 68)) v = want2 68 v := by kernel_rfl
theorem p2_69 (v : U) : vb2 true (K (Int.ofNat 69)) v = want2 69 v := by kernel_rfl
theorem p2_70 (v : U) : vb2 true (K (Int.ofNat 70)) v = want2 70 v := by kernel_rfl
theorem p2_71 (v : U) : vb2 true (K (Int.ofNat 71)) v = want2 71 v := by kernel_rfl
theorem p2_72 (v : U) : vb2 true (K (Int.ofNat 72)) v = want2 72 v := by kernel_rfl
theorem p2_73 (v : U) : vb2 true (K (Int.ofNat 73)) v = want2 73 v := by kernel_rfl
theorem p2_74 (v : U) : vb2 true (K (Int.ofNat 74)) v = want2 74 v := by kernel_rfl
theorem p2_75 (v : U) : vb2 true (K (Int.ofNat 75)) v = want2 75 v := by kernel_rfl
theorem p2_76 (v : U) : vb2 true (K (Int.ofNat 76)) v = want2 76 v := by kernel_rfl
theorem p2_77 (v : U) : vb2 true (K (Int.ofNat 77)) v = want2 77 v := by kernel_rfl
theorem p2_78 (v : U) : vb2 true (K (Int.ofNat 78)) v = want2 78 v := by kernel_rfl
theorem p2_79 (v : U) : vb2 true (K (Int.ofNat 79)) v = want2 79 v := by kernel_rfl
theorem p2_80 (v : U) : vb2 true (K (Int.ofNat 80)) v = want2 80 v := by kernel_rfl
theorem p2_81 (v : U) : vb2 true (K (Int.ofNat 81)) v = want2 81 v := by kernel_rfl
theorem p2_82 (v : U) : vb2 true (K (Int.ofNat 82)) v = want2 82 v := by kernel_rfl
theorem p2_83 (v : U) : vb2 true (K (Int.ofNat 83)) v = want2 83 v := by kernel_rfl
theorem p2_84 (v : U) : vb2 true (K (Int.ofNat 84)) v = want2 84 v := by kernel_rfl
theorem p2_85 (v : U) : vb2 true (K (Int.ofNat 85)) v = want2 85 v := by kernel_rfl
theorem p2_86 (v : U) : vb2 true (K (Int.ofNat 86)) v = want2 86 v := by kernel_rfl
theorem p2_87 (v : U) : vb2 true (K (Int.ofNat 87)) v = want2 87 v := by kernel_rfl
theorem p2_88 (v : U) : vb2 true (K (Int.ofNat 88)) v = want2 88 v := by kernel_rfl
theorem p2_89 (v : U) : vb2 true (K (Int.ofNat 89)) v = want2 89 v := by kernel_rfl
theorem p2_90 (v : U) : vb2 true (K (Int.ofNat 90)) v = want2 90 v := by kernel_rfl
theorem p2_91 (v : U) : vb2 true (K (Int.ofNat 91)) v = want2 91 v := by kernel_rfl
theorem p2_92 (v : U) : vb2 true (K (Int.ofNat 92)) v = want2 92 v := by kernel_rfl
theorem p2_93 (v : U) : vb2 true (K (Int.ofNat 93)) v = want2 93 v := by kernel_rfl
theorem p2_94 (v : U) : vb2 true (K (Int.ofNat 94)) v = want2 94 v := by kernel_rfl
theorem p2_95 (v : U) : vb2 true (K (Int.ofNat 95)) v = want2 95 v := by kernel_rfl
theorem p2_96 (v : U) : vb2 true (K (Int.ofNat 96)) v = want2 96 v := by kernel_rfl
theorem p2_97 (v : U) : vb2 true (K (Int.ofNat 97)) v = want2 97 v := by kernel_rfl
theorem p2_98 (v : U) : vb2 true (K (Int.ofNat 98)) v = want2 98 v := by kernel_rfl
theorem p2_99 (v : U) : vb2 true (K (Int.ofNat 99)) v = want2 99 v := by kernel_rfl
theorem p2_100 (v : U) : vb2 true (K (Int.ofNat 100)) v = want2 100 v := by kernel_rfl
theorem p2_101 (v : U) : vb2 true (K (Int.ofNat 101)) v = want2 101 v := by kernel_rfl
theorem p2_102 (v : U) : vb2 true (K (Int.ofNat 102)) v = want2 102 v := by kernel_rfl
theorem p2_103 (v : U) : vb2 true (K (Int.ofNat 103)) v = want2 103 v := by kernel_rfl
theorem p2_104 (v : U) : vb2 true (K (Int.ofNat 104)) v = want2 104 v := by kernel_rfl
theorem p2_105 (v : U) : vb2 true (K (Int.ofNat 105)) v = want2 105 v := by kernel_rfl
theorem p2_106 (v : U) : vb2 true (K (Int.ofNat 106)) v = want2 106 v := by kernel_rfl
theorem p2_107 (v : U) : vb2 true (K (Int.ofNat 107)) v = want2 107 v := by kernel_rfl
theorem p2_108 (v : U) : vb2 true (K (Int.ofNat 108)) v = want2 108 v := by kernel_rfl
theorem p2_109 (v : U) : vb2 true (K (Int.ofNat 109)) v = want2 109 v := by kernel_rfl
theorem p2_110 (v : U) : vb2 true (K (Int.ofNat 110)) v = want2 110 v := by kernel_rfl
theorem p2_111 (v : U) : vb2 true (K (Int.ofNat 111)) v = want2 111 v := by kernel_rfl
theorem p2_112 (v : U) : vb2 true (K (Int.ofNat 112)) v = want2 112 v := by kernel_rfl
theorem p2_113 (v : U) : vb2 true (K (Int.ofNat 113)) v = want2 113 v := by kernel_rfl
theorem p2_114 (v : U) : vb2 true (K (Int.ofNat 114)) v = want2 114 v := by kernel_rfl
theorem p2_115 (v : U) : vb2 true (K (Int.ofNat 115)) v = want2 115 v := by kernel_rfl
theorem p2_116 (v : U) : vb2 true (K (Int.ofNat 116)) v = want2 116 v := by kernel_rfl
theorem p2_117 (v : U) : vb2 true (K (Int.ofNat 117)) v = want2 117 v := by kernel_rfl
theorem p2_118 (v : U) : vb2 true (K (Int.ofNat 118)) v = want2 118 v := by kernel_rfl
theorem p2_119 (v : U) : vb2 true (K (Int.ofNat 119)) v = want2 119 v := by kernel_rfl
theorem p2_120 (v : U) : vb2 true (K (Int.ofNat 120)) v = want2 120 v := by kernel_rfl
theorem p2_121 (v : U) : vb2 true (K (Int.ofNat 121)) v = want2 121 v := by kernel_rfl
theorem p2_122 (v : U) : vb2 true (K (Int.ofNat 122)) v = want2 122 v := by kernel_rfl
theorem p2_123 (v : U) : vb2 true (K (Int.ofNat 123)) v = want2 123 v := by kernel_rfl
theorem p2_124 (v : U) : vb2 true (K (Int.ofNat 124)) v = want2 124 v := by kernel_rfl
theorem p2_125 (v : U) : vb2 true (K (Int.ofNat 125)) v = want2 125 v := by kernel_rfl
theorem p2_126 (v : U) : vb2 true (K (Int.ofNat 126)) v = want2 126 v := by kernel_rfl
theorem p2_127 (v : U) : vb2 true (K (Int.ofNat 127)) v = want2 127 v := by kernel_rfl
theorem p2_128 (v : U) : vb2 true (K (Int.ofNat 128)) v = want2 128 v := by kernel_rfl
theorem p2_129 (v : U) : vb2 true (K (Int.ofNat 129)) v = want2 129 v := by kernel_rfl
theorem p2_130 (v : U) : vb2 true (K (Int.ofNat 130)) v = want2 130 v := by kernel_rfl
theorem p2_131 (v : U) : vb2 true (K (Int.ofNat 131)) v = want2 131 v := by kernel_rfl
theorem p2_132 (v : U) : vb2 true (K (Int.ofNat 132)) v = want2 132 v := by kernel_rfl
theorem p2_133 (v : U) : vb2 true (K (Int.ofNat 133)) v = want2 133 v := by kernel_rfl
theorem p2_134 (v : U) : vb2 true (K (Int.ofNat 134)) v = want2 134 v := by kernel_rfl
theorem p2_135 (v : U) : vb2 true (K (Int.ofNat 135)) v = want2 135 v := by kernel_rfl
theorem p2_136 (v : U) : vb2 true (K (Int.ofNat 136)) v = want2 136 v := by kernel_rfl
theorem p2_137 (v : U) : vb2 true (K (Int.ofNat 137)) v = want2 137 v := by kernel_rfl
theorem p2_138 (v : U) : vb2 true (K (Int.ofNat 138)) v = want2 138 v := by kernel_rfl
theorem p2_139 (v : U) : vb2 true (K (Int.ofNat 139)) v = want2 139 v := by kernel_rfl
theorem p2_140 (v : U) : vb2 true (K (Int.ofNat 140)) v = want2 140 v := by kernel_rfl
theorem p2_141 (v : U) : vb2 true (K (Int.ofNat 141)) v = want2 141 v := by kernel_rfl
theorem p2_142 (v : U) : vb2 true (K (Int.ofNat 142)) v = want2 142 v := by kernel_rfl
theorem p2_143 (v : U) : vb2 true (K (Int.ofNat 143)) v = want2 143 v := by kernel_rfl
theorem p2_144 (v : U) : vb2 true (K (Int.ofNat 144)) v = want2 144 v := by kernel_rfl
theorem p2_145 (v : U) : vb2 true (K (Int.ofNat 145)) v = want2 145 v := by kernel_rfl
theorem p2_146 (v : U) : vb2 true (K (Int.ofNat 146)) v = want2 146 v := by kernel_rfl
theorem p2_147 (v : U) : vb2 true (K (Int.ofNat 147)) v = want2 147 v := by kernel_rfl
theorem p2_148 (v : U) : vb2 true (K (Int.ofNat 148)) v = want2 148 v := by kernel_rfl
theorem p2_149 (v : U) : vb2 true (K (Int.ofNat 149)) v = want2 149 v := by kernel_rfl
theorem p2_150 (v : U) : vb2 true (K (Int.ofNat 150)) v = want2 150 v := by kernel_rfl
theorem p2_151 (v : U) : vb2 true (K (Int.ofNat 151)) v = want2 151 v := by kernel_rfl
theorem p2_152 (v : U) : vb2 true (K (Int.ofNat 152)) v = want2 152 v := by kernel_rfl
theorem p2_153 (v : U) : vb2 true (K (Int.ofNat 153)) v = want2 153 v := by kernel_rfl
theorem p2_154 (v : U) : vb2 true (K (Int.ofNat 154)) v = want2 154 v := by kernel_rfl
theorem p2_155 (v : U) : vb2 true (K (Int.ofNat 155)) v = want2 155 v := by kernel_rfl
theorem p2_156 (v : U) : vb2 true (K (Int.ofNat 156)) v = want2 156 v := by kernel_rfl
theorem p2_157 (v : U) : vb2 true (K (Int.ofNat 157)) v = want2 157 v := by kernel_rfl
theorem p2_158 (v : U) : vb2 true (K (Int.ofNat 158)) v = want2 158 v := by kernel_rfl
theorem p2_159 (v : U) : vb2 true (K (Int.ofNat 159)) v = want2 159 v := by kernel_rfl
theorem p2_160 (v : U) : vb2 true (K (Int.ofNat 160)) v = want2 160 v := by kernel_rfl
theorem p2_161 (v : U) : vb2 true (K (Int.ofNat 161)) v = want2 161 v := by kernel_rfl
theorem p2_162 (v : U) : vb2 true (K (Int.ofNat 162)) v = want2 162 v := by kernel_rfl
theorem p2_163 (v : U) : vb2 true (K (Int.ofNat 163)) v = want2 163 v := by kernel_rfl
theorem p2_164 (v : U) : vb2 true (K (Int.ofNat 164)) v = want2 164 v := by kernel_rfl
theorem p2_165 (v : U) : vb2 true (K (Int.ofNat 165)) v = want2 165 v := by kernel_rfl
theorem p2_166 (v : U) : vb2 true (K (Int.ofNat 166)) v = want2 166 v := by kernel_rfl
theorem p2_167 (v : U) : vb2 true (K (Int.ofNat 167)) v = want2 167 v := by kernel_rfl
theorem p2_168 (v : U) : vb2 true (K (Int.ofNat 168)) v = want2 168 v := by kernel_rfl
theorem p2_169 (v : U) : vb2 true (K (Int.ofNat 169)) v = want2 169 v := by kernel_rfl
theorem p2_170 (v : U) : vb2 true (K (Int.ofNat 170)) v = want2 170 v := by kernel_rfl
theorem p2_171 (v : U) : vb2 true (K (Int.ofNat 171)) v = want2 171 v := by kernel_rfl
theorem p2_172 (v : U) : vb2 true (K (Int.ofNat 172)) v = want2 172 v := by kernel_rfl
theorem p2_173 (v : U) : vb2 true (K (Int.ofNat 173)) v = want2 173 v := by kernel_rfl
theorem p2_174 (v : U) : vb2 true (K (Int.ofNat 174)) v = want2 174 v := by kernel_rfl
theorem p2_175 (v : U) : vb2 true (K (Int.ofNat 175)) v = want2 175 v := by kernel_rfl
theorem p2_176 (v : U) : vb2 true (K (Int.ofNat 176)) v = want2 176 v := by kernel_rfl
theorem p2_177 (v : U) : vb2 true (K (Int.ofNat 177)) v = want2 177 v := by kernel_rfl
theorem p2_178 (v : U) : vb2 true (K (Int.ofNat 178)) v = want2 178 v := by kernel_rfl
theorem p2_179 (v : U) : vb2 true (K (Int.ofNat 179)) v = want2 179 v := by kernel_rfl
theorem p2_180 (v : U) : vb2 true (K (Int.ofNat 180)) v = want2 180 v := by kernel_rfl
theorem p2_181 (v : U) : vb2 true (K (Int.ofNat 181)) v = want2 181 v := by kernel_rfl
theorem p2_182 (v : U) : vb2 true (K (Int.ofNat 182)) v = want2 182 v := by kernel_rfl
theorem p2_183 (v : U) : vb2 true (K (Int.ofNat 183)) v = want2 183 v := by kernel_rfl
theorem p2_184 (v : U) : vb2 true (K (Int.ofNat 184)) v = want2 184 v := by kernel_rfl
theorem p2_185 (v : U) : vb2 true (K (Int.ofNat 185)) v = want2 185 v := by kernel_rfl
theorem p2_186 (v : U) : vb2 true (K (Int.ofNat 186)) v = want2 186 v := by kernel_rfl
theorem p2_187 (v : U) : vb2 true (K (Int.ofNat 187)) v = want2 187 v := by kernel_rfl
theorem p2_188 (v : U) : vb2 true (K (Int.ofNat 188)) v = want2 188 v := by kernel_rfl
theorem p2_189 (v : U) : vb2 true (K (Int.ofNat 189)) v = want2 189 v := by kernel_rfl
theorem p2_190 (v : U) : vb2 true (K (Int.ofNat 190)) v = want2 190 v := by kernel_rfl
theorem p2_191 (v : U) : vb2 true (K (Int.ofNat 191)) v = want2 191 v := by kernel_rfl
theorem p2_192 (v : U) : vb2 true (K (Int.ofNat 192)) v = want2 192 v := by kernel_rfl
theorem p2_193 (v : U) : vb2 true (K (Int.ofNat 193)) v = want2 193 v := by kernel_rfl
theorem p2_194 (v : U) : vb2 true (K (Int.ofNat 194)) v = want2 194 v := by kernel_rfl
theorem p2_195 (v : U) : vb2 true (K (Int.ofNat 195)) v = want2 195 v := by kernel_rfl
theorem p2_196 (v : U) : vb2 true (K (Int.ofNat 196)) v = want2 196 v := by kernel_rfl
theorem p2_197 (v : U) : vb2 true (K (Int.ofNat 197)) v = want2 197 v := by kernel_rfl
theorem p2_198 (v : U) : vb2 true (K (Int.ofNat 198)) v = want2 198 v := by kernel_rfl
theorem p2_199 (v : U) : vb2 true (K (Int.ofNat 199)) v = want2 199 v := by kernel_rfl
theorem p2_200 (v : U) : vb2 true (K (Int.ofNat 200)) v = want2 200 v := by kernel_rfl
theorem p2_201 (v : U) : vb2 true (K (Int.ofNat 201)) v = want2 201 v := by kernel_rfl
theorem p2_202 (v : U) : vb2 true (K (Int.ofNat 202)) v = want2 202 v := by kernel_rfl
theorem p2_203 (v : U) : vb2 true (K (Int.ofNat 203)) v = want2 203 v := by kernel_rfl
theorem p2_204 (v : U) : vb2 true (K (Int.ofNat 204)) v = want2 204 v := by kernel_rfl
theorem p2_205 (v : U) : vb2 true (K (Int.ofNat 205)) v = want2 205 v := by kernel_rfl
theorem p2_206 (v : U) : vb2 true (K (Int.ofNat 206)) v = want2 206 v := by kernel_rfl
theorem p2_207 (v : U) : vb2 true (K (Int.ofNat 207)) v = want2 207 v := by kernel_rfl
theorem p2_208 (v : U) : vb2 true (K (Int.ofNat 208)) v = want2 208 v := by kernel_rfl
theorem p2_209 (v : U) : vb2 true (K (Int.ofNat 209)) v = want2 209 v := by kernel_rfl
theorem p2_210 (v : U) : vb2 true (K (Int.ofNat 210)) v = want2 210 v := by kernel_rfl
theorem p2_211 (v : U) : vb2 true (K (Int.ofNat 211)) v = want2 211 v := by kernel_rfl
theorem p2_212 (v : U) : vb2 true (K (Int.ofNat 212)) v = want2 212 v := by kernel_rfl
theorem p2_213 (v : U) : vb2 true (K (Int.ofNat 213)) v = want2 213 v := by kernel_rfl
theorem p2_214 (v : U) : vb2 true (K (Int.ofNat 214)) v = want2 214 v := by kernel_rfl
theorem p2_215 (v : U) : vb2 true (K (Int.ofNat 215)) v = want2 215 v := by kernel_rfl
theorem p2_216 (v : U) : vb2 true (K (Int.ofNat 216)) v = want2 216 v := by kernel_rfl
theorem p2_217 (v : U) : vb2 true (K (Int.ofNat 217)) v = want2 217 v := by kernel_rfl
theorem p2_218 (v : U) : vb2 true (K (Int.ofNat 218)) v = want2 218 v := by kernel_rfl
theorem p2_219 (v : U) : vb2 true (K (Int.ofNat 219)) v = want2 219 v := by kernel_rfl
theorem p2_220 (v : U) : vb2 true (K (Int.ofNat 220)) v = want2 220 v := by kernel_rfl
theorem p2_221 (v : U) : vb2 true (K (Int.ofNat 221)) v = want2 221 v := by kernel_rfl
theorem p2_222 (v : U) : vb2 true (K (Int.ofNat 222)) v = want2 222 v := by kernel_rfl
theorem p2_223 (v : U) : vb2 true (K (Int.ofNat 223)) v = want2 223 v := by kernel_rfl
theorem p2_224 (v : U) : vb2 true (K (Int.ofNat 224)) v = want2 224 v := by kernel_rfl
theorem p2_225 (v : U) : vb2 true (K (Int.ofNat 225)) v = want2 225 v := by kernel_rfl
theorem p2_226 (v : U) : vb2 true (K (Int.ofNat 226)) v = want2 226 v := by kernel_rfl
theorem p2_227 (v : U) : vb2 true (K (Int.ofNat 227)) v = want2 227 v := by kernel_rfl
theorem p2_228 (v : U) : vb2 true (K (Int.ofNat 228)) v = want2 228 v := by kernel_rfl
theorem p2_229 (v : U) : vb2 true (K (Int.ofNat 229)) v = want2 229 v := by kernel_rfl
theorem p2_230 (v : U) : vb2 true (K (Int.ofNat 230)) v = want2 230 v := by kernel_rfl
theorem p2_231 (v : U) : vb2 true (K (Int.ofNat 231)) v = want2 231 v := by kernel_rfl
theorem p2_232 (v : U) : vb2 true (K (Int.ofNat 232)) v = want2 232 v := by kernel_rfl
theorem p2_233 (v : U) : vb2 true (K (Int.ofNat 233)) v = want2 233 v := by kernel_rfl
theorem p2_234 (v : U) : vb2 true (K (Int.ofNat 234)) v = want2 234 v := by kernel_rfl
theorem p2_235 (v : U) : vb2 true (K (Int.ofNat 235)) v = want2 235 v := by kernel_rfl
theorem p2_236 (v : U) : vb2 true (K (Int.ofNat 236)) v = want2 236 v := by kernel_rfl
theorem p2_237 (v : U) : vb2 true (K (Int.ofNat 237)) v = want2 237 v := by kernel_rfl
theorem p2_238 (v : U) : vb2 true (K (Int.ofNat 238)) v = want2 238 v := by kernel_rfl
theorem p2_239 (v : U) : vb2 true (K (Int.ofNat 239)) v = want2 239 v := by kernel_rfl
theorem p2_240 (v : U) : vb2 true (K (Int.ofNat 240)) v = want2 240 v := by kernel_rfl
theorem p2_241 (v : U) : vb2 true (K (Int.ofNat 241)) v = want2 241 v := by kernel_rfl
theorem p2_242 (v : U) : vb2 true (K (Int.ofNat 242)) v = want2 242 v := by kernel_rfl
theorem p2_243 (v : U) : vb2 true (K (Int.ofNat 243)) v = want2 243 v := by kernel_rfl
theorem p2_244 (v : U) : vb2 true (K (Int.ofNat 244)) v = want2 244 v := by kernel_rfl
theorem p2_245 (v : U) : vb2 true (K (Int.ofNat 245)) v = want2 245 v := by kernel_rfl
theorem p2_246 (v : U) : vb2 true (K (Int.ofNat 246)) v = want2 246 v := by kernel_rfl
theorem p2_247 (v : U) : vb2 true (K (Int.ofNat 247)) v = want2 247 v := by kernel_rfl
theorem p2_248 (v : U) : vb2 true (K (Int.ofNat 248)) v = want2 248 v := by kernel_rfl
theorem p2_249 (v : U) : vb2 true (K (Int.ofNat 249)) v = want2 249 v := by kernel_rfl
theorem p2_250 (v : U) : vb2 true (K (Int.ofNat 250)) v = want2 250 v := by kernel_rfl
theorem p2_251 (v : U) : vb2 true (K (Int.ofNat 251)) v = want2 251 v := by kernel_rfl
theorem p2_252 (v : U) : vb2 true (K (Int.ofNat 252)) v = want2 252 v := by kernel_rfl
theorem p2_253 (v : U) : vb2 true (K (Int.ofNat 253)) v = want2 253 v := by kernel_rfl
theorem p2_254 (v : U) : vb2 true (K (Int.ofNat 254)) v = want2 254 v := by kernel_rfl
theorem p2_255 (v : U) : vb2 true (K (Int.ofNat 255)) v = want2 255 v := by kernel_rfl
theorem p2_256 (v : U) : vb2 true (K (Int.ofNat 256)) v = want2 256 v := by kernel_rfl
theorem p2_257 (v : U) : vb2 true (K (Int.ofNat 257)) v = want2 257 v := by kernel_rfl
theorem p2_258 (v : U) : vb2 true (K (Int.ofNat 258)) v = want2 258 v := by kernel_rfl
theorem p2_259 (v : U) : vb2 true (K (Int.ofNat 259)) v = want2 259 v := by kernel_rfl
theorem p2_260 (v : U) : vb2 true (K (Int.ofNat 260)) v = want2 260 v := by kernel_rfl
theorem p2_261 (v : U) : vb2 true (K (Int.ofNat 261)) v = want2 261 v := by kernel_rfl
theorem p2_262 (v : U) : vb2 true (K (Int.ofNat 262)) v = want2 262 v := by kernel_rfl
theorem p2_263 (v : U) : vb2 true (K (Int.ofNat 263)) v = want2 263 v := by kernel_rfl
theorem p2_264 (v : U) : vb2 true (K (Int.ofNat 264)) v = want2 264 v := by kernel_rfl
theorem p2_265 (v : U) : vb2 true (K (Int.ofNat 265)) v = want2 265 v := by kernel_rfl
theorem p2_266 (v : U) : vb2 true (K (Int.ofNat 266)) v = want2 266 v := by kernel_rfl
theorem p2_267 (v : U) : vb2 true (K (Int.ofNat 267)) v = want2 267 v := by kernel_rfl
theorem p2_268 (v : U) : vb2 true (K (Int.ofNat 268)) v = want2 268 v := by kernel_rfl
theorem p2_269 (v : U) : vb2 true (K (Int.ofNat 269)) v = want2 269 v := by kernel_rfl
theorem p2_270 (v : U) : vb2 true (K (Int.ofNat 270)) v = want2 270 v := by kernel_rfl
theorem p2_271 (v : U) : vb2 true (K (Int.ofNat 271)) v = want2 271 v := by kernel_rfl
theorem p2_272 (v : U) : vb2 true (K (Int.ofNat 272)) v = want2 272 v := by kernel_rfl
theorem p2_273 (v : U) : vb2 true (K (Int.ofNat 273)) v = want2 273 v := by kernel_rfl
theorem p2_274 (v : U) : vb2 true (K (Int.ofNat 274)) v = want2 274 v := by kernel_rfl
theorem p2_275 (v : U) : vb2 true (K (Int.ofNat 275)) v = want2 275 v := by kernel_rfl
theorem p2_276 (v : U) : vb2 true (K (Int.ofNat 276)) v = want2 276 v := by kernel_rfl
theorem p2_277 (v : U) : vb2 true (K (Int.ofNat 277)) v = want2 277 v := by kernel_rfl
theorem p2_278 (v : U) : vb2 true (K (Int.ofNat 278)) v = want2 278 v := by kernel_rfl
theorem p2_279 (v : U) : vb2 true (K (Int.ofNat 279)) v = want2 279 v := by kernel_rfl
theorem p2_280 (v : U) : vb2 true (K (Int.ofNat 280)) v = want2 280 v := by kernel_rfl
theorem p2_281 (v : U) : vb2 true (K (Int.ofNat 281)) v = want2 281 v := by kernel_rfl
theorem p2_282 (v : U) : vb2 true (K (Int.ofNat 282)) v = want2 282 v := by kernel_rfl
theorem p2_283 (v : U) : vb2 true (K (Int.ofNat 283)) v = want2 283 v := by kernel_rfl
theorem p2_284 (v : U) : vb2 true (K (Int.ofNat 284)) v = want2 284 v := by kernel_rfl
theorem p2_285 (v : U) : vb2 true (K (Int.ofNat 285)) v = want2 285 v := by kernel_rfl
theorem p2_286 (v : U) : vb2 true (K (Int.ofNat 286)) v = want2 286 v := by kernel_rfl
theorem p2_287 (v : U) : vb2 true (K (Int.ofNat 287)) v = want2 287 v := by kernel_rfl
theorem p2_288 (v : U) : vb2 true (K (Int.ofNat 288)) v = want2 288 v := by kernel_rfl
theorem p2_289 (v : U) : vb2 true (K (Int.ofNat 289)) v = want2 289 v := by kernel_rfl
theorem p2_290 (v : U) : vb2 true (K (Int.ofNat 290)) v = want2 290 v := by kernel_rfl
theorem p2_291 (v : U) : vb2 true (K (Int.ofNat 291)) v = want2 291 v := by kernel_rfl
theorem p2_292 (v : U) : vb2 true (K (Int.ofNat 292)) v = want2 292 v := by kernel_rfl
theorem p2_293 (v : U) : vb2 true (K (Int.ofNat 293)) v = want2 293 v := by kernel_rfl
theorem p2_294 (v : U) : vb2 true (K (Int.ofNat 294)) v = want2 294 v := by kernel_rfl
theorem p2_295 (v : U) : vb2 true (K (Int.ofNat 295)) v = want2 295 v := by kernel_rfl
theorem p2_296 (v : U) : vb2 true (K (Int.ofNat 296)) v = want2 296 v := by kernel_rfl
theorem p2_297 (v : U) : vb2 true (K (Int.ofNat 297)) v = want2 297 v := by kernel_rfl
theorem p2_298 (v : U) : vb2 true (K (Int.ofNat 298)) v = want2 298 v := by kernel_rfl
theorem p2_299 (v : U) : vb2 true (K (Int.ofNat 299)) v = want2 299 v := by kernel_rfl
theorem all2_25 : AllP P2 25 := ⟨⟨⟨⟨⟨⟨⟨⟨⟨⟨⟨⟨⟨⟨⟨⟨⟨⟨⟨⟨⟨⟨⟨⟨⟨trivial, p2_0⟩, p2_1⟩, p2_2⟩, p2_3⟩, p2_4⟩, p2_5⟩, p2_6⟩, p2_7⟩, p2_8⟩, p2_9⟩, p2_10⟩, p2_11⟩, p2_12⟩, p2_13⟩, p2_14⟩, p2_15⟩, p2_16⟩, p2_17⟩, p2_18⟩, p2_19⟩, p2_20⟩, p2_21⟩, p2_22⟩, p2_23⟩, p2_24⟩
theorem all2_50 : AllP P2 50 := ⟨⟨⟨⟨⟨⟨⟨⟨⟨⟨⟨⟨⟨⟨⟨⟨⟨⟨⟨⟨⟨⟨⟨⟨⟨all2_25, p2_25⟩, p2_26⟩, p2_27⟩, p2_28⟩, p2_29⟩, p2_30⟩, p2_31⟩, p2_32⟩, p2_33⟩, p2_34⟩, p2_35⟩, p2_36⟩, p2_37⟩, p2_38⟩, p2_39⟩, p2_40⟩, p2_41⟩, p2_42⟩, p2_43⟩, p2_44⟩, p2_45⟩, p2_46⟩, p2_47⟩, p2_48⟩, p2_49⟩
theorem all2_75 : AllP P2 75 := ⟨⟨⟨⟨⟨⟨⟨⟨⟨⟨⟨⟨⟨⟨⟨⟨⟨⟨⟨⟨⟨⟨⟨⟨⟨all2_50, p2_50⟩, p2_51⟩, p2_52⟩, p2_53⟩, p2_54⟩, p2_55⟩, p2_56⟩, p2_57⟩, p2_58⟩, p2_59⟩, p2_60⟩, p2_61⟩, p2_62⟩, p2_63⟩, p2_64⟩, p2_65⟩, p2_66⟩, p2_67⟩, p2_68⟩, p2_69⟩, p2_70⟩, p2_71⟩, p2_72⟩, p2_73⟩, p2_74⟩
theorem all2_100 : AllP P2 100 := ⟨⟨⟨⟨⟨⟨⟨⟨⟨⟨⟨⟨⟨⟨⟨⟨⟨⟨⟨⟨⟨⟨⟨⟨⟨all2_75, p2_75⟩, p2_76⟩, p2_77⟩, p2_78⟩, p2_79⟩, p2_80⟩, p2_81⟩, p2_82⟩, p2_83⟩, p2_84⟩, p2_85⟩, p2_86⟩, p2_87⟩, p2_88⟩, p2_89⟩, p2_90⟩, p2_91⟩, p2_92⟩, p2_93⟩, p2_94⟩, p2_95⟩, p2_96⟩, p2_97⟩, p2_98⟩, p2_99⟩
theorem all2_125 : AllP P2 125 := ⟨⟨⟨⟨⟨⟨⟨⟨⟨⟨⟨⟨⟨⟨⟨⟨⟨⟨⟨⟨⟨⟨⟨⟨⟨all2_100, p2_100⟩, p2_101⟩, p2_102⟩, p2_103⟩, p2_104⟩, p2_105⟩, p2_106⟩, p2_107⟩, p2_108⟩, p2_109⟩, p2_110⟩, p2_111⟩, p2_112⟩, p2_113⟩, p2_114⟩, p2_115⟩, p2_116⟩, p2_117⟩, p2_118⟩, p2_119⟩, p2_120⟩, p2_121⟩, p2_122⟩, p2_123⟩, p2_124⟩
theorem all2_150 : AllP P2 150 := ⟨⟨⟨⟨⟨⟨⟨⟨⟨⟨⟨⟨⟨⟨⟨⟨⟨⟨⟨⟨⟨⟨⟨⟨⟨all2_125, p2_125⟩, p2_126⟩, p2_127⟩, p2_128⟩, p2_129⟩, p2_130⟩, p2_131⟩, p2_132⟩, p2_133⟩, p2_134⟩, p2_135⟩, p2_136⟩, p2_137⟩, p2_138⟩, p2_139⟩, p2_140⟩, p2_141⟩, p2_142⟩, p2_143⟩, p2_144⟩, p2_145⟩, p2_146⟩, p2_147⟩, p2_148⟩, p2_149⟩
theorem all2_175 : AllP P2 175 := ⟨⟨⟨⟨⟨⟨⟨⟨⟨⟨⟨⟨⟨⟨⟨⟨⟨⟨⟨⟨⟨⟨⟨⟨⟨all2_150, p2_150⟩, p2_151⟩, p2_152⟩, p2_153⟩, p2_154⟩, p2_155⟩, p2_156⟩, p2_157⟩, p2_158⟩, p2_159⟩, p2_160⟩, p2_161⟩, p2_162⟩, p2_163⟩, p2_164⟩, p2_165⟩, p2_166⟩, p2_167⟩, p2_168⟩, p2_169⟩, p2_170⟩, p2_171⟩, p2_172⟩, p2_173⟩, p2_174⟩
theorem all2_200 : AllP P2 200 := ⟨⟨⟨⟨⟨⟨⟨⟨⟨⟨⟨⟨⟨⟨⟨⟨⟨⟨⟨⟨⟨⟨⟨⟨⟨all2_175, p2_175⟩, p2_176⟩, p2_177⟩, p2_178⟩, p2_179⟩, p2_180⟩, p2_181⟩, p2_182⟩, p2_183⟩, p2_184⟩, p2_185⟩, p2_186⟩, p2_187⟩, p2_188⟩, p2_189⟩, p2_190⟩, p2_191⟩, p2_192⟩, p2_193⟩, p2_194⟩, p2_195⟩, p2_196⟩, p2_197⟩, p2_198⟩, p2_199⟩
theorem all2_225 : AllP P2 225 := ⟨⟨⟨⟨⟨⟨⟨⟨⟨⟨⟨⟨⟨⟨⟨⟨⟨⟨⟨⟨⟨⟨⟨⟨⟨all2_200, p2_200⟩, p2_201⟩, p2_202⟩, p2_203⟩, p2_204⟩, p2_205⟩, p2_206⟩, p2_207⟩, p2_208⟩, p2_209⟩, p2_210⟩, p2_211⟩, p2_212⟩, p2_213⟩, p2_214⟩, p2_215⟩, p2_216⟩, p2_217⟩, p2_218⟩, p2_219⟩, p2_220⟩, p2_221⟩, p2_222⟩, p2_223⟩, p2_224⟩
theorem all2_250 : AllP P2 250 := ⟨⟨⟨⟨⟨⟨⟨⟨⟨⟨⟨⟨⟨⟨⟨⟨⟨⟨⟨⟨⟨⟨⟨⟨⟨all2_225, p2_225⟩, p2_226⟩, p2_227⟩, p2_228⟩, p2_229⟩, p2_230⟩, p2_231⟩, p2_232⟩, p2_233⟩, p2_234⟩, p2_235⟩, p2_236⟩, p2_237⟩, p2_238⟩, p2_239⟩, p2_240⟩, p2_241⟩, p2_242⟩, p2_243⟩, p2_244⟩, p2_245⟩, p2_246⟩, p2_247⟩, p2_248⟩, p2_249⟩
theorem all2_275 : AllP P2 275 := ⟨⟨⟨⟨⟨⟨⟨⟨⟨⟨⟨⟨⟨⟨⟨⟨⟨⟨⟨⟨⟨⟨⟨⟨⟨all2_250, p2_250⟩, p2_251⟩, p2_252⟩, p2_253⟩, p2_254⟩, p2_255⟩, p2_256⟩, p2_257⟩, p2_258⟩, p2_259⟩, p2_260⟩, p2_261⟩, p2_262⟩, p2_263⟩, p2_264⟩, p2_265⟩, p2_266⟩, p2_267⟩, p2_268⟩, p2_269⟩, p2_270⟩, p2_271⟩, p2_272⟩, p2_273⟩, p2_274⟩
theorem all2_300 : AllP P2 300 := ⟨⟨⟨⟨⟨⟨⟨⟨⟨⟨⟨⟨⟨⟨⟨⟨⟨⟨⟨⟨⟨⟨⟨⟨⟨all2_275, p2_275⟩, p2_276⟩, p2_277⟩, p2_278⟩, p2_279⟩, p2_280⟩, p2_281⟩, p2_282⟩, p2_283⟩, p2_284⟩, p2_285⟩, p2_286⟩, p2_287⟩, p2_288⟩, p2_289⟩, p2_290⟩, p2_291⟩, p2_292⟩, p2_293⟩, p2_294⟩, p2_295⟩, p2_296⟩, p2_297⟩, p2_298⟩, p2_299⟩
theorem vb2_ok {p : Nat} (hp : p < 300) (v : U) : vb2 true (K (Int.ofNat p)) v = (true, true) := by
  rw [all2_300.get hp v, want2, bad2_no]
  cases Nat.ble 72 p && Nat.ble (p + 4) 200 <;> rfl
/-- What ValueBack comes to at a place. -/
def want3 (p : Nat) (v : U) : Bool × Bool := bif Nat.ble 72 p && Nat.ble (p + 8) 200 then (cond (bad3 v) true true, cond (bad3 v) false true) else (true, true)
abbrev P3 (p : Nat) : Prop := ∀ v : U, vb3 true (K (Int.ofNat p)) v = want3 p v
theorem p3_0 (v : U) : vb3 true (K (Int.ofNat 0)) v = want3 0 v := by kernel_rfl
theorem p3_1 (v : U) : vb3 true (K (Int.ofNat 1)) v = want3 1 v := by kernel_rfl
theorem p3_2 (v : U) : vb3 true (K (Int.ofNat 2)) v = want3 2 v := by kernel_rfl
theorem p3_3 (v : U) : vb3 true (K (Int.ofNat 3)) v = want3 3 v := by kernel_rfl
theorem p3_4 (v : U) : vb3 true (K (Int.ofNat 4)) v = want3 4 v := by kernel_rfl
theorem p3_5 (v : U) : vb3 true (K (Int.ofNat 5)) v = want3 5 v := by kernel_rfl
theorem p3_6 (v : U) : vb3 true (K (Int.ofNat 6)) v = want3 6 v := by kernel_rfl
theorem p3_7 (v : U) : vb3 true (K (Int.ofNat 7)) v = want3 7 v := by kernel_rfl
theorem p3_8 (v : U) : vb3 true (K (Int.ofNat 8)) v = want3 8 v := by kernel_rfl
theorem p3_9 (v : U) : vb3 true (K (Int.ofNat 9)) v = want3 9 v := by kernel_rfl
theorem p3_10 (v : U) : vb3 true (K (Int.ofNat 10)) v = want3 10 v := by kernel_rfl
theorem p3_11 (v : U) : vb3 true (K (Int.ofNat 11)) v = want3 11 v := by kernel_rfl
theorem p3_12 (v : U) : vb3 true (K (Int.ofNat 12)) v = want3 12 v := by kernel_rfl
theorem p3_13 (v : U) : vb3 true (K (Int.ofNat 13)) v = want3 13 v := by kernel_rfl
theorem p3_14 (v : U) : vb3 true (K (Int.ofNat 14)) v = want3 14 v := by kernel_rfl
theorem p3_15 (v : U) : vb3 true (K (Int.ofNat 15)) v = want3 15 v := by kernel_rfl
theorem p3_16 (v : U) : vb3 true (K (Int.ofNat 16)) v = want3 16 v := by kernel_rfl
theorem p3_17 (v : U) : vb3 true (K (Int.ofNat 17)) v = want3 17 v := by kernel_rfl
theorem p3_18 (v : U) : vb3 true (K (Int.ofNat 18)) v = want3 18 v := by kernel_rfl
theorem p3_19 (v : U) : vb3 true (K (Int.ofNat 19)) v = want3 19 v := by kernel_rfl
theorem p3_20 (v : U) : vb3 true (K (Int.ofNat 20)) v = want3 20 v := by kernel_rfl
theorem p3_21 (v : U) : vb3 true (K (Int.ofNat 21)) v = want3 21 v := by kernel_rfl
theorem p3_22 (v : U) : vb3 true (K (Int.ofNat 22)) v = want3 22 v := by kernel_rfl
theorem p3_23 (v : U) : vb3 true (K (Int.ofNat 23)) v = want3 23 v := by kernel_rfl
theorem p3_24 (v : U) : vb3 true (K (Int.ofNat 24)) v = want3 24 v := by kernel_rfl
theorem p3_25 (v : U) : vb3 true (K (Int.ofNat 25)) v = want3 25 v := by kernel_rfl
theorem p3_26 (v : U) : vb3 true (K (Int.ofNat 26)) v = want3 26 v := by kernel_rfl
theorem p3_27 (v : U) : vb3 true (K (Int.ofNat 27)) v = want3 27 v := by kernel_rfl
theorem p3_28 (v : U) : vb3 true (K (Int.ofNat 28)) v = want3 28 v := by kernel_rfl
theorem p3_29 (v : U) : vb3 true (K (Int.ofNat 29)) v = want3 29 v := by kernel_rfl
theorem p3_30 (v : U) : vb3 true (K (Int.ofNat 30)) v = want3 30 v := by kernel_rfl
theorem p3_31 (v : U) : vb3 true (K (Int.ofNat 31)) v = want3 31 v := by kernel_rfl
theorem p3_32 (v : U) : vb3 true (K (Int.ofNat 32)) v = want3 32 v := by kernel_rfl
theorem p3_33 (v : U) : vb3 true (K (Int.ofNat 33)) v = want3 33 v := by kernel_rfl
theorem p3_34 (v : U) : vb3 true (K (Int.ofNat 34)) v = want3 34 v := by kernel_rfl
theorem p3_35 (v : U) : vb3 true (K (Int.ofNat 35)) v = want3 35 v := by kernel_rfl
theorem p3_36 (v : U) : vb3 true (K (Int.ofNat 36)) v = want3 36 v := by kernel_rfl
theorem p3_37 (v : U) : vb3 true (K (Int.ofNat 37)) v = want3 37 v := by kernel_rfl
theorem p3_38 (v : U) : vb3 true (K (Int.ofNat 38)) v = want3 38 v := by kernel_rfl
theorem p3_39 (v : U) : vb3 true (K (Int.ofNat 39)) v = want3 39 v := by kernel_rfl
theorem p3_40 (v : U) : vb3 true (K (Int.ofNat 40)) v = want3 40 v := by kernel_rfl
theorem p3_41 (v : U) : vb3 true (K (Int.ofNat 41)) v = want3 41 v := by kernel_rfl
theorem p3_42 (v : U) : vb3 true (K (Int.ofNat 42)) v = want3 42 v := by kernel_rfl
theorem p3_43 (v : U) : vb3 true (K (Int.ofNat 43)) v = want3 43 v := by kernel_rfl
theorem p3_44 (v : U) : vb3 true (K (Int.ofNat 44)) v = want3 44 v := by kernel_rfl
theorem p3_45 (v : U) : vb3 true (K (Int.ofNat 45)) v = want3 45 v := by kernel_rfl
theorem p3_46 (v : U) : vb3 true (K (Int.ofNat 46)) v = want3 46 v := by kernel_rfl
theorem p3_47 (v : U) : vb3 true (K (Int.ofNat 47)) v = want3 47 v := by kernel_rfl
theorem p3_48 (v : U) : vb3 true (K (Int.ofNat 48)) v = want3 48 v := by kernel_rfl
theorem p3_49 (v : U) : vb3 true (K (Int.ofNat 49)) v = want3 49 v := by kernel_rfl
theorem p3_50 (v : U) : vb3 true (K (Int.ofNat 50)) v = want3 50 v := by kernel_rfl
theorem p3_51 (v : U) : vb3 true (K (Int.ofNat 51)) v = want3 51 v := by kernel_rfl
theorem p3_52 (v : U) : vb3 true (K (Int.ofNat 52)) v = want3 52 v := by kernel_rfl
theorem p3_53 (v : U) : vb3 true (K (Int.ofNat 53)) v = want3 53 v := by kernel_rfl
theorem p3_54 (v : U) : vb3 true (K (Int.ofNat 54)) v = want3 54 v := by kernel_rfl
theorem p3_55 (v : U) : vb3 true (K (Int.ofNat 55)) v = want3 55 v := by kernel_rfl
theorem p3_56 (v : U) : vb3 true (K (Int.ofNat 56)) v = want3 56 v := by kernel_rfl
theorem p3_57 (v : U) : vb3 true (K (Int.ofNat 57)) v = want3 57 v := by kernel_rfl
theorem p3_58 (v : U) : vb3 true (K (Int.ofNat 58)) v = want3 58 v := by kernel_rfl
theorem p3_59 (v : U) : vb3 true (K (Int.ofNat 59)) v = want3 59 v := by kernel_rfl
theorem p3_60 (v : U) : vb3 true (K (Int.ofNat 60)) v = want3 60 v := by kernel_rfl
theorem p3_61 (v : U) : vb3 true (K (Int.ofNat 61)) v = want3 61 v := by kernel_rfl
theorem p3_62 (v : U) : vb3 true (K (Int.ofNat 62)) v = want3 62 v := by kernel_rfl
theorem p3_63 (v : U) : vb3 true (K (Int.ofNat 63)) v = want3 63 v := by kernel_rfl
theorem p3_64 (v : U) : vb3 true (K (Int.ofNat 64)) v = want3 64 v := by kernel_rfl
theorem p3_65 (v : U) : vb3 true (K (Int.ofNat 65)) v = want3 65 v := by kernel_rfl
theorem p3_66 (v : U) : vb3 true (K (Int.ofNat 66)) v = want3 66 v := by kernel_rfl
theorem p3_67 (v : U) : vb3 true (K (Int.ofNat 67)) v = want3 67 v := by kernel_rfl
theorem p3_68 (v : U) : vb3 true (K (Int.ofNat 68)) v = want3 68 v := by kernel_rfl
theorem p3_69 (v : U) : vb3 true (K (Int.ofNat 69)) v = want3 69 v := by kernel_rfl
theorem p3_70 (v : U) : vb3 true (K (Int.ofNat 70)) v = want3 70 v := by kernel_rfl
theorem p3_71 (v : U) : vb3 true (K (Int.ofNat 71)) v = want3 71 v := by kernel_rfl
theorem p3_72 (v : U) : vb3 true (K (Int.ofNat 72)) v = want3 72 v := by kernel_rfl
theorem p3_73 (v : U) : vb3 true (K (Int.ofNat 73)) v = want3 73 v := by kernel_rfl
theorem p3_74 (v : U) : vb3 true (K (Int.ofNat 74)) v = want3 74 v := by kernel_rfl
theorem p3_75 (v : U) : vb3 true (K (Int.ofNat 75)) v = want3 75 v := by kernel_rfl
theorem p3_76 (v : U) : vb3 true (K (Int.ofNat 76)) v = want3 76 v := by kernel_rfl
theorem p3_77 (v : U) : vb3 true (K (Int.ofNat 77)) v = want3 77 v := by kernel_rfl
theorem p3_78 (v : U) : vb3 true (K (Int.ofNat 78)) v = want3 78 v := by kernel_rfl
theorem p3_79 (v : U) : vb3 true (K (Int.ofNat 79)) v = want3 79 v := by kernel_rfl
theorem p3_80 (v : U) : vb3 true (K (Int.ofNat 80)) v = want3 80 v := by kernel_rfl
theorem p3_81 (v : U) : vb3 true (K (Int.ofNat 81)) v = want3 81 v := by kernel_rfl
theorem p3_82 (v : U) : vb3 true (K (Int.ofNat 82)) v = want3 82 v := by kernel_rfl
theorem p3_83 (v : U) : vb3 true (K (Int.ofNat 83)) v = want3 83 v := by kernel_rfl
theorem p3_84 (v : U) : vb3 true (K (Int.ofNat 84)) v = want3 84 v := by kernel_rfl
theorem p3_85 (v : U) : vb3 true (K (Int.ofNat 85)) v = want3 85 v := by kernel_rfl
theorem p3_86 (v : U) : vb3 true (K (Int.ofNat 86)) v = want3 86 v := by kernel_rfl
theorem p3_87 (v : U) : vb3 true (K (Int.ofNat 87)) v = want3 87 v := by kernel_rfl
theorem p3_88 (v : U) : vb3 true (K (Int.ofNat 88)) v = want3 88 v := by kernel_rfl
theorem p3_89 (v : U) : vb3 true (K (Int.ofNat 89)) v = want3 89 v := by kernel_rfl
theorem p3_90 (v : U) : vb3 true (K (Int.ofNat 90)) v = want3 90 v := by kernel_rfl
theorem p3_91 (v : U) : vb3 true (K (Int.ofNat 91)) v = want3 91 v := by kernel_rfl
theorem p3_92 (v : U) : vb3 true (K (Int.ofNat 92)) v = want3 92 v := by kernel_rfl
theorem p3_93 (v : U) : vb3 true (K (Int.ofNat 93)) v = want3 93 v := by kernel_rfl
theorem p3_94 (v : U) : vb3 true (K (Int.ofNat 94)) v = want3 94 v := by kernel_rfl
theorem p3_95 (v : U) : vb3 true (K (Int.ofNat 95)) v = want3 95 v := by kernel_rfl
theorem p3_96 (v : U) : vb3 true (K (Int.ofNat 96)) v = want3 96 v := by kernel_rfl
theorem p3_97 (v : U) : vb3 true (K (Int.ofNat 97)) v = want3 97 v := by kernel_rfl
theorem p3_98 (v : U) : vb3 true (K (Int.ofNat 98)) v = want3 98 v := by kernel_rfl
theorem p3_99 (v : U) : vb3 true (K (Int.ofNat 99)) v = want3 99 v := by kernel_rfl
theorem p3_100 (v : U) : vb3 true (K (Int.ofNat 100)) v = want3 100 v := by kernel_rfl
theorem p3_101 (v : U) : vb3 true (K (Int.ofNat 101)) v = want3 101 v := by kernel_rfl
theorem p3_102 (v : U) : vb3 true (K (Int.ofNat 102)) v = want3 102 v := by kernel_rfl
theorem p3_103 (v : U) : vb3 true (K (Int.ofNat 103)) v = want3 103 v := by kernel_rfl
theorem p3_104 (v : U) : vb3 true (K (Int.ofNat 104)) v = want3 104 v := by kernel_rfl
theorem p3_105 (v : U) : vb3 true (K (Int.ofNat 105)) v = want3 105 v := by kernel_rfl
theorem p3_106 (v : U) : vb3 true (K (Int.ofNat 106)) v = want3 106 v := by kernel_rfl
theorem p3_107 (v : U) : vb3 true (K (Int.ofNat 107)) v = want3 107 v := by kernel_rfl
theorem p3_108 (v : U) : vb3 true (K (Int.ofNat 108)) v = want3 108 v := by kernel_rfl
theorem p3_109 (v : U) : vb3 true (K (Int.ofNat 109)) v = want3 109 v := by kernel_rfl
theorem p3_110 (v : U) : vb3 true (K (Int.ofNat 110)) v = want3 110 v := by kernel_rfl
theorem p3_111 (v : U) : vb3 true (K (Int.ofNat 111)) v = want3 111 v := by kernel_rfl
theorem p3_112 (v : U) : vb3 true (K (Int.ofNat 112)) v = want3 112 v := by kernel_rfl
theorem p3_113 (v : U) : vb3 true (K (Int.ofNat 113)) v = want3 113 v := by kernel_rfl
theorem p3_114 (v : U) : vb3 true (K (Int.ofNat 114)) v = want3 114 v := by kernel_rfl
theorem p3_115 (v : U) : vb3 true (K (Int.ofNat 115)) v = want3 115 v := by kernel_rfl
theorem p3_116 (v : U) : vb3 true (K (Int.ofNat 116)) v = want3 116 v := by kernel_rfl
theorem p3_117 (v : U) : vb3 true (K (Int.ofNat 117)) v = want3 117 v := by kernel_rfl
theorem p3_118 (v : U) : vb3 true (K (Int.ofNat 118)) v = want3 118 v := by kernel_rfl
theorem p3_119 (v : U) : vb3 true (K (Int.ofNat 119)) v = want3 119 v := by kernel_rfl
theorem p3_120 (v : U) : vb3 true (K (Int.ofNat 120)) v = want3 120 v := by kernel_rfl
theorem p3_121 (v : U) : vb3 true (K (Int.ofNat 121)) v = want3 121 v := by kernel_rfl
theorem p3_122 (v : U) : vb3 true (K (Int.ofNat 122)) v = want3 122 v := by kernel_rfl
theorem p3_123 (v : U) : vb3 true (K (Int.ofNat 123)) v = want3 123 v := by kernel_rfl
theorem p3_124 (v : U) : vb3 true (K (Int.ofNat 124)) v = want3 124 v := by kernel_rfl
theorem p3_125 (v : U) : vb3 true (K (Int.ofNat 125)) v = want3 125 v := by kernel_rfl
theorem p3_126 (v : U) : vb3 true (K (Int.ofNat 126)) v = want3 126 v := by kernel_rfl
theorem p3_127 (v : U) : vb3 true (K (Int.ofNat 127)) v = want3 127 v := by kernel_rfl
theorem p3_128 (v : U) : vb3 true (K (Int.ofNat 128)) v = want3 128 v := by kernel_rfl
theorem p3_129 (v : U) : vb3 true (K (Int.ofNat 129)) v = want3 129 v := by kernel_rfl
theorem p3_130 (v : U) : vb3 true (K (Int.ofNat 130)) v = want3 130 v := by kernel_rfl
theorem p3_131 (v : U) : vb3 true (K (Int.ofNat 131)) v = want3 131 v := by kernel_rfl
theorem p3_132 (v : U) : vb3 true (K (Int.ofNat 132)) v = want3 132 v := by kernel_rfl
theorem p3_133 (v : U) : vb3 true (K (Int.ofNat 133)) v = want3 133 v := by kernel_rfl
theorem p3_134 (v : U) : vb3 true (K (Int.ofNat 134)) v = want3 134 v := by kernel_rfl
theorem p3_135 (v : U) : vb3 true (K (Int.ofNat 135)) v = want3 135 v := by kernel_rfl
theorem p3_136 (v : U) : vb3 true (K (Int.ofNat 136)) v = want3 136 v := by kernel_rfl
theorem p3_137 (v : U) : vb3 true (K (Int.ofNat 137)) v = want3 137 v := by kernel_rfl
theorem p3_138 (v : U) : vb3 true (K (Int.ofNat 138)) v = want3 138 v := by kernel_rfl
theorem p3_139 (v : U) : vb3 true (K (Int.ofNat 139)) v = want3 139 v := by kernel_rfl
theorem p3_140 (v : U) : vb3 true (K (Int.ofNat 140)) v = want3 140 v := by kernel_rfl
theorem p3_141 (v : U) : vb3 true (K (Int.ofNat 141)) v = want3 141 v := by kernel_rfl
theorem p3_142 (v : U) : vb3 true (K (Int.ofNat 142)) v = want3 142 v := by kernel_rfl
theorem p3_143 (v : U) : vb3 true (K (Int.ofNat 143)) v = want3 143 v := by kernel_rfl
theorem p3_144 (v : U) : vb3 true (K (Int.ofNat 144)) v = want3 144 v := by kernel_rfl
theorem p3_145 (v : U) : vb3 true (K (Int.ofNat 145)) v = want3 145 v := by kernel_rfl
theorem p3_146 (v : U) : vb3 true (K (Int.ofNat 146)) v = want3 146 v := by kernel_rfl
theorem p3_147 (v : U) : vb3 true (K (Int.ofNat 147)) v = want3 147 v := by kernel_rfl
theorem p3_148 (v : U) : vb3 true (K (Int.ofNat 148)) v = want3 148 v := by kernel_rfl
theorem p3_149 (v : U) : vb3 true (K (Int.ofNat 149)) v = want3 149 v := by kernel_rfl
theorem p3_150 (v : U) : vb3 true (K (Int.ofNat 150)) v = want3 150 v := by kernel_rfl
theorem p3_151 (v : U) : vb3 true (K (Int.ofNat 151)) v = want3 151 v := by kernel_rfl
theorem p3_152 (v : U) : vb3 true (K (Int.ofNat 152)) v = want3 152 v := by kernel_rfl
theorem p3_153 (v : U) : vb3 true (K (Int.ofNat 153)) v = want3 153 v := by kernel_rfl
theorem p3_154 (v : U) : vb3 true (K (Int.ofNat 154)) v = want3 154 v := by kernel_rfl
theorem p3_155 (v : U) : vb3 true (K (Int.ofNat 155)) v = want3 155 v := by kernel_rfl
theorem p3_156 (v : U) : vb3 true (K (Int.ofNat 156)) v = want3 156 v := by kernel_rfl
theorem p3_157 (v : U) : vb3 true (K (Int.ofNat 157)) v = want3 157 v := by kernel_rfl
theorem p3_158 (v : U) : vb3 true (K (Int.ofNat 158)) v = want3 158 v := by kernel_rfl
theorem p3_159 (v : U) : vb3 true (K (Int.ofNat 159)) v = want3 159 v := by kernel_rfl
theorem p3_160 (v : U) : vb3 true (K (Int.ofNat 160)) v = want3 160 v := by kernel_rfl
theorem p3_161 (v : U) : vb3 true (K (Int.ofNat 161)) v = want3 161 v := by kernel_rfl
theorem p3_162 (v : U) : vb3 true (K (Int.ofNat 162)) v = want3 162 v := by kernel_rfl
theorem p3_163 (v : U) : vb3 true (K (Int.ofNat 163)) v = want3 163 v := by kernel_rfl
theorem p3_164 (v : U) : vb3 true (K (Int.ofNat 164)) v = want3 164 v := by kernel_rfl
theorem p3_165 (v : U) : vb3 true (K (Int.ofNat 165)) v = want3 165 v := by kernel_rfl
theorem p3_166 (v : U) : vb3 true (K (Int.ofNat 166)) v = want3 166 v := by kernel_rfl
theorem p3_167 (v : U) : vb3 true (K (Int.ofNat 167)) v = want3 167 v := by kernel_rfl
theorem p3_168 (v : U) : vb3 true (K (Int.ofNat 168)) v = want3 168 v := by kernel_rfl
theorem p3_169 (v : U) : vb3 true (K (Int.ofNat 169)) v = want3 169 v := by kernel_rfl
theorem p3_170 (v : U) : vb3 true (K (Int.ofNat 170)) v = want3 170 v := by kernel_rfl
theorem p3_171 (v : U) : vb3 true (K (Int.ofNat 171)) v = want3 171 v := by kernel_rfl
theorem p3_172 (v : U) : vb3 true (K (Int.ofNat 172)) v = want3 172 v := by kernel_rfl
theorem p3_173 (v : U) : vb3 true (K (Int.ofNat 173)) v = want3 173 v := by kernel_rfl
theorem p3_174 (v : U) : vb3 true (K (Int.ofNat 174)) v = want3 174 v := by kernel_rfl
theorem p3_175 (v : U) : vb3 true (K (Int.ofNat 175)) v = want3 175 v := by kernel_rfl
theorem p3_176 (v : U) : vb3 true (K (Int.ofNat 176)) v = want3 176 v := by kernel_rfl
theorem p3_177 (v : U) : vb3 true (K (Int.ofNat 177)) v = want3 177 v := by kernel_rfl
theorem p3_178 (v : U) : vb3 true (K (Int.ofNat 178)) v = want3 178 v := by kernel_rfl
theorem p3_179 (v : U) : vb3 true (K (Int.ofNat 179)) v = want3 179 v := by kernel_rfl
theorem p3_180 (v : U) : vb3 true (K (Int.ofNat 180)) v = want3 180 v := by kernel_rfl
theorem p3_181 (v : U) : vb3 true (K (Int.ofNat 181)) v = want3 181 v := by kernel_rfl
theorem p3_182 (v : U) : vb3 true (K (Int.ofNat 182)) v = want3 182 v := by kernel_rfl
theorem p3_183 (v : U) : vb3 true (K (Int.ofNat 183)) v = want3 183 v := by kernel_rfl
theorem p3_184 (v : U) : vb3 true (K (Int.ofNat 184)) v = want3 184 v := by kernel_rfl
theorem p3_185 (v : U) : vb3 true (K (Int.ofNat 185)) v = want3 185 v := by kernel_rfl
theorem p3_186 (v : U) : vb3 true (K (Int.ofNat 186)) v = want3 186 v := by kernel_rfl
theorem p3_187 (v : U) : vb3 true (K (Int.ofNat 187)) v = want3 187 v := by kernel_rfl
theorem p3_188 (v : U) : vb3 true (K (Int.ofNat 188)) v = want3 188 v := by kernel_rfl
theorem p3_189 (v : U) : vb3 true (K (Int.ofNat 189)) v = want3 189 v := by kernel_rfl
theorem p3_190 (v : U) : vb3 true (K (Int.ofNat 190)) v = want3 190 v := by kernel_rfl
theorem p3_191 (v : U) : vb3 true (K (Int.ofNat 191)) v = want3 191 v := by kernel_rfl
theorem p3_192 (v : U) : vb3 true (K (Int.ofNat 192)) v = want3 192 v := by kernel_rfl
theorem p3_193 (v : U) : vb3 true (K (Int.ofNat 193)) v = want3 193 v := by kernel_rfl
theorem p3_194 (v : U) : vb3 true (K (Int.ofNat 194)) v = want3 194 v := by kernel_rfl
theorem p3_195 (v : U) : vb3 true (K (Int.ofNat 195)) v = want3 195 v := by kernel_rfl
theorem p3_196 (v : U) : vb3 true (K (Int.ofNat 196)) v = want3 196 v := by kernel_rfl
theorem p3_197 (v : U) : vb3 true (K (Int.ofNat 197)) v = want3 197 v := by kernel_rfl
theorem p3_198 (v : U) : vb3 true (K (Int.ofNat 198)) v = want3 198 v := by kernel_rfl
theorem p3_199 (v : U) : vb3 true (K (Int.ofNat 199)) v = want3 199 v := by kernel_rfl
theorem p3_200 (v : U) : vb3 true (K (Int.ofNat 200)) v = want3 200 v := by kernel_rfl
theorem p3_201 (v : U) : vb3 true (K (Int.ofNat 201)) v = want3 201 v := by kernel_rfl
theorem p3_202 (v : U) : vb3 true (K (Int.ofNat 202)) v = want3 202 v := by kernel_rfl
theorem p3_203 (v : U) : vb3 true (K (Int.ofNat 203)) v = want3 203 v := by kernel_rfl
theorem p3_204 (v : U) : vb3 true (K (Int.ofNat 204)) v = want3 204 v := by kernel_rfl
theorem p3_205 (v : U) : vb3 true (K (Int.ofNat 205)) v = want3 205 v := by kernel_rfl
theorem p3_206 (v : U) : vb3 true (K (Int.ofNat 206)) v = want3 206 v := by kernel_rfl
theorem p3_207 (v : U) : vb3 true (K (Int.ofNat 207)) v = want3 207 v := by kernel_rfl
theorem p3_208 (v : U) : vb3 true (K (Int.ofNat 208)) v = want3 208 v := by kernel_rfl
theorem p3_209 (v : U) : vb3 true (K (Int.ofNat 209)) v = want3 209 v := by kernel_rfl
theorem p3_210 (v : U) : vb3 true (K (Int.ofNat 210)) v = want3 210 v := by kernel_rfl
theorem p3_211 (v : U) : vb3 true (K (Int.ofNat 211)) v = want3 211 v := by kernel_rfl
theorem p3_212 (v : U) : vb3 true (K (Int.ofNat 212)) v = want3 212 v := by kernel_rfl
theorem p3_213 (v : U) : vb3 true (K (Int.ofNat 213)) v = want3 213 v := by kernel_rfl
theorem p3_214 (v : U) : vb3 true (K (Int.ofNat 214)) v = want3 214 v := by kernel_rfl
theorem p3_215 (v : U) : vb3 true (K (Int.ofNat 215)) v = want3 215 v := by kernel_rfl
theorem p3_216 (v : U) : vb3 true (K (Int.ofNat 216)) v = want3 216 v := by kernel_rfl
theorem p3_217 (v : U) : vb3 true (K (Int.ofNat 217)) v = want3 217 v := by kernel_rfl
theorem p3_218 (v : U) : vb3 true (K (Int.ofNat 218)) v = want3 218 v := by kernel_rfl
theorem p3_219 (v : U) : vb3 true (K (Int.ofNat 219)) v = want3 219 v := by kernel_rfl
theorem p3_220 (v : U) : vb3 true (K (Int.ofNat 220)) v = want3 220 v := by kernel_rfl
theorem p3_221 (v : U) : vb3 true (K (Int.ofNat 221)) v = want3 221 v := by kernel_rfl
theorem p3_222 (v : U) : vb3 true (K (Int.ofNat 222)) v = want3 222 v := by kernel_rfl
theorem p3_223 (v : U) : vb3 true (K (Int.ofNat 223)) v = want3 223 v := by kernel_rfl
theorem p3_224 (v : U) : vb3 true (K (Int.ofNat 224)) v = want3 224 v := by kernel_rfl
theorem p3_225 (v : U) : vb3 true (K (Int.ofNat 225)) v = want3 225 v := by kernel_rfl
theorem p3_226 (v : U) : vb3 true (K (Int.ofNat 226)) v = want3 226 v := by kernel_rfl
theorem p3_227 (v : U) : vb3 true (K (Int.ofNat 227)) v = want3 227 v := by kernel_rfl
theorem p3_228 (v : U) : vb3 true (K (Int.ofNat 228)) v = want3 228 v := by kernel_rfl
theorem p3_229 (v : U) : vb3 true (K (Int.ofNat 229)) v = want3 229 v := by kernel_rfl
theorem p3_230 (v : U) : vb3 true (K (Int.ofNat 230)) v = want3 230 v := by kernel_rfl
theorem p3_231 (v : U) : vb3 true (K (Int.ofNat 231)) v = want3 231 v := by kernel_rfl
theorem p3_232 (v : U) : vb3 true (K (Int.ofNat 232)) v = want3 232 v := by kernel_rfl
theorem p3_233 (v : U) : vb3 true (K (Int.ofNat 233)) v = want3 233 v := by kernel_rfl
theorem p3_234 (v : U) : vb3 true (K (Int.ofNat 234)) v = want3 234 v := by kernel_rfl
theorem p3_235 (v : U) : vb3 true (K (Int.ofNat 235)) v = want3 235 v := by kernel_rfl
theorem p3_236 (v : U) : vb3 true (K (Int.ofNat 236)) v = want3 236 v := by kernel_rfl
theorem p3_237 (v : U) : vb3 true (K (Int.ofNat 237)) v = want3 237 v := by kernel_rfl
theorem p3_238 (v : U) : vb3 true (K (Int.ofNat 238)) v = want3 238 v := by kernel_rfl
theorem p3_239 (v : U) : vb3 true (K (Int.ofNat 239)) v = want3 239 v := by kernel_rfl
theorem p3_240 (v : U) : vb3 true (K (Int.ofNat 240)) v = want3 240 v := by kernel_rfl
theorem p3_241 (v : U) : vb3 true (K (Int.ofNat 241)) v = want3 241 v := by kernel_rfl
theorem p3_242 (v : U) : vb3 true (K (Int.ofNat 242)) v = want3 242 v := by kernel_rfl
theorem p3_243 (v : U) : vb3 true (K (Int.ofNat 243)) v = want3 243 v := by kernel_rfl
theorem p3_244 (v : U) : vb3 true (K (Int.ofNat 244)) v = want3 244 v := by kernel_rfl
theorem p3_245 (v : U) : vb3 true (K (Int.ofNat 245)) v = want3 245 v := by kernel_rfl
theorem p3_246 (v : U) : vb3 true (K (Int.ofNat 246)) v = want3 246 v := by kernel_rfl
theorem p3_247 (v : U) : vb3 true (K (Int.ofNat 247)) v = want3 247 v := by kernel_rfl
theorem p3_248 (v : U) : vb3 true (K (Int.ofNat 248)) v = want3 248 v := by kernel_rfl
theorem p3_249 (v : U) : vb3 true (K (Int.ofNat 249)) v = want3 249 v := by kernel_rfl
theorem p3_250 (v : U) : vb3 true (K (Int.ofNat 250)) v = want3 250 v := by kernel_rfl
theorem p3_251 (v : U) : vb3 true (K (Int.ofNat 251)) v = want3 251 v := by kernel_rfl
theorem p3_252 (v : U) : vb3 true (K (Int.ofNat 252)) v = want3 252 v := by kernel_rfl
theorem p3_253 (v : U) : vb3 true (K (Int.ofNat 253)) v = want3 253 v := by kernel_rfl
theorem p3_254 (v : U) : vb3 true (K (Int.ofNat 254)) v = want3 254 v := by kernel_rfl
theorem p3_255 (v : U) : vb3 true (K (Int.ofNat 255)) v = want3 255 v := by kernel_rfl
theorem p3_256 (v : U) : vb3 true (K (Int.ofNat 256)) v = want3 256 v := by kernel_rfl
theorem p3_257 (v : U) : vb3 true (K (Int.ofNat 257)) v = want3 257 v := by kernel_rfl
theorem p3_258 (v : U) : vb3 true (K (Int.ofNat 258)) v = want3 258 v := by kernel_rfl
theorem p3_259 (v : U) : vb3 true (K (Int.ofNat 259)) v = want3 259 v := by kernel_rfl
theorem p3_260 (v : U) : vb3 true (K (Int.ofNat 260)) v = want3 260 v := by kernel_rfl
theorem p3_261 (v : U) : vb3 true (K (Int.ofNat 261)) v = want3 261 v := by kernel_rfl
theorem p3_262 (v : U) : vb3 true (K (Int.ofNat 262)) v = want3 262 v := by kernel_rfl
theorem p3_263 (v : U) : vb3 true (K (Int.ofNat 263)) v = want3 263 v := by kernel_rfl
theorem p3_264 (v : U) : vb3 true (K (Int.ofNat 264)) v = want3 264 v := by kernel_rfl
theorem p3_265 (v : U) : vb3 true (K (Int.ofNat 265)) v = want3 265 v := by kernel_rfl
theorem p3_266 (v : U) : vb3 true (K (Int.ofNat 266)) v = want3 266 v := by kernel_rfl
theorem p3_267 (v : U) : vb3 true (K (Int.ofNat 267)) v = want3 267 v := by kernel_rfl
theorem p3_268 (v : U) : vb3 true (K (Int.ofNat 268)) v = want3 268 v := by kernel_rfl
theorem p3_269 (v : U) : vb3 true (K (Int.ofNat 269)) v = want3 269 v := by kernel_rfl
theorem p3_270 (v : U) : vb3 true (K (Int.ofNat 270)) v = want3 270 v := by kernel_rfl
theorem p3_271 (v : U) : vb3 true (K (Int.ofNat 271)) v = want3 271 v := by kernel_rfl
theorem p3_272 (v : U) : vb3 true (K (Int.ofNat 272)) v = want3 272 v := by kernel_rfl
theorem p3_273 (v : U) : vb3 true (K (Int.ofNat 273)) v = want3 273 v := by kernel_rfl
theorem p3_274 (v : U) : vb3 true (K (Int.ofNat 274)) v = want3 274 v := by kernel_rfl
theorem p3_275 (v : U) : vb3 true (K (Int.ofNat 275)) v = want3 275 v := by kernel_rfl
theorem p3_276 (v : U) : vb3 true (K (Int.ofNat 276)) v = want3 276 v := by kernel_rfl
theorem p3_277 (v : U) : vb3 true (K (Int.ofNat 277)) v = want3 277 v := by kernel_rfl
theorem p3_278 (v : U) : vb3 true (K (Int.ofNat 278)) v = want3 278 v := by kernel_rfl
theorem p3_279 (v : U) : vb3 true (K (Int.ofNat 279)) v = want3 279 v := by kernel_rfl
theorem p3_280 (v : U) : vb3 true (K (Int.ofNat 280)) v = want3 280 v := by kernel_rfl
theorem p3_281 (v : U) : vb3 true (K (Int.ofNat 281)) v = want3 281 v := by kernel_rfl
theorem p3_282 (v : U) : vb3 true (K (Int.ofNat 282)) v = want3 282 v := by kernel_rfl
theorem p3_283 (v : U) : vb3 true (K (Int.ofNat 283)) v = want3 283 v := by kernel_rfl
theorem p3_284 (v : U) : vb3 true (K (Int.ofNat 284)) v = want3 284 v := by kernel_rfl
theorem p3_285 (v : U) : vb3 true (K (Int.ofNat 285)) v = want3 285 v := by kernel_rfl
theorem p3_286 (v : U) : vb3 true (K (Int.ofNat 286)) v = want3 286 v := by kernel_rfl
theorem p3_287 (v : U) : vb3 true (K (Int.ofNat 287)) v = want3 287 v := by kernel_rfl
theorem p3_288 (v : U) : vb3 true (K (Int.ofNat 288)) v = want3 288 v := by kernel_rfl
theorem p3_289 (v : U) : vb3 true (K (Int.ofNat 289)) v = want3 289 v := by kernel_rfl
theorem p3_290 (v : U) : vb3 true (K (Int.ofNat 290)) v = want3 290 v := by kernel_rfl
theorem p3_291 (v : U) : vb3 true (K (Int.ofNat 291)) v = want3 291 v := by kernel_rfl
theorem p3_292 (v : U) : vb3 true (K (Int.ofNat 292)) v = want3 292 v := by kernel_rfl
theorem p3_293 (v : U) : vb3 true (K (Int.ofNat 293)) v = want3 293 v := by kernel_rfl
theorem p3_294 (v : U) : vb3 true (K (Int.ofNat 294)) v = want3 294 v := by kernel_rfl
theorem p3_295 (v : U) : vb3 true (K (Int.ofNat 295)) v = want3 295 v := by kernel_rfl
theorem p3_296 (v : U) : vb3 true (K (Int.ofNat 296)) v = want3 296 v := by kernel_rfl
theorem p3_297 (v : U) : vb3 true (K (Int.ofNat 297)) v = want3 297 v := by kernel_rfl
theorem p3_298 (v : U) : vb3 true (K (Int.ofNat 298)) v = want3 298 v := by kernel_rfl
theorem p3_299 (v : U) : vb3 true (K (Int.ofNat 299)) v = want3 299 v := by kernel_rfl
theorem all3_25 : AllP P3 25 := ⟨⟨⟨⟨⟨⟨⟨⟨⟨⟨⟨⟨⟨⟨⟨⟨⟨⟨⟨⟨⟨⟨⟨⟨⟨trivial, p3_0⟩, p3_1⟩, p3_2⟩, p3_3⟩, p3_4⟩, p3_5⟩, p3_6⟩, p3_7⟩, p3_8⟩, p3_9⟩, p3_10⟩, p3_11⟩, p3_12⟩, p3_13⟩, p3_14⟩, p3_15⟩, p3_16⟩, p3_17⟩, p3_18⟩, p3_19⟩, p3_20⟩, p3_21⟩, p3_22⟩, p3_23⟩, p3_24⟩
theorem all3_50 : AllP P3 50 := ⟨⟨⟨⟨⟨⟨⟨⟨⟨⟨⟨⟨⟨⟨⟨⟨⟨⟨⟨⟨⟨⟨⟨⟨⟨all3_25, p3_25⟩, p3_26⟩, p3_27⟩, p3_28⟩, p3_29⟩, p3_30⟩, p3_31⟩, p3_32⟩, p3_33⟩, p3_34⟩, p3_35⟩, p3_36⟩, p3_37⟩, p3_38⟩, p3_39⟩, p3_40⟩, p3_41⟩, p3_42⟩, p3_43⟩, p3_44⟩, p3_45⟩, p3_46⟩, p3_47⟩, p3_48⟩, p3_49⟩
theorem all3_75 : AllP P3 75 := ⟨⟨⟨⟨⟨⟨⟨⟨⟨⟨⟨⟨⟨⟨⟨⟨⟨⟨⟨⟨⟨⟨⟨⟨⟨all3_50, p3_50⟩, p3_51⟩, p3_52⟩, p3_53⟩, p3_54⟩, p3_55⟩, p3_56⟩, p3_57⟩, p3_58⟩, p3_59⟩, p3_60⟩, p3_61⟩, p3_62⟩, p3_63⟩, p3_64⟩, p3_65⟩, p3_66⟩, p3_67⟩, p3_68⟩, p3_69⟩, p3_70⟩, p3_71⟩, p3_72⟩, p3_73⟩, p3_74⟩
theorem all3_100 : AllP P3 100 := ⟨⟨⟨⟨⟨⟨⟨⟨⟨⟨⟨⟨⟨⟨⟨⟨⟨⟨⟨⟨⟨⟨⟨⟨⟨all3_75, p3_75⟩, p3_76⟩, p3_77⟩, p3_78⟩, p3_79⟩, p3_80⟩, p3_81⟩, p3_82⟩, p3_83⟩, p3_84⟩, p3_85⟩, p3_86⟩, p3_87⟩, p3_88⟩, p3_89⟩, p3_90⟩, p3_91⟩, p3_92⟩, p3_93⟩, p3_94⟩, p3_95⟩, p3_96⟩, p3_97⟩, p3_98⟩, p3_99⟩
theorem all3_125 : AllP P3 125 := ⟨⟨⟨⟨⟨⟨⟨⟨⟨⟨⟨⟨⟨⟨⟨⟨⟨⟨⟨⟨⟨⟨⟨⟨⟨all3_100, p3_100⟩, p3_101⟩, p3_102⟩, p3_103⟩, p3_104⟩, p3_105⟩, p3_106⟩, p3_107⟩, p3_108⟩, p3_109⟩, p3_110⟩, p3_111⟩, p3_112⟩, p3_113⟩, p3_114⟩, p3_115⟩, p3_116⟩, p3_117⟩, p3_118⟩, p3_119⟩, p3_120⟩, p3_121⟩, p3_122⟩, p3_123⟩, p3_124⟩
theorem all3_150 : AllP P3 150 := ⟨⟨⟨⟨⟨⟨⟨⟨⟨⟨⟨⟨⟨⟨⟨⟨⟨⟨⟨⟨⟨⟨⟨⟨⟨all3_125, p3_125⟩, p3_126⟩, p3_127⟩, p3_128⟩, p3_129⟩, p3_130⟩, p3_131⟩, p3_132⟩, p3_133⟩, p3_134⟩, p3_135⟩, p3_136⟩, p3_137⟩, p3_138⟩, p3_139⟩, p3_140⟩, p3_141⟩, p3_142⟩, p3_143⟩, p3_144⟩, p3_145⟩, p3_146⟩, p3_147⟩, p3_148⟩, p3_149⟩
theorem all3_175 : AllP P3 175 := ⟨⟨⟨⟨⟨⟨⟨⟨⟨⟨⟨⟨⟨⟨⟨⟨⟨⟨⟨⟨⟨⟨⟨⟨⟨all3_150, p3_150⟩, p3_151⟩, p3_152⟩, p3_153⟩, p3_154⟩, p3_155⟩, p3_156⟩, p3_157⟩, p3_158⟩, p3_159⟩, p3_160⟩, p3_161⟩, p3_162⟩, p3_163⟩, p3_164⟩, p3_165⟩, p3_166⟩, p3_167⟩, p3_168⟩, p3_169⟩, p3_170⟩, p3_171⟩, p3_172⟩, p3_173⟩, p3_174⟩
theorem all3_200 : AllP P3 200 := ⟨⟨⟨⟨⟨⟨⟨⟨⟨⟨⟨⟨⟨⟨⟨⟨⟨⟨⟨⟨⟨⟨⟨⟨⟨all3_175, p3_175⟩, p3_176⟩, p3_177⟩, p3_178⟩, p3_179⟩, p3_180⟩, p3_181⟩, p3_182⟩, p3_183⟩, p3_184⟩, p3_185⟩, p3_186⟩, p3_187⟩, p3_188⟩, p3_189⟩, p3_190⟩, p3_191⟩, p3_192⟩, p3_193⟩, p3_194⟩, p3_195⟩, p3_196⟩, p3_197⟩, p3_198⟩, p3_199⟩
theorem all3_225 : AllP P3 225 := ⟨⟨⟨⟨⟨⟨⟨⟨⟨⟨⟨⟨⟨⟨⟨⟨⟨⟨⟨⟨⟨⟨⟨⟨⟨all3_200, p3_200⟩, p3_201⟩, p3_202⟩, p3_203⟩, p3_204⟩, p3_205⟩, p3_206⟩, p3_207⟩, p3_208⟩, p3_209⟩, p3_210⟩, p3_211⟩, p3_212⟩, p3_213⟩, p3_214⟩, p3_215⟩, p3_216⟩, p3_217⟩, p3_218⟩, p3_219⟩, p3_220⟩, p3_221⟩, p3_222⟩, p3_223⟩, p3_224⟩
theorem all3_250 : AllP P3 250 := ⟨⟨⟨⟨⟨⟨⟨⟨⟨⟨⟨⟨⟨⟨⟨⟨⟨⟨⟨⟨⟨⟨⟨⟨⟨all3_225, p3_225⟩, p3_226⟩, p3_227⟩, p3_228⟩, p3_229⟩, p3_230⟩, p3_231⟩, p3_232⟩, p3_233⟩, p3_234⟩, p3_235⟩, p3_236⟩, p3_237⟩, p3_238⟩, p3_239⟩, p3_240⟩, p3_241⟩, p3_242⟩, p3_243⟩, p3_244⟩, p3_245⟩, p3_246⟩, p3_247⟩, p3_248⟩, p3_249⟩
theorem all3_275 : AllP P3 275 := ⟨⟨⟨⟨⟨⟨⟨⟨⟨⟨⟨⟨⟨⟨⟨⟨⟨⟨⟨⟨⟨⟨⟨⟨⟨all3_250, p3_250⟩, p3_251⟩, p3_252⟩, p3_253⟩, p3_254⟩, p3_255⟩, p3_256⟩, p3_257⟩, p3_258⟩, p3_259⟩, p3_260⟩, p3_261⟩, p3_262⟩, p3_263⟩, p3_264⟩, p3_265⟩, p3_266⟩, p3_267⟩, p3_268⟩, p3_269⟩, p3_270⟩, p3_271⟩, p3_272⟩, p3_273⟩, p3_274⟩
theorem all3_300 : AllP P3 300 := ⟨⟨⟨⟨⟨⟨⟨⟨⟨⟨⟨⟨⟨⟨⟨⟨⟨⟨⟨⟨⟨⟨⟨⟨⟨all3_275, p3_275⟩, p3_276⟩, p3_277⟩, p3_278⟩, p3_279⟩, p3_280⟩, p3_281⟩, p3_282⟩, p3_283⟩, p3_284⟩, p3_285⟩, p3_286⟩, p3_287⟩, p3_288⟩, p3_289⟩, p3_290⟩, p3_291⟩, p3_292⟩, p3_293⟩, p3_294⟩, p3_295⟩, p3_296⟩, p3_297⟩, p3_298⟩, p3_299⟩
theorem vb3_ok {p : Nat} (hp : p < 300) (v : U) : vb3 true (K (Int.ofNat p)) v = (true, true) := by
  rw [all3_300.get hp v, want3, bad3_no]
  cases Nat.ble 72 p && Nat.ble (p + 8) 200 <;> rfl
end Go.WE
