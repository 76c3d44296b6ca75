/- ValueSpills, at each place. -/
import Derived.Test.YtokinbmadcaheaaDoorSpillB
namespace Go.WE
set_option linter.unusedVariables false
set_option maxRecDepth 100000
open Go Go.Proofs

theorem got_ok (b : U) : ((K 0 ||| (nrm .u8 b) <<< (BitVec.toNat (K 0))) == nrm .u8 b) = true := by
  have h : (K 0 ||| (nrm .u8 b) <<< (BitVec.toNat (K 0))) = nrm .u8 b := by
    show (0#64 ||| (nrm .u8 b) <<< 0) = nrm .u8 b
    rw [BitVec.shiftLeft_zero, BitVec.zero_or]
  rw [h, beq_self_eq_true]
def gotT (b : U) : Bool := (K 0 ||| (nrm .u8 b) <<< (BitVec.toNat (K 0))) == nrm .u8 b
def wantT (bad : Bool) (b : U) : Bool × Bool := (cond bad true (cond (gotT b) true true), cond bad false (cond (gotT b) true false))
theorem want_ok {bad : Bool} (b : U) (h : bad = false) : wantT bad b = (true, true) := by
  unfold wantT
  rw [h, show gotT b = true from got_ok b]
  rfl
theorem kind_cases (k : U) : kindT k = K (Int.ofNat 2) ∨ kindT k = K (Int.ofNat 3) ∨ kindT k = K (Int.ofNat 4) ∨ kindT k = K (Int.ofNat 5) := by
  unfold kindT
  cases h : oddT k with
  | true => exact .inr (.inr (.inr rfl))
  | false =>
    have h1 : BitVec.slt k (K 2) = false := by unfold oddT at h; cases hh : BitVec.slt k (K 2) <;> simp_all
    have h2 : BitVec.slt (K 5) k = false := by unfold oddT at h; cases hh : BitVec.slt k (K 2) <;> simp_all
    have k2 : (K 2).toInt = 2 := rfl
    have k5 : (K 5).toInt = 5 := rfl
    rw [BitVec.slt, decide_eq_false_iff_not, k2] at h1
    rw [BitVec.slt, decide_eq_false_iff_not, k5] at h2
    have e : ∀ n : Nat, n < 100 → k.toInt = n → k = K (Int.ofNat n) := fun n hn hk => BitVec.eq_of_toInt_eq (by rw [hk, K_toInt (by simp only [Int.ofNat_eq_natCast]; omega)]; rfl)
    have : k.toInt = 2 ∨ k.toInt = 3 ∨ k.toInt = 4 ∨ k.toInt = 5 := by omega
    rcases this with h | h | h | h
    · exact .inl (e 2 (by omega) h)
    · exact .inr (.inl (e 3 (by omega) h))
    · exact .inr (.inr (.inl (e 4 (by omega) h)))
    · exact .inr (.inr (.inr (e 5 (by omega) h)))
abbrev S2 (q r : Nat) : Prop := ∀ N M D b : U, vs2 true (K (Int.ofNat q)) (K (Int.ofNat r)) N M D b = wantT (!(N == N)) b
theorem s2_0_0 (N M D b : U) : vs2 true (K (Int.ofNat 0)) (K (Int.ofNat 0)) N M D b = wantT (!(N == N)) b := by kernel_rfl
theorem s2_0_1 (N M D b : U) : vs2 true (K (Int.ofNat 0)) (K (Int.ofNat 1)) N M D b = wantT (!(N == N)) b := by kernel_rfl
theorem s2_0_2 (N M D b : U) : vs2 true (K (Int.ofNat 0)) (K (Int.ofNat 2)) N M D b = wantT (!(N == N)) b := by kernel_rfl
theorem s2_0_3 (N M D b : U) : vs2 true (K (Int.ofNat 0)) (K (Int.ofNat 3)) N M D b = wantT (!(N == N)) b := by kernel_rfl
theorem s2_0_4 (N M D b : U) : vs2 true (K (Int.ofNat 0)) (K (Int.ofNat 4)) N M D b = wantT (!(N == N)) b := by kernel_rfl
theorem s2_0_5 (N M D b : U) : vs2 true (K (Int.ofNat 0)) (K (Int.ofNat 5)) N M D b = wantT (!(N == N)) b := by kernel_rfl
theorem s2_0_6 (N M D b : U) : vs2 true (K (Int.ofNat 0)) (K (Int.ofNat 6)) N M D b = wantT (!(N == N)) b := by kernel_rfl
theorem s2_0_7 (N M D b : U) : vs2 true (K (Int.ofNat 0)) (K (Int.ofNat 7)) N M D b = wantT (!(N == N)) b := by kernel_rfl
theorem s2_0 : AllP (S2 0) 8 := ⟨⟨⟨⟨⟨⟨⟨⟨trivial, s2_0_0⟩, s2_0_1⟩, s2_0_2⟩, s2_0_3⟩, s2_0_4⟩, s2_0_5⟩, s2_0_6⟩, s2_0_7⟩
theorem s2_1_0 (N M D b : U) : vs2 true (K (Int.ofNat 1)) (K (Int.ofNat 0)) N M D b = wantT (!(N == N)) b := by kernel_rfl
theorem s2_1_1 (N M D b : U) : vs2 true (K (Int.ofNat 1)) (K (Int.ofNat 1)) N M D b = wantT (!(N == N)) b := by kernel_rfl
theorem s2_1_2 (N M D b : U) : vs2 true (K (Int.ofNat 1)) (K (Int.ofNat 2)) N M D b = wantT (!(N == N)) b := by kernel_rfl
theorem s2_1_3 (N M D b : U) : vs2 true (K (Int.ofNat 1)) (K (Int.ofNat 3)) N M D b = wantT (!(N == N)) b := by kernel_rfl
theorem s2_1_4 (N M D b : U) : vs2 true (K (Int.ofNat 1)) (K (Int.ofNat 4)) N M D b = wantT (!(N == N)) b := by kernel_rfl
theorem s2_1_5 (N M D b : U) : vs2 true (K (Int.ofNat 1)) (K (Int.ofNat 5)) N M D b = wantT (!(N == N)) b := by kernel_rfl
theorem s2_1_6 (N M D b : U) : vs2 true (K (Int.ofNat 1)) (K (Int.ofNat 6)) N M D b = wantT (!(N == N)) b := by kernel_rfl
theorem s2_1_7 (N M D b : U) : vs2 true (K (Int.ofNat 1)) (K (Int.ofNat 7)) N M D b = wantT (!(N == N)) b := by kernel_rfl
theorem s2_1 : AllP (S2 1) 8 := ⟨⟨⟨⟨⟨⟨⟨⟨trivial, s2_1_0⟩, s2_1_1⟩, s2_1_2⟩, s2_1_3⟩, s2_1_4⟩, s2_1_5⟩, s2_1_6⟩, s2_1_7⟩
theorem s2_2_0 (N M D b : U) : vs2 true (K (Int.ofNat 2)) (K (Int.ofNat 0)) N M D b = wantT (!(N == N)) b := by kernel_rfl
theorem s2_2_1 (N M D b : U) : vs2 true (K (Int.ofNat 2)) (K (Int.ofNat 1)) N M D b = wantT (!(N == N)) b := by kernel_rfl
theorem s2_2_2 (N M D b : U) : vs2 true (K (Int.ofNat 2)) (K (Int.ofNat 2)) N M D b = wantT (!(N == N)) b := by kernel_rfl
theorem s2_2_3 (N M D b : U) : vs2 true (K (Int.ofNat 2)) (K (Int.ofNat 3)) N M D b = wantT (!(N == N)) b := by kernel_rfl
theorem s2_2_4 (N M D b : U) : vs2 true (K (Int.ofNat 2)) (K (Int.ofNat 4)) N M D b = wantT (!(N == N)) b := by kernel_rfl
theorem s2_2_5 (N M D b : U) : vs2 true (K (Int.ofNat 2)) (K (Int.ofNat 5)) N M D b = wantT (!(N == N)) b := by kernel_rfl
theorem s2_2_6 (N M D b : U) : vs2 true (K (Int.ofNat 2)) (K (Int.ofNat 6)) N M D b = wantT (!(N == N)) b := by kernel_rfl
theorem s2_2_7 (N M D b : U) : vs2 true (K (Int.ofNat 2)) (K (Int.ofNat 7)) N M D b = wantT (!(N == N)) b := by kernel_rfl
theorem s2_2 : AllP (S2 2) 8 := ⟨⟨⟨⟨⟨⟨⟨⟨trivial, s2_2_0⟩, s2_2_1⟩, s2_2_2⟩, s2_2_3⟩, s2_2_4⟩, s2_2_5⟩, s2_2_6⟩, s2_2_7⟩
theorem s2_3_0 (N M D b : U) : vs2 true (K (Int.ofNat 3)) (K (Int.ofNat 0)) N M D b = wantT (!(N == N)) b := by kernel_rfl
theorem s2_3_1 (N M D b : U) : vs2 true (K (Int.ofNat 3)) (K (Int.ofNat 1)) N M D b = wantT (!(N == N)) b := by kernel_rfl
theorem s2_3_2 (N M D b : U) : vs2 true (K (Int.ofNat 3)) (K (Int.ofNat 2)) N M D b = wantT (!(N == N)) b := by kernel_rfl
theorem s2_3_3 (N M D b : U) : vs2 true (K (Int.ofNat 3)) (K (Int.ofNat 3)) N M D b = wantT (!(N == N)) b := by kernel_rfl
theorem s2_3_4 (N M D b : U) : vs2 true (K (Int.ofNat 3)) (K (Int.ofNat 4)) N M D b = wantT (!(N == N)) b := by kernel_rfl
theorem s2_3_5 (N M D b : U) : vs2 true (K (Int.ofNat 3)) (K (Int.ofNat 5)) N M D b = wantT (!(N == N)) b := by kernel_rfl
theorem s2_3_6 (N M D b : U) : vs2 true (K (Int.ofNat 3)) (K (Int.ofNat 6)) N M D b = wantT (!(N == N)) b := by kernel_rfl
theorem s2_3_7 (N M D b : U) : vs2 true (K (Int.ofNat 3)) (K (Int.ofNat 7)) N M D b = wantT (!(N == N)) b := by kernel_rfl
theorem s2_3 : AllP (S2 3) 8 := ⟨⟨⟨⟨⟨⟨⟨⟨trivial, s2_3_0⟩, s2_3_1⟩, s2_3_2⟩, s2_3_3⟩, s2_3_4⟩, s2_3_5⟩, s2_3_6⟩, s2_3_7⟩
theorem s2_4_0 (N M D b : U) : vs2 true (K (Int.ofNat 4)) (K (Int.ofNat 0)) N M D b = wantT (!(N == N)) b := by kernel_rfl
theorem s2_4_1 (N M D b : U) : vs2 true (K (Int.ofNat 4)) (K (Int.ofNat 1)) N M D b = wantT (!(N == N)) b := by kernel_rfl
theorem s2_4_2 (N M D b : U) : vs2 true (K (Int.ofNat 4)) (K (Int.ofNat 2)) N M D b = wantT (!(N == N)) b := by kernel_rfl
theorem s2_4_3 (N M D b : U) : vs2 true (K (Int.ofNat 4)) (K (Int.ofNat 3)) N M D b = wantT (!(N == N)) b := by kernel_rfl
theorem s2_4_4 (N M D b : U) : vs2 true (K (Int.ofNat 4)) (K (Int.ofNat 4)) N M D b = wantT (!(N == N)) b := by kernel_rfl
theorem s2_4_5 (N M D b : U) : vs2 true (K (Int.ofNat 4)) (K (Int.ofNat 5)) N M D b = wantT (!(N == N)) b := by kernel_rfl
theorem s2_4_6 (N M D b : U) : vs2 true (K (Int.ofNat 4)) (K (Int.ofNat 6)) N M D b = wantT (!(N == N)) b := by kernel_rfl
theorem s2_4_7 (N M D b : U) : vs2 true (K (Int.ofNat 4)) (K (Int.ofNat 7)) N M D b = wantT (!(N == N)) b := by kernel_rfl
theorem s2_4 : AllP (S2 4) 8 := ⟨⟨⟨⟨⟨⟨⟨⟨trivial, s2_4_0⟩, s2_4_1⟩, s2_4_2⟩, s2_4_3⟩, s2_4_4⟩, s2_4_5⟩, s2_4_6⟩, s2_4_7⟩
theorem s2_5_0 (N M D b : U) : vs2 true (K (Int.ofNat 5)) (K (Int.ofNat 0)) N M D b = wantT (!(N == N)) b := by kernel_rfl
theorem s2_5_1 (N M D b : U) : vs2 true (K (Int.ofNat 5)) (K (Int.ofNat 1)) N M D b = wantT (!(N == N)) b := by kernel_rfl
theorem s2_5_2 (N M D b : U) : vs2 true (K (Int.ofNat 5)) (K (Int.ofNat 2)) N M D b = wantT (!(N == N)) b := by kernel_rfl
theorem s2_5_3 (N M D b : U) : vs2 true (K (Int.ofNat 5)) (K (Int.ofNat 3)) N M D b = wantT (!(N == N)) b := by kernel_rfl
theorem s2_5_4 (N M D b : U) : vs2 true (K (Int.ofNat 5)) (K (Int.ofNat 4)) N M D b = wantT (!(N == N)) b := by kernel_rfl
theorem s2_5_5 (N M D b : U) : vs2 true (K (Int.ofNat 5)) (K (Int.ofNat 5)) N M D b = wantT (!(N == N)) b := by kernel_rfl
theorem s2_5_6 (N M D b : U) : vs2 true (K (Int.ofNat 5)) (K (Int.ofNat 6)) N M D b = wantT (!(N == N)) b := by kernel_rfl
theorem s2_5_7 (N M D b : U) : vs2 true (K (Int.ofNat 5)) (K (Int.ofNat 7)) N M D b = wantT (!(N == N)) b := by kernel_rfl
theorem s2_5 : AllP (S2 5) 8 := ⟨⟨⟨⟨⟨⟨⟨⟨trivial, s2_5_0⟩, s2_5_1⟩, s2_5_2⟩, s2_5_3⟩, s2_5_4⟩, s2_5_5⟩, s2_5_6⟩, s2_5_7⟩
theorem s2_6_0 (N M D b : U) : vs2 true (K (Int.ofNat 6)) (K (Int.ofNat 0)) N M D b = wantT (!(N == N)) b := by kernel_rfl
theorem s2_6_1 (N M D b : U) : vs2 true (K (Int.ofNat 6)) (K (Int.ofNat 1)) N M D b = wantT (!(N == N)) b := by kernel_rfl
theorem s2_6_2 (N M D b : U) : vs2 true (K (Int.ofNat 6)) (K (Int.ofNat 2)) N M D b = wantT (!(N == N)) b := by kernel_rfl
theorem s2_6_3 (N M D b : U) : vs2 true (K (Int.ofNat 6)) (K (Int.ofNat 3)) N M D b = wantT (!(N == N)) b := by kernel_rfl
theorem s2_6_4 (N M D b : U) : vs2 true (K (Int.ofNat 6)) (K (Int.ofNat 4)) N M D b = wantT (!(N == N)) b := by kernel_rfl
theorem s2_6_5 (N M D b : U) : vs2 true (K (Int.ofNat 6)) (K (Int.ofNat 5)) N M D b = wantT (!(N == N)) b := by kernel_rfl
theorem s2_6_6 (N M D b : U) : vs2 true (K (Int.ofNat 6)) (K (Int.ofNat 6)) N M D b = wantT (!(N == N)) b := by kernel_rfl
theorem s2_6_7 (N M D b : U) : vs2 true (K (Int.ofNat 6)) (K (Int.ofNat 7)) N M D b = wantT (!(N == N)) b := by kernel_rfl
theorem s2_6 : AllP (S2 6) 8 := ⟨⟨⟨⟨⟨⟨⟨⟨trivial, s2_6_0⟩, s2_6_1⟩, s2_6_2⟩, s2_6_3⟩, s2_6_4⟩, s2_6_5⟩, s2_6_6⟩, s2_6_7⟩
theorem s2_7_0 (N M D b : U) : vs2 true (K (Int.ofNat 7)) (K (Int.ofNat 0)) N M D b = wantT (!(N == N)) b := by kernel_rfl
theorem s2_7_1 (N M D b : U) : vs2 true (K (Int.ofNat 7)) (K (Int.ofNat 1)) N M D b = wantT (!(N == N)) b := by kernel_rfl
theorem s2_7_2 (N M D b : U) : vs2 true (K (Int.ofNat 7)) (K (Int.ofNat 2)) N M D b = wantT (!(N == N)) b := by kernel_rfl
theorem s2_7_3 (N M D b : U) : vs2 true (K (Int.ofNat 7)) (K (Int.ofNat 3)) N M D b = wantT (!(N == N)) b := by kernel_rfl
theorem s2_7_4 (N M D b : U) : vs2 true (K (Int.ofNat 7)) (K (Int.ofNat 4)) N M D b = wantT (!(N == N)) b := by kernel_rfl
theorem s2_7_5 (N M D b : U) : vs2 true (K (Int.ofNat 7)) (K (Int.ofNat 5)) N M D b = wantT (!(N == N)) b := by kernel_rfl
theorem s2_7_6 (N M D b : U) : vs2 true (K (Int.ofNat 7)) (K (Int.ofNat 6)) N M D b = wantT (!(N == N)) b := by kernel_rfl
theorem s2_7_7 (N M D b : U) : vs2 true (K (Int.ofNat 7)) (K (Int.ofNat 7)) N M D b = wantT (!(N == N)) b := by kernel_rfl
theorem s2_7 : AllP (S2 7) 8 := ⟨⟨⟨⟨⟨⟨⟨⟨trivial, s2_7_0⟩, s2_7_1⟩, s2_7_2⟩, s2_7_3⟩, s2_7_4⟩, s2_7_5⟩, s2_7_6⟩, s2_7_7⟩
theorem s2_8_0 (N M D b : U) : vs2 true (K (Int.ofNat 8)) (K (Int.ofNat 0)) N M D b = wantT (!(N == N)) b := by kernel_rfl
theorem s2_8_1 (N M D b : U) : vs2 true (K (Int.ofNat 8)) (K (Int.ofNat 1)) N M D b = wantT (!(N == N)) b := by kernel_rfl
theorem s2_8_2 (N M D b : U) : vs2 true (K (Int.ofNat 8)) (K (Int.ofNat 2)) N M D b = wantT (!(N == N)) b := by kernel_rfl
theorem s2_8_3 (N M D b : U) : vs2 true (K (Int.ofNat 8)) (K (Int.ofNat 3)) N M D b = wantT (!(N == N)) b := by kernel_rfl
theorem s2_8_4 (N M D b : U) : vs2 true (K (Int.ofNat 8)) (K (Int.ofNat 4)) N M D b = wantT (!(N == N)) b := by kernel_rfl
theorem s2_8_5 (N M D b : U) : vs2 true (K (Int.ofNat 8)) (K (Int.ofNat 5)) N M D b = wantT (!(N == N)) b := by kernel_rfl
theorem s2_8_6 (N M D b : U) : vs2 true (K (Int.ofNat 8)) (K (Int.ofNat 6)) N M D b = wantT (!(N == N)) b := by kernel_rfl
theorem s2_8_7 (N M D b : U) : vs2 true (K (Int.ofNat 8)) (K (Int.ofNat 7)) N M D b = wantT (!(N == N)) b := by kernel_rfl
theorem s2_8 : AllP (S2 8) 8 := ⟨⟨⟨⟨⟨⟨⟨⟨trivial, s2_8_0⟩, s2_8_1⟩, s2_8_2⟩, s2_8_3⟩, s2_8_4⟩, s2_8_5⟩, s2_8_6⟩, s2_8_7⟩
theorem s2_9_0 (N M D b : U) : vs2 true (K (Int.ofNat 9)) (K (Int.ofNat 0)) N M D b = wantT (!(N == N)) b := by kernel_rfl
theorem s2_9_1 (N M D b : U) : vs2 true (K (Int.ofNat 9)) (K (Int.ofNat 1)) N M D b = wantT (!(N == N)) b := by kernel_rfl
theorem s2_9_2 (N M D b : U) : vs2 true (K (Int.ofNat 9)) (K (Int.ofNat 2)) N M D b = wantT (!(N == N)) b := by kernel_rfl
theorem s2_9_3 (N M D b : U) : vs2 true (K (Int.ofNat 9)) (K (Int.ofNat 3)) N M D b = wantT (!(N == N)) b := by kernel_rfl
theorem s2_9_4 (N M D b : U) : vs2 true (K (Int.ofNat 9)) (K (Int.ofNat 4)) N M D b = wantT (!(N == N)) b := by kernel_rfl
theorem s2_9_5 (N M D b : U) : vs2 true (K (Int.ofNat 9)) (K (Int.ofNat 5)) N M D b = wantT (!(N == N)) b := by kernel_rfl
theorem s2_9_6 (N M D b : U) : vs2 true (K (Int.ofNat 9)) (K (Int.ofNat 6)) N M D b = wantT (!(N == N)) b := by kernel_rfl
theorem s2_9_7 (N M D b : U) : vs2 true (K (Int.ofNat 9)) (K (Int.ofNat 7)) N M D b = wantT (!(N == N)) b := by kernel_rfl
theorem s2_9 : AllP (S2 9) 8 := ⟨⟨⟨⟨⟨⟨⟨⟨trivial, s2_9_0⟩, s2_9_1⟩, s2_9_2⟩, s2_9_3⟩, s2_9_4⟩, s2_9_5⟩, s2_9_6⟩, s2_9_7⟩
theorem s2_10_0 (N M D b : U) : vs2 true (K (Int.ofNat 10)) (K (Int.ofNat 0)) N M D b = wantT (!(N == N)) b := by kernel_rfl
theorem s2_10_1 (N M D b : U) : vs2 true (K (Int.ofNat 10)) (K (Int.ofNat 1)) N M D b = wantT (!(N == N)) b := by kernel_rfl
theorem s2_10_2 (N M D b : U) : vs2 true (K (Int.ofNat 10)) (K (Int.ofNat 2)) N M D b = wantT (!(N == N)) b := by kernel_rfl
theorem s2_10_3 (N M D b : U) : vs2 true (K (Int.ofNat 10)) (K (Int.ofNat 3)) N M D b = wantT (!(N == N)) b := by kernel_rfl
theorem s2_10_4 (N M D b : U) : vs2 true (K (Int.ofNat 10)) (K (Int.ofNat 4)) N M D b = wantT (!(N == N)) b := by kernel_rfl
theorem s2_10_5 (N M D b : U) : vs2 true (K (Int.ofNat 10)) (K (Int.ofNat 5)) N M D b = wantT (!(N == N)) b := by kernel_rfl
theorem s2_10_6 (N M D b : U) : vs2 true (K (Int.ofNat 10)) (K (Int.ofNat 6)) N M D b = wantT (!(N == N)) b := by kernel_rfl
theorem s2_10_7 (N M D b : U) : vs2 true (K (Int.ofNat 10)) (K (Int.ofNat 7)) N M D b = wantT (!(N == N)) b := by kernel_rfl
theorem s2_10 : AllP (S2 10) 8 := ⟨⟨⟨⟨⟨⟨⟨⟨trivial, s2_10_0⟩, s2_10_1⟩, s2_10_2⟩, s2_10_3⟩, s2_10_4⟩, s2_10_5⟩, s2_10_6⟩, s2_10_7⟩
theorem s2_11_0 (N M D b : U) : vs2 true (K (Int.ofNat 11)) (K (Int.ofNat 0)) N M D b = wantT (!(N == N)) b := by kernel_rfl
theorem s2_11_1 (N M D b : U) : vs2 true (K (Int.ofNat 11)) (K (Int.ofNat 1)) N M D b = wantT (!(N == N)) b := by kernel_rfl
theorem s2_11_2 (N M D b : U) : vs2 true (K (Int.ofNat 11)) (K (Int.ofNat 2)) N M D b = wantT (!(N == N)) b := by kernel_rfl
theorem s2_11_3 (N M D b : U) : vs2 true (K (Int.ofNat 11)) (K (Int.ofNat 3)) N M D b = wantT (!(N == N)) b := by kernel_rfl
theorem s2_11_4 (N M D b : U) : vs2 true (K (Int.ofNat 11)) (K (Int.ofNat 4)) N M D b = wantT (!(N == N)) b := by kernel_rfl
theorem s2_11_5 (N M D b : U) : vs2 true (K (Int.ofNat 11)) (K (Int.ofNat 5)) N M D b = wantT (!(N == N)) b := by kernel_rfl
theorem s2_11_6 (N M D b : U) : vs2 true (K (Int.ofNat 11)) (K (Int.ofNat 6)) N M D b = wantT (!(N == N)) b := by kernel_rfl
theorem s2_11_7 (N M D b : U) : vs2 true (K (Int.ofNat 11)) (K (Int.ofNat 7)) N M D b = wantT (!(N == N)) b := by kernel_rfl
theorem s2_11 : AllP (S2 11) 8 := ⟨⟨⟨⟨⟨⟨⟨⟨trivial, s2_11_0⟩, s2_11_1⟩, s2_11_2⟩, s2_11_3⟩, s2_11_4⟩, s2_11_5⟩, s2_11_6⟩, s2_11_7⟩
theorem s2_12_0 (N M D b : U) : vs2 true (K (Int.ofNat 12)) (K (Int.ofNat 0)) N M D b = wantT (!(N == N)) b := by kernel_rfl
theorem s2_12_1 (N M D b : U) : vs2 true (K (Int.ofNat 12)) (K (Int.ofNat 1)) N M D b = wantT (!(N == N)) b := by kernel_rfl
theorem s2_12_2 (N M D b : U) : vs2 true (K (Int.ofNat 12)) (K (Int.ofNat 2)) N M D b = wantT (!(N == N)) b := by kernel_rfl
theorem s2_12_3 (N M D b : U) : vs2 true (K (Int.ofNat 12)) (K (Int.ofNat 3)) N M D b = wantT (!(N == N)) b := by kernel_rfl
theorem s2_12_4 (N M D b : U) : vs2 true (K (Int.ofNat 12)) (K (Int.ofNat 4)) N M D b = wantT (!(N == N)) b := by kernel_rfl
theorem s2_12_5 (N M D b : U) : vs2 true (K (Int.ofNat 12)) (K (Int.ofNat 5)) N M D b = wantT (!(N == N)) b := by kernel_rfl
theorem s2_12_6 (N M D b : U) : vs2 true (K (Int.ofNat 12)) (K (Int.ofNat 6)) N M D b = wantT (!(N == N)) b := by kernel_rfl
theorem s2_12_7 (N M D b : U) : vs2 true (K (Int.ofNat 12)) (K (Int.ofNat 7)) N M D b = wantT (!(N == N)) b := by kernel_rfl
theorem s2_12 : AllP (S2 12) 8 := ⟨⟨⟨⟨⟨⟨⟨⟨trivial, s2_12_0⟩, s2_12_1⟩, s2_12_2⟩, s2_12_3⟩, s2_12_4⟩, s2_12_5⟩, s2_12_6⟩, s2_12_7⟩
theorem s2_13_0 (N M D b : U) : vs2 true (K (Int.ofNat 13)) (K (Int.ofNat 0)) N M D b = wantT (!(N == N)) b := by kernel_rfl
theorem s2_13_1 (N M D b : U) : vs2 true (K (Int.ofNat 13)) (K (Int.ofNat 1)) N M D b = wantT (!(N == N)) b := by kernel_rfl
theorem s2_13_2 (N M D b : U) : vs2 true (K (Int.ofNat 13)) (K (Int.ofNat 2)) N M D b = wantT (!(N == N)) b := by kernel_rfl
theorem s2_13_3 (N M D b : U) : vs2 true (K (Int.ofNat 13)) (K (Int.ofNat 3)) N M D b = wantT (!(N == N)) b := by kernel_rfl
theorem s2_13_4 (N M D b : U) : vs2 true (K (Int.ofNat 13)) (K (Int.ofNat 4)) N M D b = wantT (!(N == N)) b := by kernel_rfl
theorem s2_13_5 (N M D b : U) : vs2 true (K (Int.ofNat 13)) (K (Int.ofNat 5)) N M D b = wantT (!(N == N)) b := by kernel_rfl
theorem s2_13_6 (N M D b : U) : vs2 true (K (Int.ofNat 13)) (K (Int.ofNat 6)) N M D b = wantT (!(N == N)) b := by kernel_rfl
theorem s2_13_7 (N M D b : U) : vs2 true (K (Int.ofNat 13)) (K (Int.ofNat 7)) N M D b = wantT (!(N == N)) b := by kernel_rfl
theorem s2_13 : AllP (S2 13) 8 := ⟨⟨⟨⟨⟨⟨⟨⟨trivial, s2_13_0⟩, s2_13_1⟩, s2_13_2⟩, s2_13_3⟩, s2_13_4⟩, s2_13_5⟩, s2_13_6⟩, s2_13_7⟩
theorem s2_14_0 (N M D b : U) : vs2 true (K (Int.ofNat 14)) (K (Int.ofNat 0)) N M D b = wantT (!(N == N)) b := by kernel_rfl
theorem s2_14_1 (N M D b : U) : vs2 true (K (Int.ofNat 14)) (K (Int.ofNat 1)) N M D b = wantT (!(N == N)) b := by kernel_rfl
theorem s2_14_2 (N M D b : U) : vs2 true (K (Int.ofNat 14)) (K (Int.ofNat 2)) N M D b = wantT (!(N == N)) b := by kernel_rfl
theorem s2_14_3 (N M D b : U) : vs2 true (K (Int.ofNat 14)) (K (Int.ofNat 3)) N M D b = wantT (!(N == N)) b := by kernel_rfl
theorem s2_14_4 (N M D b : U) : vs2 true (K (Int.ofNat 14)) (K (Int.ofNat 4)) N M D b = wantT (!(N == N)) b := by kernel_rfl
theorem s2_14_5 (N M D b : U) : vs2 true (K (Int.ofNat 14)) (K (Int.ofNat 5)) N M D b = wantT (!(N == N)) b := by kernel_rfl
theorem s2_14_6 (N M D b : U) : vs2 true (K (Int.ofNat 14)) (K (Int.ofNat 6)) N M D b = wantT (!(N == N)) b := by kernel_rfl
theorem s2_14_7 (N M D b : U) : vs2 true (K (Int.ofNat 14)) (K (Int.ofNat 7)) N M D b = wantT (!(N == N)) b := by kernel_rfl
theorem s2_14 : AllP (S2 14) 8 := ⟨⟨⟨⟨⟨⟨⟨⟨trivial, s2_14_0⟩, s2_14_1⟩, s2_14_2⟩, s2_14_3⟩, s2_14_4⟩, s2_14_5⟩, s2_14_6⟩, s2_14_7⟩
theorem s2_15_0 (N M D b : U) : vs2 true (K (Int.ofNat 15)) (K (Int.ofNat 0)) N M D b = wantT (!(N == N)) b := by kernel_rfl
theorem s2_15_1 (N M D b : U) : vs2 true (K (Int.ofNat 15)) (K (Int.ofNat 1)) N M D b = wantT (!(N == N)) b := by kernel_rfl
theorem s2_15_2 (N M D b : U) : vs2 true (K (Int.ofNat 15)) (K (Int.ofNat 2)) N M D b = wantT (!(N == N)) b := by kernel_rfl
theorem s2_15_3 (N M D b : U) : vs2 true (K (Int.ofNat 15)) (K (Int.ofNat 3)) N M D b = wantT (!(N == N)) b := by kernel_rfl
theorem s2_15_4 (N M D b : U) : vs2 true (K (Int.ofNat 15)) (K (Int.ofNat 4)) N M D b = wantT (!(N == N)) b := by kernel_rfl
theorem s2_15_5 (N M D b : U) : vs2 true (K (Int.ofNat 15)) (K (Int.ofNat 5)) N M D b = wantT (!(N == N)) b := by kernel_rfl
theorem s2_15_6 (N M D b : U) : vs2 true (K (Int.ofNat 15)) (K (Int.ofNat 6)) N M D b = wantT (!(N == N)) b := by kernel_rfl
theorem s2_15_7 (N M D b : U) : vs2 true (K (Int.ofNat 15)) (K (Int.ofNat 7)) N M D b = wantT (!(N == N)) b := by kernel_rfl
theorem s2_15 : AllP (S2 15) 8 := ⟨⟨⟨⟨⟨⟨⟨⟨trivial, s2_15_0⟩, s2_15_1⟩, s2_15_2⟩, s2_15_3⟩, s2_15_4⟩, s2_15_5⟩, s2_15_6⟩, s2_15_7⟩
theorem s2_all : AllP (fun q => AllP (S2 q) 8) 16 := ⟨⟨⟨⟨⟨⟨⟨⟨⟨⟨⟨⟨⟨⟨⟨⟨trivial, s2_0⟩, s2_1⟩, s2_2⟩, s2_3⟩, s2_4⟩, s2_5⟩, s2_6⟩, s2_7⟩, s2_8⟩, s2_9⟩, s2_10⟩, s2_11⟩, s2_12⟩, s2_13⟩, s2_14⟩, s2_15⟩
theorem vs2_ok {q r : Nat} (hq : q < 16) (hr : r < 8) (N M D b : U) : vs2 true (K (Int.ofNat q)) (K (Int.ofNat r)) N M D b = (true, true) := by
  rw [(s2_all.get hq).get hr N M D b]
  exact want_ok b (by simp)
abbrev S3 (q r : Nat) : Prop := ∀ N M D b : U, vs3 true (K (Int.ofNat q)) (K (Int.ofNat r)) N M D b = wantT (!(N == N)) b
theorem s3_0_0 (N M D b : U) : vs3 true (K (Int.ofNat 0)) (K (Int.ofNat 0)) N M D b = wantT (!(N == N)) b := by kernel_rfl
theorem s3_0_1 (N M D b : U) : vs3 true (K (Int.ofNat 0)) (K (Int.ofNat 1)) N M D b = wantT (!(N == N)) b := by kernel_rfl
theorem s3_0_2 (N M D b : U) : vs3 true (K (Int.ofNat 0)) (K (Int.ofNat 2)) N M D b = wantT (!(N == N)) b := by kernel_rfl
theorem s3_0_3 (N M D b : U) : vs3 true (K (Int.ofNat 0)) (K (Int.ofNat 3)) N M D b = wantT (!(N == N)) b := by kernel_rfl
theorem s3_0_4 (N M D b : U) : vs3 true (K (Int.ofNat 0)) (K (Int.ofNat 4)) N M D b = wantT (!(N == N)) b := by kernel_rfl
theorem s3_0_5 (N M D b : U) : vs3 true (K (Int.ofNat 0)) (K (Int.ofNat 5)) N M D b = wantT (!(N == N)) b := by kernel_rfl
theorem s3_0_6 (N M D b : U) : vs3 true (K (Int.ofNat 0)) (K (Int.ofNat 6)) N M D b = wantT (!(N == N)) b := by kernel_rfl
theorem s3_0_7 (N M D b : U) : vs3 true (K (Int.ofNat 0)) (K (Int.ofNat 7)) N M D b = wantT (!(N == N)) b := by kernel_rfl
theorem s3_0 : AllP (S3 0) 8 := ⟨⟨⟨⟨⟨⟨⟨⟨trivial, s3_0_0⟩, s3_0_1⟩, s3_0_2⟩, s3_0_3⟩, s3_0_4⟩, s3_0_5⟩, s3_0_6⟩, s3_0_7⟩
theorem s3_1_0 (N M D b : U) : vs3 true (K (Int.ofNat 1)) (K (Int.ofNat 0)) N M D b = wantT (!(N == N)) b := by kernel_rfl
theorem s3_1_1 (N M D b : U) : vs3 true (K (Int.ofNat 1)) (K (Int.ofNat 1)) N M D b = wantT (!(N == N)) b := by kernel_rfl
theorem s3_1_2 (N M D b : U) : vs3 true (K (Int.ofNat 1)) (K (Int.ofNat 2)) N M D b = wantT (!(N == N)) b := by kernel_rfl
theorem s3_1_3 (N M D b : U) : vs3 true (K (Int.ofNat 1)) (K (Int.ofNat 3)) N M D b = wantT (!(N == N)) b := by kernel_rfl
theorem s3_1_4 (N M D b : U) : vs3 true (K (Int.ofNat 1)) (K (Int.ofNat 4)) N M D b = wantT (!(N == N)) b := by kernel_rfl
theorem s3_1_5 (N M D b : U) : vs3 true (K (Int.ofNat 1)) (K (Int.ofNat 5)) N M D b = wantT (!(N == N)) b := by kernel_rfl
theorem s3_1_6 (N M D b : U) : vs3 true (K (Int.ofNat 1)) (K (Int.ofNat 6)) N M D b = wantT (!(N == N)) b := by kernel_rfl
theorem s3_1_7 (N M D b : U) : vs3 true (K (Int.ofNat 1)) (K (Int.ofNat 7)) N M D b = wantT (!(N == N)) b := by kernel_rfl
theorem s3_1 : AllP (S3 1) 8 := ⟨⟨⟨⟨⟨⟨⟨⟨trivial, s3_1_0⟩, s3_1_1⟩, s3_1_2⟩, s3_1_3⟩, s3_1_4⟩, s3_1_5⟩, s3_1_6⟩, s3_1_7⟩
theorem s3_2_0 (N M D b : U) : vs3 true (K (Int.ofNat 2)) (K (Int.ofNat 0)) N M D b = wantT (!(N == N)) b := by kernel_rfl
theorem s3_2_1 (N M D b : U) : vs3 true (K (Int.ofNat 2)) (K (Int.ofNat 1)) N M D b = wantT (!(N == N)) b := by kernel_rfl
theorem s3_2_2 (N M D b : U) : vs3 true (K (Int.ofNat 2)) (K (Int.ofNat 2)) N M D b = wantT (!(N == N)) b := by kernel_rfl
theorem s3_2_3 (N M D b : U) : vs3 true (K (Int.ofNat 2)) (K (Int.ofNat 3)) N M D b = wantT (!(N == N)) b := by kernel_rfl
theorem s3_2_4 (N M D b : U) : vs3 true (K (Int.ofNat 2)) (K (Int.ofNat 4)) N M D b = wantT (!(N == N)) b := by kernel_rfl
theorem s3_2_5 (N M D b : U) : vs3 true (K (Int.ofNat 2)) (K (Int.ofNat 5)) N M D b = wantT (!(N == N)) b := by kernel_rfl
theorem s3_2_6 (N M D b : U) : vs3 true (K (Int.ofNat 2)) (K (Int.ofNat 6)) N M D b = wantT (!(N == N)) b := by kernel_rfl
theorem s3_2_7 (N M D b : U) : vs3 true (K (Int.ofNat 2)) (K (Int.ofNat 7)) N M D b = wantT (!(N == N)) b := by kernel_rfl
theorem s3_2 : AllP (S3 2) 8 := ⟨⟨⟨⟨⟨⟨⟨⟨trivial, s3_2_0⟩, s3_2_1⟩, s3_2_2⟩, s3_2_3⟩, s3_2_4⟩, s3_2_5⟩, s3_2_6⟩, s3_2_7⟩
theorem s3_3_0 (N M D b : U) : vs3 true (K (Int.ofNat 3)) (K (Int.ofNat 0)) N M D b = wantT (!(N == N)) b := by kernel_rfl
theorem s3_3_1 (N M D b : U) : vs3 true (K (Int.ofNat 3)) (K (Int.ofNat 1)) N M D b = wantT (!(N == N)) b := by kernel_rfl
theorem s3_3_2 (N M D b : U) : vs3 true (K (Int.ofNat 3)) (K (Int.ofNat 2)) N M D b = wantT (!(N == N)) b := by kernel_rfl
theorem s3_3_3 (N M D b : U) : vs3 true (K (Int.ofNat 3)) (K (Int.ofNat 3)) N M D b = wantT (!(N == N)) b := by kernel_rfl
theorem s3_3_4 (N M D b : U) : vs3 true (K (Int.ofNat 3)) (K (Int.ofNat 4)) N M D b = wantT (!(N == N)) b := by kernel_rfl
theorem s3_3_5 (N M D b : U) : vs3 true (K (Int.ofNat 3)) (K (Int.ofNat 5)) N M D b = wantT (!(N == N)) b := by kernel_rfl
theorem s3_3_6 (N M D b : U) : vs3 true (K (Int.ofNat 3)) (K (Int.ofNat 6)) N M D b = wantT (!(N == N)) b := by kernel_rfl
theorem s3_3_7 (N M D b : U) : vs3 true (K (Int.ofNat 3)) (K (Int.ofNat 7)) N M D b = wantT (!(N == N)) b := by kernel_rfl
theorem s3_3 : AllP (S3 3) 8 := ⟨⟨⟨⟨⟨⟨⟨⟨trivial, s3_3_0⟩, s3_3_1⟩, s3_3_2⟩, s3_3_3⟩, s3_3_4⟩, s3_3_5⟩, s3_3_6⟩, s3_3_7⟩
theorem s3_4_0 (N M D b : U) : vs3 true (K (Int.ofNat 4)) (K (Int.ofNat 0)) N M D b = wantT (!(N == N)) b := by kernel_rfl
theorem s3_4_1 (N M D b : U) : vs3 true (K (Int.ofNat 4)) (K (Int.ofNat 1)) N M D b = wantT (!(N == N)) b := by kernel_rfl
theorem s3_4_2 (N M D b : U) : vs3 true (K (Int.ofNat 4)) (K (Int.ofNat 2)) N M D b = wantT (!(N == N)) b := by kernel_rfl
theorem s3_4_3 (N M D b : U) : vs3 true (K (Int.ofNat 4)) (K (Int.ofNat 3)) N M D b = wantT (!(N == N)) b := by kernel_rfl
theorem s3_4_4 (N M D b : U) : vs3 true (K (Int.ofNat 4)) (K (Int.ofNat 4)) N M D b = wantT (!(N == N)) b := by kernel_rfl
theorem s3_4_5 (N M D b : U) : vs3 true (K (Int.ofNat 4)) (K (Int.ofNat 5)) N M D b = wantT (!(N == N)) b := by kernel_rfl
theorem s3_4_6 (N M D b : U) : vs3 true (K (Int.ofNat 4)) (K (Int.ofNat 6)) N M D b = wantT (!(N == N)) b := by kernel_rfl
theorem s3_4_7 (N M D b : U) : vs3 true (K (Int.ofNat 4)) (K (Int.ofNat 7)) N M D b = wantT (!(N == N)) b := by kernel_rfl
theorem s3_4 : AllP (S3 4) 8 := ⟨⟨⟨⟨⟨⟨⟨⟨trivial, s3_4_0⟩, s3_4_1⟩, s3_4_2⟩, s3_4_3⟩, s3_4_4⟩, s3_4_5⟩, s3_4_6⟩, s3_4_7⟩
theorem s3_5_0 (N M D b : U) : vs3 true (K (Int.ofNat 5)) (K (Int.ofNat 0)) N M D b = wantT (!(N == N)) b := by kernel_rfl
theorem s3_5_1 (N M D b : U) : vs3 true (K (Int.ofNat 5)) (K (Int.ofNat 1)) N M D b = wantT (!(N == N)) b := by kernel_rfl
theorem s3_5_2 (N M D b : U) : vs3 true (K (Int.ofNat 5)) (K (Int.ofNat 2)) N M D b = wantT (!(N == N)) b := by kernel_rfl
theorem s3_5_3 (N M D b : U) : vs3 true (K (Int.ofNat 5)) (K (Int.ofNat 3)) N M D b = wantT (!(N == N)) b := by kernel_rfl
theorem s3_5_4 (N M D b : U) : vs3 true (K (Int.ofNat 5)) (K (Int.ofNat 4)) N M D b = wantT (!(N == N)) b := by kernel_rfl
theorem s3_5_5 (N M D b : U) : vs3 true (K (Int.ofNat 5)) (K (Int.ofNat 5)) N M D b = wantT (!(N == N)) b := by kernel_rfl
theorem s3_5_6 (N M D b : U) : vs3 true (K (Int.ofNat 5)) (K (Int.ofNat 6)) N M D b = wantT (!(N == N)) b := by kernel_rfl
theorem s3_5_7 (N M D b : U) : vs3 true (K (Int.ofNat 5)) (K (Int.ofNat 7)) N M D b = wantT (!(N == N)) b := by kernel_rfl
theorem s3_5 : AllP (S3 5) 8 := ⟨⟨⟨⟨⟨⟨⟨⟨trivial, s3_5_0⟩, s3_5_1⟩, s3_5_2⟩, s3_5_3⟩, s3_5_4⟩, s3_5_5⟩, s3_5_6⟩, s3_5_7⟩
theorem s3_6_0 (N M D b : U) : vs3 true (K (Int.ofNat 6)) (K (Int.ofNat 0)) N M D b = wantT (!(N == N)) b := by kernel_rfl
theorem s3_6_1 (N M D b : U) : vs3 true (K (Int.ofNat 6)) (K (Int.ofNat 1)) N M D b = wantT (!(N == N)) b := by kernel_rfl
theorem s3_6_2 (N M D b : U) : vs3 true (K (Int.ofNat 6)) (K (Int.ofNat 2)) N M D b = wantT (!(N == N)) b := by kernel_rfl
theorem s3_6_3 (N M D b : U) : vs3 true (K (Int.ofNat 6)) (K (Int.ofNat 3)) N M D b = wantT (!(N == N)) b := by kernel_rfl
theorem s3_6_4 (N M D b : U) : vs3 true (K (Int.ofNat 6)) (K (Int.ofNat 4)) N M D b = wantT (!(N == N)) b := by kernel_rfl
theorem s3_6_5 (N M D b : U) : vs3 true (K (Int.ofNat 6)) (K (Int.ofNat 5)) N M D b = wantT (!(N == N)) b := by kernel_rfl
theorem s3_6_6 (N M D b : U) : vs3 true (K (Int.ofNat 6)) (K (Int.ofNat 6)) N M D b = wantT (!(N == N)) b := by kernel_rfl
theorem s3_6_7 (N M D b : U) : vs3 true (K (Int.ofNat 6)) (K (Int.ofNat 7)) N M D b = wantT (!(N == N)) b := by kernel_rfl
theorem s3_6 : AllP (S3 6) 8 := ⟨⟨⟨⟨⟨⟨⟨⟨trivial, s3_6_0⟩, s3_6_1⟩, s3_6_2⟩, s3_6_3⟩, s3_6_4⟩, s3_6_5⟩, s3_6_6⟩, s3_6_7⟩
theorem s3_7_0 (N M D b : U) : vs3 true (K (Int.ofNat 7)) (K (Int.ofNat 0)) N M D b = wantT (!(N == N)) b := by kernel_rfl
theorem s3_7_1 (N M D b : U) : vs3 true (K (Int.ofNat 7)) (K (Int.ofNat 1)) N M D b = wantT (!(N == N)) b := by kernel_rfl
theorem s3_7_2 (N M D b : U) : vs3 true (K (Int.ofNat 7)) (K (Int.ofNat 2)) N M D b = wantT (!(N == N)) b := by kernel_rfl
theorem s3_7_3 (N M D b : U) : vs3 true (K (Int.ofNat 7)) (K (Int.ofNat 3)) N M D b = wantT (!(N == N)) b := by kernel_rfl
theorem s3_7_4 (N M D b : U) : vs3 true (K (Int.ofNat 7)) (K (Int.ofNat 4)) N M D b = wantT (!(N == N)) b := by kernel_rfl
theorem s3_7_5 (N M D b : U) : vs3 true (K (Int.ofNat 7)) (K (Int.ofNat 5)) N M D b = wantT (!(N == N)) b := by kernel_rfl
theorem s3_7_6 (N M D b : U) : vs3 true (K (Int.ofNat 7)) (K (Int.ofNat 6)) N M D b = wantT (!(N == N)) b := by kernel_rfl
theorem s3_7_7 (N M D b : U) : vs3 true (K (Int.ofNat 7)) (K (Int.ofNat 7)) N M D b = wantT (!(N == N)) b := by kernel_rfl
theorem s3_7 : AllP (S3 7) 8 := ⟨⟨⟨⟨⟨⟨⟨⟨trivial, s3_7_0⟩, s3_7_1⟩, s3_7_2⟩, s3_7_3⟩, s3_7_4⟩, s3_7_5⟩, s3_7_6⟩, s3_7_7⟩
theorem s3_8_0 (N M D b : U) : vs3 true (K (Int.ofNat 8)) (K (Int.ofNat 0)) N M D b = wantT (!(N == N)) b := by kernel_rfl
theorem s3_8_1 (N M D b : U) : vs3 true (K (Int.ofNat 8)) (K (Int.ofNat 1)) N M D b = wantT (!(N == N)) b := by kernel_rfl
theorem s3_8_2 (N M D b : U) : vs3 true (K (Int.ofNat 8)) (K (Int.ofNat 2)) N M D b = wantT (!(N == N)) b := by kernel_rfl
theorem s3_8_3 (N M D b : U) : vs3 true (K (Int.ofNat 8)) (K (Int.ofNat 3)) N M D b = wantT (!(N == N)) b := by kernel_rfl
theorem s3_8_4 (N M D b : U) : vs3 true (K (Int.ofNat 8)) (K (Int.ofNat 4)) N M D b = wantT (!(N == N)) b := by kernel_rfl
theorem s3_8_5 (N M D b : U) : vs3 true (K (Int.ofNat 8)) (K (Int.ofNat 5)) N M D b = wantT (!(N == N)) b := by kernel_rfl
theorem s3_8_6 (N M D b : U) : vs3 true (K (Int.ofNat 8)) (K (Int.ofNat 6)) N M D b = wantT (!(N == N)) b := by kernel_rfl
theorem s3_8_7 (N M D b : U) : vs3 true (K (Int.ofNat 8)) (K (Int.ofNat 7)) N M D b = wantT (!(N == N)) b := by kernel_rfl
theorem s3_8 : AllP (S3 8) 8 := ⟨⟨⟨⟨⟨⟨⟨⟨trivial, s3_8_0⟩, s3_8_1⟩, s3_8_2⟩, s3_8_3⟩, s3_8_4⟩, s3_8_5⟩, s3_8_6⟩, s3_8_7⟩
theorem s3_9_0 (N M D b : U) : vs3 true (K (Int.ofNat 9)) (K (Int.ofNat 0)) N M D b = wantT (!(N == N)) b := by kernel_rfl
theorem s3_9_1 (N M D b : U) : vs3 true (K (Int.ofNat 9)) (K (Int.ofNat 1)) N M D b = wantT (!(N == N)) b := by kernel_rfl
theorem s3_9_2 (N M D b : U) : vs3 true (K (Int.ofNat 9)) (K (Int.ofNat 2)) N M D b = wantT (!(N == N)) b := by kernel_rfl
theorem s3_9_3 (N M D b : U) : vs3 true (K (Int.ofNat 9)) (K (Int.ofNat 3)) N M D b = wantT (!(N == N)) b := by kernel_rfl
theorem s3_9_4 (N M D b : U) : vs3 true (K (Int.ofNat 9)) (K (Int.ofNat 4)) N M D b = wantT (!(N == N)) b := by kernel_rfl
theorem s3_9_5 (N M D b : U) : vs3 true (K (Int.ofNat 9)) (K (Int.ofNat 5)) N M D b = wantT (!(N == N)) b := by kernel_rfl
theorem s3_9_6 (N M D b : U) : vs3 true (K (Int.ofNat 9)) (K (Int.ofNat 6)) N M D b = wantT (!(N == N)) b := by kernel_rfl
theorem s3_9_7 (N M D b : U) : vs3 true (K (Int.ofNat 9)) (K (Int.ofNat 7)) N M D b = wantT (!(N == N)) b := by kernel_rfl
theorem s3_9 : AllP (S3 9) 8 := ⟨⟨⟨⟨⟨⟨⟨⟨trivial, s3_9_0⟩, s3_9_1⟩, s3_9_2⟩, s3_9_3⟩, s3_9_4⟩, s3_9_5⟩, s3_9_6⟩, s3_9_7⟩
theorem s3_10_0 (N M D b : U) : vs3 true (K (Int.ofNat 10)) (K (Int.ofNat 0)) N M D b = wantT (!(N == N)) b := by kernel_rfl
theorem s3_10_1 (N M D b : U) : vs3 true (K (Int.ofNat 10)) (K (Int.ofNat 1)) N M D b = wantT (!(N == N)) b := by kernel_rfl
theorem s3_10_2 (N M D b : U) : vs3 true (K (Int.ofNat 10)) (K (Int.ofNat 2)) N M D b = wantT (!(N == N)) b := by kernel_rfl
theorem s3_10_3 (N M D b : U) : vs3 true (K (Int.ofNat 10)) (K (Int.ofNat 3)) N M D b = wantT (!(N == N)) b := by kernel_rfl
theorem s3_10_4 (N M D b : U) : vs3 true (K (Int.ofNat 10)) (K (Int.ofNat 4)) N M D b = wantT (!(N == N)) b := by kernel_rfl
theorem s3_10_5 (N M D b : U) : vs3 true (K (Int.ofNat 10)) (K (Int.ofNat 5)) N M D b = wantT (!(N == N)) b := by kernel_rfl
theorem s3_10_6 (N M D b : U) : vs3 true (K (Int.ofNat 10)) (K (Int.ofNat 6)) N M D b = wantT (!(N == N)) b := by kernel_rfl
theorem s3_10_7 (N M D b : U) : vs3 true (K (Int.ofNat 10)) (K (Int.ofNat 7)) N M D b = wantT (!(N == N)) b := by kernel_rfl
theorem s3_10 : AllP (S3 10) 8 := ⟨⟨⟨⟨⟨⟨⟨⟨trivial, s3_10_0⟩, s3_10_1⟩, s3_10_2⟩, s3_10_3⟩, s3_10_4⟩, s3_10_5⟩, s3_10_6⟩, s3_10_7⟩
theorem s3_11_0 (N M D b : U) : vs3 true (K (Int.ofNat 11)) (K (Int.ofNat 0)) N M D b = wantT (!(N == N)) b := by kernel_rfl
theorem s3_11_1 (N M D b : U) : vs3 true (K (Int.ofNat 11)) (K (Int.ofNat 1)) N M D b = wantT (!(N == N)) b := by kernel_rfl
theorem s3_11_2 (N M D b : U) : vs3 true (K (Int.ofNat 11)) (K (Int.ofNat 2)) N M D b = wantT (!(N == N)) b := by kernel_rfl
theorem s3_11_3 (N M D b : U) : vs3 true (K (Int.ofNat 11)) (K (Int.ofNat 3)) N M D b = wantT (!(N == N)) b := by kernel_rfl
theorem s3_11_4 (N M D b : U) : vs3 true (K (Int.ofNat 11)) (K (Int.ofNat 4)) N M D b = wantT (!(N == N)) b := by kernel_rfl
theorem s3_11_5 (N M D b : U) : vs3 true (K (Int.ofNat 11)) (K (Int.ofNat 5)) N M D b = wantT (!(N == N)) b := by kernel_rfl
theorem s3_11_6 (N M D b : U) : vs3 true (K (Int.ofNat 11)) (K (Int.ofNat 6)) N M D b = wantT (!(N == N)) b := by kernel_rfl
theorem s3_11_7 (N M D b : U) : vs3 true (K (Int.ofNat 11)) (K (Int.ofNat 7)) N M D b = wantT (!(N == N)) b := by kernel_rfl
theorem s3_11 : AllP (S3 11) 8 := ⟨⟨⟨⟨⟨⟨⟨⟨trivial, s3_11_0⟩, s3_11_1⟩, s3_11_2⟩, s3_11_3⟩, s3_11_4⟩, s3_11_5⟩, s3_11_6⟩, s3_11_7⟩
theorem s3_12_0 (N M D b : U) : vs3 true (K (Int.ofNat 12)) (K (Int.ofNat 0)) N M D b = wantT (!(N == N)) b := by kernel_rfl
theorem s3_12_1 (N M D b : U) : vs3 true (K (Int.ofNat 12)) (K (Int.ofNat 1)) N M D b = wantT (!(N == N)) b := by kernel_rfl
theorem s3_12_2 (N M D b : U) : vs3 true (K (Int.ofNat 12)) (K (Int.ofNat 2)) N M D b = wantT (!(N == N)) b := by kernel_rfl
theorem s3_12_3 (N M D b : U) : vs3 true (K (Int.ofNat 12)) (K (Int.ofNat 3)) N M D b = wantT (!(N == N)) b := by kernel_rfl
theorem s3_12_4 (N M D b : U) : vs3 true (K (Int.ofNat 12)) (K (Int.ofNat 4)) N M D b = wantT (!(N == N)) b := by kernel_rfl
theorem s3_12_5 (N M D b : U) : vs3 true (K (Int.ofNat 12)) (K (Int.ofNat 5)) N M D b = wantT (!(N == N)) b := by kernel_rfl
theorem s3_12_6 (N M D b : U) : vs3 true (K (Int.ofNat 12)) (K (Int.ofNat 6)) N M D b = wantT (!(N == N)) b := by kernel_rfl
theorem s3_12_7 (N M D b : U) : vs3 true (K (Int.ofNat 12)) (K (Int.ofNat 7)) N M D b = wantT (!(N == N)) b := by kernel_rfl
theorem s3_12 : AllP (S3 12) 8 := ⟨⟨⟨⟨⟨⟨⟨⟨trivial, s3_12_0⟩, s3_12_1⟩, s3_12_2⟩, s3_12_3⟩, s3_12_4⟩, s3_12_5⟩, s3_12_6⟩, s3_12_7⟩
theorem s3_13_0 (N M D b : U) : vs3 true (K (Int.ofNat 13)) (K (Int.ofNat 0)) N M D b = wantT (!(N == N)) b := by kernel_rfl
theorem s3_13_1 (N M D b : U) : vs3 true (K (Int.ofNat 13)) (K (Int.ofNat 1)) N M D b = wantT (!(N == N)) b := by kernel_rfl
theorem s3_13_2 (N M D b : U) : vs3 true (K (Int.ofNat 13)) (K (Int.ofNat 2)) N M D b = wantT (!(N == N)) b := by kernel_rfl
theorem s3_13_3 (N M D b : U) : vs3 true (K (Int.ofNat 13)) (K (Int.ofNat 3)) N M D b = wantT (!(N == N)) b := by kernel_rfl
theorem s3_13_4 (N M D b : U) : vs3 true (K (Int.ofNat 13)) (K (Int.ofNat 4)) N M D b = wantT (!(N == N)) b := by kernel_rfl
theorem s3_13_5 (N M D b : U) : vs3 true (K (Int.ofNat 13)) (K (Int.ofNat 5)) N M D b = wantT (!(N == N)) b := by kernel_rfl
theorem s3_13_6 (N M D b : U) : vs3 true (K (Int.ofNat 13)) (K (Int.ofNat 6)) N M D b = wantT (!(N == N)) b := by kernel_rfl
theorem s3_13_7 (N M D b : U) : vs3 true (K (Int.ofNat 13)) (K (Int.ofNat 7)) N M D b = wantT (!(N == N)) b := by kernel_rfl
theorem s3_13 : AllP (S3 13) 8 := ⟨⟨⟨⟨⟨⟨⟨⟨trivial, s3_13_0⟩, s3_13_1⟩, s3_13_2⟩, s3_13_3⟩, s3_13_4⟩, s3_13_5⟩, s3_13_6⟩, s3_13_7⟩
theorem s3_14_0 (N M D b : U) : vs3 true (K (Int.ofNat 14)) (K (Int.ofNat 0)) N M D b = wantT (!(N == N)) b := by kernel_rfl
theorem s3_14_1 (N M D b : U) : vs3 true (K (Int.ofNat 14)) (K (Int.ofNat 1)) N M D b = wantT (!(N == N)) b := by kernel_rfl
theorem s3_14_2 (N M D b : U) : vs3 true (K (Int.ofNat 14)) (K (Int.ofNat 2)) N M D b = wantT (!(N == N)) b := by kernel_rfl
theorem s3_14_3 (N M D b : U) : vs3 true (K (Int.ofNat 14)) (K (Int.ofNat 3)) N M D b = wantT (!(N == N)) b := by kernel_rfl
theorem s3_14_4 (N M D b : U) : vs3 true (K (Int.ofNat 14)) (K (Int.ofNat 4)) N M D b = wantT (!(N == N)) b := by kernel_rfl
theorem s3_14_5 (N M D b : U) : vs3 true (K (Int.ofNat 14)) (K (Int.ofNat 5)) N M D b = wantT (!(N == N)) b := by kernel_rfl
theorem s3_14_6 (N M D b : U) : vs3 true (K (Int.ofNat 14)) (K (Int.ofNat 6)) N M D b = wantT (!(N == N)) b := by kernel_rfl
theorem s3_14_7 (N M D b : U) : vs3 true (K (Int.ofNat 14)) (K (Int.ofNat 7)) N M D b = wantT (!(N == N)) b := by kernel_rfl
theorem s3_14 : AllP (S3 14) 8 := ⟨⟨⟨⟨⟨⟨⟨⟨trivial, s3_14_0⟩, s3_14_1⟩, s3_14_2⟩, s3_14_3⟩, s3_14_4⟩, s3_14_5⟩, s3_14_6⟩, s3_14_7⟩
theorem s3_15_0 (N M D b : U) : vs3 true (K (Int.ofNat 15)) (K (Int.ofNat 0)) N M D b = wantT (!(N == N)) b := by kernel_rfl
theorem s3_15_1 (N M D b : U) : vs3 true (K (Int.ofNat 15)) (K (Int.ofNat 1)) N M D b = wantT (!(N == N)) b := by kernel_rfl
theorem s3_15_2 (N M D b : U) : vs3 true (K (Int.ofNat 15)) (K (Int.ofNat 2)) N M D b = wantT (!(N == N)) b := by kernel_rfl
theorem s3_15_3 (N M D b : U) : vs3 true (K (Int.ofNat 15)) (K (Int.ofNat 3)) N M D b = wantT (!(N == N)) b := by kernel_rfl
theorem s3_15_4 (N M D b : U) : vs3 true (K (Int.ofNat 15)) (K (Int.ofNat 4)) N M D b = wantT (!(N == N)) b := by kernel_rfl
theorem s3_15_5 (N M D b : U) : vs3 true (K (Int.ofNat 15)) (K (Int.ofNat 5)) N M D b = wantT (!(N == N)) b := by kernel_rfl
theorem s3_15_6 (N M D b : U) : vs3 true (K (Int.ofNat 15)) (K (Int.ofNat 6)) N M D b = wantT (!(N == N)) b := by kernel_rfl
theorem s3_15_7 (N M D b : U) : vs3 true (K (Int.ofNat 15)) (K (Int.ofNat 7)) N M D b = wantT (!(N == N)) b := by kernel_rfl
theorem s3_15 : AllP (S3 15) 8 := ⟨⟨⟨⟨⟨⟨⟨⟨trivial, s3_15_0⟩, s3_15_1⟩, s3_15_2⟩, s3_15_3⟩, s3_15_4⟩, s3_15_5⟩, s3_15_6⟩, s3_15_7⟩
theorem s3_all : AllP (fun q => AllP (S3 q) 8) 16 := ⟨⟨⟨⟨⟨⟨⟨⟨⟨⟨⟨⟨⟨⟨⟨⟨trivial, s3_0⟩, s3_1⟩, s3_2⟩, s3_3⟩, s3_4⟩, s3_5⟩, s3_6⟩, s3_7⟩, s3_8⟩, s3_9⟩, s3_10⟩, s3_11⟩, s3_12⟩, s3_13⟩, s3_14⟩, s3_15⟩
theorem vs3_ok {q r : Nat} (hq : q < 16) (hr : r < 8) (N M D b : U) : vs3 true (K (Int.ofNat q)) (K (Int.ofNat r)) N M D b = (true, true) := by
  rw [(s3_all.get hq).get hr N M D b]
  exact want_ok b (by simp)
abbrev S4 (q r : Nat) : Prop := ∀ N M D b : U, vs4 true (K (Int.ofNat q)) (K (Int.ofNat r)) N M D b = wantT (!(D == D)) b
theorem s4_0_0 (N M D b : U) : vs4 true (K (Int.ofNat 0)) (K (Int.ofNat 0)) N M D b = wantT (!(D == D)) b := by kernel_rfl
theorem s4_0_1 (N M D b : U) : vs4 true (K (Int.ofNat 0)) (K (Int.ofNat 1)) N M D b = wantT (!(D == D)) b := by kernel_rfl
theorem s4_0_2 (N M D b : U) : vs4 true (K (Int.ofNat 0)) (K (Int.ofNat 2)) N M D b = wantT (!(D == D)) b := by kernel_rfl
theorem s4_0_3 (N M D b : U) : vs4 true (K (Int.ofNat 0)) (K (Int.ofNat 3)) N M D b = wantT (!(D == D)) b := by kernel_rfl
theorem s4_0_4 (N M D b : U) : vs4 true (K (Int.ofNat 0)) (K (Int.ofNat 4)) N M D b = wantT (!(D == D)) b := by kernel_rfl
theorem s4_0_5 (N M D b : U) : vs4 true (K (Int.ofNat 0)) (K (Int.ofNat 5)) N M D b = wantT (!(D == D)) b := by kernel_rfl
theorem s4_0_6 (N M D b : U) : vs4 true (K (Int.ofNat 0)) (K (Int.ofNat 6)) N M D b = wantT (!(D == D)) b := by kernel_rfl
theorem s4_0_7 (N M D b : U) : vs4 true (K (Int.ofNat 0)) (K (Int.ofNat 7)) N M D b = wantT (!(D == D)) b := by kernel_rfl
theorem s4_0 : AllP (S4 0) 8 := ⟨⟨⟨⟨⟨⟨⟨⟨trivial, s4_0_0⟩, s4_0_1⟩, s4_0_2⟩, s4_0_3⟩, s4_0_4⟩, s4_0_5⟩, s4_0_6⟩, s4_0_7⟩
theorem s4_1_0 (N M D b : U) : vs4 true (K (Int.ofNat 1)) (K (Int.ofNat 0)) N M D b = wantT (!(D == D)) b := by kernel_rfl
theorem s4_1_1 (N M D b : U) : vs4 true (K (Int.ofNat 1)) (K (Int.ofNat 1)) N M D b = wantT (!(D == D)) b := by kernel_rfl
theorem s4_1_2 (N M D b : U) : vs4 true (K (Int.ofNat 1)) (K (Int.ofNat 2)) N M D b = wantT (!(D == D)) b := by kernel_rfl
theorem s4_1_3 (N M D b : U) : vs4 true (K (Int.ofNat 1)) (K (Int.ofNat 3)) N M D b = wantT (!(D == D)) b := by kernel_rfl
theorem s4_1_4 (N M D b : U) : vs4 true (K (Int.ofNat 1)) (K (Int.ofNat 4)) N M D b = wantT (!(D == D)) b := by kernel_rfl
theorem s4_1_5 (N M D b : U) : vs4 true (K (Int.ofNat 1)) (K (Int.ofNat 5)) N M D b = wantT (!(D == D)) b := by kernel_rfl
theorem s4_1_6 (N M D b : U) : vs4 true (K (Int.ofNat 1)) (K (Int.ofNat 6)) N M D b = wantT (!(D == D)) b := by kernel_rfl
theorem s4_1_7 (N M D b : U) : vs4 true (K (Int.ofNat 1)) (K (Int.ofNat 7)) N M D b = wantT (!(D == D)) b := by kernel_rfl
theorem s4_1 : AllP (S4 1) 8 := ⟨⟨⟨⟨⟨⟨⟨⟨trivial, s4_1_0⟩, s4_1_1⟩, s4_1_2⟩, s4_1_3⟩, s4_1_4⟩, s4_1_5⟩, s4_1_6⟩, s4_1_7⟩
theorem s4_2_0 (N M D b : U) : vs4 true (K (Int.ofNat 2)) (K (Int.ofNat 0)) N M D b = wantT (!(D == D)) b := by kernel_rfl
theorem s4_2_1 (N M D b : U) : vs4 true (K (Int.ofNat 2)) (K (Int.ofNat 1)) N M D b = wantT (!(D == D)) b := by kernel_rfl
theorem s4_2_2 (N M D b : U) : vs4 true (K (Int.ofNat 2)) (K (Int.ofNat 2)) N M D b = wantT (!(D == D)) b := by kernel_rfl
theorem s4_2_3 (N M D b : U) : vs4 true (K (Int.ofNat 2)) (K (Int.ofNat 3)) N M D b = wantT (!(D == D)) b := by kernel_rfl
theorem s4_2_4 (N M D b : U) : vs4 true (K (Int.ofNat 2)) (K (Int.ofNat 4)) N M D b = wantT (!(D == D)) b := by kernel_rfl
theorem s4_2_5 (N M D b : U) : vs4 true (K (Int.ofNat 2)) (K (Int.ofNat 5)) N M D b = wantT (!(D == D)) b := by kernel_rfl
theorem s4_2_6 (N M D b : U) : vs4 true (K (Int.ofNat 2)) (K (Int.ofNat 6)) N M D b = wantT (!(D == D)) b := by kernel_rfl
theorem s4_2_7 (N M D b : U) : vs4 true (K (Int.ofNat 2)) (K (Int.ofNat 7)) N M D b = wantT (!(D == D)) b := by kernel_rfl
theorem s4_2 : AllP (S4 2) 8 := ⟨⟨⟨⟨⟨⟨⟨⟨trivial, s4_2_0⟩, s4_2_1⟩, s4_2_2⟩, s4_2_3⟩, s4_2_4⟩, s4_2_5⟩, s4_2_6⟩, s4_2_7⟩
theorem s4_3_0 (N M D b : U) : vs4 true (K (Int.ofNat 3)) (K (Int.ofNat 0)) N M D b = wantT (!(D == D)) b := by kernel_rfl
theorem s4_3_1 (N M D b : U) : vs4 true (K (Int.ofNat 3)) (K (Int.ofNat 1)) N M D b = wantT (!(D == D)) b := by kernel_rfl
theorem s4_3_2 (N M D b : U) : vs4 true (K (Int.ofNat 3)) (K (Int.ofNat 2)) N M D b = wantT (!(D == D)) b := by kernel_rfl
theorem s4_3_3 (N M D b : U) : vs4 true (K (Int.ofNat 3)) (K (Int.ofNat 3)) N M D b = wantT (!(D == D)) b := by kernel_rfl
theorem s4_3_4 (N M D b : U) : vs4 true (K (Int.ofNat 3)) (K (Int.ofNat 4)) N M D b = wantT (!(D == D)) b := by kernel_rfl
theorem s4_3_5 (N M D b : U) : vs4 true (K (Int.ofNat 3)) (K (Int.ofNat 5)) N M D b = wantT (!(D == D)) b := by kernel_rfl
theorem s4_3_6 (N M D b : U) : vs4 true (K (Int.ofNat 3)) (K (Int.ofNat 6)) N M D b = wantT (!(D == D)) b := by kernel_rfl
theorem s4_3_7 (N M D b : U) : vs4 true (K (Int.ofNat 3)) (K (Int.ofNat 7)) N M D b = wantT (!(D == D)) b := by kernel_rfl
theorem s4_3 : AllP (S4 3) 8 := ⟨⟨⟨⟨⟨⟨⟨⟨trivial, s4_3_0⟩, s4_3_1⟩, s4_3_2⟩, s4_3_3⟩, s4_3_4⟩, s4_3_5⟩, s4_3_6⟩, s4_3_7⟩
theorem s4_4_0 (N M D b : U) : vs4 true (K (Int.ofNat 4)) (K (Int.ofNat 0)) N M D b = wantT (!(D == D)) b := by kernel_rfl
theorem s4_4_1 (N M D b : U) : vs4 true (K (Int.ofNat 4)) (K (Int.ofNat 1)) N M D b = wantT (!(D == D)) b := by kernel_rfl
theorem s4_4_2 (N M D b : U) : vs4 true (K (Int.ofNat 4)) (K (Int.ofNat 2)) N M D b = wantT (!(D == D)) b := by kernel_rfl
theorem s4_4_3 (N M D b : U) : vs4 true (K (Int.ofNat 4)) (K (Int.ofNat 3)) N M D b = wantT (!(D == D)) b := by kernel_rfl
theorem s4_4_4 (N M D b : U) : vs4 true (K (Int.ofNat 4)) (K (Int.ofNat 4)) N M D b = wantT (!(D == D)) b := by kernel_rfl
theorem s4_4_5 (N M D b : U) : vs4 true (K (Int.ofNat 4)) (K (Int.ofNat 5)) N M D b = wantT (!(D == D)) b := by kernel_rfl
theorem s4_4_6 (N M D b : U) : vs4 true (K (Int.ofNat 4)) (K (Int.ofNat 6)) N M D b = wantT (!(D == D)) b := by kernel_rfl
theorem s4_4_7 (N M D b : U) : vs4 true (K (Int.ofNat 4)) (K (Int.ofNat 7)) N M D b = wantT (!(D == D)) b := by kernel_rfl
theorem s4_4 : AllP (S4 4) 8 := ⟨⟨⟨⟨⟨⟨⟨⟨trivial, s4_4_0⟩, s4_4_1⟩, s4_4_2⟩, s4_4_3⟩, s4_4_4⟩, s4_4_5⟩, s4_4_6⟩, s4_4_7⟩
theorem s4_5_0 (N M D b : U) : vs4 true (K (Int.ofNat 5)) (K (Int.ofNat 0)) N M D b = wantT (!(D == D)) b := by kernel_rfl
theorem s4_5_1 (N M D b : U) : vs4 true (K (Int.ofNat 5)) (K (Int.ofNat 1)) N M D b = wantT (!(D == D)) b := by kernel_rfl
theorem s4_5_2 (N M D b : U) : vs4 true (K (Int.ofNat 5)) (K (Int.ofNat 2)) N M D b = wantT (!(D == D)) b := by kernel_rfl
theorem s4_5_3 (N M D b : U) : vs4 true (K (Int.ofNat 5)) (K (Int.ofNat 3)) N M D b = wantT (!(D == D)) b := by kernel_rfl
theorem s4_5_4 (N M D b : U) : vs4 true (K (Int.ofNat 5)) (K (Int.ofNat 4)) N M D b = wantT (!(D == D)) b := by kernel_rfl
theorem s4_5_5 (N M D b : U) : vs4 true (K (Int.ofNat 5)) (K (Int.ofNat 5)) N M D b = wantT (!(D == D)) b := by kernel_rfl
theorem s4_5_6 (N M D b : U) : vs4 true (K (Int.ofNat 5)) (K (Int.ofNat 6)) N M D b = wantT (!(D == D)) b := by kernel_rfl
theorem s4_5_7 (N M D b : U) : vs4 true (K (Int.ofNat 5)) (K (Int.ofNat 7)) N M D b = wantT (!(D == D)) b := by kernel_rfl
theorem s4_5 : AllP (S4 5) 8 := ⟨⟨⟨⟨⟨⟨⟨⟨trivial, s4_5_0⟩, s4_5_1⟩, s4_5_2⟩, s4_5_3⟩, s4_5_4⟩, s4_5_5⟩, s4_5_6⟩, s4_5_7⟩
theorem s4_6_0 (N M D b : U) : vs4 true (K (Int.ofNat 6)) (K (Int.ofNat 0)) N M D b = wantT (!(D == D)) b := by kernel_rfl
theorem s4_6_1 (N M D b : U) : vs4 true (K (Int.ofNat 6)) (K (Int.ofNat 1)) N M D b = wantT (!(D == D)) b := by kernel_rfl
theorem s4_6_2 (N M D b : U) : vs4 true (K (Int.ofNat 6)) (K (Int.ofNat 2)) N M D b = wantT (!(D == D)) b := by kernel_rfl
theorem s4_6_3 (N M D b : U) : vs4 true (K (Int.ofNat 6)) (K (Int.ofNat 3)) N M D b = wantT (!(D == D)) b := by kernel_rfl
theorem s4_6_4 (N M D b : U) : vs4 true (K (Int.ofNat 6)) (K (Int.ofNat 4)) N M D b = wantT (!(D == D)) b := by kernel_rfl
theorem s4_6_5 (N M D b : U) : vs4 true (K (Int.ofNat 6)) (K (Int.ofNat 5)) N M D b = wantT (!(D == D)) b := by kernel_rfl
theorem s4_6_6 (N M D b : U) : vs4 true (K (Int.ofNat 6)) (K (Int.ofNat 6)) N M D b = wantT (!(D == D)) b := by kernel_rfl
theorem s4_6_7 (N M D b : U) : vs4 true (K (Int.ofNat 6)) (K (Int.ofNat 7)) N M D b = wantT (!(D == D)) b := by kernel_rfl
theorem s4_6 : AllP (S4 6) 8 := ⟨⟨⟨⟨⟨⟨⟨⟨trivial, s4_6_0⟩, s4_6_1⟩, s4_6_2⟩, s4_6_3⟩, s4_6_4⟩, s4_6_5⟩, s4_6_6⟩, s4_6_7⟩
theorem s4_7_0 (N M D b : U) : vs4 true (K (Int.ofNat 7)) (K (Int.ofNat 0)) N M D b = wantT (!(D == D)) b := by kernel_rfl
theorem s4_7_1 (N M D b : U) : vs4 true (K (Int.ofNat 7)) (K (Int.ofNat 1)) N M D b = wantT (!(D == D)) b := by kernel_rfl
theorem s4_7_2 (N M D b : U) : vs4 true (K (Int.ofNat 7)) (K (Int.ofNat 2)) N M D b = wantT (!(D == D)) b := by kernel_rfl
theorem s4_7_3 (N M D b : U) : vs4 true (K (Int.ofNat 7)) (K (Int.ofNat 3)) N M D b = wantT (!(D == D)) b := by kernel_rfl
theorem s4_7_4 (N M D b : U) : vs4 true (K (Int.ofNat 7)) (K (Int.ofNat 4)) N M D b = wantT (!(D == D)) b := by kernel_rfl
theorem s4_7_5 (N M D b : U) : vs4 true (K (Int.ofNat 7)) (K (Int.ofNat 5)) N M D b = wantT (!(D == D)) b := by kernel_rfl
theorem s4_7_6 (N M D b : U) : vs4 true (K (Int.ofNat 7)) (K (Int.ofNat 6)) N M D b = wantT (!(D == D)) b := by kernel_rfl
theorem s4_7_7 (N M D b : U) : vs4 true (K (Int.ofNat 7)) (K (Int.ofNat 7)) N M D b = wantT (!(D == D)) b := by kernel_rfl
theorem s4_7 : AllP (S4 7) 8 := ⟨⟨⟨⟨⟨⟨⟨⟨trivial, s4_7_0⟩, s4_7_1⟩, s4_7_2⟩, s4_7_3⟩, s4_7_4⟩, s4_7_5⟩, s4_7_6⟩, s4_7_7⟩
theorem s4_8_0 (N M D b : U) : vs4 true (K (Int.ofNat 8)) (K (Int.ofNat 0)) N M D b = wantT (!(D == D)) b := by kernel_rfl
theorem s4_8_1 (N M D b : U) : vs4 true (K (Int.ofNat 8)) (K (Int.ofNat 1)) N M D b = wantT (!(D == D)) b := by kernel_rfl
theorem s4_8_2 (N M D b : U) : vs4 true (K (Int.ofNat 8)) (K (Int.ofNat 2)) N M D b = wantT (!(D == D)) b := by kernel_rfl
theorem s4_8_3 (N M D b : U) : vs4 true (K (Int.ofNat 8)) (K (Int.ofNat 3)) N M D b = wantT (!(D == D)) b := by kernel_rfl
theorem s4_8_4 (N M D b : U) : vs4 true (K (Int.ofNat 8)) (K (Int.ofNat 4)) N M D b = wantT (!(D == D)) b := by kernel_rfl
theorem s4_8_5 (N M D b : U) : vs4 true (K (Int.ofNat 8)) (K (Int.ofNat 5)) N M D b = wantT (!(D == D)) b := by kernel_rfl
theorem s4_8_6 (N M D b : U) : vs4 true (K (Int.ofNat 8)) (K (Int.ofNat 6)) N M D b = wantT (!(D == D)) b := by kernel_rfl
theorem s4_8_7 (N M D b : U) : vs4 true (K (Int.ofNat 8)) (K (Int.ofNat 7)) N M D b = wantT (!(D == D)) b := by kernel_rfl
theorem s4_8 : AllP (S4 8) 8 := ⟨⟨⟨⟨⟨⟨⟨⟨trivial, s4_8_0⟩, s4_8_1⟩, s4_8_2⟩, s4_8_3⟩, s4_8_4⟩, s4_8_5⟩, s4_8_6⟩, s4_8_7⟩
theorem s4_9_0 (N M D b : U) : vs4 true (K (Int.ofNat 9)) (K (Int.ofNat 0)) N M D b = wantT (!(D == D)) b := by kernel_rfl
theorem s4_9_1 (N M D b : U) : vs4 true (K (Int.ofNat 9)) (K (Int.ofNat 1)) N M D b = wantT (!(D == D)) b := by kernel_rfl
theorem s4_9_2 (N M D b : U) : vs4 true (K (Int.ofNat 9)) (K (Int.ofNat 2)) N M D b = wantT (!(D == D)) b := by kernel_rfl
theorem s4_9_3 (N M D b : U) : vs4 true (K (Int.ofNat 9)) (K (Int.ofNat 3)) N M D b = wantT (!(D == D)) b := by kernel_rfl
theorem s4_9_4 (N M D b : U) : vs4 true (K (Int.ofNat 9)) (K (Int.ofNat 4)) N M D b = wantT (!(D == D)) b := by kernel_rfl
theorem s4_9_5 (N M D b : U) : vs4 true (K (Int.ofNat 9)) (K (Int.ofNat 5)) N M D b = wantT (!(D == D)) b := by kernel_rfl
theorem s4_9_6 (N M D b : U) : vs4 true (K (Int.ofNat 9)) (K (Int.ofNat 6)) N M D b = wantT (!(D == D)) b := by kernel_rfl
theorem s4_9_7 (N M D b : U) : vs4 true (K (Int.ofNat 9)) (K (Int.ofNat 7)) N M D b = wantT (!(D == D)) b := by kernel_rfl
theorem s4_9 : AllP (S4 9) 8 := ⟨⟨⟨⟨⟨⟨⟨⟨trivial, s4_9_0⟩, s4_9_1⟩, s4_9_2⟩, s4_9_3⟩, s4_9_4⟩, s4_9_5⟩, s4_9_6⟩, s4_9_7⟩
theorem s4_10_0 (N M D b : U) : vs4 true (K (Int.ofNat 10)) (K (Int.ofNat 0)) N M D b = wantT (!(D == D)) b := by kernel_rfl
theorem s4_10_1 (N M D b : U) : vs4 true (K (Int.ofNat 10)) (K (Int.ofNat 1)) N M D b = wantT (!(D == D)) b := by kernel_rfl
theorem s4_10_2 (N M D b : U) : vs4 true (K (Int.ofNat 10)) (K (Int.ofNat 2)) N M D b = wantT (!(D == D)) b := by kernel_rfl
theorem s4_10_3 (N M D b : U) : vs4 true (K (Int.ofNat 10)) (K (Int.ofNat 3)) N M D b = wantT (!(D == D)) b := by kernel_rfl
theorem s4_10_4 (N M D b : U) : vs4 true (K (Int.ofNat 10)) (K (Int.ofNat 4)) N M D b = wantT (!(D == D)) b := by kernel_rfl
theorem s4_10_5 (N M D b : U) : vs4 true (K (Int.ofNat 10)) (K (Int.ofNat 5)) N M D b = wantT (!(D == D)) b := by kernel_rfl
theorem s4_10_6 (N M D b : U) : vs4 true (K (Int.ofNat 10)) (K (Int.ofNat 6)) N M D b = wantT (!(D == D)) b := by kernel_rfl
theorem s4_10_7 (N M D b : U) : vs4 true (K (Int.ofNat 10)) (K (Int.ofNat 7)) N M D b = wantT (!(D == D)) b := by kernel_rfl
theorem s4_10 : AllP (S4 10) 8 := ⟨⟨⟨⟨⟨⟨⟨⟨trivial, s4_10_0⟩, s4_10_1⟩, s4_10_2⟩, s4_10_3⟩, s4_10_4⟩, s4_10_5⟩, s4_10_6⟩, s4_10_7⟩
theorem s4_11_0 (N M D b : U) : vs4 true (K (Int.ofNat 11)) (K (Int.ofNat 0)) N M D b = wantT (!(D == D)) b := by kernel_rfl
theorem s4_11_1 (N M D b : U) : vs4 true (K (Int.ofNat 11)) (K (Int.ofNat 1)) N M D b = wantT (!(D == D)) b := by kernel_rfl
theorem s4_11_2 (N M D b : U) : vs4 true (K (Int.ofNat 11)) (K (Int.ofNat 2)) N M D b = wantT (!(D == D)) b := by kernel_rfl
theorem s4_11_3 (N M D b : U) : vs4 true (K (Int.ofNat 11)) (K (Int.ofNat 3)) N M D b = wantT (!(D == D)) b := by kernel_rfl
theorem s4_11_4 (N M D b : U) : vs4 true (K (Int.ofNat 11)) (K (Int.ofNat 4)) N M D b = wantT (!(D == D)) b := by kernel_rfl
theorem s4_11_5 (N M D b : U) : vs4 true (K (Int.ofNat 11)) (K (Int.ofNat 5)) N M D b = wantT (!(D == D)) b := by kernel_rfl
theorem s4_11_6 (N M D b : U) : vs4 true (K (Int.ofNat 11)) (K (Int.ofNat 6)) N M D b = wantT (!(D == D)) b := by kernel_rfl
theorem s4_11_7 (N M D b : U) : vs4 true (K (Int.ofNat 11)) (K (Int.ofNat 7)) N M D b = wantT (!(D == D)) b := by kernel_rfl
theorem s4_11 : AllP (S4 11) 8 := ⟨⟨⟨⟨⟨⟨⟨⟨trivial, s4_11_0⟩, s4_11_1⟩, s4_11_2⟩, s4_11_3⟩, s4_11_4⟩, s4_11_5⟩, s4_11_6⟩, s4_11_7⟩
theorem s4_12_0 (N M D b : U) : vs4 true (K (Int.ofNat 12)) (K (Int.ofNat 0)) N M D b = wantT (!(D == D)) b := by kernel_rfl
theorem s4_12_1 (N M D b : U) : vs4 true (K (Int.ofNat 12)) (K (Int.ofNat 1)) N M D b = wantT (!(D == D)) b := by kernel_rfl
theorem s4_12_2 (N M D b : U) : vs4 true (K (Int.ofNat 12)) (K (Int.ofNat 2)) N M D b = wantT (!(D == D)) b := by kernel_rfl
theorem s4_12_3 (N M D b : U) : vs4 true (K (Int.ofNat 12)) (K (Int.ofNat 3)) N M D b = wantT (!(D == D)) b := by kernel_rfl
theorem s4_12_4 (N M D b : U) : vs4 true (K (Int.ofNat 12)) (K (Int.ofNat 4)) N M D b = wantT (!(D == D)) b := by kernel_rfl
theorem s4_12_5 (N M D b : U) : vs4 true (K (Int.ofNat 12)) (K (Int.ofNat 5)) N M D b = wantT (!(D == D)) b := by kernel_rfl
theorem s4_12_6 (N M D b : U) : vs4 true (K (Int.ofNat 12)) (K (Int.ofNat 6)) N M D b = wantT (!(D == D)) b := by kernel_rfl
theorem s4_12_7 (N M D b : U) : vs4 true (K (Int.ofNat 12)) (K (Int.ofNat 7)) N M D b = wantT (!(D == D)) b := by kernel_rfl
theorem s4_12 : AllP (S4 12) 8 := ⟨⟨⟨⟨⟨⟨⟨⟨trivial, s4_12_0⟩, s4_12_1⟩, s4_12_2⟩, s4_12_3⟩, s4_12_4⟩, s4_12_5⟩, s4_12_6⟩, s4_12_7⟩
theorem s4_13_0 (N M D b : U) : vs4 true (K (Int.ofNat 13)) (K (Int.ofNat 0)) N M D b = wantT (!(D == D)) b := by kernel_rfl
theorem s4_13_1 (N M D b : U) : vs4 true (K (Int.ofNat 13)) (K (Int.ofNat 1)) N M D b = wantT (!(D == D)) b := by kernel_rfl
theorem s4_13_2 (N M D b : U) : vs4 true (K (Int.ofNat 13)) (K (Int.ofNat 2)) N M D b = wantT (!(D == D)) b := by kernel_rfl
theorem s4_13_3 (N M D b : U) : vs4 true (K (Int.ofNat 13)) (K (Int.ofNat 3)) N M D b = wantT (!(D == D)) b := by kernel_rfl
theorem s4_13_4 (N M D b : U) : vs4 true (K (Int.ofNat 13)) (K (Int.ofNat 4)) N M D b = wantT (!(D == D)) b := by kernel_rfl
theorem s4_13_5 (N M D b : U) : vs4 true (K (Int.ofNat 13)) (K (Int.ofNat 5)) N M D b = wantT (!(D == D)) b := by kernel_rfl
theorem s4_13_6 (N M D b : U) : vs4 true (K (Int.ofNat 13)) (K (Int.ofNat 6)) N M D b = wantT (!(D == D)) b := by kernel_rfl
theorem s4_13_7 (N M D b : U) : vs4 true (K (Int.ofNat 13)) (K (Int.ofNat 7)) N M D b = wantT (!(D == D)) b := by kernel_rfl
theorem s4_13 : AllP (S4 13) 8 := ⟨⟨⟨⟨⟨⟨⟨⟨trivial, s4_13_0⟩, s4_13_1⟩, s4_13_2⟩, s4_13_3⟩, s4_13_4⟩, s4_13_5⟩, s4_13_6⟩, s4_13_7⟩
theorem s4_14_0 (N M D b : U) : vs4 true (K (Int.ofNat 14)) (K (Int.ofNat 0)) N M D b = wantT (!(D == D)) b := by kernel_rfl
theorem s4_14_1 (N M D b : U) : vs4 true (K (Int.ofNat 14)) (K (Int.ofNat 1)) N M D b = wantT (!(D == D)) b := by kernel_rfl
theorem s4_14_2 (N M D b : U) : vs4 true (K (Int.ofNat 14)) (K (Int.ofNat 2)) N M D b = wantT (!(D == D)) b := by kernel_rfl
theorem s4_14_3 (N M D b : U) : vs4 true (K (Int.ofNat 14)) (K (Int.ofNat 3)) N M D b = wantT (!(D == D)) b := by kernel_rfl
theorem s4_14_4 (N M D b : U) : vs4 true (K (Int.ofNat 14)) (K (Int.ofNat 4)) N M D b = wantT (!(D == D)) b := by kernel_rfl
theorem s4_14_5 (N M D b : U) : vs4 true (K (Int.ofNat 14)) (K (Int.ofNat 5)) N M D b = wantT (!(D == D)) b := by kernel_rfl
theorem s4_14_6 (N M D b : U) : vs4 true (K (Int.ofNat 14)) (K (Int.ofNat 6)) N M D b = wantT (!(D == D)) b := by kernel_rfl
theorem s4_14_7 (N M D b : U) : vs4 true (K (Int.ofNat 14)) (K (Int.ofNat 7)) N M D b = wantT (!(D == D)) b := by kernel_rfl
theorem s4_14 : AllP (S4 14) 8 := ⟨⟨⟨⟨⟨⟨⟨⟨trivial, s4_14_0⟩, s4_14_1⟩, s4_14_2⟩, s4_14_3⟩, s4_14_4⟩, s4_14_5⟩, s4_14_6⟩, s4_14_7⟩
theorem s4_15_0 (N M D b : U) : vs4 true (K (Int.ofNat 15)) (K (Int.ofNat 0)) N M D b = wantT (!(D == D)) b := by kernel_rfl
theorem s4_15_1 (N M D b : U) : vs4 true (K (Int.ofNat 15)) (K (Int.ofNat 1)) N M D b = wantT (!(D == D)) b := by kernel_rfl
theorem s4_15_2 (N M D b : U) : vs4 true (K (Int.ofNat 15)) (K (Int.ofNat 2)) N M D b = wantT (!(D == D)) b := by kernel_rfl
theorem s4_15_3 (N M D b : U) : vs4 true (K (Int.ofNat 15)) (K (Int.ofNat 3)) N M D b = wantT (!(D == D)) b := by kernel_rfl
theorem s4_15_4 (N M D b : U) : vs4 true (K (Int.ofNat 15)) (K (Int.ofNat 4)) N M D b = wantT (!(D == D)) b := by kernel_rfl
theorem s4_15_5 (N M D b : U) : vs4 true (K (Int.ofNat 15)) (K (Int.ofNat 5)) N M D b = wantT (!(D == D)) b := by kernel_rfl
theorem s4_15_6 (N M D b : U) : vs4 true (K (Int.ofNat 15)) (K (Int.ofNat 6)) N M D b = wantT (!(D == D)) b := by kernel_rfl
theorem s4_15_7 (N M D b : U) : vs4 true (K (Int.ofNat 15)) (K (Int.ofNat 7)) N M D b = wantT (!(D == D)) b := by kernel_rfl
theorem s4_15 : AllP (S4 15) 8 := ⟨⟨⟨⟨⟨⟨⟨⟨trivial, s4_15_0⟩, s4_15_1⟩, s4_15_2⟩, s4_15_3⟩, s4_15_4⟩, s4_15_5⟩, s4_15_6⟩, s4_15_7⟩
theorem s4_all : AllP (fun q => AllP (S4 q) 8) 16 := ⟨⟨⟨⟨⟨⟨⟨⟨⟨⟨⟨⟨⟨⟨⟨⟨trivial, s4_0⟩, s4_1⟩, s4_2⟩, s4_3⟩, s4_4⟩, s4_5⟩, s4_6⟩, s4_7⟩, s4_8⟩, s4_9⟩, s4_10⟩, s4_11⟩, s4_12⟩, s4_13⟩, s4_14⟩, s4_15⟩
theorem vs4_ok {q r : Nat} (hq : q < 16) (hr : r < 8) (N M D b : U) : vs4 true (K (Int.ofNat q)) (K (Int.ofNat r)) N M D b = (true, true) := by
  rw [(s4_all.get hq).get hr N M D b]
  exact want_ok b (by simp)
abbrev S5 (q r : Nat) : Prop := ∀ N M D b : U, vs5 true (K (Int.ofNat q)) (K (Int.ofNat r)) N M D b = wantT (!((N == N) && ((M == M) && (D == D)))) b
theorem s5_0_0 (N M D b : U) : vs5 true (K (Int.ofNat 0)) (K (Int.ofNat 0)) N M D b = wantT (!((N == N) && ((M == M) && (D == D)))) b := by kernel_rfl
theorem s5_0_1 (N M D b : U) : vs5 true (K (Int.ofNat 0)) (K (Int.ofNat 1)) N M D b = wantT (!((N == N) && ((M == M) && (D == D)))) b := by kernel_rfl
theorem s5_0_2 (N M D b : U) : vs5 true (K (Int.ofNat 0)) (K (Int.ofNat 2)) N M D b = wantT (!((N == N) && ((M == M) && (D == D)))) b := by kernel_rfl
theorem s5_0_3 (N M D b : U) : vs5 true (K (Int.ofNat 0)) (K (Int.ofNat 3)) N M D b = wantT (!((N == N) && ((M == M) && (D == D)))) b := by kernel_rfl
theorem s5_0_4 (N M D b : U) : vs5 true (K (Int.ofNat 0)) (K (Int.ofNat 4)) N M D b = wantT (!((N == N) && ((M == M) && (D == D)))) b := by kernel_rfl
theorem s5_0_5 (N M D b : U) : vs5 true (K (Int.ofNat 0)) (K (Int.ofNat 5)) N M D b = wantT (!((N == N) && ((M == M) && (D == D)))) b := by kernel_rfl
theorem s5_0_6 (N M D b : U) : vs5 true (K (Int.ofNat 0)) (K (Int.ofNat 6)) N M D b = wantT (!((N == N) && ((M == M) && (D == D)))) b := by kernel_rfl
theorem s5_0_7 (N M D b : U) : vs5 true (K (Int.ofNat 0)) (K (Int.ofNat 7)) N M D b = wantT (!((N == N) && ((M == M) && (D == D)))) b := by kernel_rfl
theorem s5_0 : AllP (S5 0) 8 := ⟨⟨⟨⟨⟨⟨⟨⟨trivial, s5_0_0⟩, s5_0_1⟩, s5_0_2⟩, s5_0_3⟩, s5_0_4⟩, s5_0_5⟩, s5_0_6⟩, s5_0_7⟩
theorem s5_1_0 (N M D b : U) : vs5 true (K (Int.ofNat 1)) (K (Int.ofNat 0)) N M D b = wantT (!((N == N) && ((M == M) && (D == D)))) b := by kernel_rfl
theorem s5_1_1 (N M D b : U) : vs5 true (K (Int.ofNat 1)) (K (Int.ofNat 1)) N M D b = wantT (!((N == N) && ((M == M) && (D == D)))) b := by kernel_rfl
theorem s5_1_2 (N M D b : U) : vs5 true (K (Int.ofNat 1)) (K (Int.ofNat 2)) N M D b = wantT (!((N == N) && ((M == M) && (D == D)))) b := by kernel_rfl
theorem s5_1_3 (N M D b : U) : vs5 true (K (Int.ofNat 1)) (K (Int.ofNat 3)) N M D b = wantT (!((N == N) && ((M == M) && (D == D)))) b := by kernel_rfl
theorem s5_1_4 (N M D b : U) : vs5 true (K (Int.ofNat 1)) (K (Int.ofNat 4)) N M D b = wantT (!((N == N) && ((M == M) && (D == D)))) b := by kernel_rfl
theorem s5_1_5 (N M D b : U) : vs5 true (K (Int.ofNat 1)) (K (Int.ofNat 5)) N M D b = wantT (!((N == N) && ((M == M) && (D == D)))) b := by kernel_rfl
theorem s5_1_6 (N M D b : U) : vs5 true (K (Int.ofNat 1)) (K (Int.ofNat 6)) N M D b = wantT (!((N == N) && ((M == M) && (D == D)))) b := by kernel_rfl
theorem s5_1_7 (N M D b : U) : vs5 true (K (Int.ofNat 1)) (K (Int.ofNat 7)) N M D b = wantT (!((N == N) && ((M == M) && (D == D)))) b := by kernel_rfl
theorem s5_1 : AllP (S5 1) 8 := ⟨⟨⟨⟨⟨⟨⟨⟨trivial, s5_1_0⟩, s5_1_1⟩, s5_1_2⟩, s5_1_3⟩, s5_1_4⟩, s5_1_5⟩, s5_1_6⟩, s5_1_7⟩
theorem s5_2_0 (N M D b : U) : vs5 true (K (Int.ofNat 2)) (K (Int.ofNat 0)) N M D b = wantT (!((N == N) && ((M == M) && (D == D)))) b := by kernel_rfl
theorem s5_2_1 (N M D b : U) : vs5 true (K (Int.ofNat 2)) (K (Int.ofNat 1)) N M D b = wantT (!((N == N) && ((M == M) && (D == D)))) b := by kernel_rfl
theorem s5_2_2 (N M D b : U) : vs5 true (K (Int.ofNat 2)) (K (Int.ofNat 2)) N M D b = wantT (!((N == N) && ((M == M) && (D == D)))) b := by kernel_rfl
theorem s5_2_3 (N M D b : U) : vs5 true (K (Int.ofNat 2)) (K (Int.ofNat 3)) N M D b = wantT (!((N == N) && ((M == M) && (D == D)))) b := by kernel_rfl
theorem s5_2_4 (N M D b : U) : vs5 true (K (Int.ofNat 2)) (K (Int.ofNat 4)) N M D b = wantT (!((N == N) && ((M == M) && (D == D)))) b := by kernel_rfl
theorem s5_2_5 (N M D b : U) : vs5 true (K (Int.ofNat 2)) (K (Int.ofNat 5)) N M D b = wantT (!((N == N) && ((M == M) && (D == D)))) b := by kernel_rfl
theorem s5_2_6 (N M D b : U) : vs5 true (K (Int.ofNat 2)) (K (Int.ofNat 6)) N M D b = wantT (!((N == N) && ((M == M) && (D == D)))) b := by kernel_rfl
theorem s5_2_7 (N M D b : U) : vs5 true (K (Int.ofNat 2)) (K (Int.ofNat 7)) N M D b = wantT (!((N == N) && ((M == M) && (D == D)))) b := by kernel_rfl
theorem s5_2 : AllP (S5 2) 8 := ⟨⟨⟨⟨⟨⟨⟨⟨trivial, s5_2_0⟩, s5_2_1⟩, s5_2_2⟩, s5_2_3⟩, s5_2_4⟩, s5_2_5⟩, s5_2_6⟩, s5_2_7⟩
theorem s5_3_0 (N M D b : U) : vs5 true (K (Int.ofNat 3)) (K (Int.ofNat 0)) N M D b = wantT (!((N == N) && ((M == M) && (D == D)))) b := by kernel_rfl
theorem s5_3_1 (N M D b : U) : vs5 true (K (Int.ofNat 3)) (K (Int.ofNat 1)) N M D b = wantT (!((N == N) && ((M == M) && (D == D)))) b := by kernel_rfl
theorem s5_3_2 (N M D b : U) : vs5 true (K (Int.ofNat 3)) (K (Int.ofNat 2)) N M D b = wantT (!((N == N) && ((M == M) && (D == D)))) b := by kernel_rfl
theorem s5_3_3 (N M D b : U) : vs5 true (K (Int.ofNat 3)) (K (Int.ofNat 3)) N M D b = wantT (!((N == N) && ((M == M) && (D == D)))) b := by kernel_rfl
theorem s5_3_4 (N M D b : U) : vs5 true (K (Int.ofNat 3)) (K (Int.ofNat 4)) N M D b = wantT (!((N == N) && ((M == M) && (D == D)))) b := by kernel_rfl
theorem s5_3_5 (N M D b : U) : vs5 true (K (Int.ofNat 3)) (K (Int.ofNat 5)) N M D b = wantT (!((N == N) && ((M == M) && (D == D)))) b := by kernel_rfl
theorem s5_3_6 (N M D b : U) : vs5 true (K (Int.ofNat 3)) (K (Int.ofNat 6)) N M D b = wantT (!((N == N) && ((M == M) && (D == D)))) b := by kernel_rfl
theorem s5_3_7 (N M D b : U) : vs5 true (K (Int.ofNat 3)) (K (Int.ofNat 7)) N M D b = wantT (!((N == N) && ((M == M) && (D == D)))) b := by kernel_rfl
theorem s5_3 : AllP (S5 3) 8 := ⟨⟨⟨⟨⟨⟨⟨⟨trivial, s5_3_0⟩, s5_3_1⟩, s5_3_2⟩, s5_3_3⟩, s5_3_4⟩, s5_3_5⟩, s5_3_6⟩, s5_3_7⟩
theorem s5_4_0 (N M D b : U) : vs5 true (K (Int.ofNat 4)) (K (Int.ofNat 0)) N M D b = wantT (!((N == N) && ((M == M) && (D == D)))) b := by kernel_rfl
theorem s5_4_1 (N M D b : U) : vs5 true (K (Int.ofNat 4)) (K (Int.ofNat 1)) N M D b = wantT (!((N == N) && ((M == M) && (D == D)))) b := by kernel_rfl
theorem s5_4_2 (N M D b : U) : vs5 true (K (Int.ofNat 4)) (K (Int.ofNat 2)) N M D b = wantT (!((N == N) && ((M == M) && (D == D)))) b := by kernel_rfl
theorem s5_4_3 (N M D b : U) : vs5 true (K (Int.ofNat 4)) (K (Int.ofNat 3)) N M D b = wantT (!((N == N) && ((M == M) && (D == D)))) b := by kernel_rfl
theorem s5_4_4 (N M D b : U) : vs5 true (K (Int.ofNat 4)) (K (Int.ofNat 4)) N M D b = wantT (!((N == N) && ((M == M) && (D == D)))) b := by kernel_rfl
theorem s5_4_5 (N M D b : U) : vs5 true (K (Int.ofNat 4)) (K (Int.ofNat 5)) N M D b = wantT (!((N == N) && ((M == M) && (D == D)))) b := by kernel_rfl
theorem s5_4_6 (N M D b : U) : vs5 true (K (Int.ofNat 4)) (K (Int.ofNat 6)) N M D b = wantT (!((N == N) && ((M == M) && (D == D)))) b := by kernel_rfl
theorem s5_4_7 (N M D b : U) : vs5 true (K (Int.ofNat 4)) (K (Int.ofNat 7)) N M D b = wantT (!((N == N) && ((M == M) && (D == D)))) b := by kernel_rfl
theorem s5_4 : AllP (S5 4) 8 := ⟨⟨⟨⟨⟨⟨⟨⟨trivial, s5_4_0⟩, s5_4_1⟩, s5_4_2⟩, s5_4_3⟩, s5_4_4⟩, s5_4_5⟩, s5_4_6⟩, s5_4_7⟩
theorem s5_5_0 (N M D b : U) : vs5 true (K (Int.ofNat 5)) (K (Int.ofNat 0)) N M D b = wantT (!((N == N) && ((M == M) && (D == D)))) b := by kernel_rfl
theorem s5_5_1 (N M D b : U) : vs5 true (K (Int.ofNat 5)) (K (Int.ofNat 1)) N M D b = wantT (!((N == N) && ((M == M) && (D == D)))) b := by kernel_rfl
theorem s5_5_2 (N M D b : U) : vs5 true (K (Int.ofNat 5)) (K (Int.ofNat 2)) N M D b = wantT (!((N == N) && ((M == M) && (D == D)))) b := by kernel_rfl
theorem s5_5_3 (N M D b : U) : vs5 true (K (Int.ofNat 5)) (K (Int.ofNat 3)) N M D b = wantT (!((N == N) && ((M == M) && (D == D)))) b := by kernel_rfl
theorem s5_5_4 (N M D b : U) : vs5 true (K (Int.ofNat 5)) (K (Int.ofNat 4)) N M D b = wantT (!((N == N) && ((M == M) && (D == D)))) b := by kernel_rfl
theorem s5_5_5 (N M D b : U) : vs5 true (K (Int.ofNat 5)) (K (Int.ofNat 5)) N M D b = wantT (!((N == N) && ((M == M) && (D == D)))) b := by kernel_rfl
theorem s5_5_6 (N M D b : U) : vs5 true (K (Int.ofNat 5)) (K (Int.ofNat 6)) N M D b = wantT (!((N == N) && ((M == M) && (D == D)))) b := by kernel_rfl
theorem s5_5_7 (N M D b : U) : vs5 true (K (Int.ofNat 5)) (K (Int.ofNat 7)) N M D b = wantT (!((N == N) && ((M == M) && (D == D)))) b := by kernel_rfl
theorem s5_5 : AllP (S5 5) 8 := ⟨⟨⟨⟨⟨⟨⟨⟨trivial, s5_5_0⟩, s5_5_1⟩, s5_5_2⟩, s5_5_3⟩, s5_5_4⟩, s5_5_5⟩, s5_5_6⟩, s5_5_7⟩
theorem s5_6_0 (N M D b : U) : vs5 true (K (Int.ofNat 6)) (K (Int.ofNat 0)) N M D b = wantT (!((N == N) && ((M == M) && (D == D)))) b := by kernel_rfl
theorem s5_6_1 (N M D b : U) : vs5 true (K (Int.ofNat 6)) (K (Int.ofNat 1)) N M D b = wantT (!((N == N) && ((M == M) && (D == D)))) b := by kernel_rfl
theorem s5_6_2 (N M D b : U) : vs5 true (K (Int.ofNat 6)) (K (Int.ofNat 2)) N M D b = wantT (!((N == N) && ((M == M) && (D == D)))) b := by kernel_rfl
theorem s5_6_3 (N M D b : U) : vs5 true (K (Int.ofNat 6)) (K (Int.ofNat 3)) N M D b = wantT (!((N == N) && ((M == M) && (D == D)))) b := by kernel_rfl
theorem s5_6_4 (N M D b : U) : vs5 true (K (Int.ofNat 6)) (K (Int.ofNat 4)) N M D b = wantT (!((N == N) && ((M == M) && (D == D)))) b := by kernel_rfl
theorem s5_6_5 (N M D b : U) : vs5 true (K (Int.ofNat 6)) (K (Int.ofNat 5)) N M D b = wantT (!((N == N) && ((M == M) && (D == D)))) b := by kernel_rfl
theorem s5_6_6 (N M D b : U) : vs5 true (K (Int.ofNat 6)) (K (Int.ofNat 6)) N M D b = wantT (!((N == N) && ((M == M) && (D == D)))) b := by kernel_rfl
theorem s5_6_7 (N M D b : U) : vs5 true (K (Int.ofNat 6)) (K (Int.ofNat 7)) N M D b = wantT (!((N == N) && ((M == M) && (D == D)))) b := by kernel_rfl
theorem s5_6 : AllP (S5 6) 8 := ⟨⟨⟨⟨⟨⟨⟨⟨trivial, s5_6_0⟩, s5_6_1⟩, s5_6_2⟩, s5_6_3⟩, s5_6_4⟩, s5_6_5⟩, s5_6_6⟩, s5_6_7⟩
theorem s5_7_0 (N M D b : U) : vs5 true (K (Int.ofNat 7)) (K (Int.ofNat 0)) N M D b = wantT (!((N == N) && ((M == M) && (D == D)))) b := by kernel_rfl
theorem s5_7_1 (N M D b : U) : vs5 true (K (Int.ofNat 7)) (K (Int.ofNat 1)) N M D b = wantT (!((N == N) && ((M == M) && (D == D)))) b := by kernel_rfl
theorem s5_7_2 (N M D b : U) : vs5 true (K (Int.ofNat 7)) (K (Int.ofNat 2)) N M D b = wantT (!((N == N) && ((M == M) && (D == D)))) b := by kernel_rfl
theorem s5_7_3 (N M D b : U) : vs5 true (K (Int.ofNat 7)) (K (Int.ofNat 3)) N M D b = wantT (!((N == N) && ((M == M) && (D == D)))) b := by kernel_rfl
theorem s5_7_4 (N M D b : U) : vs5 true (K (Int.ofNat 7)) (K (Int.ofNat 4)) N M D b = wantT (!((N == N) && ((M == M) && (D == D)))) b := by kernel_rfl
theorem s5_7_5 (N M D b : U) : vs5 true (K (Int.ofNat 7)) (K (Int.ofNat 5)) N M D b = wantT (!((N == N) && ((M == M) && (D == D)))) b := by kernel_rfl
theorem s5_7_6 (N M D b : U) : vs5 true (K (Int.ofNat 7)) (K (Int.ofNat 6)) N M D b = wantT (!((N == N) && ((M == M) && (D == D)))) b := by kernel_rfl
theorem s5_7_7 (N M D b : U) : vs5 true (K (Int.ofNat 7)) (K (Int.ofNat 7)) N M D b = wantT (!((N == N) && ((M == M) && (D == D)))) b := by kernel_rfl
theorem s5_7 : AllP (S5 7) 8 := ⟨⟨⟨⟨⟨⟨⟨⟨trivial, s5_7_0⟩, s5_7_1⟩, s5_7_2⟩, s5_7_3⟩, s5_7_4⟩, s5_7_5⟩, s5_7_6⟩, s5_7_7⟩
theorem s5_8_0 (N M D b : U) : vs5 true (K (Int.ofNat 8)) (K (Int.ofNat 0)) N M D b = wantT (!((N == N) && ((M == M) && (D == D)))) b := by kernel_rfl
theorem s5_8_1 (N M D b : U) : vs5 true (K (Int.ofNat 8)) (K (Int.ofNat 1)) N M D b = wantT (!((N == N) && ((M == M) && (D == D)))) b := by kernel_rfl
theorem s5_8_2 (N M D b : U) : vs5 true (K (Int.ofNat 8)) (K (Int.ofNat 2)) N M D b = wantT (!((N == N) && ((M == M) && (D == D)))) b := by kernel_rfl
theorem s5_8_3 (N M D b : U) : vs5 true (K (Int.ofNat 8)) (K (Int.ofNat 3)) N M D b = wantT (!((N == N) && ((M == M) && (D == D)))) b := by kernel_rfl
theorem s5_8_4 (N M D b : U) : vs5 true (K (Int.ofNat 8)) (K (Int.ofNat 4)) N M D b = wantT (!((N == N) && ((M == M) && (D == D)))) b := by kernel_rfl
theorem s5_8_5 (N M D b : U) : vs5 true (K (Int.ofNat 8)) (K (Int.ofNat 5)) N M D b = wantT (!((N == N) && ((M == M) && (D == D)))) b := by kernel_rfl
theorem s5_8_6 (N M D b : U) : vs5 true (K (Int.ofNat 8)) (K (Int.ofNat 6)) N M D b = wantT (!((N == N) && ((M == M) && (D == D)))) b := by kernel_rfl
theorem s5_8_7 (N M D b : U) : vs5 true (K (Int.ofNat 8)) (K (Int.ofNat 7)) N M D b = wantT (!((N == N) && ((M == M) && (D == D)))) b := by kernel_rfl
theorem s5_8 : AllP (S5 8) 8 := ⟨⟨⟨⟨⟨⟨⟨⟨trivial, s5_8_0⟩, s5_8_1⟩, s5_8_2⟩, s5_8_3⟩, s5_8_4⟩, s5_8_5⟩, s5_8_6⟩, s5_8_7⟩
theorem s5_9_0 (N M D b : U) : vs5 true (K (Int.ofNat 9)) (K (Int.ofNat 0)) N M D b = wantT (!((N == N) && ((M == M) && (D == D)))) b := by kernel_rfl
theorem s5_9_1 (N M D b : U) : vs5 true (K (Int.ofNat 9)) (K (Int.ofNat 1)) N M D b = wantT (!((N == N) && ((M == M) && (D == D)))) b := by kernel_rfl
theorem s5_9_2 (N M D b : U) : vs5 true (K (Int.ofNat 9)) (K (Int.ofNat 2)) N M D b = wantT (!((N == N) && ((M == M) && (D == D)))) b := by kernel_rfl
theorem s5_9_3 (N M D b : U) : vs5 true (K (Int.ofNat 9)) (K (Int.ofNat 3)) N M D b = wantT (!((N == N) && ((M == M) && (D == D)))) b := by kernel_rfl
theorem s5_9_4 (N M D b : U) : vs5 true (K (Int.ofNat 9)) (K (Int.ofNat 4)) N M D b = wantT (!((N == N) && ((M == M) && (D == D)))) b := by kernel_rfl
theorem s5_9_5 (N M D b : U) : vs5 true (K (Int.ofNat 9)) (K (Int.ofNat 5)) N M D b = wantT (!((N == N) && ((M == M) && (D == D)))) b := by kernel_rfl
theorem s5_9_6 (N M D b : U) : vs5 true (K (Int.ofNat 9)) (K (Int.ofNat 6)) N M D b = wantT (!((N == N) && ((M == M) && (D == D)))) b := by kernel_rfl
theorem s5_9_7 (N M D b : U) : vs5 true (K (Int.ofNat 9)) (K (Int.ofNat 7)) N M D b = wantT (!((N == N) && ((M == M) && (D == D)))) b := by kernel_rfl
theorem s5_9 : AllP (S5 9) 8 := ⟨⟨⟨⟨⟨⟨⟨⟨trivial, s5_9_0⟩, s5_9_1⟩, s5_9_2⟩, s5_9_3⟩, s5_9_4⟩, s5_9_5⟩, s5_9_6⟩, s5_9_7⟩
theorem s5_10_0 (N M D b : U) : vs5 true (K (Int.ofNat 10)) (K (Int.ofNat 0)) N M D b = wantT (!((N == N) && ((M == M) && (D == D)))) b := by kernel_rfl
theorem s5_10_1 (N M D b : U) : vs5 true (K (Int.ofNat 10)) (K (Int.ofNat 1)) N M D b = wantT (!((N == N) && ((M == M) && (D == D)))) b := by kernel_rfl
theorem s5_10_2 (N M D b : U) : vs5 true (K (Int.ofNat 10)) (K (Int.ofNat 2)) N M D b = wantT (!((N == N) && ((M == M) && (D == D)))) b := by kernel_rfl
theorem s5_10_3 (N M D b : U) : vs5 true (K (Int.ofNat 10)) (K (Int.ofNat 3)) N M D b = wantT (!((N == N) && ((M == M) && (D == D)))) b := by kernel_rfl
theorem s5_10_4 (N M D b : U) : vs5 true (K (Int.ofNat 10)) (K (Int.ofNat 4)) N M D b = wantT (!((N == N) && ((M == M) && (D == D)))) b := by kernel_rfl
theorem s5_10_5 (N M D b : U) : vs5 true (K (Int.ofNat 10)) (K (Int.ofNat 5)) N M D b = wantT (!((N == N) && ((M == M) && (D == D)))) b := by kernel_rfl
theorem s5_10_6 (N M D b : U) : vs5 true (K (Int.ofNat 10)) (K (Int.ofNat 6)) N M D b = wantT (!((N == N) && ((M == M) && (D == D)))) b := by kernel_rfl
theorem s5_10_7 (N M D b : U) : vs5 true (K (Int.ofNat 10)) (K (Int.ofNat 7)) N M D b = wantT (!((N == N) && ((M == M) && (D == D)))) b := by kernel_rfl
theorem s5_10 : AllP (S5 10) 8 := ⟨⟨⟨⟨⟨⟨⟨⟨trivial, s5_10_0⟩, s5_10_1⟩, s5_10_2⟩, s5_10_3⟩, s5_10_4⟩, s5_10_5⟩, s5_10_6⟩, s5_10_7⟩
theorem s5_11_0 (N M D b : U) : vs5 true (K (Int.ofNat 11)) (K (Int.ofNat 0)) N M D b = wantT (!((N == N) && ((M == M) && (D == D)))) b := by kernel_rfl
theorem s5_11_1 (N M D b : U) : vs5 true (K (Int.ofNat 11)) (K (Int.ofNat 1)) N M D b = wantT (!((N == N) && ((M == M) && (D == D)))) b := by kernel_rfl
theorem s5_11_2 (N M D b : U) : vs5 true (K (Int.ofNat 11)) (K (Int.ofNat 2)) N M D b = wantT (!((N == N) && ((M == M) && (D == D)))) b := by kernel_rfl
theorem s5_11_3 (N M D b : U) : vs5 true (K (Int.ofNat 11)) (K (Int.ofNat 3)) N M D b = wantT (!((N == N) && ((M == M) && (D == D)))) b := by kernel_rfl
theorem s5_11_4 (N M D b : U) : vs5 true (K (Int.ofNat 11)) (K (Int.ofNat 4)) N M D b = wantT (!((N == N) && ((M == M) && (D == D)))) b := by kernel_rfl
theorem s5_11_5 (N M D b : U) : vs5 true (K (Int.ofNat 11)) (K (Int.ofNat 5)) N M D b = wantT (!((N == N) && ((M == M) && (D == D)))) b := by kernel_rfl
theorem s5_11_6 (N M D b : U) : vs5 true (K (Int.ofNat 11)) (K (Int.ofNat 6)) N M D b = wantT (!((N == N) && ((M == M) && (D == D)))) b := by kernel_rfl
theorem s5_11_7 (N M D b : U) : vs5 true (K (Int.ofNat 11)) (K (Int.ofNat 7)) N M D b = wantT (!((N == N) && ((M == M) && (D == D)))) b := by kernel_rfl
theorem s5_11 : AllP (S5 11) 8 := ⟨⟨⟨⟨⟨⟨⟨⟨trivial, s5_11_0⟩, s5_11_1⟩, s5_11_2⟩, s5_11_3⟩, s5_11_4⟩, s5_11_5⟩, s5_11_6⟩, s5_11_7⟩
theorem s5_12_0 (N M D b : U) : vs5 true (K (Int.ofNat 12)) (K (Int.ofNat 0)) N M D b = wantT (!((N == N) && ((M == M) && (D == D)))) b := by kernel_rfl
theorem s5_12_1 (N M D b : U) : vs5 true (K (Int.ofNat 12)) (K (Int.ofNat 1)) N M D b = wantT (!((N == N) && ((M == M) && (D == D)))) b := by kernel_rfl
theorem s5_12_2 (N M D b : U) : vs5 true (K (Int.ofNat 12)) (K (Int.ofNat 2)) N M D b = wantT (!((N == N) && ((M == M) && (D == D)))) b := by kernel_rfl
theorem s5_12_3 (N M D b : U) : vs5 true (K (Int.ofNat 12)) (K (Int.ofNat 3)) N M D b = wantT (!((N == N) && ((M == M) && (D == D)))) b := by kernel_rfl
theorem s5_12_4 (N M D b : U) : vs5 true (K (Int.ofNat 12)) (K (Int.ofNat 4)) N M D b = wantT (!((N == N) && ((M == M) && (D == D)))) b := by kernel_rfl
theorem s5_12_5 (N M D b : U) : vs5 true (K (Int.ofNat 12)) (K (Int.ofNat 5)) N M D b = wantT (!((N == N) && ((M == M) && (D == D)))) b := by kernel_rfl
theorem s5_12_6 (N M D b : U) : vs5 true (K (Int.ofNat 12)) (K (Int.ofNat 6)) N M D b = wantT (!((N == N) && ((M == M) && (D == D)))) b := by kernel_rfl
theorem s5_12_7 (N M D b : U) : vs5 true (K (Int.ofNat 12)) (K (Int.ofNat 7)) N M D b = wantT (!((N == N) && ((M == M) && (D == D)))) b := by kernel_rfl
theorem s5_12 : AllP (S5 12) 8 := ⟨⟨⟨⟨⟨⟨⟨⟨trivial, s5_12_0⟩, s5_12_1⟩, s5_12_2⟩, s5_12_3⟩, s5_12_4⟩, s5_12_5⟩, s5_12_6⟩, s5_12_7⟩
theorem s5_13_0 (N M D b : U) : vs5 true (K (Int.ofNat 13)) (K (Int.ofNat 0)) N M D b = wantT (!((N == N) && ((M == M) && (D == D)))) b := by kernel_rfl
theorem s5_13_1 (N M D b : U) : vs5 true (K (Int.ofNat 13)) (K (Int.ofNat 1)) N M D b = wantT (!((N == N) && ((M == M) && (D == D)))) b := by kernel_rfl
theorem s5_13_2 (N M D b : U) : vs5 true (K (Int.ofNat 13)) (K (Int.ofNat 2)) N M D b = wantT (!((N == N) && ((M == M) && (D == D)))) b := by kernel_rfl
theorem s5_13_3 (N M D b : U) : vs5 true (K (Int.ofNat 13)) (K (Int.ofNat 3)) N M D b = wantT (!((N == N) && ((M == M) && (D == D)))) b := by kernel_rfl
theorem s5_13_4 (N M D b : U) : vs5 true (K (Int.ofNat 13)) (K (Int.ofNat 4)) N M D b = wantT (!((N == N) && ((M == M) && (D == D)))) b := by kernel_rfl
theorem s5_13_5 (N M D b : U) : vs5 true (K (Int.ofNat 13)) (K (Int.ofNat 5)) N M D b = wantT (!((N == N) && ((M == M) && (D == D)))) b := by kernel_rfl
theorem s5_13_6 (N M D b : U) : vs5 true (K (Int.ofNat 13)) (K (Int.ofNat 6)) N M D b = wantT (!((N == N) && ((M == M) && (D == D)))) b := by kernel_rfl
theorem s5_13_7 (N M D b : U) : vs5 true (K (Int.ofNat 13)) (K (Int.ofNat 7)) N M D b = wantT (!((N == N) && ((M == M) && (D == D)))) b := by kernel_rfl
theorem s5_13 : AllP (S5 13) 8 := ⟨⟨⟨⟨⟨⟨⟨⟨trivial, s5_13_0⟩, s5_13_1⟩, s5_13_2⟩, s5_13_3⟩, s5_13_4⟩, s5_13_5⟩, s5_13_6⟩, s5_13_7⟩
theorem s5_14_0 (N M D b : U) : vs5 true (K (Int.ofNat 14)) (K (Int.ofNat 0)) N M D b = wantT (!((N == N) && ((M == M) && (D == D)))) b := by kernel_rfl
theorem s5_14_1 (N M D b : U) : vs5 true (K (Int.ofNat 14)) (K (Int.ofNat 1)) N M D b = wantT (!((N == N) && ((M == M) && (D == D)))) b := by kernel_rfl
theorem s5_14_2 (N M D b : U) : vs5 true (K (Int.ofNat 14)) (K (Int.ofNat 2)) N M D b = wantT (!((N == N) && ((M == M) && (D == D)))) b := by kernel_rfl
theorem s5_14_3 (N M D b : U) : vs5 true (K (Int.ofNat 14)) (K (Int.ofNat 3)) N M D b = wantT (!((N == N) && ((M == M) && (D == D)))) b := by kernel_rfl
theorem s5_14_4 (N M D b : U) : vs5 true (K (Int.ofNat 14)) (K (Int.ofNat 4)) N M D b = wantT (!((N == N) && ((M == M) && (D == D)))) b := by kernel_rfl
theorem s5_14_5 (N M D b : U) : vs5 true (K (Int.ofNat 14)) (K (Int.ofNat 5)) N M D b = wantT (!((N == N) && ((M == M) && (D == D)))) b := by kernel_rfl
theorem s5_14_6 (N M D b : U) : vs5 true (K (Int.ofNat 14)) (K (Int.ofNat 6)) N M D b = wantT (!((N == N) && ((M == M) && (D == D)))) b := by kernel_rfl
theorem s5_14_7 (N M D b : U) : vs5 true (K (Int.ofNat 14)) (K (Int.ofNat 7)) N M D b = wantT (!((N == N) && ((M == M) && (D == D)))) b := by kernel_rfl
theorem s5_14 : AllP (S5 14) 8 := ⟨⟨⟨⟨⟨⟨⟨⟨trivial, s5_14_0⟩, s5_14_1⟩, s5_14_2⟩, s5_14_3⟩, s5_14_4⟩, s5_14_5⟩, s5_14_6⟩, s5_14_7⟩
theorem s5_15_0 (N M D b : U) : vs5 true (K (Int.ofNat 15)) (K (Int.ofNat 0)) N M D b = wantT (!((N == N) && ((M == M) && (D == D)))) b := by kernel_rfl
theorem s5_15_1 (N M D b : U) : vs5 true (K (Int.ofNat 15)) (K (Int.ofNat 1)) N M D b = wantT (!((N == N) && ((M == M) && (D == D)))) b := by kernel_rfl
theorem s5_15_2 (N M D b : U) : vs5 true (K (Int.ofNat 15)) (K (Int.ofNat 2)) N M D b = wantT (!((N == N) && ((M == M) && (D == D)))) b := by kernel_rfl
theorem s5_15_3 (N M D b : U) : vs5 true (K (Int.ofNat 15)) (K (Int.ofNat 3)) N M D b = wantT (!((N == N) && ((M == M) && (D == D)))) b := by kernel_rfl
theorem s5_15_4 (N M D b : U) : vs5 true (K (Int.ofNat 15)) (K (Int.ofNat 4)) N M D b = wantT (!((N == N) && ((M == M) && (D == D)))) b := by kernel_rfl
theorem s5_15_5 (N M D b : U) : vs5 true (K (Int.ofNat 15)) (K (Int.ofNat 5)) N M D b = wantT (!((N == N) && ((M == M) && (D == D)))) b := by kernel_rfl
theorem s5_15_6 (N M D b : U) : vs5 true (K (Int.ofNat 15)) (K (Int.ofNat 6)) N M D b = wantT (!((N == N) && ((M == M) && (D == D)))) b := by kernel_rfl
theorem s5_15_7 (N M D b : U) : vs5 true (K (Int.ofNat 15)) (K (Int.ofNat 7)) N M D b = wantT (!((N == N) && ((M == M) && (D == D)))) b := by kernel_rfl
theorem s5_15 : AllP (S5 15) 8 := ⟨⟨⟨⟨⟨⟨⟨⟨trivial, s5_15_0⟩, s5_15_1⟩, s5_15_2⟩, s5_15_3⟩, s5_15_4⟩, s5_15_5⟩, s5_15_6⟩, s5_15_7⟩
theorem s5_all : AllP (fun q => AllP (S5 q) 8) 16 := ⟨⟨⟨⟨⟨⟨⟨⟨⟨⟨⟨⟨⟨⟨⟨⟨trivial, s5_0⟩, s5_1⟩, s5_2⟩, s5_3⟩, s5_4⟩, s5_5⟩, s5_6⟩, s5_7⟩, s5_8⟩, s5_9⟩, s5_10⟩, s5_11⟩, s5_12⟩, s5_13⟩, s5_14⟩, s5_15⟩
theorem vs5_ok {q r : Nat} (hq : q < 16) (hr : r < 8) (N M D b : U) : vs5 true (K (Int.ofNat q)) (K (Int.ofNat r)) N M D b = (true, true) := by
  rw [(s5_all.get hq).get hr N M D b]
  exact want_ok b (by simp)
end Go.WE
