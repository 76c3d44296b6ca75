/- How many bits a number has: math/bits.Len64's way and the document's way. -/
import Derived.Test.YtkkkcocehkfbcaaVE2
namespace Go.VE
open Go
abbrev U := BitVec 64

/-- How many binary digits a number has. -/
def bl (n : Nat) : Nat := if n = 0 then 0 else n.log2 + 1

theorem bl_le (n k : Nat) : bl n ≤ k ↔ n < 2 ^ k := by
  unfold bl
  split
  · rename_i h; subst h; simp; exact Nat.two_pow_pos k
  · rename_i h
    rw [← Nat.log2_lt h]; omega

theorem bl_le_iff_eq {n k : Nat} (h : ∀ j, n < 2 ^ j ↔ k ≤ j) : bl n = k := by
  have h1 : bl n ≤ k := (bl_le n k).2 ((h k).2 (Nat.le_refl _))
  have h2 : k ≤ bl n := (h (bl n)).1 ((bl_le n _).1 (Nat.le_refl _))
  omega

theorem bl_shift (n k : Nat) (h : 2 ^ k ≤ n) : bl n = bl (n / 2 ^ k) + k := by
  refine bl_le_iff_eq (fun j => ?_)
  by_cases hj : k ≤ j
  · obtain ⟨i, rfl⟩ : ∃ i, j = i + k := ⟨j - k, by omega⟩
    rw [Nat.pow_add, ← Nat.div_lt_iff_lt_mul (Nat.two_pow_pos k), ← bl_le]
    omega
  · constructor
    · intro h1
      have : 2 ^ j ≤ 2 ^ k := Nat.pow_le_pow_right (by omega) (by omega)
      omega
    · intro h1; omega

def tab : ByteArray := ⟨((List.range 256).map fun n => UInt8.ofNat (bl n)).toArray⟩


theorem bl_small : ∀ b : Fin 256, bl b.val ≤ 8 := by decide +kernel

theorem tab_at (x : U) (h : x.toNat < 256) : strAt tab x = BitVec.ofNat 64 (bl x.toNat) := by
  unfold strAt
  have hs : tab.size = 256 := by decide +kernel
  have hx : x.toNat < tab.size := by omega
  have e : tab[x.toNat]? = some (UInt8.ofNat (bl x.toNat)) := by
    rw [getElem?_pos tab x.toNat hx]
    congr 1
    show ((List.range 256).map fun n => UInt8.ofNat (bl n)).toArray[x.toNat]'(by simpa using h) = _
    rw [List.getElem_toArray, List.getElem_map, List.getElem_range]
  rw [e]
  have hb : bl x.toNat ≤ 8 := bl_small ⟨x.toNat, h⟩
  have e2 : (UInt8.ofNat (bl x.toNat)).toNat = bl x.toNat := by
    rw [UInt8.toNat_ofNat']
    exact Nat.mod_eq_of_lt (by omega)
  simp only [e2]

def sh (x : U) (k : Nat) : U := x >>> (BitVec.ofInt 64 (k : Int)).toNat
def ge (x : U) (k : Nat) : Bool := (BitVec.ofInt 64 (k : Int)).ule x

def lenX1 (x : U) : U := cond (ge x 4294967296) (sh x 32) x
def lenN1 (x : U) : U := cond (ge x 4294967296) (BitVec.ofInt 64 32) (BitVec.ofInt 64 0)
def lenX2 (x : U) : U := cond (ge (lenX1 x) 65536) (sh (lenX1 x) 16) (lenX1 x)
def lenN2 (x : U) : U := cond (ge (lenX1 x) 65536) (lenN1 x + BitVec.ofInt 64 16) (lenN1 x)
def lenX3 (x : U) : U := cond (ge (lenX2 x) 256) (sh (lenX2 x) 8) (lenX2 x)
def lenN3 (x : U) : U := cond (ge (lenX2 x) 256) (lenN2 x + BitVec.ofInt 64 8) (lenN2 x)
/-- math/bits.Len64, as it is written. -/
def lenT (x : U) : U := lenN3 x + nrm .u8 (strAt tab (nrm .u8 (lenX3 x)))

def len64 (x : U) : U := BitVec.ofNat 64 (bl x.toNat)

theorem step_len {x y : U} {n m : U} {k : Nat} {c : Bool} (hy : y = cond c (x >>> k) x) (hm : m = cond c (n + BitVec.ofNat 64 k) n) (hc : c = decide (2 ^ k ≤ x.toNat)) :
    m + BitVec.ofNat 64 (bl y.toNat) = n + BitVec.ofNat 64 (bl x.toNat) := by
  subst hy hm hc
  by_cases h : 2 ^ k ≤ x.toNat
  · simp only [h, decide_true, cond_true]
    rw [BitVec.toNat_ushiftRight, Nat.shiftRight_eq_div_pow, bl_shift x.toNat k h, BitVec.ofNat_add, BitVec.add_assoc, BitVec.add_comm (BitVec.ofNat 64 k)]
  · simp only [h, decide_false, cond_false]

theorem ge_eq (x : U) (k : Nat) (h : k < 2 ^ 64) : ge x k = decide (k ≤ x.toNat) := by
  unfold ge
  have : (BitVec.ofInt 64 (k : Int)).toNat = k := by
    rw [BitVec.ofInt_natCast, BitVec.toNat_ofNat, Nat.mod_eq_of_lt h]
  simp only [BitVec.ule, this]

theorem lenT_eq (x : U) : lenT x = len64 x := by
  have s1 : lenN1 x + BitVec.ofNat 64 (bl (lenX1 x).toNat) = BitVec.ofInt 64 0 + BitVec.ofNat 64 (bl x.toNat) :=
    step_len (k := 32) (c := ge x 4294967296) rfl rfl (ge_eq x 4294967296 (by omega))
  have s2 : lenN2 x + BitVec.ofNat 64 (bl (lenX2 x).toNat) = lenN1 x + BitVec.ofNat 64 (bl (lenX1 x).toNat) :=
    step_len (k := 16) (c := ge (lenX1 x) 65536) rfl rfl (ge_eq _ 65536 (by omega))
  have s3 : lenN3 x + BitVec.ofNat 64 (bl (lenX3 x).toNat) = lenN2 x + BitVec.ofNat 64 (bl (lenX2 x).toNat) :=
    step_len (k := 8) (c := ge (lenX2 x) 256) rfl rfl (ge_eq _ 256 (by omega))
  have b1 : (lenX1 x).toNat < 2 ^ 32 := by
    unfold lenX1; rw [ge_eq x 4294967296 (by omega)]
    have := x.isLt
    by_cases h : 4294967296 ≤ x.toNat
    · simp only [h, decide_true, cond_true]
      show (x >>> 32).toNat < _
      rw [BitVec.toNat_ushiftRight, Nat.shiftRight_eq_div_pow]; omega
    · simp only [h, decide_false, cond_false]; omega
  have b2 : (lenX2 x).toNat < 2 ^ 16 := by
    unfold lenX2; rw [ge_eq _ 65536 (by omega)]
    by_cases h : 65536 ≤ (lenX1 x).toNat
    · simp only [h, decide_true, cond_true]
      show (lenX1 x >>> 16).toNat < _
      rw [BitVec.toNat_ushiftRight, Nat.shiftRight_eq_div_pow]; omega
    · simp only [h, decide_false, cond_false]; omega
  have b3 : (lenX3 x).toNat < 2 ^ 8 := by
    unfold lenX3; rw [ge_eq _ 256 (by omega)]
    by_cases h : 256 ≤ (lenX2 x).toNat
    · simp only [h, decide_true, cond_true]
      show (lenX2 x >>> 8).toNat < _
      rw [BitVec.toNat_ushiftRight, Nat.shiftRight_eq_div_pow]; omega
    · simp only [h, decide_false, cond_false]; omega
  have n8 : ∀ z : U, z.toNat < 256 → nrm .u8 z = z := by
    intro z hz
    apply BitVec.eq_of_toNat_eq
    simp [nrm]; omega
  have hb := bl_small ⟨(lenX3 x).toNat, b3⟩
  simp only at hb
  unfold lenT
  rw [n8 _ b3, tab_at _ b3, n8, s3, s2, s1]
  · simp [len64]
  · rw [BitVec.toNat_ofNat]; omega

/-- The least number of ones alone that is not below. -/
def onesB (x : U) : U := BitVec.ofNat 64 (2 ^ bl x.toNat - 1)

theorem bl_64 (x : U) : bl x.toNat ≤ 64 := (bl_le _ _).2 x.isLt

theorem len64_toNat (x : U) : (len64 x).toNat = bl x.toNat := by
  have := bl_64 x
  unfold len64
  rw [BitVec.toNat_ofNat]; omega

theorem len64_msb (x : U) : (len64 x).msb = false := by
  have := bl_64 x
  rw [BitVec.msb_eq_decide, len64_toNat]
  simp; omega

theorem ones_eq (x : U) : (BitVec.ofInt 64 1 <<< (len64 x).toNat) - BitVec.ofInt 64 1 = onesB x := by
  have hb := bl_64 x
  rw [len64_toNat]
  unfold onesB
  apply BitVec.eq_of_toNat_eq
  have e1 : BitVec.ofInt 64 1 = 1#64 := by decide
  rw [e1, BitVec.toNat_sub, BitVec.toNat_shiftLeft, BitVec.toNat_ofNat, BitVec.toNat_ofNat, Nat.shiftLeft_eq]
  have hp := Nat.two_pow_pos (bl x.toNat)
  rcases Nat.lt_or_eq_of_le hb with h | h
  · have : 2 ^ bl x.toNat < 2 ^ 64 := Nat.pow_lt_pow_right (by omega) h
    generalize 2 ^ bl x.toNat = q at *
    omega
  · rw [h]

end Go.VE
