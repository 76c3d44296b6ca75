/- math/bits.TrailingZeros64: what it gives, by its table. -/
import Derived.Test.YtbpkkailkalpiaaDoorTLaw
import Derived.Test.YtbpkkailkalpiaaDoorWE31
import Derived.Test.YtbpkkailkalpiaaDoorRows
namespace Go.WE
open Go Go.TL Go.Proofs
def dbt : List Int := [0, 1, 56, 2, 57, 49, 28, 3, 61, 58, 42, 50, 38, 29, 17, 4, 62, 47, 59, 36, 45, 43, 51, 22, 53, 39, 33, 30, 24, 18, 12, 5, 63, 55, 48, 27, 60, 41, 37, 16, 46, 35, 44, 21, 52, 32, 23, 11, 54, 26, 40, 15, 34, 20, 31, 10, 25, 14, 19, 9, 13, 8, 7, 6]
theorem dbt_wrap : (dbt.all fun n => decide (IntKind.u8.wrap n = n)) = true := by decide +kernel
def muxL (n : Nat) : Nat → List Int → U
  | _, [] => K 0
  | _, [a] => K a
  | j, a :: r => bif Nat.beq n j then K a else muxL n (j + 1) r
def tzIdx (x : U) : Nat := (((x &&& (0#64 - x)) * K 285870213051353865) >>> (K 58).toNat).toNat
def tzOk (x : U) : Bool := cond (x == K 0) true ((true && Nat.blt (tzIdx x) 64) && Nat.blt (tzIdx x) 64)
def tzRaw (x : U) : U := cond (x == K 0) (K 64) (nrm .u8 (muxL (tzIdx x) 0 dbt))

theorem low_bit {x : U} (h : ctz x < 64) : x &&& (0#64 - x) = BitVec.twoPow 64 (ctz x) := by
  have e : 0#64 - x = -x := by simp
  rw [e]
  refine TL.ext fun i hi => ?_
  rw [BitVec.getLsbD_and, BitVec.getLsbD_neg, BitVec.getLsbD_twoPow]
  have hc := ctz_at x h
  rcases Nat.lt_trichotomy i (ctz x) with hl | he | hg
  · rw [ctz_low x hl]
    have : ¬ ctz x = i := by omega
    simp [this]
  · subst he
    have hn : ¬ ∃ j, j < ctz x ∧ x.getLsbD j = true := fun ⟨j, hj, hb⟩ => by rw [ctz_low x hj] at hb; cases hb
    rw [hc]
    simp [hi, hn]
  · have hx : ∃ j, j < i ∧ x.getLsbD j = true := ⟨ctz x, hg, hc⟩
    have : ¬ ctz x = i := by omega
    simp only [this, hi, hx, decide_true, decide_false, Bool.and_true]
    cases x.getLsbD i <;> simp

theorem tab_all : ∀ k : Fin 64, nrm .u8 (muxL ((BitVec.twoPow 64 k.val * K 285870213051353865) >>> (K 58).toNat).toNat 0 dbt) = K (k.val : Int) := by decide +kernel
theorem idx_all : ∀ k : Fin 64, Nat.blt ((BitVec.twoPow 64 k.val * K 285870213051353865) >>> (K 58).toNat).toNat 64 = true := by decide +kernel

theorem ctz_lt {x : U} (h : (x == K 0) = false) : ctz x < 64 := by
  have := ctz_le x
  refine Classical.byContradiction fun hge => ?_
  have := ctz_zero (x := x) (by omega)
  rw [this] at h
  exact absurd h (by decide)

theorem tzRaw_eq (x : U) : tzRaw x = tz x := by
  unfold tzRaw
  cases h : x == K 0
  · have hl := ctz_lt h
    rw [cond_false, tzIdx, low_bit hl]
    exact tab_all ⟨ctz x, hl⟩
  · have := beq_iff_eq.1 h
    subst this
    rw [cond_true]
    decide +kernel

theorem tzOk_eq (x : U) : tzOk x = true := by
  unfold tzOk
  cases h : x == K 0
  · have hl := ctz_lt h
    rw [cond_false, tzIdx, low_bit hl, idx_all ⟨ctz x, hl⟩]
    rfl
  · rfl

/-! ### the seat's frame -/

def eqs : List (TypeId × List Bool) := [(24, [false, false])]
noncomputable abbrev cxT : Cx := { P := Tryd.prog, eqT := eqTab eqs }
theorem eqsOk : eqTabOk Tryd.prog eqs = true := by kernel_rfl
theorem entT : entersAll Tryd.prog = true := by kernel_rfl
theorem X0 {Γ : Gam} (h : ΓOK Tryd.prog Γ) : CxOK cxT Γ := ⟨eqOK_of eqsOk rfl, h, noDfr_ok, noLam _ _ _ _, enters_of entT⟩

set_option maxRecDepth 100000 in
theorem tz_ev (x : U) : (evalF cxT noΓ 400 20 45 [.t (.a (.i .u64 x))] (H.tab 0 .u8 dbt)).res = some (.b (tzOk x), .t (.a (.i .i64 (tzRaw x)))) := by kernel_rfl

def tzS : List V → Option (A × V)
  | [.t (.a (.i .u64 x))] => some (.tt, .t (.a (.i .i64 (tz x))))
  | _ => none

def ΓT : Gam := tabΓ 45 0 .u8 dbt tzS noΓ
theorem ΓT_ok : ΓOK Tryd.prog ΓT := tabΓ_ok (fun args ok v h _ => by
  unfold tzS at h
  split at h
  · rename_i x
    simp only [Option.some.injEq, Prod.mk.injEq] at h
    obtain ⟨rfl, rfl⟩ := h
    have := tab_of_eval (X0 noΓ_ok) dbt_wrap rfl (tz_ev x) (tzOk_eq x) rfl rfl
    rw [tzRaw_eq] at this
    exact this
  · cases h) noΓ_ok
end Go.WE
