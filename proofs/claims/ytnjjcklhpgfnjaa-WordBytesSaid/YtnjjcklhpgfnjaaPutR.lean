/- crossbarref01.Put: what a list is, a number's bytes put. -/
import Derived.Test.YtnjjcklhpgfnjaaKept
namespace Go.Proofs.Ytnjjcklhpgfnjaa.Cop
open Go Go.RowKit
set_option linter.unusedVariables false

def thereP (n : Nat) (a s : Int) : Prop := (s = 1 ∨ s = 2 ∨ s = 4 ∨ s = 8) ∧ 0 ≤ a ∧ a ≤ n ∧ s ≤ n - a
instance (n : Nat) (a s : Int) : Decidable (thereP n a s) := inferInstanceAs (Decidable (_ ∧ _))

set_option maxHeartbeats 800000 in
set_option maxRecDepth 1000000 in
theorem there_any (a0 : Option Addr) (n cap : Nat) (a s : Int) (w : World) (hr : n ≤ 140737488351232) (ha : IntKind.i64.wrap a = a) (hs : IntKind.i64.wrap s = s) :
    Calls Try.prog 43 #[.slice a0 n cap, .int .i64 a, .int .i64 s] w fun e w' => e = .returned (.bool (decide (thereP n a s))) ∧ w = w' := by
  go_enter Try.func43, Try.ntmps43
  go_wp2
  all_goals
    go_ret
    refine ⟨congrArg (fun b => Ending.returned (.bool b)) ?_, rfl⟩
    first
      | exact (decide_eq_false (by unfold thereP; omega)).symm
      | (refine decide_eq_decide.2 ?_; unfold thereP; omega)
      | trace_state

/-- What is left of the number before round k. -/
def leftV (a s v k : Nat) : Nat := v / 256 ^ min (k - a) s
def putG (g : Nat → Int) (a s v j : Nat) : Int := if a ≤ j ∧ j < a + s then ((v / 256 ^ (j - a) % 256 : Nat) : Int) else g j

set_option maxHeartbeats 800000 in
set_option maxRecDepth 1000000 in
theorem put_fit (b off n cap : Nat) (g : Nat → Int) (a s v : Nat) (w : World) (hreach : n ≤ 140737488351232) (hb : b < w.heap.size) (hv : v < 2 ^ 64) (hs : s = 1 ∨ s = 2 ∨ s = 4 ∨ s = 8) (hfit : a + s ≤ n)
    (hc : ∀ j, j < n → w.cell? ⟨b, off + j, none⟩ = some (.int .u8 (g j))) :
    Calls Try.prog 23 #[.slice (some ⟨b, off, none⟩) n cap, .int .i64 a, .int .i64 s, .int .u64 v] w fun e w' =>
      ∃ l, e = .returned (.tuple #[l, .bool true]) ∧ w'.ownsRow w.heap.size 5 1 l n (bytesL (putG g a s v) n) ∧ Below w.heap.size w w' := by
  obtain ⟨i0, hi, hz0, hz1, hz2⟩ := info_parts info5
  have hth : decide (thereP n (a : Int) (s : Int)) = true := decide_eq_true (by unfold thereP; omega)
  go_enter Try.func23, Try.ntmps23
  go_wp2_with fail
  refine (there_any (some ⟨b, off, none⟩) n cap a s w hreach (by rw [IntKind.wrap_i64]; omega) (by rw [IntKind.wrap_i64]; omega)).mono ?_
  rintro e w1 ⟨rfl, rfl⟩
  rw [hth]
  go_wp2_with fail
  go_loopw [3, 10, 12, 13] (fun v' l i c wr => ∃ k : Nat, k ≤ n ∧ i = .int .i64 k ∧ v' = .int .u64 (leftV a s v k) ∧ wr.ownsRow w.heap.size 5 1 l k (bytesL (putG g a s v) k) ∧ Below w.heap.size w wr) (fun _ _ i _ _ => n - (intOf i).toNat)
  case atStart => exact ⟨0, Nat.zero_le _, rfl, by simp [leftV], World.ownsRow_nil _ _ _ _, Below.refl _ _⟩
  case round =>
    obtain ⟨k, hk, rfl, rfl, hown, hnx⟩ := hrel
    by_cases hlt : k < n
    · have hcx := (hnx.cell hb).trans (hc k hlt)
      by_cases hin : a ≤ k ∧ k < a + s
      · obtain ⟨hi1, hi2⟩ := hin
        have hi3 : (k : Int) - a < s := by omega
        have hval : ((leftV a s v k : Nat) : Int) % 256 = putG g a s v k := by
          unfold putG leftV
          rw [if_pos ⟨hi1, hi2⟩, Nat.min_eq_left (by omega)]
          omega
        have hleft : IntKind.u64.wrap (((leftV a s v k : Nat) : Int) / 256) = ((leftV a s v (k + 1) : Nat) : Int) := by
          have h1 : leftV a s v (k + 1) = leftV a s v k / 256 := by
            unfold leftV
            rw [Nat.min_eq_left (by omega), Nat.min_eq_left (by omega), Nat.succ_sub hi1, Nat.pow_succ, Nat.div_div_eq_div_mul]
          have h2 : leftV a s v k ≤ v := Nat.div_le_self _ _
          rw [h1, IntKind.wrap_u64]
          omega
        go_wp2_with (first
          | (at_builtin; refine wpList_append_own _ rfl _ _ 35 rfl w.heap.size 5 i0 (.int .u8 0) 1 1 Try.underlying35 hi hz0 hz1 hz2 rfl (by decide) _ _ _ rfl (hown.alloc _) ⟨wr.heap.size, 0, none⟩ 1 1 [.int .u8 (putG g a s v k)] rfl rfl ?c1 ?c2 ?c3 ?c4 ?c5 ?_)
          | go_in)
        case c1 =>
          intro j u hj
          match j, hj with
          | 0, hj => simp at hj; subst hj; simp [Addr.add]
        case c2 => intro u hu; simp at hu; subst hu; rfl
        case c3 => unfold maxLen; omega
        case c4 => omega
        case c5 => have := hnx.size; simp; omega
        intro v' w1' hown' hgrow _
        have hb' : Below w.heap.size w w1' := by
          refine (hnx.alloc hnx.size (.cells #[.int .u8 (putG g a s v k)] 5)).trans ⟨hgrow.os, hgrow.tape, hgrow.output, hgrow.size, fun r hr => hgrow.block r ?_ ?_⟩
          · have := hnx.size; simp; omega
          · intro e
            have := hown.lt r e.symm
            omega
        rw [← bytesL_succ] at hown'
        clear hgrow hown hnx
        go_wp2
        go_roundw
        case rel => exact ⟨k + 1, by omega, by go_num, rfl, hown', hb'⟩
        case measure => simp [intOf]; omega
      · by_cases hi1 : a ≤ k
        · have hi3 : (s : Int) ≤ (k : Int) - a := by omega
          have hval : g k = putG g a s v k := by
            unfold putG
            rw [if_neg hin]
          have hleft : leftV a s v (k + 1) = leftV a s v k := by
            unfold leftV
            rw [Nat.min_eq_right (by omega), Nat.min_eq_right (by omega)]
          go_wp2_with (first
            | (at_builtin; refine wpList_append_own _ rfl _ _ 35 rfl w.heap.size 5 i0 (.int .u8 0) 1 1 Try.underlying35 hi hz0 hz1 hz2 rfl (by decide) _ _ _ rfl (hown.alloc _) ⟨wr.heap.size, 0, none⟩ 1 1 [.int .u8 (putG g a s v k)] rfl rfl ?c1 ?c2 ?c3 ?c4 ?c5 ?_)
            | go_in)
          case c1 =>
            intro j u hj
            match j, hj with
            | 0, hj => simp at hj; subst hj; simp [Addr.add]
          case c2 => intro u hu; simp at hu; subst hu; rfl
          case c3 => unfold maxLen; omega
          case c4 => omega
          case c5 => have := hnx.size; simp; omega
          intro v' w1' hown' hgrow _
          have hb' : Below w.heap.size w w1' := by
            refine (hnx.alloc hnx.size (.cells #[.int .u8 (putG g a s v k)] 5)).trans ⟨hgrow.os, hgrow.tape, hgrow.output, hgrow.size, fun r hr => hgrow.block r ?_ ?_⟩
            · have := hnx.size; simp; omega
            · intro e
              have := hown.lt r e.symm
              omega
          rw [← bytesL_succ] at hown'
          clear hgrow hown hnx
          go_wp2
          go_roundw
          case rel => exact ⟨k + 1, by omega, by go_num, by rw [hleft], hown', hb'⟩
          case measure => simp [intOf]; omega
        · have hval : g k = putG g a s v k := by
            unfold putG
            rw [if_neg hin]
          have hleft : leftV a s v (k + 1) = leftV a s v k := by
            unfold leftV
            rw [Nat.min_eq_left (by omega), Nat.min_eq_left (by omega), Nat.sub_eq_zero_of_le (by omega), Nat.sub_eq_zero_of_le (by omega)]
          go_wp2_with (first
            | (at_builtin; refine wpList_append_own _ rfl _ _ 35 rfl w.heap.size 5 i0 (.int .u8 0) 1 1 Try.underlying35 hi hz0 hz1 hz2 rfl (by decide) _ _ _ rfl (hown.alloc _) ⟨wr.heap.size, 0, none⟩ 1 1 [.int .u8 (putG g a s v k)] rfl rfl ?c1 ?c2 ?c3 ?c4 ?c5 ?_)
            | go_in)
          case c1 =>
            intro j u hj
            match j, hj with
            | 0, hj => simp at hj; subst hj; simp [Addr.add]
          case c2 => intro u hu; simp at hu; subst hu; rfl
          case c3 => unfold maxLen; omega
          case c4 => omega
          case c5 => have := hnx.size; simp; omega
          intro v' w1' hown' hgrow _
          have hb' : Below w.heap.size w w1' := by
            refine (hnx.alloc hnx.size (.cells #[.int .u8 (putG g a s v k)] 5)).trans ⟨hgrow.os, hgrow.tape, hgrow.output, hgrow.size, fun r hr => hgrow.block r ?_ ?_⟩
            · have := hnx.size; simp; omega
            · intro e
              have := hown.lt r e.symm
              omega
          rw [← bytesL_succ] at hown'
          clear hgrow hown hnx
          go_wp2
          go_roundw
          case rel => exact ⟨k + 1, by omega, by go_num, by rw [hleft], hown', hb'⟩
          case measure => simp [intOf]; omega
    · obtain rfl : k = n := by omega
      go_wp2
      go_ret2
      exact ⟨_, rfl, hown, hnx⟩

set_option maxHeartbeats 800000 in
set_option maxRecDepth 1000000 in
theorem put_not (a0 : Option Addr) (n cap : Nat) (g : Nat → Int) (a s v : Int) (w : World) (hreach : n ≤ 140737488351232) (ha : IntKind.i64.wrap a = a) (hs : IntKind.i64.wrap s = s) (hfit : ¬ thereP n a s)
    (hc : ∀ j, j < n → ∃ b off, a0 = some ⟨b, off, none⟩ ∧ w.cell? ⟨b, off + j, none⟩ = some (.int .u8 (g j))) :
    Calls Try.prog 23 #[.slice a0 n cap, .int .i64 a, .int .i64 s, .int .u64 v] w fun e w' =>
      ∃ l, e = .returned (.tuple #[l, .bool false]) ∧ w'.ownsRow w.heap.size 5 1 l n (bytesL g n) ∧ Below w.heap.size w w' ∧ (n = 0 → l = .slice none 0 0) := by
  obtain ⟨i0, hi, hz0, hz1, hz2⟩ := info_parts info5
  have hth : decide (thereP n a s) = false := decide_eq_false hfit
  go_enter Try.func23, Try.ntmps23
  go_wp2_with fail
  refine (there_any a0 n cap a s w hreach ha hs).mono ?_
  rintro e w1 ⟨rfl, rfl⟩
  rw [hth]
  go_wp2_with fail
  go_loopw [10, 12, 13] (fun l i c wr => ∃ k : Nat, k ≤ n ∧ i = .int .i64 k ∧ wr.ownsRow w.heap.size 5 1 l k (bytesL g k) ∧ Below w.heap.size w wr ∧ (k = 0 → l = .slice none 0 0)) (fun _ i _ _ => n - (intOf i).toNat)
  case atStart => exact ⟨0, Nat.zero_le _, rfl, World.ownsRow_nil _ _ _ _, Below.refl _ _, fun _ => rfl⟩
  case round =>
    obtain ⟨k, hk, rfl, hown, hnx, hnil⟩ := hrel
    by_cases hlt : k < n
    · obtain ⟨b, off, rfl, hx⟩ := hc k hlt
      have hcx := (hnx.cell (World.block_lt_of_cell? w _ hx)).trans hx
      go_wp2_with (first
        | (at_builtin; refine wpList_append_own _ rfl _ _ 35 rfl w.heap.size 5 i0 (.int .u8 0) 1 1 Try.underlying35 hi hz0 hz1 hz2 rfl (by decide) _ _ _ rfl (hown.alloc _) ⟨wr.heap.size, 0, none⟩ 1 1 [.int .u8 (g k)] rfl rfl ?c1 ?c2 ?c3 ?c4 ?c5 ?_)
        | go_in)
      case c1 =>
        intro j u hj
        match j, hj with
        | 0, hj => simp at hj; subst hj; simp [Addr.add]
      case c2 => intro u hu; simp at hu; subst hu; rfl
      case c3 => unfold maxLen; omega
      case c4 => omega
      case c5 => have := hnx.size; simp; omega
      intro v' w1' hown' hgrow _
      have hb' : Below w.heap.size w w1' := by
        refine (hnx.alloc hnx.size (.cells #[.int .u8 (g k)] 5)).trans ⟨hgrow.os, hgrow.tape, hgrow.output, hgrow.size, fun r hr => hgrow.block r ?_ ?_⟩
        · have := hnx.size; simp; omega
        · intro e
          have := hown.lt r e.symm
          omega
      rw [← bytesL_succ] at hown'
      clear hgrow hown hnx hnil
      go_wp2
      go_roundw
      case rel => exact ⟨k + 1, by omega, by go_num, hown', hb', fun h => absurd h (by omega)⟩
      case measure => simp [intOf]; omega
    · obtain rfl : k = n := by omega
      go_wp2
      go_ret2
      exact ⟨_, rfl, hown, hnx, hnil⟩
end Go.Proofs.Ytnjjcklhpgfnjaa.Cop
