/- crossbarkit.CopyBytes: it gives a row of its own that holds the same bytes. -/
import Derived.Test.YtnjjcklhpgfnjaaRows
import Derived.WalkKit
import Derived.OwnWalk
namespace Go.Proofs.Ytnjjcklhpgfnjaa.Cop
open Go Go.RowKit
set_option linter.unusedVariables false

def bytesL (g : Nat → Int) (k : Nat) : List Value := (List.range k).map fun j => .int .u8 (g j)
theorem bytesL_len (g : Nat → Int) (k : Nat) : (bytesL g k).length = k := by simp [bytesL]
theorem bytesL_succ (g : Nat → Int) (k : Nat) : bytesL g (k + 1) = bytesL g k ++ [.int .u8 (g k)] := by simp [bytesL, List.range_succ]

theorem info5 : (Try.prog.info? 5).map (fun i => (i.zero, i.size, i.bytes)) = some (some (.int .u8 0), 1, 1) := by kernel_rfl

set_option maxHeartbeats 800000 in
set_option maxRecDepth 1000000 in
theorem copy_any (b off len cap : Nat) (g : Nat → Int) (w : World) (hreach : len ≤ 140737488351232) (hb : b < w.heap.size)
    (hc : ∀ j, j < len → w.cell? ⟨b, off + j, none⟩ = some (.int .u8 (g j))) :
    Calls Try.prog 25 #[.slice (some ⟨b, off, none⟩) len cap] w fun e w' =>
      ∃ v, e = .returned v ∧ w'.ownsRow w.heap.size 5 1 v len (bytesL g len) ∧ Below w.heap.size w w' ∧ (len = 0 → v = .slice none 0 0) := by
  obtain ⟨i0, hi, hz0, hz1, hz2⟩ := info_parts info5
  go_enter Try.func25, Try.ntmps25
  go_wp2_with fail
  go_loopw [3, 4] (fun v i wr => ∃ k : Nat, k ≤ len ∧ i = .int .i64 k ∧ wr.ownsRow w.heap.size 5 1 v k (bytesL g k) ∧ Below w.heap.size w wr ∧ (k = 0 → v = .slice none 0 0))
    (fun _ i _ => len - (intOf i).toNat)
  case atStart => exact ⟨0, Nat.zero_le _, rfl, World.ownsRow_nil _ _ _ _, Below.refl _ _, fun _ => rfl⟩
  case round =>
    obtain ⟨k, hk, rfl, hown, hnx, hnil⟩ := hrel
    have hcx : k < len → wr.cell? ⟨b, off + k, none⟩ = some (.int .u8 (g k)) := fun h => (hnx.cell hb).trans (hc k h)
    go_wp2_with (first
      | (at_builtin; refine wpList_append_own _ rfl _ _ 35 rfl w.heap.size 5 i0 (.int .u8 0) 1 1 Try.underlying35 hi hz0 hz1 hz2 rfl (by decide) _ _ _ rfl (hown.alloc _) ⟨wr.heap.size, 0, none⟩ 1 1 [.int .u8 (g k)] rfl rfl ?c1 ?c2 ?c3 ?c4 ?c5 ?_)
      | go_in)
    case c1 =>
      intro j u hj
      match j, hj with
      | 0, hj => simp at hj; subst hj; simp [Addr.add]
    case c2 => intro u hu; simp at hu; subst hu; rfl
    case c3 => unfold maxLen; omega
    case c4 => omega
    case c5 => have := hnx.size; simp; omega
    · intro v' w1 hown' hgrow _
      have hlt : k < len := by assumption
      have hb' : Below w.heap.size w w1 := by
        refine (hnx.alloc hnx.size (.cells #[.int .u8 (g k)] 5)).trans ⟨hgrow.os, hgrow.tape, hgrow.output, hgrow.size, fun r hr => hgrow.block r ?_ ?_⟩
        · have := hnx.size; simp; omega
        · intro e
          have := hown.lt r e.symm
          omega
      rw [← bytesL_succ] at hown'
      clear hgrow hown hcx hnx hnil
      go_wp2
      go_roundw
      case rel => exact ⟨k + 1, by omega, by go_num, hown', hb', fun h => absurd h (by omega)⟩
      case measure => simp [intOf]; omega
    · have hge : ¬ k < len := by assumption
      obtain rfl : k = len := by omega
      go_ret
      exact ⟨_, rfl, hown, hnx, hnil⟩

theorem copy_empty (a : Option Addr) (cap : Nat) (w : World) : Calls Try.prog 25 #[.slice a 0 cap] w fun e w' => e = .returned (.slice none 0 0) ∧ Below w.heap.size w w' := by
  go_enter Try.func25, Try.ntmps25
  go_wp2
  refine wp_loop_rounds 1 ?_
  rw [rounds_succ]
  go_wp2
  go_ret
  exact ⟨rfl, Below.refl _ _⟩

/-! ### SameBytes -/

set_option maxHeartbeats 800000 in
set_option maxRecDepth 1000000 in
theorem same_any (a0 a1 : Option Addr) (len0 cap0 len1 cap1 : Nat) (g0 g1 : Nat → Int) (w : World) (hr0 : len0 ≤ 140737488351232) (hr1 : len1 ≤ 140737488351232)
    (hc0 : ∀ j, j < len0 → ∃ b off, a0 = some ⟨b, off, none⟩ ∧ w.cell? ⟨b, off + j, none⟩ = some (.int .u8 (g0 j))) (hc1 : ∀ j, j < len1 → ∃ b off, a1 = some ⟨b, off, none⟩ ∧ w.cell? ⟨b, off + j, none⟩ = some (.int .u8 (g1 j))) :
    Calls Try.prog 26 #[.slice a0 len0 cap0, .slice a1 len1 cap1] w fun e w' => e = .returned (.bool (decide (len0 = len1 ∧ ∀ j, j < len0 → g0 j = g1 j))) ∧ Below w.heap.size w w' := by
  go_enter Try.func26, Try.ntmps26
  go_wp2
  · have hne : ¬ len0 = len1 := by
      intro e
      subst e
      have h : ((len0 : Int) != (len0 : Int)) = true := by assumption
      simp at h
    go_ret
    exact ⟨by simp [hne], Below.refl _ _⟩
  · have heq : len0 = len1 := by
      have h : ((len0 : Int) != (len1 : Int)) = false := by assumption
      simp at h
      exact Int.ofNat.inj h
    subst heq
    go_loopw [5] (fun i wr => ∃ k : Nat, k ≤ len0 ∧ i = .int .i64 k ∧ Below w.heap.size w wr ∧ ∀ j, j < k → g0 j = g1 j) (fun i _ => len0 - (intOf i).toNat)
    case atStart => exact ⟨0, Nat.zero_le _, rfl, Below.refl _ _, fun j hj => absurd hj (Nat.not_lt_zero _)⟩
    case round =>
      obtain ⟨k, hk, rfl, hnx, hall⟩ := hrel
      by_cases hlt : k < len0
      · obtain ⟨b0, o0, rfl, hx0⟩ := hc0 k hlt
        obtain ⟨b1, o1, rfl, hx1⟩ := hc1 k hlt
        have hy0 := (hnx.cell (World.block_lt_of_cell? w _ hx0)).trans hx0
        have hy1 := (hnx.cell (World.block_lt_of_cell? w _ hx1)).trans hx1
        go_wp2
        all_goals (try go_region)
        all_goals (try go_wp2)
        · have hne : (g0 k != g1 k) = true := by assumption
          have hne : g0 k ≠ g1 k := by simpa using hne
          have e : decide (∀ j, j < len0 → g0 j = g1 j) = false := decide_eq_false (fun h => hne (h k hlt))
          go_ret
          exact ⟨congrArg (fun b => Ending.returned (.bool b)) e.symm, hnx.drew⟩
        · have heq : (g0 k != g1 k) = false := by assumption
          have heq : g0 k = g1 k := by simpa using heq
          go_roundw
          case rel =>
            refine ⟨k + 1, by omega, by go_num, hnx.drew, fun j hj => ?_⟩
            rcases Nat.lt_or_ge j k with h | h
            · exact hall j h
            · obtain rfl : j = k := by omega
              exact heq
          case measure => simp [intOf]; omega
      · obtain rfl : k = len0 := by omega
        go_wp2
        go_ret
        have e : decide (∀ j, j < k → g0 j = g1 j) = true := decide_eq_true hall
        exact ⟨congrArg (fun b => Ending.returned (.bool b)) e.symm, hnx⟩
end Go.Proofs.Ytnjjcklhpgfnjaa.Cop
