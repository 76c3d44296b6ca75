/- crossbarkit.LentBytes: a list with five marks behind it. -/
import Derived.Test.YtnjjcklhpgfnjaaCopy
namespace Go.Proofs.Ytnjjcklhpgfnjaa.Cop
open Go Go.RowKit
set_option linter.unusedVariables false

def lentG (g : Nat → Int) (n j : Nat) : Int := if j < n then g j else 201 + 7 * ((j - n : Nat) : Int)
theorem lentG_low (g : Nat → Int) (n : Nat) : bytesL (lentG g n) n = bytesL g n := by
  unfold bytesL
  refine List.map_congr_left fun j hj => ?_
  simp only [List.mem_range] at hj
  simp [lentG, hj]

theorem mark_any (k : Nat) (hk : k < 5) (w : World) : Calls Try.prog 41 #[.int .i64 k] w fun e w' => e = .returned (.int .u8 (201 + 7 * (k : Int))) ∧ w = w' := by
  match k, hk with
  | 0, _ | 1, _ | 2, _ | 3, _ | 4, _ =>
    go_enter Try.func41, Try.ntmps41
    go_wp2
    go_ret
    exact ⟨by first | rfl | decide | simp, rfl⟩

set_option maxHeartbeats 800000 in
set_option maxRecDepth 1000000 in
theorem lent_any (b off len cap : Nat) (g : Nat → Int) (w : World) (hreach : len ≤ 140737488351232) (hb : b < w.heap.size) (h0 : 0 < len)
    (hc : ∀ j, j < len → w.cell? ⟨b, off + j, none⟩ = some (.int .u8 (g j))) :
    Calls Try.prog 19 #[.slice (some ⟨b, off, none⟩) len cap] w fun e w' =>
      ∃ v, e = .returned v ∧ w'.ownsRow w.heap.size 5 1 v (len + 5) (bytesL (lentG g len) (len + 5)) ∧ Below w.heap.size w w' := by
  obtain ⟨i0, hi, hz0, hz1, hz2⟩ := info_parts info5
  go_enter Try.func19, Try.ntmps19
  go_wp2_with fail
  refine (copy_any b off len cap g w hreach hb hc).mono ?_
  rintro e w1 ⟨v1, rfl, hown1, hbel1, _⟩
  rw [← lentG_low] at hown1
  go_wp2_with fail
  go_loopw [3, 4] (fun v i wr => ∃ k : Nat, k ≤ 5 ∧ i = .int .i64 k ∧ wr.ownsRow w.heap.size 5 1 v (len + k) (bytesL (lentG g len) (len + k)) ∧ Below w.heap.size w wr) (fun _ i _ => 5 - (intOf i).toNat)
  case atStart => exact ⟨0, Nat.zero_le _, rfl, hown1, hbel1⟩
  case round =>
    obtain ⟨k, hk, rfl, hown, hnx⟩ := hrel
    by_cases hlt : k < 5
    · go_wp2_with (first
        | (go_at_call 41; refine (mark_any k hlt _).mono ?_; rintro e w' ⟨rfl, rfl⟩)
        | (at_builtin; refine wpList_append_own _ rfl _ _ 35 rfl w.heap.size 5 i0 (.int .u8 0) 1 1 Try.underlying35 hi hz0 hz1 hz2 rfl (by decide) _ _ _ rfl (hown.alloc _) ⟨wr.heap.size, 0, none⟩ 1 1 [.int .u8 (201 + 7 * (k : Int))] rfl rfl ?c1 ?c2 ?c3 ?c4 ?c5 ?_)
        | go_in)
      case c1 =>
        intro j u hj
        match j, hj with
        | 0, hj => simp at hj; subst hj; simp [Addr.add]
      case c2 => intro u hu; simp at hu; subst hu; rfl
      case c3 => unfold maxLen; omega
      case c4 => omega
      case c5 => have := hnx.size; simp; omega
      intro v' w1' hown' hgrow _
      have hb' : Below w.heap.size w w1' := by
        refine (hnx.alloc hnx.size (.cells #[.int .u8 (201 + 7 * (k : Int))] 5)).trans ⟨hgrow.os, hgrow.tape, hgrow.output, hgrow.size, fun r hr => hgrow.block r ?_ ?_⟩
        · have := hnx.size; simp; omega
        · intro e
          have := hown.lt r e.symm
          omega
      have eg : lentG g len (len + k) = 201 + 7 * (k : Int) := by
        unfold lentG
        rw [if_neg (by omega), Nat.add_sub_cancel_left]
      rw [← eg, ← bytesL_succ] at hown'
      clear hgrow hown hnx eg
      go_wp2
      go_roundw
      case rel => exact ⟨k + 1, by omega, by go_num, hown', hb'⟩
      case measure => simp [intOf]; omega
    · obtain rfl : k = 5 := by omega
      go_wp2
      go_ret
      exact ⟨_, rfl, hown, hnx⟩

set_option maxHeartbeats 800000 in
set_option maxRecDepth 1000000 in
/-- Of a list that is empty. -/
theorem lent_empty (a : Option Addr) (cap : Nat) (w : World) : Calls Try.prog 19 #[.slice a 0 cap] w fun e w' =>
      ∃ v, e = .returned v ∧ w'.ownsRow w.heap.size 5 1 v 5 (bytesL (lentG (fun _ => 0) 0) 5) ∧ Below w.heap.size w w' := by
  obtain ⟨i0, hi, hz0, hz1, hz2⟩ := info_parts info5
  go_enter Try.func19, Try.ntmps19
  go_wp2_with fail
  refine (copy_empty a cap w).mono ?_
  rintro e w1 ⟨rfl, hbel1⟩
  go_wp2_with fail
  go_loopw [3, 4] (fun v i wr => ∃ k : Nat, k ≤ 5 ∧ i = .int .i64 k ∧ wr.ownsRow w.heap.size 5 1 v k (bytesL (lentG (fun _ => 0) 0) k) ∧ Below w.heap.size w wr) (fun _ i _ => 5 - (intOf i).toNat)
  case atStart => exact ⟨0, Nat.zero_le _, rfl, World.ownsRow_nil _ _ _ _, hbel1⟩
  case round =>
    obtain ⟨k, hk, rfl, hown, hnx⟩ := hrel
    by_cases hlt : k < 5
    · go_wp2_with (first
        | (go_at_call 41; refine (mark_any k hlt _).mono ?_; rintro e w' ⟨rfl, rfl⟩)
        | (at_builtin; refine wpList_append_own _ rfl _ _ 35 rfl w.heap.size 5 i0 (.int .u8 0) 1 1 Try.underlying35 hi hz0 hz1 hz2 rfl (by decide) _ _ _ rfl (hown.alloc _) ⟨wr.heap.size, 0, none⟩ 1 1 [.int .u8 (201 + 7 * (k : Int))] rfl rfl ?c1 ?c2 ?c3 ?c4 ?c5 ?_)
        | go_in)
      case c1 =>
        intro j u hj
        match j, hj with
        | 0, hj => simp at hj; subst hj; simp [Addr.add]
      case c2 => intro u hu; simp at hu; subst hu; rfl
      case c3 => unfold maxLen; omega
      case c4 => omega
      case c5 => have := hnx.size; simp; omega
      intro v' w1' hown' hgrow _
      have hb' : Below w.heap.size w w1' := by
        refine (hnx.alloc hnx.size (.cells #[.int .u8 (201 + 7 * (k : Int))] 5)).trans ⟨hgrow.os, hgrow.tape, hgrow.output, hgrow.size, fun r hr => hgrow.block r ?_ ?_⟩
        · have := hnx.size; simp; omega
        · intro e
          have := hown.lt r e.symm
          omega
      have eg : lentG (fun _ => 0) 0 k = 201 + 7 * (k : Int) := by
        unfold lentG
        rw [if_neg (by omega), Nat.sub_zero]
      rw [← eg, ← bytesL_succ] at hown'
      clear hgrow hown hnx eg
      go_wp2
      go_roundw
      case rel => exact ⟨k + 1, by omega, by go_num, hown', hb'⟩
      case measure => simp [intOf]; omega
    · obtain rfl : k = 5 := by omega
      go_wp2
      go_ret
      exact ⟨_, rfl, hown, hnx⟩
end Go.Proofs.Ytnjjcklhpgfnjaa.Cop
