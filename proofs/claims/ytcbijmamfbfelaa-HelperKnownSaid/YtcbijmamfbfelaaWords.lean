/- helper.words: the numbers that bytes are. -/
import Derived.Test.YtcbijmamfbfelaaCx
import Derived.OwnWalk
namespace Go.Proofs.Ytcbijmamfbfelaa.Wor
open Go Go.RowKit
set_option linter.unusedVariables false

def numsL (g : Nat → Int) (k : Nat) : List Value := (List.range k).map fun j => .int .u64 (g j)
theorem numsL_succ (g : Nat → Int) (k : Nat) : numsL g (k + 1) = numsL g k ++ [.int .u64 (g k)] := by simp [numsL, List.range_succ]
theorem info29 : (Try.prog.info? 29).map (fun i => (i.zero, i.size, i.bytes)) = some (some (.int .u64 0), 1, 8) := by kernel_rfl
theorem ownsRow_below {B : Nat} {e : TypeId} {k : Nat} {v : Value} {n : Nat} {xs : List Value} {w w' : World} (h : w.ownsRow B e k v n xs) (hb : Below w.heap.size w w') : w'.ownsRow B e k v n xs := by
  obtain ⟨h1, h2⟩ := h
  refine ⟨h1, ?_⟩
  rcases h2 with h2 | ⟨g, cap, cur, r1, r2, r3, r4⟩
  · exact .inl h2
  · exact .inr ⟨g, cap, cur, r1, r2, by rw [hb.block g (Array.getElem?_eq_some_iff.1 r3).1]; exact r3, r4⟩

set_option maxHeartbeats 800000 in
set_option maxRecDepth 1000000 in
theorem words_any (b off cap m : Nat) (hm : m = 1 ∨ m = 2) (g : Nat → Int) (w : World) (hb : b < w.heap.size)
    (hget : ∀ j, j < m → ∀ w1 : World, w1.heap[b]? = w.heap[b]? → Calls Try.prog 35 #[.slice (some ⟨b, off, none⟩) (8 * m) cap, .int .i64 (8 * (j : Int)), .int .i64 8] w1 fun e w' => e = .returned (.tuple #[.int .u64 (g j), .bool true]) ∧ Below w1.heap.size w1 w') :
    Calls Try.prog 30 #[.slice (some ⟨b, off, none⟩) (8 * m) cap] w fun e w' =>
      ∃ v, e = .returned v ∧ w'.ownsRow w.heap.size 29 1 v m (numsL g m) ∧ Below w.heap.size w w' := by
  obtain ⟨i0, hi, hz0, hz1, hz2⟩ := info_parts info29
  have hq : (((8 * m : Nat) : Int).tdiv 8) = (m : Int) := by rcases hm with rfl | rfl <;> rfl
  go_enter Try.func30, Try.ntmps30
  go_wp2_with fail
  go_loopw [2, 9] (fun v i wr => ∃ k : Nat, k ≤ m ∧ i = .int .i64 k ∧ wr.ownsRow w.heap.size 29 1 v k (numsL g k) ∧ Below w.heap.size w wr) (fun _ i _ => m - (intOf i).toNat)
  case atStart => exact ⟨0, Nat.zero_le _, rfl, World.ownsRow_nil _ _ _ _, Below.refl _ _⟩
  case round =>
    obtain ⟨k, hk, rfl, hown, hnx⟩ := hrel
    by_cases hlt : k < m
    · have hg := hget k hlt wr (hnx.block b hb)
      go_wp2_with fail
      refine hg.mono ?_
      rintro e w1 ⟨rfl, hbel⟩
      have hown1 := ownsRow_below hown hbel
      have hnx1 : Below w.heap.size w w1 := hnx.trans (hbel.mono hnx.size)
      clear hown hnx hbel hg
      go_wp2_with (first
        | (at_builtin; refine wpList_append_own _ rfl _ _ 30 rfl w.heap.size 29 i0 (.int .u64 0) 1 8 Try.underlying30 hi hz0 hz1 hz2 rfl (by decide) _ _ _ rfl (hown1.alloc _) ⟨w1.heap.size, 0, none⟩ 1 1 [.int .u64 (g k)] rfl rfl ?c1 ?c2 ?c3 ?c4 ?c5 ?_)
        | go_in)
      case c1 =>
        intro j u hj
        match j, hj with
        | 0, hj => simp at hj; subst hj; simp [Addr.add]
      case c2 => intro u hu; simp at hu; subst hu; rfl
      case c3 => unfold maxLen; omega
      case c4 => omega
      case c5 => have := hnx1.size; simp; omega
      intro v' w2 hown' hgrow _
      have hb' : Below w.heap.size w w2 := by
        refine (hnx1.alloc hnx1.size (.cells #[.int .u64 (g k)] 29)).trans ⟨hgrow.os, hgrow.tape, hgrow.output, hgrow.size, fun r hr => hgrow.block r ?_ ?_⟩
        · have := hnx1.size; simp; omega
        · intro e
          have := hown1.lt r e.symm
          omega
      rw [← numsL_succ] at hown'
      clear hgrow hown1 hnx1
      go_wp2
      go_roundw
      case rel => exact ⟨k + 1, by omega, by go_num, hown', hb'⟩
      case measure => simp [intOf]; omega
    · obtain rfl : k = m := by omega
      go_wp2
      go_ret
      exact ⟨_, rfl, hown, hnx⟩
end Go.Proofs.Ytcbijmamfbfelaa.Wor
