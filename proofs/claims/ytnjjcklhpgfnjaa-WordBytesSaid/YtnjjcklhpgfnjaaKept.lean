/- crossbarkit.KeptBytes: is a list still what LentBytes made of another one? -/
import Derived.Test.YtnjjcklhpgfnjaaLent
namespace Go.Proofs.Ytnjjcklhpgfnjaa.Cop
open Go Go.RowKit
set_option linter.unusedVariables false

def markG (j : Nat) : Int := 201 + 7 * (j : Int)
def keptP (n : Nat) (g0 g1 : Nat → Int) : Prop := (∀ j, j < n → g0 j = g1 j) ∧ ∀ j, j < 5 → g0 (n + j) = markG j
instance (n : Nat) (g0 g1 : Nat → Int) : Decidable (keptP n g0 g1) := inferInstanceAs (Decidable (_ ∧ _))

set_option maxHeartbeats 800000 in
set_option maxRecDepth 1000000 in
theorem kept_any (b0 o0 cap0 : Nat) (a1 : Option Addr) (n cap1 : Nat) (g0 g1 : Nat → Int) (w : World) (hr : n ≤ 140737488351232) (hcap : n + 5 ≤ cap0)
    (hc0 : ∀ j, j < n + 5 → w.cell? ⟨b0, o0 + j, none⟩ = some (.int .u8 (g0 j))) (hc1 : ∀ j, j < n → ∃ b off, a1 = some ⟨b, off, none⟩ ∧ w.cell? ⟨b, off + j, none⟩ = some (.int .u8 (g1 j))) :
    Calls Try.prog 22 #[.slice (some ⟨b0, o0, none⟩) (n + 5) cap0, .slice a1 n cap1] w fun e w' => e = .returned (.bool (decide (keptP n g0 g1))) ∧ Below w.heap.size w w' := by
  obtain ⟨i0, hi, hz0, hz1, hz2⟩ := info_parts info5
  go_enter Try.func22, Try.ntmps22
  go_wp2_with fail
  refine (same_any (some ⟨b0, o0, none⟩) a1 n cap0 n cap1 g0 g1 w (Nat.le_trans hr (by decide)) (Nat.le_trans hr (by decide)) (fun j hj => ⟨b0, o0, rfl, hc0 j (by omega)⟩) hc1).mono ?_
  rintro e w1 ⟨rfl, hbel1⟩
  go_wp2_with fail
  · have hne : ¬ ∀ j, j < n → g0 j = g1 j := by
      have h : (!decide (∀ j, j < n → g0 j = g1 j)) = true := by assumption
      simpa using h
    have e : decide (keptP n g0 g1) = false := decide_eq_false fun h => hne h.1
    go_ret
    exact ⟨congrArg (fun b => Ending.returned (.bool b)) e.symm, hbel1⟩
  · have hall : ∀ j, j < n → g0 j = g1 j := by
      have h : (!decide (∀ j, j < n → g0 j = g1 j)) = false := by assumption
      simpa using h
    clear ‹(!decide (∀ j, j < n → g0 j = g1 j)) = false›
    have hdec : decide (∀ j, j < n → g0 j = g1 j) = true := decide_eq_true hall
    simp only [hdec, Bool.not_true]
    clear hdec
    go_loopw [5, 6] (fun v i wr => ∃ k : Nat, k ≤ 5 ∧ i = .int .i64 k ∧ wr.ownsRow w.heap.size 5 1 v k (bytesL markG k) ∧ Below w.heap.size w wr) (fun _ i _ => 5 - (intOf i).toNat)
    case atStart => exact ⟨0, Nat.zero_le _, rfl, World.ownsRow_nil _ _ _ _, hbel1⟩
    case round =>
      obtain ⟨k, hk, rfl, hown, hnx⟩ := hrel
      by_cases hlt : k < 5
      · go_wp2_with (first
          | (go_at_call 41; refine (mark_any k hlt _).mono ?_; rintro e w' ⟨rfl, rfl⟩)
          | (at_builtin; refine wpList_append_own _ rfl _ _ 35 rfl w.heap.size 5 i0 (.int .u8 0) 1 1 Try.underlying35 hi hz0 hz1 hz2 rfl (by decide) _ _ _ rfl (hown.alloc _) ⟨wr.heap.size, 0, none⟩ 1 1 [.int .u8 (201 + 7 * (k : Int))] rfl rfl ?c1 ?c2 ?c3 ?c4 ?c5 ?_)
          | go_in)
        case c1 =>
          intro j u hj
          match j, hj with
          | 0, hj => simp at hj; subst hj; simp [Addr.add]
        case c2 => intro u hu; simp at hu; subst hu; rfl
        case c3 => unfold maxLen; omega
        case c4 => omega
        case c5 => have := hnx.size; simp; omega
        intro v' w1' hown' hgrow _
        have hb' : Below w.heap.size w w1' := by
          refine (hnx.alloc hnx.size (.cells #[.int .u8 (201 + 7 * (k : Int))] 5)).trans ⟨hgrow.os, hgrow.tape, hgrow.output, hgrow.size, fun r hr => hgrow.block r ?_ ?_⟩
          · have := hnx.size; simp; omega
          · intro e
            have := hown.lt r e.symm
            omega
        rw [show (201 + 7 * (k : Int)) = markG k from rfl, ← bytesL_succ] at hown'
        clear hgrow hown hnx
        go_wp2
        go_roundw
        case rel => exact ⟨k + 1, by omega, by go_num, hown', hb'⟩
        case measure => simp [intOf]; omega
      · obtain rfl : k = 5 := by omega
        obtain ⟨_, hcase⟩ := hown
        rcases hcase with ⟨_, e0⟩ | ⟨b', cap', cur, rfl, hge, hh, hncap, hcap', hsz, htake⟩
        · omega
        · go_wp2_with fail
          refine (same_any (some ⟨b0, o0 + n, none⟩) (some ⟨b', 0, none⟩) 5 (cap0 - n) 5 cap' (fun j => g0 (n + j)) markG wr (by decide) (by decide) (fun j hj => ⟨b0, o0 + n, rfl, ?_⟩) (fun j hj => ⟨b', 0, rfl, ?_⟩)).mono ?_
          · have hx := hc0 (n + j) (by omega)
            rw [Nat.add_assoc]
            exact (hnx.cell (World.block_lt_of_cell? w _ hx)).trans hx
          · have h1 : (List.take (5 * 1) cur.toList)[j]? = (bytesL markG 5)[j]? := by rw [htake]
            rw [List.getElem?_take_of_lt (by omega)] at h1
            simp only [bytesL, List.getElem?_map, List.getElem?_range hj, Option.map_some, Array.getElem?_toList] at h1
            simp [World.cell?, hh, h1]
          · rintro e w2 ⟨rfl, hbel2⟩
            go_wp2_with fail
            go_ret
            refine ⟨congrArg (fun b => Ending.returned (.bool b)) ?_, hnx.trans (hbel2.mono hnx.size)⟩
            refine decide_eq_decide.2 ?_
            exact ⟨fun h => ⟨hall, h⟩, fun h => h.2⟩
end Go.Proofs.Ytnjjcklhpgfnjaa.Cop
