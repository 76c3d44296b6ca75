/- frame.each: the iterator over bytes' numbers has its contract. -/
import Derived.RangeFuncFrom
import Derived.RangeFuncBox
import Derived.RangeFuncLeaves
import Derived.Shelf.Abstract
import Derived.WalkKit
import Derived.OwnWalkIn
import Derived.TacticsInMore
import Derived.LoopNIn
import Derived.LoopIn
import Derived.Test.YtljopbfbljkjoaaDoorRows
namespace Go.Proofs.YtljopbfbljkjoaaDoor.Eac
open Go Go.Proofs Go.RowKit Go.Shelf
set_option linter.unusedVariables false
attribute [local go_sem] Oper.semAt_some

/-- A byte's number. -/
abbrev Bx := { x : Nat // x < 128 }
def encB (x : Bx) : Array Value := #[.int .i64 (x.1 : Int)]
def bx (i : Nat) : Bx := if h : i < 128 then ⟨i, h⟩ else ⟨0, by decide⟩
theorem bx_val {i : Nat} (h : i < 128) : (bx i).1 = i := by unfold bx; rw [dif_pos h]
/-- What has come when k rounds are over. -/
def upto (s k : Nat) : List Bx := (List.range k).map fun j => bx (s + j)
theorem upto_succ (s k : Nat) : upto s (k + 1) = upto s k ++ [bx (s + k)] := by simp [upto, List.range_succ]
theorem upto_length (s k : Nat) : (upto s k).length = k := by simp [upto]
def KpA (b : Nat) (W W' : World) : Prop := W'.cell? ⟨b, 0, none⟩ = W.cell? ⟨b, 0, none⟩

set_option maxRecDepth 100000 in
set_option maxHeartbeats 2000000 in
theorem each1_in (F : Fence) (n : Nat) (h61 : F.fn 61) (hro : F.round = none) (hn : 1 ≤ n) (l Bn Ba s c : Nat) (hs : s + c ≤ 128) (J Jx : List Bx → World → Prop)
    (hY : ∀ pre x W, J pre W → pre.length < c → YieldAt F (n - 1) Tryd.prog l (encB x) W fun e W' =>
      (e = .returned (.bool true) ∧ J (pre ++ [x]) W' ∧ KpA Ba W W') ∨ (e = .returned (.bool false) ∧ Jx (pre ++ [x]) W'))
    (W : World) (hBn : W.cell? ⟨Bn, 0, none⟩ = some (.int .i64 (c : Int))) (hBa : W.cell? ⟨Ba, 0, none⟩ = some (.int .i64 ((s : Int) - 128))) (h0 : J [] W) :
    CallsIn F n Tryd.prog 61 #[.func (.yield l) #[] #[], .pointer (some ⟨Bn, 0, none⟩), .pointer (some ⟨Ba, 0, none⟩)] W fun e W' => (∃ v, e = .returned v) ∧
      ((∃ ys, ys = upto s c ∧ J ys W') ∨ (∃ pre, (∃ k, k ≤ c ∧ pre = upto s k) ∧ Jx pre W')) := by
  refine callsIn_of_wp Tryd.func61 rfl h61 ?_ hro
  simp only [Tryd.ntmps61, List.size_toArray, List.length_cons, List.length_nil, Nat.reduceAdd, Nat.reduceSub, Array.replicate_succ, Array.replicate_zero, List.push_toArray, List.append_toArray, List.nil_append, List.cons_append]
  gi_wp2
  gi_loopw [6] (fun i wr => ∃ k : Nat, k ≤ c ∧ i = .int .i64 k ∧ J (upto s k) wr ∧ KpA Ba W wr)
    (fun i _ => c - (intOf i).toNat)
  case atStart => exact ⟨0, Nat.zero_le _, rfl, h0, rfl⟩
  case round =>
    obtain ⟨k, hk, rfl, hJs, hnx⟩ := hrel
    have hca : wr.cell? ⟨Ba, 0, none⟩ = some (.int .i64 ((s : Int) - 128)) := Eq.trans hnx hBa
    by_cases hlt : k < c
    · obtain ⟨fn, tmps, assign, body, hy, hR⟩ := hY _ (bx (s + k)) wr hJs (by rw [upto_length]; exact hlt)
      have e1 : encB (bx (s + k)) = #[.int .i64 ((s : Int) + k)] := by unfold encB; rw [bx_val (by omega)]; simp
      rw [e1] at hy
      have e2 : 128 + ((s : Int) - 128) + (k : Int) = (s : Int) + k := by omega
      gi_wp2
      refine hR.mono ?_
      rintro e W3 (⟨rfl, hJ3, hk3⟩ | ⟨rfl, hJx3⟩)
      · gi_wp2
        go_roundw
        case rel => exact ⟨k + 1, by omega, by simp, by rw [upto_succ]; exact hJ3, Eq.trans hk3 hnx⟩
        case measure => simp [intOf]; omega
      · gi_wp2
        refine bodyPost_ret (results_none rfl _ _ _) rfl ?_
        exact ⟨⟨_, rfl⟩, .inr ⟨_, ⟨k + 1, by omega, (upto_succ _ _).symm⟩, hJx3⟩⟩
    · obtain rfl : k = c := by omega
      gi_wp2
      go_end0
      exact ⟨⟨_, rfl⟩, .inl ⟨_, rfl, hJs⟩⟩

/-- The iterator's contract. -/
theorem each_stops (F : Fence) (n : Nat) (h61 : F.fn 61) (hro : F.round = none) (hn : 1 ≤ n) (Bn Ba s c : Nat) (hs : s + c ≤ 128) (w : World) (hBn : w.cell? ⟨Bn, 0, none⟩ = some (.int .i64 (c : Int))) (hBa : w.cell? ⟨Ba, 0, none⟩ = some (.int .i64 ((s : Int) - 128))) :
    SeqStopsK F n Tryd.prog 61 #[.pointer (some ⟨Bn, 0, none⟩), .pointer (some ⟨Ba, 0, none⟩)] encB (KpA Ba) (fun ys => ys = upto s c) (fun pre => ∃ k, k ≤ c ∧ pre = upto s k) c w := fun l J Jx W hW _ _ hY h0 =>
  each1_in F n h61 hro hn l Bn Ba s c hs J Jx hY W ((hW.cell (World.block_lt_of_cell? w _ hBn)).trans hBn) ((hW.cell (World.block_lt_of_cell? w _ hBa)).trans hBa) h0
theorem kpA_t {b : Nat} {A B C : World} (h : KpA b A B) (k : KpA b B C) : KpA b A C := Eq.trans k h
theorem kpA_b {b : Nat} {w : World} (hb : b < w.heap.size) (W : World) (l : Nat) (o o' : Obj) (hl : w.heap.size ≤ l) (h : W.heap[l]? = some o) (_ : o.isCells = false) (_ : o.isWalk = false) : KpA b W (W.putObj l o') := by
  have : (W.putObj l o').heap[b]? = W.heap[b]? := World.putObj_heap_other (by omega)
  exact World.cell?_of_block this
end Go.Proofs.YtljopbfbljkjoaaDoor.Eac
