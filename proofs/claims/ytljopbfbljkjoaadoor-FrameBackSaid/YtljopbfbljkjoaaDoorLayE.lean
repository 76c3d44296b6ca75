/- frame.Lay, frame.Read: a round, evaluated. -/
import Derived.Test.YtljopbfbljkjoaaDoorCx
namespace Go.WE
set_option linter.unusedVariables false
set_option maxRecDepth 100000
open Go Go.Proofs

def RF.map2 (f : (Nat → U) → Nat → U) (p : RF) : RF := ⟨f p.k, f p.o, f p.m, f p.i, f p.tv, f p.tm, f p.ul, f p.uh, f p.sl, f p.sh⟩
def c1L (s : FSt) (x : U) : Bool := s.kept.k (BitVec.sdiv x (K 8)).toNat != K 0
def c2L (s : FSt) (x : U) : Bool := s.g x.toNat == K 2
def zL (x : U) (i : Int) : U := BitVec.sdiv x (K 8) * K 8 + K i
def putN (n : Nat) (v : U) (g : Nat → U) : Nat → U := fun j => cond (Nat.beq j n) v (g j)
def fillE (x : U) (g : Nat → U) : Nat → U := putN (zL x 7).toNat (K 0) (putN (zL x 6).toNat (K 0) (putN (zL x 5).toNat (K 0) (putN (zL x 4).toNat (K 0) (putN (zL x 3).toNat (K 0) (putN (zL x 2).toNat (K 0) (putN (zL x 1).toNat (K 0) (putN (zL x 0).toNat (K 0) g)))))))
/-- A round of Lay, as the evaluator has it. -/
def layE (s : FSt) (x : U) : FSt :=
  ⟨s.regs.map2 fun f j => cond (c1L s x) (cond (c2L s x) (f j) (f j)) (f j),
   putN x.toNat (K 1) fun j => cond (c1L s x) (cond (c2L s x) (fillE x s.g j) (s.g j)) (s.g j),
   s.kept.map2 fun f j => cond (c1L s x) (putN (BitVec.sdiv x (K 8)).toNat (K 0) (fun j => cond (c2L s x) (f j) (f j)) j) (f j)⟩
def vB (y : U) (n : Nat) : Bool := !(BitVec.msb y) && Nat.blt y.toNat n
def wB (y : U) (n : Nat) : Bool := Nat.blt y.toNat n
def okE (c1 c2 : Bool) (x : U) : Bool :=
  let y := BitVec.sdiv x (K 8)
  let t6 := vB y 16 && wB y 16
  let t9 := t6 && vB x 128
  let t15 := vB (zL x 0) 128 && wB (zL x 0) 128
  let t19 := t15 && vB (zL x 1) 128
  let t24 := (t19 && wB (zL x 1) 128) && vB (zL x 2) 128
  let t29 := (t24 && wB (zL x 2) 128) && vB (zL x 3) 128
  let t34 := (t29 && wB (zL x 3) 128) && vB (zL x 4) 128
  let t39 := (t34 && wB (zL x 4) 128) && vB (zL x 5) 128
  let t44 := (t39 && wB (zL x 5) 128) && vB (zL x 6) 128
  let t49 := (t44 && wB (zL x 6) 128) && vB (zL x 7) 128
  let t51 := (t9 && wB x 128) && (t49 && wB (zL x 7) 128)
  let t52 := cond c2 t51 (t9 && wB x 128)
  let t53 := t52 && vB y 16
  let t54 := cond c1 (t53 && wB y 16) t6
  let t55 := t54 && vB x 128
  t55 && wB x 128
def slL (x : U) : List (Nat × V) := [(3, pt 1), (7, one (.i .i64 x))]
def ms3 (s : FSt) (x y : U) : List (Nat × Blk) := [(0, ⟨true, s.t⟩), (1, ⟨true, .a (.ptr 0 [])⟩), (2, ⟨true, .a (.i .i64 x)⟩), (3, ⟨true, .a (.i .i64 y)⟩)]
theorem lb_ev (s : FSt) (x p q : U) : endM fp8.km [3, 7] [0] 4 (evL lB (slL x) (ms3 s p q) 4).pick = some ⟨.nrm, .b (okE (c1L s x) (c2L s x) x), slL x, [(0, ⟨true, (layE s x).t⟩)]⟩ := by kernel_rfl
theorem lb_wr (s : FSt) (x p q : U) : (evL lB (slL x) (ms3 s p q) 4).pick.map (fun p => p.2.h.wr) = some [0] := by kernel_rfl

theorem okE_true : ∀ (x : Fin 128) (c1 c2 : Bool), okE c1 c2 (BitVec.ofNat 64 x.val) = true := by decide +kernel
theorem idx_facts : ∀ x : Fin 128, (BitVec.ofNat 64 x.val).toNat = x.val ∧ (BitVec.sdiv (BitVec.ofNat 64 x.val) (K 8)).toNat = x.val / 8 ∧ (zL (BitVec.ofNat 64 x.val) 0).toNat = 8 * (x.val / 8) ∧ (zL (BitVec.ofNat 64 x.val) 1).toNat = 8 * (x.val / 8) + 1 ∧ (zL (BitVec.ofNat 64 x.val) 2).toNat = 8 * (x.val / 8) + 2 ∧ (zL (BitVec.ofNat 64 x.val) 3).toNat = 8 * (x.val / 8) + 3 ∧ (zL (BitVec.ofNat 64 x.val) 4).toNat = 8 * (x.val / 8) + 4 ∧ (zL (BitVec.ofNat 64 x.val) 5).toNat = 8 * (x.val / 8) + 5 ∧ (zL (BitVec.ofNat 64 x.val) 6).toNat = 8 * (x.val / 8) + 6 ∧ (zL (BitVec.ofNat 64 x.val) 7).toNat = 8 * (x.val / 8) + 7 := by decide +kernel

/-- A round of Lay. -/
def layB (s : FSt) (b : Nat) : FSt :=
  ⟨s.regs, fun j => cond (Nat.beq j b) (K 1) (cond ((s.kept.k (b / 8) != K 0) && ((s.g b == K 2) && Nat.beq (j / 8) (b / 8))) (K 0) (s.g j)),
   s.kept.map2 fun f j => cond ((s.kept.k (b / 8) != K 0) && Nat.beq j (b / 8)) (K 0) (f j)⟩

theorem beq_eq_decide (a b : Nat) : Nat.beq a b = decide (a = b) := by
  cases h : Nat.beq a b
  · exact (decide_eq_false (fun e => by subst e; rw [Nat.beq_refl] at h; cases h)).symm
  · exact (decide_eq_true (Nat.eq_of_beq_eq_true h)).symm

theorem layE_layB (s : FSt) {b : Nat} (hb : b < 128) : layE s (BitVec.ofNat 64 b) = layB s b := by
  obtain ⟨e0, e1, z0, z1, z2, z3, z4, z5, z6, z7⟩ := idx_facts ⟨b, hb⟩
  simp only at e0 e1 z0 z1 z2 z3 z4 z5 z6 z7
  unfold layE layB
  have h1 : c1L s (BitVec.ofNat 64 b) = (s.kept.k (b / 8) != K 0) := by unfold c1L; rw [e1]
  have h2 : c2L s (BitVec.ofNat 64 b) = (s.g b == K 2) := by unfold c2L; rw [e0]
  rw [h1, h2, e0, e1]
  have hr : (s.regs.map2 fun f j => cond (s.kept.k (b / 8) != K 0) (cond (s.g b == K 2) (f j) (f j)) (f j)) = s.regs := by
    cases s.kept.k (b / 8) != K 0 <;> cases s.g b == K 2 <;> rfl
  rw [hr]
  congr 1
  · funext j
    unfold putN
    cases Nat.beq j b
    · simp only [cond_false]
      unfold fillE putN
      rw [z0, z1, z2, z3, z4, z5, z6, z7]
      simp only [beq_eq_decide]
      cases s.kept.k (b / 8) != K 0
      · simp
      · cases s.g b == K 2
        · simp
        · simp only [cond_true, Bool.true_and]
          by_cases hj : j / 8 = b / 8
          · have hc : j = 8 * (b / 8) ∨ j = 8 * (b / 8) + 1 ∨ j = 8 * (b / 8) + 2 ∨ j = 8 * (b / 8) + 3 ∨ j = 8 * (b / 8) + 4 ∨ j = 8 * (b / 8) + 5 ∨ j = 8 * (b / 8) + 6 ∨ j = 8 * (b / 8) + 7 := by omega
            simp only [hj, decide_true, cond_true]
            rcases hc with rfl | rfl | rfl | rfl | rfl | rfl | rfl | rfl <;> simp
          · have n0 : ¬ j = 8 * (b / 8) := by omega
            have n1 : ¬ j = 8 * (b / 8) + 1 := by omega
            have n2 : ¬ j = 8 * (b / 8) + 2 := by omega
            have n3 : ¬ j = 8 * (b / 8) + 3 := by omega
            have n4 : ¬ j = 8 * (b / 8) + 4 := by omega
            have n5 : ¬ j = 8 * (b / 8) + 5 := by omega
            have n6 : ¬ j = 8 * (b / 8) + 6 := by omega
            have n7 : ¬ j = 8 * (b / 8) + 7 := by omega
            simp [hj, n0, n1, n2, n3, n4, n5, n6, n7]
    · rfl
  · unfold RF.map2 putN
    cases s.kept.k (b / 8) != K 0 <;> cases s.g b == K 2 <;> simp
/-- Lay. -/
def layN (s : FSt) (b : Nat) : Nat → FSt
  | 0 => s
  | n + 1 => layB (layN s b n) (b + n)

end Go.WE
