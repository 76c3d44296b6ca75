/- Bytes turned round: what the document sums up bit by bit is what the program shifts. -/
import Derived.Test.YtnjjcklhpgfnjaaSpec
namespace Go.VE
open Go

def psum (f : Nat → Bool) (p : Nat → Nat) : Nat → U
  | 0 => K 0
  | n + 1 => cond (f n) (psum f p n + K (Int.ofNat (2 ^ (p n)))) (psum f p n)

theorem psum_getLsbD (f : Nat → Bool) (p : Nat → Nat) : ∀ (n : Nat), (∀ i, i < n → p i < 64) → (∀ i j, i < n → j < n → p i = p j → i = j) → ∀ j, (psum f p n).getLsbD j = (List.range n).any fun i => p i == j && f i
  | 0, _, _, j => by simp [psum]
  | n + 1, h1, h2, j => by
    have ih := psum_getLsbD f p n (fun i hi => h1 i (by omega)) (fun i j hi hj => h2 i j (by omega) (by omega))
    rw [List.range_succ, List.any_append]
    unfold psum
    cases hf : f n
    · rw [cond_false, ih]; simp [hf]
    · rw [cond_true, K_two]
      have hz : psum f p n &&& BitVec.twoPow 64 (p n) = 0#64 := by
        apply BitVec.eq_of_getLsbD_eq
        intro i hi
        rw [BitVec.getLsbD_and, ih, BitVec.getLsbD_twoPow]
        by_cases e : p n = i
        · subst e
          have : ((List.range n).any fun i => p i == p n && f i) = false := by
            rw [List.any_eq_false]
            intro k hk
            have hk := List.mem_range.1 hk
            have hne : p k ≠ p n := fun e => by have := h2 k n (by omega) (by omega) e; omega
            simp [hne]
          rw [this]; simp
        · simp [e]
      rw [BitVec.add_eq_or_of_and_eq_zero _ _ hz, BitVec.getLsbD_or, ih, BitVec.getLsbD_twoPow]
      have := h1 n (by omega)
      by_cases e : p n = j
      · subst e; simp [hf, this]
      · simp [e]

structure Lin (f : U → U) : Prop where
  zero : f 0#64 = 0#64
  or : ∀ x y, f (x ||| y) = f x ||| f y

theorem Lin.id : Lin fun x => x := ⟨rfl, fun _ _ => rfl⟩
theorem Lin.shl {f : U → U} (h : Lin f) (n : Nat) : Lin fun x => f x <<< n := ⟨by show f 0#64 <<< n = _; rw [h.zero]; simp, fun x y => by show f (x ||| y) <<< n = _; rw [h.or, BitVec.shiftLeft_or_distrib]⟩
theorem Lin.shr {f : U → U} (h : Lin f) (n : Nat) : Lin fun x => f x >>> n := ⟨by show f 0#64 >>> n = _; rw [h.zero]; simp, fun x y => by show f (x ||| y) >>> n = _; rw [h.or, BitVec.ushiftRight_or_distrib]⟩
theorem Lin.and {f : U → U} (h : Lin f) (c : U) : Lin fun x => f x &&& c := ⟨by show f 0#64 &&& c = _; rw [h.zero]; simp, fun x y => by
  show f (x ||| y) &&& c = _; rw [h.or]
  apply BitVec.eq_of_getLsbD_eq; intro i _
  simp only [BitVec.getLsbD_and, BitVec.getLsbD_or, Bool.and_or_distrib_right]⟩
theorem Lin.orr {f g : U → U} (h : Lin f) (h' : Lin g) : Lin fun x => f x ||| g x := ⟨by show f 0#64 ||| g 0#64 = _; rw [h.zero, h'.zero]; rfl, fun x y => by
  show f (x ||| y) ||| g (x ||| y) = _; rw [h.or, h'.or]
  apply BitVec.eq_of_getLsbD_eq; intro i _
  simp only [BitVec.getLsbD_or]
  cases (f x).getLsbD i <;> cases (f y).getLsbD i <;> cases (g x).getLsbD i <;> cases (g y).getLsbD i <;> rfl⟩

theorem lin_bsum {f g : U → U} (hf : Lin f) (hg : Lin g) (h : ∀ i, i < 64 → f (BitVec.twoPow 64 i) = g (BitVec.twoPow 64 i)) (b : Nat → Bool) : ∀ n, n ≤ 64 → f (bsum b n) = g (bsum b n)
  | 0, _ => by show f (K 0) = g (K 0); rw [K0, hf.zero, hg.zero]
  | n + 1, hn => by
    unfold bsum
    cases b n
    · exact lin_bsum hf hg h b n (by omega)
    · rw [cond_true, K_two]
      have hz : bsum b n &&& BitVec.twoPow 64 n = 0#64 := by
        apply BitVec.eq_of_getLsbD_eq
        intro i hi
        rw [BitVec.getLsbD_and, bsum_getLsbD _ _ (by omega), BitVec.getLsbD_twoPow]
        by_cases e : n = i
        · subst e; simp
        · simp [e]
      rw [BitVec.add_eq_or_of_and_eq_zero _ _ hz, hf.or, hg.or, lin_bsum hf hg h b n (by omega), h n (by omega)]

theorem lin_ext {f g : U → U} (hf : Lin f) (hg : Lin g) (h : ∀ i, i < 64 → f (BitVec.twoPow 64 i) = g (BitVec.twoPow 64 i)) (x : U) : f x = g x := by
  rw [← cut64 x]; exact lin_bsum hf hg h _ 64 (by omega)

/-- The place where the document's turned bit lies. -/
def rev (n i : Nat) : Nat := n - 8 - i / 8 * 8 + i % 8
def cutn (n : Nat) (a : U) : U := match n with | 16 => cut16 a | 32 => nrm .u32 a | _ => a
def swR (n : Nat) (a : U) : U := psum (bitT (cutn n a)) (rev n) n
def rb (a : U) : U :=
  let t1 : U := (a >>> (K 8).toNat) &&& K 71777214294589695
  let t3 : U := (a &&& K 71777214294589695) <<< (K 8).toNat
  let t5 : U := ((t1 ||| t3) >>> (K 16).toNat) &&& K 281470681808895
  let t7 : U := ((t1 ||| t3) &&& K 281470681808895) <<< (K 16).toNat
  ((t5 ||| t7) >>> (K 32).toNat) ||| ((t5 ||| t7) <<< (K 32).toNat)
def msk (n : Nat) : U := match n with | 16 => K 65535 | 32 => K 4294967295 | _ => K 18446744073709551615
def swL (n : Nat) (a : U) : U := (rb a >>> (K (Int.ofNat (64 - n))).toNat) &&& msk n

theorem lin_rb : Lin rb := by
  unfold rb
  have h1 := (Lin.id.shr (K 8).toNat).and (K 71777214294589695)
  have h2 := (Lin.id.and (K 71777214294589695)).shl (K 8).toNat
  have h3 := h1.orr h2
  have h4 := (h3.shr (K 16).toNat).and (K 281470681808895)
  have h5 := (h3.and (K 281470681808895)).shl (K 16).toNat
  have h6 := h4.orr h5
  exact (h6.shr (K 32).toNat).orr (h6.shl (K 32).toNat)
theorem lin_swL (n : Nat) : Lin (swL n) := (lin_rb.shr _).and _

theorem lin_cutn (n : Nat) : Lin (cutn n) := by
  unfold cutn
  split
  · refine ⟨by decide, fun x y => ?_⟩
    apply BitVec.eq_of_getLsbD_eq; intro i _
    simp only [cut16, BitVec.getLsbD_setWidth, BitVec.getLsbD_or]
    cases decide (i < 64) <;> cases decide (i < 16) <;> simp
  · exact ⟨by decide, fun x y => (nrm_or x y).symm⟩
  · exact Lin.id

theorem rev_lt (n : Nat) (h : n = 16 ∨ n = 32 ∨ n = 64) : (∀ i, i < n → rev n i < 64) ∧ (∀ i j, i < n → j < n → rev n i = rev n j → i = j) := by
  unfold rev
  rcases h with rfl | rfl | rfl <;> exact ⟨fun i hi => by omega, fun i j hi hj => by omega⟩

theorem lin_swR (n : Nat) (h : n = 16 ∨ n = 32 ∨ n = 64) : Lin (swR n) := by
  obtain ⟨h1, h2⟩ := rev_lt n h
  have hl := lin_cutn n
  have hn : n ≤ 64 := by omega
  constructor
  · apply BitVec.eq_of_getLsbD_eq
    intro j _
    unfold swR
    rw [psum_getLsbD _ _ n h1 h2, hl.zero]
    rw [List.any_eq_false.2]
    · simp
    · intro i hi
      have := List.mem_range.1 hi
      rw [bitT_eq _ _ (by omega)]; simp
  · intro x y
    apply BitVec.eq_of_getLsbD_eq
    intro j _
    unfold swR
    rw [BitVec.getLsbD_or, psum_getLsbD _ _ n h1 h2, psum_getLsbD _ _ n h1 h2, psum_getLsbD _ _ n h1 h2, hl.or]
    rw [Bool.eq_iff_iff]
    simp only [Bool.or_eq_true, List.any_eq_true, List.mem_range, Bool.and_eq_true]
    constructor
    · rintro ⟨i, hi, e, hb⟩
      rw [bitT_eq _ _ (by omega), BitVec.getLsbD_or, Bool.or_eq_true] at hb
      rcases hb with hb | hb
      · exact .inl ⟨i, hi, e, by rw [bitT_eq _ _ (by omega)]; exact hb⟩
      · exact .inr ⟨i, hi, e, by rw [bitT_eq _ _ (by omega)]; exact hb⟩
    · rintro (⟨i, hi, e, hb⟩ | ⟨i, hi, e, hb⟩) <;> rw [bitT_eq _ _ (by omega)] at hb <;>
        exact ⟨i, hi, e, by rw [bitT_eq _ _ (by omega), BitVec.getLsbD_or, hb]; simp⟩

theorem basis16 : ∀ i : Fin 64, swR 16 (BitVec.twoPow 64 i.val) = swL 16 (BitVec.twoPow 64 i.val) := by decide +kernel
theorem basis32 : ∀ i : Fin 64, swR 32 (BitVec.twoPow 64 i.val) = swL 32 (BitVec.twoPow 64 i.val) := by decide +kernel
theorem basis64 : ∀ i : Fin 64, swR 64 (BitVec.twoPow 64 i.val) = swL 64 (BitVec.twoPow 64 i.val) := by decide +kernel

theorem sw16 (a : U) : swR 16 a = swL 16 a := lin_ext (lin_swR 16 (by simp)) (lin_swL 16) (fun i hi => basis16 ⟨i, hi⟩) a
theorem sw32 (a : U) : swR 32 a = swL 32 a := lin_ext (lin_swR 32 (by simp)) (lin_swL 32) (fun i hi => basis32 ⟨i, hi⟩) a
theorem sw64 (a : U) : swR 64 a = swL 64 a := lin_ext (lin_swR 64 (by simp)) (lin_swL 64) (fun i hi => basis64 ⟨i, hi⟩) a
theorem and16 (a : U) : a &&& K 65535 = cut16 a := lin_ext (Lin.id.and _) (lin_cutn 16) (fun i hi => (show ∀ i : Fin 64, BitVec.twoPow 64 i.val &&& K 65535 = cut16 (BitVec.twoPow 64 i.val) by decide +kernel) ⟨i, hi⟩) a
theorem and32 (a : U) : a &&& K 4294967295 = nrm .u32 a := lin_ext (Lin.id.and _) (lin_cutn 32) (fun i hi => (show ∀ i : Fin 64, BitVec.twoPow 64 i.val &&& K 4294967295 = nrm .u32 (BitVec.twoPow 64 i.val) by decide +kernel) ⟨i, hi⟩) a
theorem and64 (a : U) : a &&& K 18446744073709551615 = a := lin_ext (Lin.id.and _) Lin.id (fun i hi => (show ∀ i : Fin 64, BitVec.twoPow 64 i.val &&& K 18446744073709551615 = BitVec.twoPow 64 i.val by decide +kernel) ⟨i, hi⟩) a

def sw1 (n : Nat) (x : Bool) (a : U) : U := cond x (swL n a) (cutn n a)
def swapV (n : U) (x : Bool) (a : U) : U := cond (n == K 16) (sw1 16 x a) (cond (n == K 32) (sw1 32 x a) (cond (n == K 64) (sw1 64 x a) (K 0)))
def swapOk (n : U) : Bool := cond (n == K 16) true (cond (n == K 32) true (cond (n == K 64) true false))
end Go.VE
