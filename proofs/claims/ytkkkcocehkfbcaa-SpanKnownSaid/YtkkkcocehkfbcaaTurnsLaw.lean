/- plain law: one kind of span made another one. -/
import Derived.Test.YtkkkcocehkfbcaaLeastLaw
namespace Go.VE
open Go

def lowS : U := BitVec.ofInt 64 (-9223372036854775808)
def topS : U := BitVec.ofInt 64 9223372036854775807
def topU : U := BitVec.ofInt 64 18446744073709551615
def eq2 (a b c d : U) : Bool := (a == c) && (b == d)

def tsC (a b : U) : Bool := (a ^^^ b) &&& sgn != zer
def rsC (a b : U) : Bool := !((sgn.ule a) == (sgn.ule b))
def turnA (a b : U) : Bool :=
  cond (!eq2 (cond (tsC a b) lowS a) (cond (tsC a b) topS b) (cond (rsC a b) lowS a) (cond (rsC a b) topS b)) true
    (!eq2 (a &&& ~~~(onesB (a ^^^ b))) (onesB (a ^^^ b)) (bVal a b) (bMask a b))
def tuC (c d : U) : Bool := (c ^^^ d).slt zer
def ruC (c d : U) : Bool := !((c.slt zer) == (d.slt zer))
def turnB (c d : U) : Bool :=
  !eq2 (cond (tuC c d) zer c) (cond (tuC c d) topU d) (cond (ruC c d) zer c) (cond (ruC c d) topU d)
def turnT (v m : U) : Bool :=
  cond (eq2 v (v ||| m) v (v + m)) (eq2 (v ||| m &&& sgn) ((v ||| m) &&& ~~~(m &&& sgn)) (cond (sgn.ule m) (v + sgn) v) (cond (sgn.ule m) (v + m - sgn) (v + m))) false
def spanTurns (a b c d v m : U) : Bool :=
  cond (cond (a.ule b) (turnA a b) false) false (cond (cond (c.sle d) (turnB c d) false) false (cond (cond (!((v &&& m) == zer)) true (turnT v m)) true false))

theorem sgn_eq : sgn = 0x8000000000000000#64 := by decide
theorem zer_eq : zer = 0#64 := by decide
theorem sgn_bit (i : Nat) : sgn.getLsbD i = decide (i = 63) := by
  have : sgn = BitVec.twoPow 64 63 := by decide
  rw [this, BitVec.getLsbD_twoPow]
  by_cases h : i = 63
  · subst h; rfl
  · have h' : ¬ 63 = i := fun e => h e.symm
    simp [h, h']

theorem and_sgn (x : U) : x &&& sgn = cond x.msb sgn 0#64 := by
  refine BitVec.eq_of_getLsbD_eq (fun i hi => ?_)
  rw [BitVec.getLsbD_and, sgn_bit, BitVec.msb_eq_getLsbD_last]
  by_cases h : i = 63
  · subst h
    show (x.getLsbD 63 && decide (63 = 63)) = (cond (x.getLsbD 63) sgn 0#64).getLsbD 63
    cases hx : x.getLsbD 63
    · rfl
    · show true = sgn.getLsbD 63; rw [sgn_bit]; rfl
  · show (x.getLsbD i && decide (i = 63)) = (cond (x.getLsbD 63) sgn 0#64).getLsbD i
    cases hx : x.getLsbD 63
    · simp [h]
    · show _ = sgn.getLsbD i; rw [sgn_bit]; simp [h]

theorem ule_sgn (x : U) : sgn.ule x = x.msb := by
  have := x.isLt
  rw [BitVec.msb_eq_decide, sgn_eq]
  simp [BitVec.ule]
theorem slt_zer (x : U) : x.slt zer = x.msb := by
  have := x.isLt
  rw [BitVec.msb_eq_decide, zer_eq]
  have h0 : (0#64).toInt = 0 := by decide
  have hx := BitVec.toInt_eq_toNat_cond x
  unfold BitVec.slt
  rw [decide_eq_decide, h0]
  split at hx <;> omega

theorem tsC_eq (a b : U) : tsC a b = rsC a b := by
  unfold tsC rsC
  rw [ule_sgn, ule_sgn, and_sgn, BitVec.msb_xor, zer_eq]
  have hs : (sgn == 0#64) = false := by decide
  cases a.msb <;> cases b.msb <;> simp [bne, hs]

theorem tuC_eq (a b : U) : tuC a b = ruC a b := by
  unfold tuC ruC
  rw [slt_zer, slt_zer, slt_zer, BitVec.msb_xor]
  cases a.msb <;> cases b.msb <;> rfl

theorem eq2_refl (a b : U) : eq2 a b a b = true := by simp [eq2]

theorem turnT_ok (v m : U) (h : v &&& m = 0#64) : turnT v m = true := by
  have e1 : v + m = v ||| m := BitVec.add_eq_or_of_and_eq_zero _ _ h
  have e2 : v ||| m &&& sgn = cond (sgn.ule m) (v + sgn) v := by
    rw [ule_sgn, and_sgn]
    cases hm : m.msb
    · simp
    · simp only [cond_true]
      refine (BitVec.add_eq_or_of_and_eq_zero _ _ ?_).symm
      rw [and_sgn]
      have hv : (v &&& m).msb = false := by rw [h]; rfl
      rw [BitVec.msb_and, hm, Bool.and_true] at hv
      rw [hv]; rfl
  have e3 : (v ||| m) &&& ~~~(m &&& sgn) = cond (sgn.ule m) (v + m - sgn) (v + m) := by
    rw [ule_sgn, and_sgn, e1]
    cases hm : m.msb
    · simp only [cond_false]
      rw [show ~~~(0#64) = BitVec.allOnes 64 by decide, BitVec.and_allOnes]
    · simp only [cond_true]
      have hd : ((v ||| m) &&& ~~~sgn) &&& sgn = 0#64 := by
        refine BitVec.eq_of_getLsbD_eq (fun i hi => ?_)
        simp only [BitVec.getLsbD_and, BitVec.getLsbD_not, BitVec.getLsbD_zero, hi, decide_true, Bool.true_and]
        generalize (v ||| m).getLsbD i = p; generalize sgn.getLsbD i = q
        revert p q; decide
      have hs : ((v ||| m) &&& ~~~sgn) + sgn = v ||| m := by
        rw [BitVec.add_eq_or_of_and_eq_zero _ _ hd]
        refine BitVec.eq_of_getLsbD_eq (fun i hi => ?_)
        simp only [BitVec.getLsbD_and, BitVec.getLsbD_or, BitVec.getLsbD_not, hi, decide_true, Bool.true_and, sgn_bit]
        by_cases h63 : i = 63
        · subst h63
          rw [BitVec.msb_eq_getLsbD_last] at hm
          have hm : m.getLsbD 63 = true := hm
          simp [hm]
        · simp [h63]
      generalize (v ||| m) &&& ~~~sgn = z at *
      rw [← hs, BitVec.add_sub_cancel]
  unfold turnT
  rw [e2, e3, e1, eq2_refl]
  simp [eq2]

theorem spanTurns_true (a b c d v m : U) : spanTurns a b c d v m = true := by
  have hA : turnA a b = false := by
    unfold turnA
    rw [tsC_eq, eq2_refl, show a &&& ~~~(onesB (a ^^^ b)) = bVal a b from rfl, show onesB (a ^^^ b) = bMask a b from rfl, eq2_refl]
    rfl
  have hB : turnB c d = false := by
    unfold turnB
    rw [tuC_eq, eq2_refl]
    rfl
  have hT : cond (!((v &&& m) == zer)) true (turnT v m) = true := by
    by_cases h : v &&& m = 0#64
    · rw [turnT_ok v m h]; simp
    · have : ((v &&& m) == zer) = false := by rw [zer_eq]; simpa using h
      rw [this]; rfl
  unfold spanTurns
  rw [hA, hB, hT]
  cases a.ule b <;> cases c.sle d <;> rfl
end Go.VE
