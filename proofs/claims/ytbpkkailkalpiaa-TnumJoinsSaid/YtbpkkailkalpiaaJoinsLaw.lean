/- plain law: joins and meets of tnums, told by bits. -/
import Derived.Test.YtbpkkailkalpiaaVE2
namespace Go.VE
open Go
abbrev U := BitVec 64
def eqU (x y : U) : Bool := nrm .u64 x == nrm .u64 y
def ze : U := BitVec.ofInt 64 0
def tWithin (av am bv bm : U) : Bool := cond (eqU (am &&& ~~~bm) ze) (eqU ((bv ^^^ av) &&& ~~~bm) ze) false
def tIn (av am x : U) : Bool := eqU ((av ^^^ x) &&& ~~~am) ze
def tSome (av am v : U) : U := av &&& ~~~am ||| v &&& am
def jM (av am bv bm : U) : U := ze ||| am ||| bm ||| av ^^^ bv
def jV (av am bv bm : U) : U := av &&& ~~~(jM av am bv bm)
def mNo (av am bv bm : U) : Bool := nrm .u64 ((av ^^^ bv) &&& ~~~(ze ||| am ||| bm)) != nrm .u64 ze
def mV (av am bv bm : U) : U := cond (mNo av am bv bm) ze ((av &&& ~~~am ||| bv &&& ~~~bm) &&& ~~~(am &&& bm))
def mM (av am bv bm : U) : U := cond (mNo av am bv bm) ze (am &&& bm)
def mOk (av am bv bm : U) : Bool := cond (mNo av am bv bm) false true
def ones : U := BitVec.ofInt 64 18446744073709551615

def tnumJoins (av am bv bm cv cm v : U) : Bool :=
  cond (cond (cond (!tWithin av am (jV av am bv bm) (jM av am bv bm)) true (!tWithin bv bm (jV av am bv bm) (jM av am bv bm))) true
      (cond (cond (tWithin av am cv cm) (tWithin bv bm cv cm) false) (!tWithin (jV av am bv bm) (jM av am bv bm) cv cm) false)) false
  (cond (cond (cond (tIn bv bm (tSome av am v)) (cond (!mOk av am bv bm) true (!tIn (mV av am bv bm) (mM av am bv bm) (tSome av am v))) false) true
      (cond (mOk av am bv bm) (cond (!tWithin (mV av am bv bm) (mM av am bv bm) av am) true (!tWithin (mV av am bv bm) (mM av am bv bm) bv bm)) false)) false
  (cond (cond (cond (tWithin av am bv bm) (!tIn bv bm (tSome av am v)) false) true
      (cond (tWithin av am bv bm) (!tWithin (jV av am bv bm) (jM av am bv bm) bv bm) false)) false
  (cond (cond (cond (tWithin av am ze ones) (tWithin (tSome av am v) ze av am) false) (tIn v ze v) false) true false)))

/-! ### by bits -/

theorem eqU_iff (x y : U) : eqU x y = true ↔ ∀ i, i < 64 → x.getLsbD i = y.getLsbD i := by
  have hn : ∀ z : U, nrm .u64 z = z := fun z => by simp [nrm]
  unfold eqU
  rw [hn, hn, beq_iff_eq]
  constructor
  · intro h i _; rw [h]
  · intro h; exact BitVec.eq_of_getLsbD_eq h

theorem ze_bit (i : Nat) : ze.getLsbD i = false := by simp [ze]
theorem ones_bit (i : Nat) (h : i < 64) : ones.getLsbD i = true := by
  have : ones = BitVec.allOnes 64 := by decide
  rw [this, BitVec.getLsbD_allOnes]; simp only [h, decide_true]

theorem tIn_iff (av am x : U) : tIn av am x = true ↔ ∀ i, i < 64 → (am.getLsbD i || (av.getLsbD i == x.getLsbD i)) = true := by
  unfold tIn
  rw [eqU_iff]
  refine forall_congr' fun i => forall_congr' fun hi => ?_
  simp only [BitVec.getLsbD_and, BitVec.getLsbD_or, BitVec.getLsbD_xor, BitVec.getLsbD_not, ze_bit, hi, decide_true, Bool.true_and]
  generalize av.getLsbD i = a; generalize am.getLsbD i = b; generalize x.getLsbD i = c
  revert a b c; decide

theorem tWithin_iff (av am bv bm : U) : tWithin av am bv bm = true ↔ ∀ i, i < 64 → ((!am.getLsbD i || bm.getLsbD i) && (bm.getLsbD i || (av.getLsbD i == bv.getLsbD i))) = true := by
  unfold tWithin
  have : ∀ p q : Bool, cond p q false = true ↔ p = true ∧ q = true := by decide
  rw [this, eqU_iff, eqU_iff, ← forall_and]
  refine forall_congr' fun i => ?_
  rw [← imp_and]
  refine forall_congr' fun hi => ?_
  simp only [BitVec.getLsbD_and, BitVec.getLsbD_or, BitVec.getLsbD_xor, BitVec.getLsbD_not, ze_bit, hi, decide_true, Bool.true_and]
  generalize av.getLsbD i = a; generalize am.getLsbD i = b; generalize bv.getLsbD i = c; generalize bm.getLsbD i = d
  revert a b c d; decide

theorem mOk_iff (av am bv bm : U) : mOk av am bv bm = true ↔ ∀ i, i < 64 → (am.getLsbD i || bm.getLsbD i || (av.getLsbD i == bv.getLsbD i)) = true := by
  have h : mOk av am bv bm = eqU ((av ^^^ bv) &&& ~~~(ze ||| am ||| bm)) ze := by
    unfold mOk mNo eqU
    simp only [bne]
    generalize (nrm IntKind.u64 ((av ^^^ bv) &&& ~~~(ze ||| am ||| bm)) == nrm IntKind.u64 ze) = q
    cases q <;> rfl
  rw [h, eqU_iff]
  refine forall_congr' fun i => forall_congr' fun hi => ?_
  simp only [BitVec.getLsbD_and, BitVec.getLsbD_or, BitVec.getLsbD_xor, BitVec.getLsbD_not, ze_bit, hi, decide_true, Bool.true_and]
  generalize av.getLsbD i = a; generalize am.getLsbD i = b; generalize bv.getLsbD i = c; generalize bm.getLsbD i = d
  revert a b c d; decide

theorem jM_bit (av am bv bm : U) (i : Nat) : (jM av am bv bm).getLsbD i = (am.getLsbD i || bm.getLsbD i || (av.getLsbD i ^^ bv.getLsbD i)) := by
  simp only [jM, BitVec.getLsbD_and, BitVec.getLsbD_or, BitVec.getLsbD_xor, BitVec.getLsbD_not, ze_bit, Bool.false_or]
theorem jV_bit (av am bv bm : U) (i : Nat) (hi : i < 64) : (jV av am bv bm).getLsbD i = (av.getLsbD i && !(am.getLsbD i || bm.getLsbD i || (av.getLsbD i ^^ bv.getLsbD i))) := by
  simp only [jV, jM_bit, BitVec.getLsbD_and, BitVec.getLsbD_or, BitVec.getLsbD_xor, BitVec.getLsbD_not, ze_bit, hi, decide_true, Bool.true_and]
theorem mM_bit {av am bv bm : U} (h : mOk av am bv bm = true) (i : Nat) : (mM av am bv bm).getLsbD i = (am.getLsbD i && bm.getLsbD i) := by
  have : mNo av am bv bm = false := by unfold mOk at h; cases h' : mNo av am bv bm <;> simp_all
  simp [mM, this]
theorem mV_bit {av am bv bm : U} (h : mOk av am bv bm = true) (i : Nat) (hi : i < 64) : (mV av am bv bm).getLsbD i = ((av.getLsbD i && !am.getLsbD i || bv.getLsbD i && !bm.getLsbD i) && !(am.getLsbD i && bm.getLsbD i)) := by
  have : mNo av am bv bm = false := by unfold mOk at h; cases h' : mNo av am bv bm <;> simp_all
  simp [mV, this, hi]
theorem tSome_bit (av am v : U) (i : Nat) (hi : i < 64) : (tSome av am v).getLsbD i = (av.getLsbD i && !am.getLsbD i || v.getLsbD i && am.getLsbD i) := by
  simp [tSome, hi]

theorem tnumJoins_true (av am bv bm cv cm v : U) : tnumJoins av am bv bm cv cm v = true := by
  have w1 : tWithin av am (jV av am bv bm) (jM av am bv bm) = true := by
    rw [tWithin_iff]; intro i hi; rw [jM_bit, jV_bit _ _ _ _ _ hi]
    generalize av.getLsbD i = a; generalize am.getLsbD i = b; generalize bv.getLsbD i = c; generalize bm.getLsbD i = d
    revert a b c d; decide
  have w2 : tWithin bv bm (jV av am bv bm) (jM av am bv bm) = true := by
    rw [tWithin_iff]; intro i hi; rw [jM_bit, jV_bit _ _ _ _ _ hi]
    generalize av.getLsbD i = a; generalize am.getLsbD i = b; generalize bv.getLsbD i = c; generalize bm.getLsbD i = d
    revert a b c d; decide
  have w3 : ∀ xv xm, tWithin av am xv xm = true → tWithin bv bm xv xm = true → tWithin (jV av am bv bm) (jM av am bv bm) xv xm = true := by
    intro xv xm
    rw [tWithin_iff, tWithin_iff, tWithin_iff]; intro h1 h2 i hi; have h1 := h1 i hi; have h2 := h2 i hi; revert h1 h2; rw [jM_bit, jV_bit _ _ _ _ _ hi]
    generalize av.getLsbD i = a; generalize am.getLsbD i = b; generalize bv.getLsbD i = c; generalize bm.getLsbD i = d; generalize xv.getLsbD i = e; generalize xm.getLsbD i = f
    revert a b c d e f; decide
  have m1 : tIn bv bm (tSome av am v) = true → mOk av am bv bm = true := by
    rw [tIn_iff, mOk_iff]; intro h1 i hi; have h1 := h1 i hi; revert h1; rw [tSome_bit _ _ _ _ hi]
    generalize av.getLsbD i = a; generalize am.getLsbD i = b; generalize bv.getLsbD i = c; generalize bm.getLsbD i = d; generalize v.getLsbD i = e
    revert a b c d e; decide
  have m2 : mOk av am bv bm = true → tIn bv bm (tSome av am v) = true → tIn (mV av am bv bm) (mM av am bv bm) (tSome av am v) = true := by
    intro hm
    rw [tIn_iff, tIn_iff]; intro h1 i hi; have h1 := h1 i hi; revert h1; rw [mM_bit hm, mV_bit hm _ hi, tSome_bit _ _ _ _ hi]
    generalize av.getLsbD i = a; generalize am.getLsbD i = b; generalize bv.getLsbD i = c; generalize bm.getLsbD i = d; generalize v.getLsbD i = e
    revert a b c d e; decide
  have m3 : mOk av am bv bm = true → tWithin (mV av am bv bm) (mM av am bv bm) av am = true := by
    intro hm
    have h1 := (mOk_iff _ _ _ _).1 hm
    rw [tWithin_iff]; intro i hi; have h1 := h1 i hi; revert h1; rw [mM_bit hm, mV_bit hm _ hi]
    generalize av.getLsbD i = a; generalize am.getLsbD i = b; generalize bv.getLsbD i = c; generalize bm.getLsbD i = d
    revert a b c d; decide
  have m4 : mOk av am bv bm = true → tWithin (mV av am bv bm) (mM av am bv bm) bv bm = true := by
    intro hm
    have h1 := (mOk_iff _ _ _ _).1 hm
    rw [tWithin_iff]; intro i hi; have h1 := h1 i hi; revert h1; rw [mM_bit hm, mV_bit hm _ hi]
    generalize av.getLsbD i = a; generalize am.getLsbD i = b; generalize bv.getLsbD i = c; generalize bm.getLsbD i = d
    revert a b c d; decide
  have n1 : tWithin av am bv bm = true → tIn bv bm (tSome av am v) = true := by
    rw [tIn_iff, tWithin_iff]; intro h1 i hi; have h1 := h1 i hi; revert h1; rw [tSome_bit _ _ _ _ hi]
    generalize av.getLsbD i = a; generalize am.getLsbD i = b; generalize bv.getLsbD i = c; generalize bm.getLsbD i = d; generalize v.getLsbD i = e
    revert a b c d e; decide
  have w0 : ∀ xv xm, tWithin xv xm xv xm = true := by
    intro xv xm
    rw [tWithin_iff]; intro i hi
    generalize xv.getLsbD i = a; generalize xm.getLsbD i = b
    revert a b; decide
  have l1 : tWithin av am ze ones = true := by
    rw [tWithin_iff]; intro i hi; rw [ones_bit i hi]; simp
  have l2 : tWithin (tSome av am v) ze av am = true := by
    rw [tWithin_iff]; intro i hi; rw [ze_bit, tSome_bit _ _ _ _ hi]
    generalize av.getLsbD i = a; generalize am.getLsbD i = b; generalize v.getLsbD i = e
    revert a b e; decide
  have l3 : tIn v ze v = true := by
    rw [tIn_iff]; intro i hi; simp
  have n2 : tWithin av am bv bm = true → tWithin (jV av am bv bm) (jM av am bv bm) bv bm = true := fun h => w3 _ _ h (w0 _ _)
  have w3 := w3 cv cm
  unfold tnumJoins
  rw [w1, w2, l1, l2, l3]
  revert w3 m1 m2 m3 m4 n1 n2
  generalize tWithin av am cv cm = p1; generalize tWithin bv bm cv cm = p2; generalize tWithin (jV av am bv bm) (jM av am bv bm) cv cm = p3
  generalize tIn bv bm (tSome av am v) = p4; generalize mOk av am bv bm = p5; generalize tIn (mV av am bv bm) (mM av am bv bm) (tSome av am v) = p6
  generalize tWithin (mV av am bv bm) (mM av am bv bm) av am = p7; generalize tWithin (mV av am bv bm) (mM av am bv bm) bv bm = p8; generalize tWithin av am bv bm = p9
  generalize tWithin (jV av am bv bm) (jM av am bv bm) bv bm = p10
  cases p1 <;> cases p2 <;> cases p3 <;> cases p4 <;> cases p5 <;> cases p6 <;> cases p7 <;> cases p8 <;> cases p9 <;> cases p10 <;> simp
end Go.VE
