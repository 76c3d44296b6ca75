/- plain law: what is known of sums and differences of tnums, told by bits and carries. -/
import Derived.Test.YtbpkkailkalpiaaVE2
namespace Go.VE
open Go
abbrev U := BitVec 64
def eqU (x y : U) : Bool := nrm .u64 x == nrm .u64 y
def ze : U := BitVec.ofInt 64 0
def ones : U := BitVec.ofInt 64 18446744073709551615
def tIn (av am x : U) : Bool := eqU ((av ^^^ x) &&& ~~~am) ze
def tSome (av am v : U) : U := av &&& ~~~am ||| v &&& am
def lo (av am : U) : U := av &&& ~~~am
def opn (am bm : U) : U := ze ||| am ||| bm
def sM (av am bv bm : U) : U := (lo av am + lo bv bm ^^^ lo av am + lo bv bm + am + bm) ||| opn am bm
def sV (av am bv bm : U) : U := lo av am + lo bv bm &&& ~~~(sM av am bv bm)
def dM (av am bv bm : U) : U := (lo av am - lo bv bm + am ^^^ lo av am - lo bv bm - bm) ||| opn am bm
def dV (av am bv bm : U) : U := lo av am - lo bv bm &&& ~~~(dM av am bv bm)

def tnumBits (av am bv bm v w : U) : Bool :=
  cond (cond (cond (cond (cond
    (eqU (sM av am bv bm) ((tSome av am ze + tSome bv bm ze ^^^ tSome av am ones + tSome bv bm ones) ||| am ||| bm))
    (eqU (dM av am bv bm) ((tSome av am ones - tSome bv bm ze ^^^ tSome av am ze - tSome bv bm ones) ||| am ||| bm)) false)
    (eqU (sV av am bv bm &&& sM av am bv bm) ze) false)
    (eqU (dV av am bv bm &&& dM av am bv bm) ze) false)
    (tIn (sV av am bv bm) (sM av am bv bm) (tSome av am v + tSome bv bm w)) false) true false

theorem eqU_eq (x y : U) : eqU x y = (x == y) := by
  have hn : ∀ z : U, nrm .u64 z = z := fun z => by simp [nrm]
  unfold eqU
  rw [hn, hn]

theorem eqU_refl (x : U) : eqU x x = true := by rw [eqU_eq]; simp
theorem ze_eq : ze = 0#64 := by decide
theorem ones_eq : ones = BitVec.allOnes 64 := by decide

theorem opn_eq (a b : U) : opn a b = a ||| b := by simp [opn, ze_eq]
theorem some_ze (a m : U) : tSome a m ze = lo a m := by simp [tSome, ze_eq, lo]
theorem lo_disj (a m : U) : lo a m &&& m = 0#64 := by
  refine BitVec.eq_of_getLsbD_eq (fun i hi => ?_)
  simp only [lo, BitVec.getLsbD_and, BitVec.getLsbD_not, BitVec.getLsbD_zero, hi, decide_true, Bool.true_and]
  generalize a.getLsbD i = p; generalize m.getLsbD i = q
  revert p q; decide
theorem some_ones (a m : U) : tSome a m ones = lo a m + m := by
  rw [BitVec.add_eq_or_of_and_eq_zero _ _ (lo_disj a m), tSome, ones_eq, BitVec.allOnes_and, lo]

theorem sums (av am bv bm : U) : sM av am bv bm = (tSome av am ze + tSome bv bm ze ^^^ tSome av am ones + tSome bv bm ones) ||| am ||| bm := by
  rw [some_ze, some_ze, some_ones, some_ones, sM, opn_eq, BitVec.or_assoc]
  congr 2
  ac_rfl

theorem less (av am bv bm : U) : dM av am bv bm = (tSome av am ones - tSome bv bm ze ^^^ tSome av am ze - tSome bv bm ones) ||| am ||| bm := by
  rw [some_ze, some_ze, some_ones, some_ones, dM, opn_eq, BitVec.or_assoc]
  congr 2
  · rw [BitVec.sub_eq_add_neg, BitVec.sub_eq_add_neg]; ac_rfl
  · rw [BitVec.sub_eq_add_neg, BitVec.sub_eq_add_neg, BitVec.sub_eq_add_neg, BitVec.neg_add, BitVec.sub_eq_add_neg]; ac_rfl

theorem cut0 (x m : U) : x &&& ~~~m &&& m = 0#64 := lo_disj x m

theorem carry_mono {x y x' y' : U} (hx : ∀ i, x.getLsbD i = true → x'.getLsbD i = true) (hy : ∀ i, y.getLsbD i = true → y'.getLsbD i = true) :
    ∀ i, BitVec.carry i x y false = true → BitVec.carry i x' y' false = true := by
  intro i
  induction i with
  | zero => simp
  | succ i ih =>
    rw [BitVec.carry_succ, BitVec.carry_succ]
    have h1 := hx i; have h2 := hy i
    revert ih h1 h2
    generalize x.getLsbD i = a; generalize y.getLsbD i = b; generalize x'.getLsbD i = c; generalize y'.getLsbD i = d
    generalize BitVec.carry i x y false = e; generalize BitVec.carry i x' y' false = f
    revert a b c d e f; decide

/-- A sum of a number of each is known where the least and the greatest sums agree. -/
theorem add_in (av am bv bm v w : U) : tIn (sV av am bv bm) (sM av am bv bm) (tSome av am v + tSome bv bm w) = true := by
  unfold tIn
  rw [eqU_eq, beq_iff_eq, ze_eq]
  refine BitVec.eq_of_getLsbD_eq (fun i hi => ?_)
  have e1 : lo av am + lo bv bm + am + bm = tSome av am ones + tSome bv bm ones := by rw [some_ones, some_ones]; ac_rfl
  have bits : ∀ (a m u : U) (j : Nat), j < 64 → (tSome a m u).getLsbD j = (a.getLsbD j && !m.getLsbD j || u.getLsbD j && m.getLsbD j) := by
    intro a m u j hj
    simp only [tSome, BitVec.getLsbD_and, BitVec.getLsbD_or, BitVec.getLsbD_not, hj, decide_true, Bool.true_and]
  have blo : ∀ (a m : U) (j : Nat), j < 64 → (lo a m).getLsbD j = (a.getLsbD j && !m.getLsbD j) := by
    intro a m j hj
    simp only [lo, BitVec.getLsbD_and, BitVec.getLsbD_not, hj, decide_true, Bool.true_and]
  have bone : ∀ (a m : U) (j : Nat), j < 64 → (tSome a m ones).getLsbD j = (a.getLsbD j || m.getLsbD j) := by
    intro a m j hj
    rw [bits _ _ _ _ hj, ones_eq, BitVec.getLsbD_allOnes]
    simp only [hj, decide_true, Bool.true_and]
    generalize a.getLsbD j = p; generalize m.getLsbD j = q
    revert p q; decide
  have up : ∀ (a m u : U) (j : Nat), (tSome a m u).getLsbD j = true → (tSome a m ones).getLsbD j = true := by
    intro a m u j h
    have hj : j < 64 := BitVec.lt_of_getLsbD h
    rw [bits _ _ _ _ hj] at h
    rw [bone _ _ _ hj]
    revert h
    generalize a.getLsbD j = p; generalize m.getLsbD j = q; generalize u.getLsbD j = r
    revert p q r; decide
  have down : ∀ (a m u : U) (j : Nat), (lo a m).getLsbD j = true → (tSome a m u).getLsbD j = true := by
    intro a m u j h
    have hj : j < 64 := BitVec.lt_of_getLsbD h
    rw [blo _ _ _ hj] at h
    rw [bits _ _ _ _ hj]
    revert h
    generalize a.getLsbD j = p; generalize m.getLsbD j = q; generalize u.getLsbD j = r
    revert p q r; decide
  have c1 := carry_mono (down av am v) (down bv bm w) i
  have c2 := carry_mono (up av am v) (up bv bm w) i
  simp only [sV, sM, opn_eq, e1, BitVec.getLsbD_and, BitVec.getLsbD_or, BitVec.getLsbD_xor, BitVec.getLsbD_not, BitVec.getLsbD_zero, hi, decide_true, Bool.true_and, BitVec.getLsbD_add hi]
  rw [blo _ _ _ hi, blo _ _ _ hi, bone _ _ _ hi, bone _ _ _ hi, bits _ _ v _ hi, bits _ _ w _ hi]
  revert c1 c2
  generalize BitVec.carry i (lo av am) (lo bv bm) false = p; generalize BitVec.carry i (tSome av am v) (tSome bv bm w) false = q; generalize BitVec.carry i (tSome av am ones) (tSome bv bm ones) false = r
  generalize av.getLsbD i = a; generalize am.getLsbD i = b; generalize bv.getLsbD i = c; generalize bm.getLsbD i = d; generalize v.getLsbD i = e; generalize w.getLsbD i = f
  revert p q r a b c d e f; decide

theorem tnumBits_true (av am bv bm v w : U) : tnumBits av am bv bm v w = true := by
  unfold tnumBits
  rw [← sums, ← less, eqU_refl, eqU_refl, add_in, sV, cut0, dV, cut0, eqU_eq, ze_eq]
  rfl
end Go.VE
