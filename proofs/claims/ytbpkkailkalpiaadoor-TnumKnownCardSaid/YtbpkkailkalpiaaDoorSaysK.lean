/- TnumSays: carried, sums bit by bit with all carries that may be: its text in phases, its outer loop by induction. -/
import Derived.Test.YtbpkkailkalpiaaDoorSaysR
import Derived.Test.YtbpkkailkalpiaaDoorWE34
namespace Go.WE
set_option linter.unusedVariables false
set_option maxRecDepth 100000
open Go Go.TL Go.Proofs
open Go.RowKit (Below)

noncomputable def c44 : Code := bodyOf Tryd.prog 44
noncomputable def q0 : Code := c44.sA
noncomputable def q1 : Code := c44.sB.sA
noncomputable def q2 : Code := c44.sB.sB.sA
noncomputable def q3 : Code := c44.sB.sB.sB.sA
noncomputable def q4 : Code := c44.sB.sB.sB.sB.sA
noncomputable def q5 : Code := c44.sB.sB.sB.sB.sB.sA.sA
noncomputable def kl : Code := c44.sB.sB.sB.sB.sB.sA.sB.inn.inn
noncomputable def q9 : Code := c44.sB.sB.sB.sB.sB.sB
noncomputable def kh : Code := kl.sA
noncomputable def kb : Code := kl.sB.sA
noncomputable def ki : Code := kl.sB.sB
theorem c44_eq : c44 = .seq q0 (.seq q1 (.seq q2 (.seq q3 (.seq q4 (.seq (.seq q5 (.block 0 (.loop kl))) q9))))) := by kernel_rfl
theorem kl_eq : kl = .seq kh (.seq kb ki) := by kernel_rfl

def fp44 : Fp := ⟨21765396487033420828377055, 90, 66, fun _ _ => none⟩
noncomputable def evK (c : Code) (l : List (Nat × V)) (ms : List (Nat × Blk)) (n : Nat) : Out := evalC cxT (evalF cxT Γ1 400 20) fp44 400 c (stOf l (hM ms n))
abbrev one (x : A) : V := .t (.a x)
abbrev kk (k : Nat) : U := BitVec.ofNat 64 k
abbrev pt (i : Nat) : V := one (.ptr i [])
def zero24 : T := .st [.a (.lit .u64 0), .a (.lit .u64 0)]
def ffs : List T := List.replicate 64 (.a .ff)
def m0 (av am bv bm : U) : List (Nat × Blk) := [(0, ⟨true, tnT av am⟩), (1, ⟨true, tnT bv bm⟩), (2, ⟨true, zero24⟩)]
def mX (x0 x1 : Nat → Bool) : List (Nat × Blk) := [(3, ⟨true, bitsT x0 x1⟩)]
def mY (y0 y1 : Nat → Bool) : List (Nat × Blk) := [(4, ⟨true, bitsT y0 y1⟩)]
def lA (av am bv bm : U) (ls : A) : List (Nat × V) := [(0, .t (tnT av am)), (1, .t (tnT bv bm)), (2, one ls)]
def l0 (ls : A) : List (Nat × V) := [(2, one ls), (3, pt 0), (4, pt 1), (6, pt 2)]
def l1 (ls : A) : List (Nat × V) := [(2, one ls), (3, pt 0), (4, pt 1), (6, pt 2), (7, pt 3)]
def l2 (ls : A) : List (Nat × V) := [(2, one ls), (6, pt 2), (7, pt 3), (8, pt 4)]
def l3 (ls : A) : List (Nat × V) := [(2, one ls), (6, pt 2), (7, pt 3), (8, pt 4), (9, pt 5)]
def l4 (ls : A) : List (Nat × V) := [(2, one ls), (6, pt 2), (7, pt 3), (8, pt 4), (9, pt 5), (10, pt 6)]
def l5 (ls i : A) : List (Nat × V) := [(2, one ls), (6, pt 2), (7, pt 3), (8, pt 4), (9, pt 5), (10, pt 6), (11, one i)]
def mK (x0 x1 y0 y1 z0 z1 : Nat → Bool) (c0 c1 : A) : List (Nat × Blk) := [(2, ⟨true, zero24⟩), (3, ⟨true, bitsT x0 x1⟩), (4, ⟨true, bitsT y0 y1⟩), (5, ⟨true, bitsT z0 z1⟩), (6, ⟨true, .lst 1 [.a c0, .a c1]⟩)]

theorem k0 (av am bv bm : U) (ls : A) : endM fp44.km [2, 3, 4, 6] [0, 1, 2] 3 (evK q0 (lA av am bv bm ls) [] 0).pick = some ⟨.nrm, .tt, l0 ls, m0 av am bv bm⟩ := by kernel_rfl
theorem k1 (av am bv bm : U) (ls : A) : endM fp44.km [2, 3, 4, 6, 7] [0, 1, 2, 3] 4 (evK q1 (l0 ls) (m0 av am bv bm) 3).pick = some ⟨.nrm, .tt, l1 ls, m0 av am bv bm ++ mX (gZ av am) (gO av am)⟩ := by kernel_rfl
theorem k2 (av am bv bm : U) (x0 x1 : Nat → Bool) (ls : A) : endM fp44.km [2, 6, 7, 8] [2, 3, 4] 5 (evK q2 (l1 ls) (m0 av am bv bm ++ mX x0 x1) 4).pick = some ⟨.nrm, .tt, l2 ls, [(2, ⟨true, zero24⟩)] ++ mX x0 x1 ++ mY (gZ bv bm) (gO bv bm)⟩ := by kernel_rfl
theorem k3 (x0 x1 y0 y1 : Nat → Bool) (ls : A) : endM fp44.km [2, 6, 7, 8, 9] [2, 3, 4, 5] 6 (evK q3 (l2 ls) ([(2, ⟨true, zero24⟩)] ++ mX x0 x1 ++ mY y0 y1) 5).pick = some ⟨.nrm, .tt, l3 ls, [(2, ⟨true, zero24⟩)] ++ mX x0 x1 ++ mY y0 y1 ++ [(5, ⟨true, .st [.lst 1 ffs, .lst 1 ffs]⟩)]⟩ := by kernel_rfl
theorem k4 (x0 x1 y0 y1 z0 z1 : Nat → Bool) (ls : A) : endM fp44.km [2, 6, 7, 8, 9, 10] [2, 3, 4, 5, 6] 7 (evK q4 (l3 ls) ([(2, ⟨true, zero24⟩)] ++ mX x0 x1 ++ mY y0 y1 ++ [(5, ⟨true, bitsT z0 z1⟩)]) 6).pick = some ⟨.nrm, .tt, l4 ls, mK x0 x1 y0 y1 z0 z1 .tt .ff⟩ := by kernel_rfl
theorem k5 (x0 x1 y0 y1 z0 z1 : Nat → Bool) (c0 c1 : A) (ls : A) : endM fp44.km [2, 6, 7, 8, 9, 10, 11] [2, 3, 4, 5, 6] 7 (evK q5 (l4 ls) (mK x0 x1 y0 y1 z0 z1 c0 c1) 7).pick = some ⟨.nrm, .tt, l5 ls (.lit .i64 0), mK x0 x1 y0 y1 z0 z1 c0 c1⟩ := by kernel_rfl
theorem khc (i : U) (x0 x1 y0 y1 z0 z1 : Nat → Bool) (c0 c1 : A) (ls : A) : (evK kh (l5 ls (.i .i64 i)) (mK x0 x1 y0 y1 z0 z1 c0 c1) 7).cnd = some (BitVec.slt i (K 64)) := by kernel_rfl
theorem kht (i : U) (x0 x1 y0 y1 z0 z1 : Nat → Bool) (c0 c1 : A) (ls : A) : endM fp44.km [2, 6, 7, 8, 9, 10, 11] [2, 3, 4, 5, 6] 7 ((evK kh (l5 ls (.i .i64 i)) (mK x0 x1 y0 y1 z0 z1 c0 c1) 7).at true) = some ⟨.nrm, .tt, l5 ls (.i .i64 i), mK x0 x1 y0 y1 z0 z1 c0 c1⟩ := by kernel_rfl
theorem khf (i : U) (x0 x1 y0 y1 z0 z1 : Nat → Bool) (c0 c1 : A) (ls : A) : endM fp44.km [2, 6, 7, 8, 9, 10, 11] [2, 3, 4, 5, 6] 7 ((evK kh (l5 ls (.i .i64 i)) (mK x0 x1 y0 y1 z0 z1 c0 c1) 7).at false) = some ⟨.exit 0, .tt, l5 ls (.i .i64 i), mK x0 x1 y0 y1 z0 z1 c0 c1⟩ := by kernel_rfl
theorem kii (i : U) (x0 x1 y0 y1 z0 z1 : Nat → Bool) (c0 c1 : A) (ls : A) : endM fp44.km [2, 6, 7, 8, 9, 10, 11] [2, 3, 4, 5, 6] 7 (evK ki (l5 ls (.i .i64 i)) (mK x0 x1 y0 y1 z0 z1 c0 c1) 7).pick = some ⟨.nrm, .tt, l5 ls (.i .i64 (i + K 1)), mK x0 x1 y0 y1 z0 z1 c0 c1⟩ := by kernel_rfl

/-! ### a round -/

structure KS where
  z0 : Nat → Bool
  z1 : Nat → Bool
  n0 : Option Bool
  n1 : Option Bool
def mayT (g0 g1 : Nat → Bool) (i : Nat) : Nat → Bool
  | 0 => g0 i
  | _ => g1 i
def carC (c0 c1 : Bool) : Nat → Bool
  | 0 => c0
  | _ => c1
def hitN (hit : Bool) (d : Bool) (n : Option Bool) : Option Bool := match hit with
  | true => match n with
    | some e => some (bif d then e else true)
    | none => some (bif d then false else true)
  | false => match n with
    | some e => some (bif d then e else e)
    | none => none
def hitZ (hit : Bool) (d : Bool) (i : Nat) (g : Nat → Bool) : Nat → Bool := match hit with
  | true => fun j => bif d then g j else (bif Nat.beq j i then true else g j)
  | false => fun j => bif d then g j else g j
def kdead (x0 x1 y0 y1 : Nat → Bool) (i : Nat) (c0 c1 : Bool) (k : Nat) : Bool := cond (!(mayT x0 x1 i (k % 2))) true (cond (!(mayT y0 y1 i (k / 2 % 2))) true (!(carC c0 c1 (k / 4))))
def ksum (less : Bool) (k : Nat) : Nat := match less with
  | true => 4 + k % 2 - k / 2 % 2 - k / 4
  | false => k % 2 + k / 2 % 2 + k / 4
def kover (less : Bool) (k : Nat) : Bool := match less with
  | true => Nat.blt (ksum true k) 4
  | false => Nat.blt 1 (ksum false k)
def kodd (less : Bool) (k : Nat) : Bool := Nat.beq (ksum less k % 2) 1
def kstep (less : Bool) (x0 x1 y0 y1 : Nat → Bool) (i : Nat) (c0 c1 : Bool) (s : KS) (k : Nat) : KS :=
  let d := kdead x0 x1 y0 y1 i c0 c1 k
  ⟨hitZ (!(kodd less k)) d i s.z0, hitZ (kodd less k) d i s.z1, hitN (!(kover less k)) d s.n0, hitN (kover less k) d s.n1⟩
def kround (less : Bool) (x0 x1 y0 y1 : Nat → Bool) (i : Nat) (c0 c1 : Bool) (z0 z1 : Nat → Bool) : Nat → KS
  | 0 => ⟨z0, z1, none, none⟩
  | k + 1 => kstep less x0 x1 y0 y1 i c0 c1 (kround less x0 x1 y0 y1 i c0 c1 z0 z1 k) k
def lsA : Bool → A
  | true => .tt
  | false => .ff
def getN (n : Option Bool) : Bool := match n with
  | some b => b
  | none => false
def okR (A B b : Bool) (x0 x1 y0 y1 : Nat → Bool) (i : Nat) (c0 c1 : Bool) : Nat → Bool
  | 0 => true
  | k + 1 =>
    let o := okR A B b x0 x1 y0 y1 i c0 c1 k
    let t := cond (!(mayT x0 x1 i (k % 2))) (o && A) ((o && A) && A)
    cond (kdead x0 x1 y0 y1 i c0 c1 k) t ((t && B) && b)
def inB (i : U) : Bool := (!(BitVec.msb i)) && Nat.blt i.toNat 64
abbrev okI (i : U) (x0 x1 y0 y1 : Nat → Bool) (c0 c1 : Bool) : Bool := okR (inB i && Nat.blt i.toNat 64) (inB i) (Nat.blt i.toNat 64) x0 x1 y0 y1 i.toNat c0 c1 8
abbrev kfin (less : Bool) (x0 x1 y0 y1 z0 z1 : Nat → Bool) (i : Nat) (c0 c1 : Bool) : KS := kround less x0 x1 y0 y1 i c0 c1 z0 z1 8

theorem kbf (i : U) (x0 x1 y0 y1 z0 z1 : Nat → Bool) (c0 c1 : Bool) : endM fp44.km [2, 6, 7, 8, 9, 10, 11] [2, 3, 4, 5, 6] 7 (evK kb (l5 .ff (.i .i64 i)) (mK x0 x1 y0 y1 z0 z1 (.b c0) (.b c1)) 7).pick =
    some ⟨.nrm, .b (okI i x0 x1 y0 y1 c0 c1), l5 .ff (.i .i64 i), mK x0 x1 y0 y1 (kfin false x0 x1 y0 y1 z0 z1 i.toNat c0 c1).z0 (kfin false x0 x1 y0 y1 z0 z1 i.toNat c0 c1).z1 (.b (getN (kfin false x0 x1 y0 y1 z0 z1 i.toNat c0 c1).n0)) (.b (getN (kfin false x0 x1 y0 y1 z0 z1 i.toNat c0 c1).n1))⟩ := by kernel_rfl
theorem kbt (i : U) (x0 x1 y0 y1 z0 z1 : Nat → Bool) (c0 c1 : Bool) : endM fp44.km [2, 6, 7, 8, 9, 10, 11] [2, 3, 4, 5, 6] 7 (evK kb (l5 .tt (.i .i64 i)) (mK x0 x1 y0 y1 z0 z1 (.b c0) (.b c1)) 7).pick =
    some ⟨.nrm, .b (okI i x0 x1 y0 y1 c0 c1), l5 .tt (.i .i64 i), mK x0 x1 y0 y1 (kfin true x0 x1 y0 y1 z0 z1 i.toNat c0 c1).z0 (kfin true x0 x1 y0 y1 z0 z1 i.toNat c0 c1).z1 (.b (getN (kfin true x0 x1 y0 y1 z0 z1 i.toNat c0 c1).n0)) (.b (getN (kfin true x0 x1 y0 y1 z0 z1 i.toNat c0 c1).n1))⟩ := by kernel_rfl

theorem kret (x0 x1 y0 y1 z0 z1 : Nat → Bool) (c0 c1 : Bool) (i : U) (ls : A) : retOf Tryd.prog fp44.km Tryd.f44.results.toList (evK q9 (l5 ls (.i .i64 i)) (mK x0 x1 y0 y1 z0 z1 (.b c0) (.b c1)) 7).pick = some (.tt, .tt, .t (tnT (tV z0 z1 64) (tM z0 z1 64))) := by kernel_rfl

/-! ### what a round does -/

def anyK (f : Nat → Bool) : Nat → Bool
  | 0 => false
  | k + 1 => anyK f k || f k
theorem hitN_get (hit d : Bool) (n : Option Bool) : getN (hitN hit d n) = (getN n || (hit && !d)) := by
  cases hit <;> cases d <;> cases n <;> simp [hitN, getN]
theorem hitZ_get (hit d : Bool) (i : Nat) (g : Nat → Bool) (j : Nat) : hitZ hit d i g j = (g j || (Nat.beq j i && (hit && !d))) := by
  cases hit <;> cases d
  · show g j = _
    simp
  · show g j = _
    simp
  · show (bif Nat.beq j i then true else g j) = _
    cases g j <;> cases Nat.beq j i <;> rfl
  · show g j = _
    simp
def mayB (a b : Bool) : Nat → Bool
  | 0 => a
  | _ => b
def deadB (a b c d e f : Bool) (k : Nat) : Bool := cond (!(mayB a b (k % 2))) true (cond (!(mayB c d (k / 2 % 2))) true (!(carC e f (k / 4))))
theorem mayT_eq (g0 g1 : Nat → Bool) (i m : Nat) : mayT g0 g1 i m = mayB (g0 i) (g1 i) m := by cases m <;> rfl
theorem dead_eq (x0 x1 y0 y1 : Nat → Bool) (i : Nat) (c0 c1 : Bool) (k : Nat) : kdead x0 x1 y0 y1 i c0 c1 k = deadB (x0 i) (x1 i) (y0 i) (y1 i) c0 c1 k := by
  unfold kdead deadB
  rw [mayT_eq, mayT_eq]
section
variable (less : Bool) (x0 x1 y0 y1 z0 z1 : Nat → Bool) (i : Nat) (c0 c1 : Bool)
abbrev dB (k : Nat) : Bool := deadB (x0 i) (x1 i) (y0 i) (y1 i) c0 c1 k
theorem round_n0 : ∀ n, getN (kround less x0 x1 y0 y1 i c0 c1 z0 z1 n).n0 = anyK (fun k => !(kover less k) && !(dB x0 x1 y0 y1 i c0 c1 k)) n
  | 0 => rfl
  | n + 1 => by
    show getN (hitN _ _ _) = _
    rw [hitN_get, round_n0 n, dead_eq]
    rfl
theorem round_n1 : ∀ n, getN (kround less x0 x1 y0 y1 i c0 c1 z0 z1 n).n1 = anyK (fun k => kover less k && !(dB x0 x1 y0 y1 i c0 c1 k)) n
  | 0 => rfl
  | n + 1 => by
    show getN (hitN _ _ _) = _
    rw [hitN_get, round_n1 n, dead_eq]
    rfl
theorem round_z0 (j : Nat) : ∀ n, (kround less x0 x1 y0 y1 i c0 c1 z0 z1 n).z0 j = (z0 j || (Nat.beq j i && anyK (fun k => !(kodd less k) && !(dB x0 x1 y0 y1 i c0 c1 k)) n))
  | 0 => by simp [kround, anyK]
  | n + 1 => by
    show hitZ _ _ _ _ j = _
    rw [hitZ_get, round_z0 j n, dead_eq, Bool.or_assoc, ← Bool.and_or_distrib_left]
    rfl
theorem round_z1 (j : Nat) : ∀ n, (kround less x0 x1 y0 y1 i c0 c1 z0 z1 n).z1 j = (z1 j || (Nat.beq j i && anyK (fun k => kodd less k && !(dB x0 x1 y0 y1 i c0 c1 k)) n))
  | 0 => by simp [kround, anyK]
  | n + 1 => by
    show hitZ _ _ _ _ j = _
    rw [hitZ_get, round_z1 j n, dead_eq, Bool.or_assoc, ← Bool.and_or_distrib_left]
    rfl
end

/-! ### all rounds -/

def N0 (less a b c d e f : Bool) : Bool := anyK (fun k => !(kover less k) && !(deadB a b c d e f k)) 8
def N1 (less a b c d e f : Bool) : Bool := anyK (fun k => kover less k && !(deadB a b c d e f k)) 8
def S0 (less a b c d e f : Bool) : Bool := anyK (fun k => !(kodd less k) && !(deadB a b c d e f k)) 8
def S1 (less a b c d e f : Bool) : Bool := anyK (fun k => kodd less k && !(deadB a b c d e f k)) 8
section
variable (less : Bool) (x0 x1 y0 y1 : Nat → Bool)
def cSeq : Nat → Bool × Bool
  | 0 => (true, false)
  | i + 1 => (N0 less (x0 i) (x1 i) (y0 i) (y1 i) (cSeq i).1 (cSeq i).2, N1 less (x0 i) (x1 i) (y0 i) (y1 i) (cSeq i).1 (cSeq i).2)
def zS0 (i : Nat) : Bool := S0 less (x0 i) (x1 i) (y0 i) (y1 i) (cSeq less x0 x1 y0 y1 i).1 (cSeq less x0 x1 y0 y1 i).2
def zS1 (i : Nat) : Bool := S1 less (x0 i) (x1 i) (y0 i) (y1 i) (cSeq less x0 x1 y0 y1 i).1 (cSeq less x0 x1 y0 y1 i).2
theorem blt_dec (a b : Nat) : Nat.blt a b = decide (a < b) := by
  rw [Bool.eq_iff_iff]
  simp [Nat.blt]
  exact Iff.rfl
def upTo (n : Nat) (g : Nat → Bool) (j : Nat) : Bool := Nat.blt j n && g j
theorem upTo_succ (n : Nat) (g : Nat → Bool) (j : Nat) : (upTo n g j || (Nat.beq j n && g n)) = upTo (n + 1) g j := by
  unfold upTo
  by_cases h : j = n
  · subst h
    have h1 : Nat.blt j j = false := by rw [blt_dec]; simp
    have h2 : Nat.blt j (j + 1) = true := by rw [blt_dec]; simp
    have h3 : Nat.beq j j = true := Nat.beq_refl j
    rw [h1, h2, h3]; simp
  · have h3 : Nat.beq j n = false := by
      cases h4 : Nat.beq j n
      · rfl
      · exact absurd (Nat.eq_of_beq_eq_true h4) h
    have h5 : Nat.blt j n = Nat.blt j (n + 1) := by
      rw [Bool.eq_iff_iff]
      simp [Nat.blt]
      omega
    rw [h3, h5]; simp
theorem fin_z0 (k : Nat) : (kfin less x0 x1 y0 y1 (upTo k (zS0 less x0 x1 y0 y1)) (upTo k (zS1 less x0 x1 y0 y1)) k (cSeq less x0 x1 y0 y1 k).1 (cSeq less x0 x1 y0 y1 k).2).z0 = upTo (k + 1) (zS0 less x0 x1 y0 y1) := by
  funext j
  rw [← upTo_succ]
  exact round_z0 ..
theorem fin_z1 (k : Nat) : (kfin less x0 x1 y0 y1 (upTo k (zS0 less x0 x1 y0 y1)) (upTo k (zS1 less x0 x1 y0 y1)) k (cSeq less x0 x1 y0 y1 k).1 (cSeq less x0 x1 y0 y1 k).2).z1 = upTo (k + 1) (zS1 less x0 x1 y0 y1) := by
  funext j
  rw [← upTo_succ]
  exact round_z1 ..
end

theorem okR_true (x0 x1 y0 y1 : Nat → Bool) (i : Nat) (c0 c1 : Bool) : ∀ k, okR true true true x0 x1 y0 y1 i c0 c1 k = true
  | 0 => rfl
  | k + 1 => by
    unfold okR
    rw [okR_true x0 x1 y0 y1 i c0 c1 k]
    cases mayT x0 x1 i (k % 2) <;> cases kdead x0 x1 y0 y1 i c0 c1 k <;> rfl
theorem in64 : ∀ k : Fin 64, inB (kk k.val) = true ∧ Nat.blt (kk k.val).toNat 64 = true ∧ BitVec.slt (kk k.val) (K 64) = true := by decide +kernel
theorem kk_nat {k : Nat} (h : k < 64) : (kk k).toNat = k := by rw [kk, BitVec.toNat_ofNat, Nat.mod_eq_of_lt (by omega)]
theorem kk_one (k : Nat) : kk k + K 1 = kk (k + 1) := by
  rw [show K 1 = 1#64 from rfl, kk, kk, BitVec.ofNat_add]
theorem okI_true {k : Nat} (h : k < 64) (x0 x1 y0 y1 : Nat → Bool) (c0 c1 : Bool) : okI (kk k) x0 x1 y0 y1 c0 c1 = true := by
  obtain ⟨h1, h2, _⟩ := in64 ⟨k, h⟩
  unfold okI
  rw [h1, h2]
  exact okR_true ..
theorem ffs_at : atB ffs = fun _ => false := by
  funext j
  unfold atB ffs
  by_cases h : j < 64
  · rw [List.getElem?_replicate_of_lt h]
  · rw [List.getElem?_eq_none (by simp; omega)]

section
variable {W : World} {a : Act} {w : World}
abbrev In44 (W : World) (l : List (Nat × V)) (ms : List (Nat × Blk)) (a : Act) (w : World) : Prop := Own fp44 7 ms W l a w
def mS (less : Bool) (x0 x1 y0 y1 : Nat → Bool) (k : Nat) : List (Nat × Blk) := mK x0 x1 y0 y1 (upTo k (zS0 less x0 x1 y0 y1)) (upTo k (zS1 less x0 x1 y0 y1)) (.b (cSeq less x0 x1 y0 y1 k).1) (.b (cSeq less x0 x1 y0 y1 k).2)

theorem kb_go (less : Bool) (x0 x1 y0 y1 : Nat → Bool) {k : Nat} (hk : k < 64) (h : In44 W (l5 (lsA less) (.i .i64 (kk k))) (mS less x0 x1 y0 y1 k) a w) :
    kb.wp Tryd.prog (fun x a' w' => x = .normal ∧ In44 W (l5 (lsA less) (.i .i64 (kk k))) (mS less x0 x1 y0 y1 (k + 1)) a' w') a w := by
  have e : mS less x0 x1 y0 y1 (k + 1) = mK x0 x1 y0 y1 (kfin less x0 x1 y0 y1 (upTo k (zS0 less x0 x1 y0 y1)) (upTo k (zS1 less x0 x1 y0 y1)) (kk k).toNat (cSeq less x0 x1 y0 y1 k).1 (cSeq less x0 x1 y0 y1 k).2).z0
      (kfin less x0 x1 y0 y1 (upTo k (zS0 less x0 x1 y0 y1)) (upTo k (zS1 less x0 x1 y0 y1)) (kk k).toNat (cSeq less x0 x1 y0 y1 k).1 (cSeq less x0 x1 y0 y1 k).2).z1
      (.b (getN (kfin less x0 x1 y0 y1 (upTo k (zS0 less x0 x1 y0 y1)) (upTo k (zS1 less x0 x1 y0 y1)) (kk k).toNat (cSeq less x0 x1 y0 y1 k).1 (cSeq less x0 x1 y0 y1 k).2).n0))
      (.b (getN (kfin less x0 x1 y0 y1 (upTo k (zS0 less x0 x1 y0 y1)) (upTo k (zS1 less x0 x1 y0 y1)) (kk k).toNat (cSeq less x0 x1 y0 y1 k).1 (cSeq less x0 x1 y0 y1 k).2).n1)) := by
    rw [kk_nat hk, fin_z0, fin_z1, round_n0, round_n1]
    rfl
  rw [e]
  cases less
  · exact Own.go (X0 Γ1_ok) rfl (kbf _ _ _ _ _ _ _ _ _) (okI_true hk ..) rfl rfl (by kernel_rfl) (LessA.refl _) (LessM.refl _) h
  · exact Own.go (X0 Γ1_ok) rfl (kbt _ _ _ _ _ _ _ _ _) (okI_true hk ..) rfl rfl (by kernel_rfl) (LessA.refl _) (LessM.refl _) h

theorem loop44 (less : Bool) (x0 x1 y0 y1 : Nat → Bool) (h : In44 W (l5 (lsA less) (.i .i64 (kk 0))) (mS less x0 x1 y0 y1 0) a w) :
    (Code.block 0 (.loop kl)).wp Tryd.prog (fun x a' w' => x = .normal ∧ In44 W (l5 (lsA less) (.i .i64 (kk 64))) (mS less x0 x1 y0 y1 64) a' w') a w := by
  refine for_loop (fun k => In44 W (l5 (lsA less) (.i .i64 (kk k))) (mS less x0 x1 y0 y1 k)) (In44 W (l5 (lsA less) (.i .i64 (kk 64))) (mS less x0 x1 y0 y1 64)) 64 ?_ ?_ h (fun a' w' h => ⟨rfl, h⟩)
  · intro k hk a w hI
    rw [kl_eq, ← kk_one]
    refine wp_two (Own.goB (X0 Γ1_ok) rfl ((khc _ _ _ _ _ _ _ _ _ _).trans (by rw [(in64 ⟨k, hk⟩).2.2])) (kht _ _ _ _ _ _ _ _ _ _) rfl (by cases less <;> rfl) rfl (by kernel_rfl) (LessA.refl _) (LessM.refl _) hI) fun a w hI => ?_
    refine wp_two (kb_go less x0 x1 y0 y1 hk hI) fun a w hI => ?_
    exact Own.go (X0 Γ1_ok) rfl (kii _ _ _ _ _ _ _ _ _ _) rfl (by cases less <;> rfl) rfl (by kernel_rfl) (LessA.refl _) (LessM.refl _) hI
  · intro a w hI
    rw [kl_eq]
    exact wp_out (Own.outB (X0 Γ1_ok) rfl ((khc _ _ _ _ _ _ _ _ _ _).trans (by rfl)) (khf _ _ _ _ _ _ _ _ _ _) rfl (by cases less <;> rfl) rfl (by kernel_rfl) (LessA.refl _) (LessM.refl _) hI)
end

theorem z_rel {g0 g1 : Nat → Bool} {ν : Nu} {vs : List Value} (h : (T.st [.lst 1 ffs, .lst 1 ffs]).rel ν vs) : (bitsT (upTo 0 g0) (upTo 0 g1)).rel ν vs := by
  have e1 : ∀ g, upTo 0 g = atB ffs := fun g => by
    rw [ffs_at]
    funext j
    simp [upTo, Nat.blt]
  rw [e1, e1]
  simp only [T.rel, relTs] at h ⊢
  obtain ⟨u1, w1, e1, r1, u2, w2, e2, r2, e3⟩ := h
  have f1 := isB_arr (ν := ν) (ts := ffs) (by decide) (by decide) (by simpa only [T.rel] using r1)
  have f2 := isB_arr (ν := ν) (ts := ffs) (by decide) (by decide) (by simpa only [T.rel] using r2)
  simp only [T.rel] at f1 f2
  exact ⟨u1, w1, e1, f1, u2, w2, e2, f2, e3⟩
theorem z_less (x0 x1 y0 y1 g0 g1 : Nat → Bool) : LessM ([(2, ⟨true, zero24⟩)] ++ mX x0 x1 ++ mY y0 y1 ++ [(5, ⟨true, .st [.lst 1 ffs, .lst 1 ffs]⟩)]) ([(2, ⟨true, zero24⟩)] ++ mX x0 x1 ++ mY y0 y1 ++ [(5, ⟨true, bitsT (upTo 0 g0) (upTo 0 g1)⟩)]) :=
  ⟨rfl, same_blk, rfl, same_blk, rfl, same_blk, rfl, ⟨rfl, fun ν vs h => z_rel h⟩, trivial⟩
theorem c_less (x0 x1 y0 y1 z0 z1 : Nat → Bool) : LessM (mK x0 x1 y0 y1 z0 z1 .tt .ff) (mK x0 x1 y0 y1 z0 z1 (.b true) (.b false)) :=
  ⟨rfl, same_blk, rfl, same_blk, rfl, same_blk, rfl, same_blk, rfl, ⟨rfl, fun ν vs h => by
    simp only [T.rel, relLst, A.rel] at h ⊢
    obtain ⟨u1, w1, e1, r1, ⟨v1, f1, rfl, c1⟩, u2, w2, e2, r2, ⟨v2, f2, rfl, c2⟩, e3⟩ := h
    exact ⟨u1, w1, e1, r1, ⟨_, f1, rfl, c1⟩, u2, w2, e2, r2, ⟨_, f2, rfl, c2⟩, e3⟩⟩, trivial⟩

theorem body44 : Tryd.f44.body = some c44 := by kernel_rfl

theorem carried_calls (less : Bool) (av am bv bm : U) {vs : List Value} (hv : relV nu0 [.t (tnT av am), .t (tnT bv bm), one (lsA less)] vs) (W : World) :
    Calls Tryd.prog 44 vs.toArray W fun e w' => ∃ u, e = .returned u ∧ (V.t (rT (upTo 64 (zS0 less (gZ av am) (gO av am) (gZ bv bm) (gO bv bm))) (upTo 64 (zS1 less (gZ av am) (gO av am) (gZ bv bm) (gO bv bm))))).rel nu0 u ∧ Below W.heap.size W w' := by
  refine calls_phases Tryd.func44 body44 ?_
  rw [c44_eq]
  have s0 := Own.enterA (fp := fp44) (W := W) hv (by show 3 ≤ 90; decide)
  refine wp_two (Own.go (X0 Γ1_ok) rfl (k0 av am bv bm _) rfl (by cases less <;> rfl) rfl (by kernel_rfl) (LessA.refl _) (LessM.refl _) s0) fun a w hI => ?_
  refine wp_two (Own.go (X0 Γ1_ok) rfl (k1 av am bv bm _) rfl (by cases less <;> rfl) rfl (by kernel_rfl) (LessA.refl _) (LessM.refl _) hI) fun a w hI => ?_
  refine wp_two (Own.go (X0 Γ1_ok) rfl (k2 av am bv bm _ _ _) rfl (by cases less <;> rfl) rfl (by kernel_rfl) (LessA.refl _) (LessM.refl _) hI) fun a w hI => ?_
  refine wp_two (Own.go (X0 Γ1_ok) rfl (k3 _ _ _ _ _) rfl (by cases less <;> rfl) rfl (by kernel_rfl) (LessA.refl _)
    (z_less _ _ _ _ (zS0 less (gZ av am) (gO av am) (gZ bv bm) (gO bv bm)) (zS1 less (gZ av am) (gO av am) (gZ bv bm) (gO bv bm))) hI) fun a w hI => ?_
  refine wp_two (Own.go (X0 Γ1_ok) rfl (k4 _ _ _ _ _ _ _) rfl (by cases less <;> rfl) rfl (by kernel_rfl) (LessA.refl _) (c_less _ _ _ _ _ _) hI) fun a w hI => ?_
  refine wp_two (wp_two (Own.go (X0 Γ1_ok) rfl (k5 _ _ _ _ _ _ _ _ _) rfl (by cases less <;> rfl) rfl (by kernel_rfl) (l'' := l5 (lsA less) (.i .i64 (kk 0)))
    (fun ν => ⟨rfl, same_rel, rfl, same_rel, rfl, same_rel, rfl, same_rel, rfl, same_rel, rfl, same_rel, rfl, lit_less rfl, trivial⟩) (LessM.refl _) hI) fun a w hI => loop44 less _ _ _ _ hI) fun a w hI => ?_
  exact Own.ret (X0 Γ1_ok) rfl (kret _ _ _ _ _ _ _ _ _ _) rfl rfl (by kernel_rfl) hI (fun ν u w' hu hb => ⟨u, rfl, V.rel_free rfl hu, hb⟩)
end Go.WE
