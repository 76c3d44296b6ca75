/- The law WordKnown: its text in phases, its loops by induction. -/
import Derived.Test.YtnjjcklhpgfnjaaKnownC
namespace Go.WE
set_option linter.unusedVariables false
open Go Go.Proofs
open Go.RowKit (Below)

noncomputable def c7 : Code := bodyOf Try.prog 7
noncomputable def p0 : Code := c7.sA
noncomputable def p1 : Code := c7.sB.sA
noncomputable def p2 : Code := c7.sB.sB.sA.sA
noncomputable def lp0 : Code := c7.sB.sB.sA.sB.inn.inn
noncomputable def rest7 : Code := c7.sB.sB.sB
noncomputable def h0 : Code := lp0.sA
noncomputable def p5 : Code := lp0.sB.sA.inn.sA.sA
noncomputable def lp1 : Code := lp0.sB.sA.inn.sA.sB.inn.inn
noncomputable def s6 : Code := lp0.sB.sA.inn.sB
noncomputable def i0 : Code := lp0.sB.sB
noncomputable def h1 : Code := lp1.sA
noncomputable def p8 : Code := lp1.sB.sA.inn.sA
noncomputable def lp2 : Code := lp1.sB.sA.inn.sB.inn.inn
noncomputable def i1 : Code := lp1.sB.sB
theorem c7_eq : c7 = .seq p0 (.seq p1 (.seq (.seq p2 (.block 0 (.loop lp0))) rest7)) := by kernel_rfl
theorem lp0_eq : lp0 = .seq h0 (.seq (.block 1 (.seq (.seq p5 (.block 2 (.loop lp1))) s6)) i0) := by kernel_rfl
theorem lp1_eq : lp1 = .seq h1 (.seq (.block 3 (.seq p8 (.block 4 (.loop lp2)))) i1) := by kernel_rfl

def fp7 : Fp := ⟨170141183460565945797256474054428372991, 161, 66, fun _ _ => none⟩
noncomputable def evW (c : Code) (l : List (Nat × V)) (h : H) : Out := evalC cxW (evalF cxW ΓW 400 10) fp7 400 c (stOf l h)
abbrev one (x : A) : V := .t (.a x)
def endsT : T := .lst 1 ([0, 1, 2, 31, 32, 33, 63, 64, 2147483647, 2147483648, 4294967295, 4294967296, 9223372036854775807, 9223372036854775808, 18446744073709551615].map fun n => .a (.lit .u64 n))
def hE : H := ⟨Tr.set .nil 0 ⟨true, endsT⟩, [], [], 1, 1, []⟩
def endsV : V := one (.sl 0 [] 1 (.lit 0) (.lit 15) (some (.lit 15)))
def l0 : List (Nat × V) := [(0, one .ff), (1, endsV)]
def lI (x : A) : List (Nat × V) := [(0, one .ff), (1, endsV), (2, one x)]
def lK (x y : A) : List (Nat × V) := [(0, one .ff), (1, endsV), (2, one x), (3, one y)]
def lO (x y z : A) : List (Nat × V) := [(0, one .ff), (1, endsV), (2, one x), (3, one y), (4, one z)]

theorem e0 : endOf fp7.km [0] (evW p0 [] H.none).pick = some ⟨.nrm, .tt, [(0, one .ff)]⟩ := by kernel_rfl
theorem e1 : endOf fp7.km [0, 1] (evW p1 [(0, one .ff)] H.none).pick = some ⟨.nrm, .tt, l0⟩ := by kernel_rfl
theorem e1h : ((evW p1 [(0, one .ff)] H.none).pick.map fun p => (p.2.h.m, p.2.h.next, p.2.h.gl)) = some (hE.m, hE.next, hE.gl) := by kernel_rfl
theorem e2 : endOf fp7.km [0, 1, 2] (evW p2 l0 hE).pick = some ⟨.nrm, .tt, lI (.lit .i64 0)⟩ := by kernel_rfl
theorem eh0 (x : U) : (evW h0 (lI (.i .i64 x)) hE).cnd = some (BitVec.slt x (K 15)) := by kernel_rfl
theorem eh0t (x : U) : endOf fp7.km [0, 1, 2] ((evW h0 (lI (.i .i64 x)) hE).at true) = some ⟨.nrm, .tt, lI (.i .i64 x)⟩ := by kernel_rfl
theorem eh0f (x : U) : endOf fp7.km [0, 1] ((evW h0 (lI (.i .i64 x)) hE).at false) = some ⟨.exit 0, .tt, l0⟩ := by kernel_rfl
theorem e5 (x : U) : endOf fp7.km [0, 1, 2, 3] (evW p5 (lI (.i .i64 x)) hE).pick = some ⟨.nrm, .tt, lK (.i .i64 x) (.lit .i64 0)⟩ := by kernel_rfl
theorem eh1 (x y : U) : (evW h1 (lK (.i .i64 x) (.i .i64 y)) hE).cnd = some (BitVec.slt y (K 15)) := by kernel_rfl
theorem eh1t (x y : U) : endOf fp7.km [0, 1, 2, 3] ((evW h1 (lK (.i .i64 x) (.i .i64 y)) hE).at true) = some ⟨.nrm, .tt, lK (.i .i64 x) (.i .i64 y)⟩ := by kernel_rfl
theorem eh1f (x y : U) : endOf fp7.km [0, 1, 2] ((evW h1 (lK (.i .i64 x) (.i .i64 y)) hE).at false) = some ⟨.exit 2, .tt, lI (.i .i64 x)⟩ := by kernel_rfl
theorem e8 (x y : U) : endOf fp7.km [0, 1, 2, 3, 4] (evW p8 (lK (.i .i64 x) (.i .i64 y)) hE).pick = some ⟨.nrm, .tt, lO (.i .i64 x) (.i .i64 y) (.lit .i64 0)⟩ := by kernel_rfl
theorem ei1 (x y : U) : endOf fp7.km [0, 1, 2, 3] (evW i1 (lK (.i .i64 x) (.i .i64 y)) hE).pick = some ⟨.nrm, .tt, lK (.i .i64 x) (.i .i64 (y + K 1))⟩ := by kernel_rfl
theorem ei0 (x : U) : endOf fp7.km [0, 1, 2] (evW i0 (lI (.i .i64 x)) hE).pick = some ⟨.nrm, .tt, lI (.i .i64 (x + K 1))⟩ := by kernel_rfl
theorem el2 (x y z : U) : (evW lp2 (lO (.i .i64 x) (.i .i64 y) (.i .i64 z)) hE).cnd = some (BitVec.sle z (K 240)) := by kernel_rfl
theorem el2f (x y z : U) : endOf fp7.km [0, 1, 2, 3] ((evW lp2 (lO (.i .i64 x) (.i .i64 y) (.i .i64 z)) hE).at false) = some ⟨.exit 4, .tt, lK (.i .i64 x) (.i .i64 y)⟩ := by kernel_rfl
theorem er : endOf fp7.km [0] (evW rest7 l0 hE).pick = some ⟨.ret, .tt, [(0, one .tt)]⟩ := by kernel_rfl

def okXY (x y : U) : Bool :=
  let a := (!(BitVec.msb x)) && Nat.blt (BitVec.toNat x) 15
  let b := Nat.blt (0 + BitVec.toNat x) 15
  let c := (!(BitVec.msb y)) && Nat.blt (BitVec.toNat y) 15
  let d := Nat.blt (0 + BitVec.toNat y) 15
  let t10 := (((a && b) && c) && d) && a
  let t12 := ((((t10 && b) && c) && d) && a)
  let t14 := ((((t12 && b) && c) && d) && a)
  ((t14 && b) && c) && d
theorem el2t (x y z : U) : endOf fp7.km [0, 1, 2, 3, 4] ((evW lp2 (lO (.i .i64 x) (.i .i64 y) (.i .i64 z)) hE).at true) = some ⟨.nrm, .b (okXY x y), lO (.i .i64 x) (.i .i64 y) (.i .i64 (z + K 16))⟩ := by kernel_rfl
abbrev kk (k : Nat) : U := BitVec.ofNat 64 k
theorem idx_ok : ∀ i : Fin 15, ((!(BitVec.msb (kk i.val))) && Nat.blt (BitVec.toNat (kk i.val)) 15) = true ∧ Nat.blt (0 + BitVec.toNat (kk i.val)) 15 = true := by decide +kernel
theorem okXY_ok {i k : Nat} (hi : i < 15) (hk : k < 15) : okXY (kk i) (kk k) = true := by
  obtain ⟨a, b⟩ := idx_ok ⟨i, hi⟩
  obtain ⟨c, d⟩ := idx_ok ⟨k, hk⟩
  unfold okXY
  simp only [a, b, c, d, Bool.and_self]
theorem lt15 : ∀ k : Fin 15, BitVec.slt (kk k.val) (K 15) = true := by decide +kernel
theorem le240 : ∀ k : Fin 16, BitVec.sle (kk (16 * k.val)) (K 240) = true := by decide +kernel
theorem kk_one (k : Nat) : kk k + K 1 = kk (k + 1) := by
  rw [show K 1 = 1#64 from rfl, kk, kk, BitVec.ofNat_add]
theorem kk_16 (k : Nat) : kk (16 * k) + K 16 = kk (16 * (k + 1)) := by
  rw [show K 16 = BitVec.ofNat 64 16 from rfl, kk, kk, ← BitVec.ofNat_add, Nat.mul_succ]
theorem kk_int (k : Nat) : kk k = BitVec.ofInt 64 (Int.ofNat k) := (BitVec.ofInt_natCast 64 k).symm
theorem es6_0 : endOf fp7.km [0, 1, 2] (evW s6 (lI (.lit .i64 0)) hE).pick = some ⟨.nrm, .tt, lI (.lit .i64 0)⟩ := by kernel_rfl
theorem es6_1 : endOf fp7.km [0, 1, 2] (evW s6 (lI (.lit .i64 1)) hE).pick = some ⟨.nrm, .tt, lI (.lit .i64 1)⟩ := by kernel_rfl
theorem es6_2 : endOf fp7.km [0, 1, 2] (evW s6 (lI (.lit .i64 2)) hE).pick = some ⟨.nrm, .tt, lI (.lit .i64 2)⟩ := by kernel_rfl
theorem es6_3 : endOf fp7.km [0, 1, 2] (evW s6 (lI (.lit .i64 3)) hE).pick = some ⟨.nrm, .tt, lI (.lit .i64 3)⟩ := by kernel_rfl
theorem es6_4 : endOf fp7.km [0, 1, 2] (evW s6 (lI (.lit .i64 4)) hE).pick = some ⟨.nrm, .tt, lI (.lit .i64 4)⟩ := by kernel_rfl
theorem es6_5 : endOf fp7.km [0, 1, 2] (evW s6 (lI (.lit .i64 5)) hE).pick = some ⟨.nrm, .tt, lI (.lit .i64 5)⟩ := by kernel_rfl
theorem es6_6 : endOf fp7.km [0, 1, 2] (evW s6 (lI (.lit .i64 6)) hE).pick = some ⟨.nrm, .tt, lI (.lit .i64 6)⟩ := by kernel_rfl
theorem es6_7 : endOf fp7.km [0, 1, 2] (evW s6 (lI (.lit .i64 7)) hE).pick = some ⟨.nrm, .tt, lI (.lit .i64 7)⟩ := by kernel_rfl
theorem es6_8 : endOf fp7.km [0, 1, 2] (evW s6 (lI (.lit .i64 8)) hE).pick = some ⟨.nrm, .tt, lI (.lit .i64 8)⟩ := by kernel_rfl
theorem es6_9 : endOf fp7.km [0, 1, 2] (evW s6 (lI (.lit .i64 9)) hE).pick = some ⟨.nrm, .tt, lI (.lit .i64 9)⟩ := by kernel_rfl
theorem es6_10 : endOf fp7.km [0, 1, 2] (evW s6 (lI (.lit .i64 10)) hE).pick = some ⟨.nrm, .tt, lI (.lit .i64 10)⟩ := by kernel_rfl
theorem es6_11 : endOf fp7.km [0, 1, 2] (evW s6 (lI (.lit .i64 11)) hE).pick = some ⟨.nrm, .tt, lI (.lit .i64 11)⟩ := by kernel_rfl
theorem es6_12 : endOf fp7.km [0, 1, 2] (evW s6 (lI (.lit .i64 12)) hE).pick = some ⟨.nrm, .tt, lI (.lit .i64 12)⟩ := by kernel_rfl
theorem es6_13 : endOf fp7.km [0, 1, 2] (evW s6 (lI (.lit .i64 13)) hE).pick = some ⟨.nrm, .tt, lI (.lit .i64 13)⟩ := by kernel_rfl
theorem es6_14 : endOf fp7.km [0, 1, 2] (evW s6 (lI (.lit .i64 14)) hE).pick = some ⟨.nrm, .tt, lI (.lit .i64 14)⟩ := by kernel_rfl
theorem es6 : ∀ i, i < 15 → endOf fp7.km [0, 1, 2] (evW s6 (lI (.lit .i64 (Int.ofNat i))) hE).pick = some ⟨.nrm, .tt, lI (.lit .i64 (Int.ofNat i))⟩
  | 0, _ => es6_0
  | 1, _ => es6_1
  | 2, _ => es6_2
  | 3, _ => es6_3
  | 4, _ => es6_4
  | 5, _ => es6_5
  | 6, _ => es6_6
  | 7, _ => es6_7
  | 8, _ => es6_8
  | 9, _ => es6_9
  | 10, _ => es6_10
  | 11, _ => es6_11
  | 12, _ => es6_12
  | 13, _ => es6_13
  | 14, _ => es6_14
  | n + 15, h => absurd h (by omega)
theorem wrap15 : ∀ i : Fin 15, IntKind.i64.wrap (Int.ofNat i.val) = Int.ofNat i.val := by decide +kernel

section
variable {W : World} {ν : Nu} {a : Act} {w : World}
abbrev In (W : World) (ν : Nu) (l : List (Nat × V)) (a : Act) (w : World) : Prop := At fp7 hE W ν l a w

theorem loop2 {i k : Nat} (hi : i < 15) (hk : k < 15) (h : In W ν (lO (.i .i64 (kk i)) (.i .i64 (kk k)) (.i .i64 (kk 0))) a w) :
    (Code.block 4 (.loop lp2)).wp Try.prog (fun x a' w' => x = .normal ∧ In W ν (lK (.i .i64 (kk i)) (.i .i64 (kk k))) a' w') a w := by
  refine for_loop (fun m => In W ν (lO (.i .i64 (kk i)) (.i .i64 (kk k)) (.i .i64 (kk (16 * m))))) (In W ν (lK (.i .i64 (kk i)) (.i .i64 (kk k)))) 16 ?_ ?_ h (fun a' w' h => ⟨rfl, h⟩)
  · intro m hm a w hI
    rw [← kk_16]
    exact At.goB (XW ΓW_ok) rfl ((el2 _ _ _).trans (by rw [le240 ⟨m, hm⟩])) (el2t _ _ _) (okXY_ok hi hk) rfl (by kernel_rfl) (LessL.refl _) hI
  · intro a w hI
    exact At.outB (XW ΓW_ok) rfl ((el2 _ _ _).trans (by rfl)) (el2f _ _ _) rfl rfl (by kernel_rfl) (LessL.refl _) hI

theorem loop1 {i : Nat} (hi : i < 15) (h : In W ν (lK (.i .i64 (kk i)) (.i .i64 (kk 0))) a w) :
    (Code.block 2 (.loop lp1)).wp Try.prog (fun x a' w' => x = .normal ∧ In W ν (lI (.i .i64 (kk i))) a' w') a w := by
  refine for_loop (fun m => In W ν (lK (.i .i64 (kk i)) (.i .i64 (kk m)))) (In W ν (lI (.i .i64 (kk i)))) 15 ?_ ?_ h (fun a' w' h => ⟨rfl, h⟩)
  · intro m hm a w hI
    rw [lp1_eq, ← kk_one]
    refine wp_two (At.goB (XW ΓW_ok) rfl ((eh1 _ _).trans (by rw [lt15 ⟨m, hm⟩])) (eh1t _ _) rfl rfl (by kernel_rfl) (LessL.refl _) hI) fun a w hI => ?_
    refine wp_two (wp_in (wp_two (At.go (XW ΓW_ok) rfl (e8 _ _) rfl rfl (by kernel_rfl) (l'' := lO (.i .i64 (kk i)) (.i .i64 (kk m)) (.i .i64 (kk 0))) ⟨rfl, same_rel, rfl, same_rel, rfl, same_rel, rfl, same_rel, rfl, lit_less rfl, trivial⟩ hI) fun a w hI => loop2 hi hm hI)) fun a w hI => ?_
    exact At.go (XW ΓW_ok) rfl (ei1 _ _) rfl rfl (by kernel_rfl) (LessL.refl _) hI
  · intro a w hI
    rw [lp1_eq]
    exact wp_out (At.outB (XW ΓW_ok) rfl ((eh1 _ _).trans (by rfl)) (eh1f _ _) rfl rfl (by kernel_rfl) (LessL.refl _) hI)

theorem loop0 (h : In W ν (lI (.i .i64 (kk 0))) a w) : (Code.block 0 (.loop lp0)).wp Try.prog (fun x a' w' => x = .normal ∧ In W ν l0 a' w') a w := by
  refine for_loop (fun m => In W ν (lI (.i .i64 (kk m)))) (In W ν l0) 15 ?_ ?_ h (fun a' w' h => ⟨rfl, h⟩)
  · intro m hm a w hI
    rw [lp0_eq, ← kk_one]
    refine wp_two (At.goB (XW ΓW_ok) rfl ((eh0 _).trans (by rw [lt15 ⟨m, hm⟩])) (eh0t _) rfl rfl (by kernel_rfl) (LessL.refl _) hI) fun a w hI => ?_
    refine wp_two (J := In W ν (lI (.i .i64 (kk m)))) (wp_in (wp_two (wp_two (At.go (XW ΓW_ok) rfl (e5 _) rfl rfl (by kernel_rfl) (l'' := lK (.i .i64 (kk m)) (.i .i64 (kk 0))) ⟨rfl, same_rel, rfl, same_rel, rfl, same_rel, rfl, lit_less rfl, trivial⟩ hI) fun a w hI => loop1 hm hI) fun a w hI => ?_)) fun a w hI => ?_
    · exact At.go (XW ΓW_ok) rfl (es6 m hm) rfl rfl (by kernel_rfl) ⟨rfl, same_rel, rfl, same_rel, rfl, lit_less (kk_int m), trivial⟩ ⟨hI.1.conv ⟨rfl, same_rel, rfl, same_rel, rfl, less_lit (kk_int m) (wrap15 ⟨m, hm⟩), trivial⟩, hI.2⟩
    · exact At.go (XW ΓW_ok) rfl (ei0 _) rfl rfl (by kernel_rfl) (LessL.refl _) hI
  · intro a w hI
    rw [lp0_eq]
    exact wp_out (At.outB (XW ΓW_ok) rfl ((eh0 _).trans (by rfl)) (eh0f _) rfl rfl (by kernel_rfl) (LessL.refl _) hI)
end

theorem body7 : Try.f7.body = some c7 := by kernel_rfl

/-- WordKnown returns true. -/
theorem known_calls (W : World) : Calls Try.prog 7 #[] W fun e w' => e = .returned (.bool true) ∧ Below W.heap.size W w' := by
  refine calls_phases Try.func7 body7 ?_
  rw [c7_eq]
  have s0 : At fp7 H.none W nu0 [] { tmps := #[] ++ Array.replicate (Try.f7.ntmps - (#[] : Array Value).size) undef, defers := [] } W := ⟨⟨mem_none _ _, (fun t v h => by cases h), (by simp [Try.f7, fp7]), rfl⟩, Below.refl _ _⟩
  refine wp_two (At.go (XW ΓW_ok) rfl e0 rfl rfl (by kernel_rfl) (LessL.refl _) s0) fun a w hI => ?_
  refine wp_two (At.grow (XW ΓW_ok) rfl e1 e1h rfl rfl (by kernel_rfl) hI) fun a w ⟨ν, hI⟩ => ?_
  refine wp_two (wp_two (At.go (XW ΓW_ok) rfl e2 rfl rfl (by kernel_rfl) (l'' := lI (.i .i64 (kk 0))) ⟨rfl, same_rel, rfl, same_rel, rfl, lit_less rfl, trivial⟩ hI) fun a w hI => loop0 hI) fun a w hI => ?_
  exact At.ret (u := .bool true) (XW ΓW_ok) rfl er rfl rfl (by kernel_rfl) (fun ν x h => .inr h) rfl (fun ν x h => by have h : (A.tt).rel ν x := h; simpa only [A.rel] using h) (fun w' hb => ⟨rfl, hb⟩) hI
end Go.WE
