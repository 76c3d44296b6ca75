/- Contracts of the words' seat. -/
import Derived.Test.YtnjjcklhpgfnjaaRows
import Derived.Test.YtnjjcklhpgfnjaaVE13
import Derived.Test.YtnjjcklhpgfnjaaSwap
namespace Go.VE
open Go
set_option linter.unusedVariables false
def swWn (n : U) (a : U) (x : Bool) : Option (A × V) :=
  let t0 : U := cond (n == (K 64)) (K 2) (K (-1))
  let t1 : U := cond (n == (K 32)) (K 1) t0
  let t2 : U := cond (n == (K 16)) (K 0) t1
  let t3 : Bool := BitVec.sle (K 0) t2
  let t4 : Bool := BitVec.msb ((K 64) - n)
  let t5 : Bool := cond x (!t4) true
  let t6 : Bool := BitVec.msb n
  let t7 : Bool := cond (!t3) true (t5 && (!t6))
  let t8 : U := a >>> (BitVec.toNat (K 8))
  let t9 : U := t8 &&& (K 71777214294589695)
  let t10 : U := a &&& (K 71777214294589695)
  let t11 : U := t10 <<< (BitVec.toNat (K 8))
  let t12 : U := (t9 ||| t11) >>> (BitVec.toNat (K 16))
  let t13 : U := t12 &&& (K 281470681808895)
  let t14 : U := (t9 ||| t11) &&& (K 281470681808895)
  let t15 : U := t14 <<< (BitVec.toNat (K 16))
  let t16 : U := (t13 ||| t15) >>> (BitVec.toNat (K 32))
  let t17 : U := (t13 ||| t15) <<< (BitVec.toNat (K 32))
  let t18 : U := (t16 ||| t17) >>> (BitVec.toNat ((K 64) - n))
  let t19 : U := (K 1) <<< (BitVec.toNat n)
  let t20 : U := (cond x t18 a) &&& (t19 - (K 1))
  let t21 : U := cond (!t3) (K 0) t20
  let t22 : Bool := cond (!t3) false true
  some ((.b t7), (.t ((.a (.i .u64 t21)) :: ((.a (.b t22)) :: []))))
def swRn (n : U) (a : U) (x : Bool) : Option (A × V) :=
  let t0 : Bool := cond (n != (K 16)) (n != (K 32)) false
  let t1 : Bool := cond t0 (n != (K 64)) false
  let t2 : Bool := cond (!x) false false
  let t3 : Bool := cond t1 true t2
  let t4 : U := cond (!x) (K 0) (K 0)
  let t5 : U := cond t1 (K 0) t4
  let t6 : Bool := cond t1 false true
  some ((.b t3), (.t ((.a (.i .u64 t5)) :: ((.a (.b t6)) :: []))))
end Go.VE
namespace Go.Proofs.Ytnjjcklhpgfnjaa.Con
open Go Go.VE
set_option linter.unusedVariables false
def eqs : List (TypeId × List Bool) := []
theorem eqsOk : eqTabOk Try.prog eqs = true := by kernel_rfl
theorem ent : entersAll Try.prog = true := by kernel_rfl

theorem evWorks : closedB (evalF { P := Try.prog, eqT := eqTab eqs } noΓ 600 8 12 [] []) = true := by kernel_rfl
theorem evCut64 (a : U) : evalF { P := Try.prog, eqT := eqTab eqs } noΓ 600 8 29 [.a (.i .u64 a), .a (.lit .i64 64)] [] = some (.tt, .a (.i .u64 (bsum (bitT a) 64))) := by kernel_rfl
theorem evCut32 (a : U) : evalF { P := Try.prog, eqT := eqTab eqs } noΓ 600 8 29 [.a (.i .u64 a), .a (.lit .i64 32)] [] = some (.tt, .a (.i .u64 (bsum (bitT a) 32))) := by kernel_rfl
theorem evCut16 (a : U) : evalF { P := Try.prog, eqT := eqTab eqs } noΓ 600 8 29 [.a (.i .u64 a), .a (.lit .i64 16)] [] = some (.tt, .a (.i .u64 (bsum (bitT a) 16))) := by kernel_rfl
theorem evBw (op a b : U) : evalF { P := Try.prog, eqT := eqTab eqs } noΓ 600 8 30 [.a (.i .i64 op), .a (.i .u64 a), .a (.i .u64 b)] [] = some (.tt, .a (.i .u64 (bsum (bwF op a b) 64))) := by kernel_rfl
theorem evSh64 (op a b : U) : evalF { P := Try.prog, eqT := eqTab eqs } noΓ 600 8 31 [.a (.i .i64 op), .a (.lit .i64 64), .a (.i .u64 a), .a (.i .u64 b)] [] = some (.tt, .a (.i .u64 (sh 64 op a b))) := by kernel_rfl
theorem evSh32 (op a b : U) : evalF { P := Try.prog, eqT := eqTab eqs } noΓ 600 8 31 [.a (.i .i64 op), .a (.lit .i64 32), .a (.i .u64 a), .a (.i .u64 b)] [] = some (.tt, .a (.i .u64 (sh 32 op a b))) := by kernel_rfl

def cutE : List V → List HE → Option (A × V)
  | [.a x, .a y], _ => match x.bv with
    | some (.u64, x) => match y with
      | .lit .i64 (.ofNat n) => match Nat.beq n 64 || Nat.beq n 32 || Nat.beq n 16 with
        | true => some (.tt, .a (.i .u64 (cutn n x)))
        | false => none
      | .i .i64 _ => some (.b false, .a (.i .u64 (BitVec.ofInt 64 0)))
      | _ => none
    | _ => none
  | _, _ => none
def bwG : List At → Option (A × V)
  | [.n o, .n a, .n b] => some (.tt, .a (.i .u64 (bw o a b)))
  | _ => none
def shE : List V → List HE → Option (A × V)
  | [.a o, .a (.lit .i64 (.ofNat n)), .a x, .a y], _ => match o.bv, x.bv, y.bv with
    | some (.i64, o), some (.u64, x), some (.u64, y) => match Nat.beq n 64 || Nat.beq n 32 with
      | true => some (.tt, .a (.i .u64 (sh n o x y)))
      | false => none
    | _, _, _ => none
  | _, _ => none
def worksG : List At → Option (A × V)
  | [] => some (.tt, .a .tt)
  | _ => none
def Γ1 : CallE := addΓ 29 cutE (addΓ 30 (specΓ [.one (some .i64), .one (some .u64), .one (some .u64)] bwG) (addΓ 31 shE (addΓ 12 (specΓ [] worksG) noΓ)))

theorem rel1 {ν : Nu} {x : A} {k : IntKind} {y : U} {r : List V} {vs : List Value} (hb : x.bv = some (k, y)) (h : relV ν (.a x :: r) vs) : relV ν (.a (.i k y) :: r) vs := by
  cases vs with
  | nil => exact h.elim
  | cons v vs => exact ⟨A.rel_bv h.1 hb, h.2⟩

theorem cutE_ok : ∀ args h ok v, cutE args h = some (ok, v) → okB ok = true → (Enters Try.prog 29 ∧ PureOK Try.prog gw0 29 args h v) ∨ AtOnce Try.prog 29 args v := by
  intro args h ok v hs hok
  obtain ⟨fn, hf, hb⟩ := bodied Try.func29 (by kernel_rfl)
  refine .inl ⟨enters_of ent 29 fn hf hb, ?_⟩
  unfold cutE at hs
  split at hs
  · split at hs
    · rename_i x y _ x' hx
      split at hs
      · rename_i n
        split at hs
        · rename_i hn
          simp only [Option.some.injEq, Prod.mk.injEq] at hs
          obtain ⟨rfl, rfl⟩ := hs
          simp only [Bool.or_eq_true] at hn
          rcases hn with (hn | hn) | hn
          · obtain rfl := Nat.eq_of_beq_eq_true hn
            have e := evCut64 x'
            rw [cut64] at e
            exact (pure_of_eval (ok := .tt) eqsOk noΓ_ok ent rfl e rfl).weaken fun ν vs h => rel1 hx h
          · obtain rfl := Nat.eq_of_beq_eq_true hn
            have e := evCut32 x'
            rw [cut32] at e
            exact (pure_of_eval (ok := .tt) eqsOk noΓ_ok ent rfl e rfl).weaken fun ν vs h => rel1 hx h
          · obtain rfl := Nat.eq_of_beq_eq_true hn
            have e := evCut16 x'
            rw [cut16_eq] at e
            exact (pure_of_eval (ok := .tt) eqsOk noΓ_ok ent rfl e rfl).weaken fun ν vs h => rel1 hx h
        · cases hs
      · simp only [Option.some.injEq, Prod.mk.injEq] at hs
        obtain ⟨rfl, rfl⟩ := hs
        cases hok
      · cases hs
    · cases hs
  · cases hs

theorem shE_ok : ∀ args h ok v, shE args h = some (ok, v) → okB ok = true → (Enters Try.prog 31 ∧ PureOK Try.prog gw0 31 args h v) ∨ AtOnce Try.prog 31 args v := by
  intro args h ok v hs hok
  obtain ⟨fn, hf, hb⟩ := bodied Try.func31 (by kernel_rfl)
  refine .inl ⟨enters_of ent 31 fn hf hb, ?_⟩
  unfold shE at hs
  split at hs
  · split at hs
    · rename_i o n x y _ _ _ o' x' y' ho hx hy
      split at hs
      · rename_i hn
        simp only [Option.some.injEq, Prod.mk.injEq] at hs
        obtain ⟨rfl, rfl⟩ := hs
        simp only [Bool.or_eq_true] at hn
        have hrel : ∀ (ν : Nu) (vs : List Value), relV ν [.a o, .a (.lit .i64 (Int.ofNat n)), .a x, .a y] vs → relV ν [.a (.i .i64 o'), .a (.lit .i64 (Int.ofNat n)), .a (.i .u64 x'), .a (.i .u64 y')] vs := by
          intro ν vs h
          match vs, h with
          | [_, _, _, _], h => exact ⟨A.rel_bv h.1 ho, h.2.1, A.rel_bv h.2.2.1 hx, A.rel_bv h.2.2.2.1 hy, trivial⟩
        rcases hn with hn | hn
        · obtain rfl := Nat.eq_of_beq_eq_true hn
          exact (pure_of_eval (ok := .tt) eqsOk noΓ_ok ent rfl (evSh64 o' x' y') rfl).weaken hrel
        · obtain rfl := Nat.eq_of_beq_eq_true hn
          exact (pure_of_eval (ok := .tt) eqsOk noΓ_ok ent rfl (evSh32 o' x' y') rfl).weaken hrel
      · cases hs
    · cases hs
  · cases hs

theorem closed_pure {P : Program} {gw : GW} {l : List (TypeId × List Bool)} (hE : eqTabOk P l = true) {Γ : CallE} (hΓ : CallOK P gw Γ) (hent : entersAll P = true) {it fuel n : Nat} {f : FuncId}
    (hΓf : Γ f [] [] = none) (he : closedB (evalF { P := P, eqT := eqTab l, it := it } Γ fuel (n + 1) f [] []) = true) : PureOK P gw f [] [] (.a .tt) := by
  obtain ⟨ok, v, e, hok, hv⟩ := closedB_true he
  intro ν w vs h1 h2 h3 h4
  refine (pure_of_eval hE hΓ hent hΓf e hok ν w vs h1 h2 h3 h4).mono ?_
  rintro e w' ⟨u, he, hr, hb⟩
  exact ⟨u, he, hv _ _ hr, hb⟩

theorem Γ1ok : CallOK Try.prog gw0 Γ1 := by
  refine addΓ_ok cutE_ok (addΓ_ok (spec_ok ent (bodied Try.func30 (by kernel_rfl)) ?_) (addΓ_ok shE_ok (addΓ_ok (spec_ok ent (bodied Try.func12 (by kernel_rfl)) ?_) noΓ_ok)))
  · intro ys ok v h hok
    match ys, h with
    | [.n o, .n a, .n b], h =>
      simp [bwG] at h
      obtain ⟨_, rfl⟩ := h
      rw [← bw_eq]
      exact pure_of_eval (ok := .tt) eqsOk noΓ_ok ent rfl (evBw o a b) rfl
  · intro ys ok v h hok
    match ys, h with
    | [], h =>
      simp [worksG] at h
      obtain ⟨_, rfl⟩ := h
      exact closed_pure eqsOk noΓ_ok ent rfl evWorks

/-! ### operations and comparisons -/
theorem evAluW (op a b : U) : evalF { P := Try.prog, eqT := eqTab eqs } noΓ 600 8 10 [.a (.i .i64 op), .a .tt, .a (.i .u64 a), .a (.i .u64 b)] [] = aluW op a b := by kernel_rfl
theorem evAluN (op a b : U) : evalF { P := Try.prog, eqT := eqTab eqs } noΓ 600 8 10 [.a (.i .i64 op), .a .ff, .a (.i .u64 a), .a (.i .u64 b)] [] = aluN op a b := by kernel_rfl
theorem evRefAluW (op a b : U) : evalF { P := Try.prog, eqT := eqTab eqs } Γ1 600 8 11 [.a (.i .i64 op), .a .tt, .a (.i .u64 a), .a (.i .u64 b)] [] = refAluW op a b := by kernel_rfl
theorem evRefAluN (op a b : U) : evalF { P := Try.prog, eqT := eqTab eqs } Γ1 600 8 11 [.a (.i .i64 op), .a .ff, .a (.i .u64 a), .a (.i .u64 b)] [] = refAluN op a b := by kernel_rfl
theorem evJumpW (op a b : U) : evalF { P := Try.prog, eqT := eqTab eqs } noΓ 600 8 13 [.a (.i .i64 op), .a .tt, .a (.i .u64 a), .a (.i .u64 b)] [] = jumpW op a b := by kernel_rfl
theorem evJumpN (op a b : U) : evalF { P := Try.prog, eqT := eqTab eqs } noΓ 600 8 13 [.a (.i .i64 op), .a .ff, .a (.i .u64 a), .a (.i .u64 b)] [] = jumpN op a b := by kernel_rfl
theorem evRefJumpW (op a b : U) : evalF { P := Try.prog, eqT := eqTab eqs } Γ1 600 8 14 [.a (.i .i64 op), .a .tt, .a (.i .u64 a), .a (.i .u64 b)] [] = refJumpW op a b := by kernel_rfl
theorem evRefJumpN (op a b : U) : evalF { P := Try.prog, eqT := eqTab eqs } Γ1 600 8 14 [.a (.i .i64 op), .a .ff, .a (.i .u64 a), .a (.i .u64 b)] [] = refJumpN op a b := by kernel_rfl
theorem evSwW (n : Int) (h : n = 16 ∨ n = 32 ∨ n = 64) (x : Bool) (a : U) : evalF { P := Try.prog, eqT := eqTab eqs } noΓ 600 8 15 [.a (.lit .i64 n), .a (ofDec x), .a (.i .u64 a)] [] =
    some (.tt, .t [.a (.i .u64 (cond x (swL n.toNat a) (a &&& msk n.toNat))), .a .tt]) := by
  rcases h with rfl | rfl | rfl <;> cases x <;> kernel_rfl
theorem evSwR (n : Int) (h : n = 16 ∨ n = 32 ∨ n = 64) (x : Bool) (a : U) : evalF { P := Try.prog, eqT := eqTab eqs } Γ1 600 8 16 [.a (.lit .i64 n), .a (ofDec x), .a (.i .u64 a)] [] =
    some (.tt, .t [.a (.i .u64 (cond x (swR n.toNat a) (cutn n.toNat a))), .a .tt]) := by
  rcases h with rfl | rfl | rfl <;> cases x <;> kernel_rfl
theorem evSwWn (n a : U) (x : Bool) : evalF { P := Try.prog, eqT := eqTab eqs } noΓ 600 8 15 [.a (.i .i64 n), .a (.b x), .a (.i .u64 a)] [] = swWn n a x := by kernel_rfl
theorem evSwRn (n a : U) (x : Bool) : evalF { P := Try.prog, eqT := eqTab eqs, it := 0 } Γ1 600 8 16 [.a (.i .i64 n), .a (.b x), .a (.i .u64 a)] [] = swRn n a x := by kernel_rfl

def aluV (x : Bool) (op a b : U) : U := cond x (aluVW op a b) (aluVN op a b)
def jumpV (x : Bool) (op a b : U) : Bool := cond x (jumpVW op a b) (jumpVN op a b)
def aluG : List At → Option (A × V)
  | [.n o, .b x, .n a, .n b] => some (.tt, .t [.a (.i .u64 (aluV x o a b)), .a (.b (aluOk o))])
  | _ => none
def jumpG : List At → Option (A × V)
  | [.n o, .b x, .n a, .n b] => some (.tt, .t [.a (.b (jumpV x o a b)), .a (.b (jumpOk o))])
  | _ => none
def swapG : List At → Option (A × V)
  | [.n n, .b x, .n a] => some (.tt, .t [.a (.i .u64 (swapV n x a)), .a (.b (swapOk n))])
  | _ => none

def Γ2 : CallE := addΓ 10 (specΓ [.one (some .i64), .one none, .one (some .u64), .one (some .u64)] aluG) (addΓ 11 (specΓ [.one (some .i64), .one none, .one (some .u64), .one (some .u64)] aluG)
  (addΓ 13 (specΓ [.one (some .i64), .one none, .one (some .u64), .one (some .u64)] jumpG) (addΓ 14 (specΓ [.one (some .i64), .one none, .one (some .u64), .one (some .u64)] jumpG)
  (addΓ 15 (specΓ [.one (some .i64), .one none, .one (some .u64)] swapG) (addΓ 16 (specΓ [.one (some .i64), .one none, .one (some .u64)] swapG) Γ1)))))

theorem of_map {r : Option (A × V)} {v : V} (h : r.map Prod.snd = some v) (hok : ok1 r = true) : ∃ o, r = some (o, v) ∧ okB o = true := by
  cases r with
  | none => cases h
  | some p => obtain ⟨o, u⟩ := p; simp at h; subst h; exact ⟨o, rfl, hok⟩

theorem pure_of_map {Γ : CallE} (hΓ : CallOK Try.prog gw0 Γ) {it f : Nat} {args : List V} {r : Option (A × V)} {v : V} (hΓf : Γ f args [] = none) (he : evalF { P := Try.prog, eqT := eqTab eqs, it := it } Γ 600 8 f args [] = r)
    (h : r.map Prod.snd = some v) (hok : ok1 r = true) : PureOK Try.prog gw0 f args [] v := by
  obtain ⟨o, e, ho⟩ := of_map h hok
  rw [e] at he
  exact pure_of_eval eqsOk hΓ ent hΓf he ho

theorem boolArg {ν : Nu} {x : Bool} {p q : List V} {vs : List Value} (hp : p.length = 1) (h : relV ν (p ++ .a (.b x) :: q) vs) : relV ν (p ++ .a (ofDec x) :: q) vs := by
  match p, hp with
  | [p], _ =>
    match vs, h with
    | _ :: _ :: _, h => exact ⟨h.1, by have := h.2.1; cases x <;> exact this, h.2.2⟩

theorem alu_pure {f : Nat} {Γ : CallE} (hΓ : CallOK Try.prog gw0 Γ) (hΓf : ∀ args, Γ f args [] = none) {tw tn : U → U → U → Option (A × V)} (ew : ∀ op a b, evalF { P := Try.prog, eqT := eqTab eqs } Γ 600 8 f [.a (.i .i64 op), .a .tt, .a (.i .u64 a), .a (.i .u64 b)] [] = tw op a b)
    (en : ∀ op a b, evalF { P := Try.prog, eqT := eqTab eqs } Γ 600 8 f [.a (.i .i64 op), .a .ff, .a (.i .u64 a), .a (.i .u64 b)] [] = tn op a b) {r : Bool → U → U → U → V}
    (vw : ∀ op a b, (tw op a b).map Prod.snd = some (r true op a b)) (vn : ∀ op a b, (tn op a b).map Prod.snd = some (r false op a b)) (ow : ∀ op a b, ok1 (tw op a b) = true) (on : ∀ op a b, ok1 (tn op a b) = true) (op a b : U) (x : Bool) :
    PureOK Try.prog gw0 f [.a (.i .i64 op), .a (.b x), .a (.i .u64 a), .a (.i .u64 b)] [] (r x op a b) := by
  cases x
  · exact (pure_of_map hΓ (hΓf _) (en op a b) (vn op a b) (on op a b)).weaken fun ν vs h => boolArg (p := [_]) rfl h
  · exact (pure_of_map hΓ (hΓf _) (ew op a b) (vw op a b) (ow op a b)).weaken fun ν vs h => boolArg (p := [_]) rfl h

theorem jumpW_ok (op a b : U) : ok1 (jumpW op a b) = true := rfl
theorem jumpN_ok (op a b : U) : ok1 (jumpN op a b) = true := rfl
theorem refJumpW_ok (op a b : U) : ok1 (refJumpW op a b) = true := rfl
theorem refJumpN_ok (op a b : U) : ok1 (refJumpN op a b) = true := rfl

theorem swapLit (n : U) : n = K 16 ∨ n = K 32 ∨ n = K 64 ∨ ((n == K 16) = false ∧ (n == K 32) = false ∧ (n == K 64) = false) := by
  cases h1 : n == K 16
  · cases h2 : n == K 32
    · cases h3 : n == K 64
      · exact .inr (.inr (.inr ⟨rfl, rfl, rfl⟩))
      · exact .inr (.inr (.inl (by simpa using h3)))
    · exact .inr (.inl (by simpa using h2))
  · exact .inl (by simpa using h1)

theorem litArg {ν : Nu} {m : Int} {x : Bool} {q : List V} {vs : List Value} (hm : vof .i64 (K m) = m ∧ IntKind.i64.wrap m = m) (h : relV ν (.a (.i .i64 (K m)) :: .a (.b x) :: q) vs) : relV ν (.a (.lit .i64 m) :: .a (ofDec x) :: q) vs := by
  match vs, h with
  | _ :: _ :: _, h => exact ⟨⟨by have := h.1; rw [show _ = _ from this, hm.1], hm.2⟩, by have := h.2.1; cases x <;> exact this, h.2.2⟩

theorem swapVal (n a : U) (x : Bool) (h : (n == K 16) = false ∧ (n == K 32) = false ∧ (n == K 64) = false) : swapV n x a = K 0 ∧ swapOk n = false := by
  obtain ⟨h1, h2, h3⟩ := h
  constructor
  · simp only [swapV, h1, h2, h3, cond_false]
  · simp only [swapOk, h1, h2, h3, cond_false]

theorem pure_tt {f : Nat} {args : List V} {h : List HE} {x : A} (hp : PureOK Try.prog gw0 f args h (.t [.a x, .a .tt])) : PureOK Try.prog gw0 f args h (.t [.a x, .a (.b true)]) := by
  intro ν w vs a b c d
  refine (hp ν w vs a b c d).mono ?_
  rintro e w' ⟨u, he, ⟨us, hu, hr⟩, hb⟩
  refine ⟨u, he, ⟨us, hu, ?_⟩, hb⟩
  match h : us.toList, hr with
  | [_, _], hr => exact ⟨hr.1, hr.2.1, trivial⟩
theorem swapV16 (x : Bool) (a : U) : swapV (K 16) x a = cond x (swL 16 a) (cut16 a) := by
  unfold swapV; rw [show (K 16 == K 16) = true from by decide]; rfl
theorem swapV32 (x : Bool) (a : U) : swapV (K 32) x a = cond x (swL 32 a) (nrm .u32 a) := by
  unfold swapV; rw [show (K 32 == K 16) = false from by decide, show (K 32 == K 32) = true from by decide]; rfl
theorem swapV64 (x : Bool) (a : U) : swapV (K 64) x a = cond x (swL 64 a) a := by
  unfold swapV; rw [show (K 64 == K 16) = false from by decide, show (K 64 == K 32) = false from by decide, show (K 64 == K 64) = true from by decide]; rfl
theorem swapOks : swapOk (K 16) = true ∧ swapOk (K 32) = true ∧ swapOk (K 64) = true := by decide

theorem swW_pure (n a : U) (x : Bool) : PureOK Try.prog gw0 15 [.a (.i .i64 n), .a (.b x), .a (.i .u64 a)] [] (.t [.a (.i .u64 (swapV n x a)), .a (.b (swapOk n))]) := by
  rcases swapLit n with rfl | rfl | rfl | h
  · rw [swapV16, swapOks.1]
    have e := evSwW 16 (by simp) x a
    rw [show a &&& msk (16 : Int).toNat = cut16 a from and16 a] at e
    exact pure_tt ((pure_of_eval (ok := .tt) eqsOk noΓ_ok ent rfl e rfl).weaken fun ν vs h => litArg (by decide) h)
  · rw [swapV32, swapOks.2.1]
    have e := evSwW 32 (by simp) x a
    rw [show a &&& msk (32 : Int).toNat = nrm .u32 a from and32 a] at e
    exact pure_tt ((pure_of_eval (ok := .tt) eqsOk noΓ_ok ent rfl e rfl).weaken fun ν vs h => litArg (by decide) h)
  · rw [swapV64, swapOks.2.2]
    have e := evSwW 64 (by simp) x a
    rw [show a &&& msk (64 : Int).toNat = a from and64 a] at e
    exact pure_tt ((pure_of_eval (ok := .tt) eqsOk noΓ_ok ent rfl e rfl).weaken fun ν vs h => litArg (by decide) h)
  · obtain ⟨e1, e2⟩ := swapVal n a x h
    rw [e1, e2]
    obtain ⟨h1, h2, h3⟩ := h
    have es : BitVec.sle (K 0) (K (-1)) = false := by decide
    exact pure_of_map noΓ_ok rfl (evSwWn n a x) (by simp only [swWn, h1, h2, h3, cond_false, es, Bool.not_false, cond_true, Option.map]) (by simp only [swWn, h1, h2, h3, cond_false, es, Bool.not_false, cond_true, ok1, okB])
theorem swR_pure (n a : U) (x : Bool) : PureOK Try.prog gw0 16 [.a (.i .i64 n), .a (.b x), .a (.i .u64 a)] [] (.t [.a (.i .u64 (swapV n x a)), .a (.b (swapOk n))]) := by
  rcases swapLit n with rfl | rfl | rfl | h
  · rw [swapV16, swapOks.1]
    have e := evSwR 16 (by simp) x a
    rw [show swR (16 : Int).toNat a = swL 16 a from sw16 a] at e
    exact pure_tt ((pure_of_eval (ok := .tt) eqsOk Γ1ok ent rfl e rfl).weaken fun ν vs h => litArg (by decide) h)
  · rw [swapV32, swapOks.2.1]
    have e := evSwR 32 (by simp) x a
    rw [show swR (32 : Int).toNat a = swL 32 a from sw32 a] at e
    exact pure_tt ((pure_of_eval (ok := .tt) eqsOk Γ1ok ent rfl e rfl).weaken fun ν vs h => litArg (by decide) h)
  · rw [swapV64, swapOks.2.2]
    have e := evSwR 64 (by simp) x a
    rw [show swR (64 : Int).toNat a = swL 64 a from sw64 a] at e
    exact pure_tt ((pure_of_eval (ok := .tt) eqsOk Γ1ok ent rfl e rfl).weaken fun ν vs h => litArg (by decide) h)
  · obtain ⟨e1, e2⟩ := swapVal n a x h
    rw [e1, e2]
    obtain ⟨h1, h2, h3⟩ := h
    exact pure_of_map Γ1ok rfl (evSwRn n a x) (by simp only [swRn, bne, h1, h2, h3, Bool.not_false, cond_true, Option.map]) (by simp only [swRn, bne, h1, h2, h3, Bool.not_false, cond_true, ok1, okB])

theorem Γ2ok : CallOK Try.prog gw0 Γ2 := by
  refine addΓ_ok (spec_ok ent (bodied Try.func10 (by kernel_rfl)) ?_) (addΓ_ok (spec_ok ent (bodied Try.func11 (by kernel_rfl)) ?_) (addΓ_ok (spec_ok ent (bodied Try.func13 (by kernel_rfl)) ?_) (addΓ_ok (spec_ok ent (bodied Try.func14 (by kernel_rfl)) ?_)
    (addΓ_ok (spec_ok ent (bodied Try.func15 (by kernel_rfl)) ?_) (addΓ_ok (spec_ok ent (bodied Try.func16 (by kernel_rfl)) ?_) Γ1ok)))))
  · intro ys ok v h hok
    match ys, h with
    | [.n o, .b x, .n a, .n b], h =>
      simp [aluG] at h
      obtain ⟨_, rfl⟩ := h
      exact alu_pure noΓ_ok (fun _ => rfl) evAluW evAluN (r := fun x op a b => .t [.a (.i .u64 (aluV x op a b)), .a (.b (aluOk op))]) aluW_val aluN_val aluW_ok aluN_ok o a b x
  · intro ys ok v h hok
    match ys, h with
    | [.n o, .b x, .n a, .n b], h =>
      simp [aluG] at h
      obtain ⟨_, rfl⟩ := h
      exact alu_pure Γ1ok (fun _ => rfl) evRefAluW evRefAluN (r := fun x op a b => .t [.a (.i .u64 (aluV x op a b)), .a (.b (aluOk op))]) refAluW_val refAluN_val refAluW_ok refAluN_ok o a b x
  · intro ys ok v h hok
    match ys, h with
    | [.n o, .b x, .n a, .n b], h =>
      simp [jumpG] at h
      obtain ⟨_, rfl⟩ := h
      exact alu_pure noΓ_ok (fun _ => rfl) evJumpW evJumpN (r := fun x op a b => .t [.a (.b (jumpV x op a b)), .a (.b (jumpOk op))]) jumpW_val jumpN_val jumpW_ok jumpN_ok o a b x
  · intro ys ok v h hok
    match ys, h with
    | [.n o, .b x, .n a, .n b], h =>
      simp [jumpG] at h
      obtain ⟨_, rfl⟩ := h
      exact alu_pure Γ1ok (fun _ => rfl) evRefJumpW evRefJumpN (r := fun x op a b => .t [.a (.b (jumpV x op a b)), .a (.b (jumpOk op))]) refJumpW_val refJumpN_val refJumpW_ok refJumpN_ok o a b x
  · intro ys ok v h hok
    match ys, h with
    | [.n n, .b x, .n a], h =>
      simp [swapG] at h
      obtain ⟨_, rfl⟩ := h
      exact swW_pure n a x
  · intro ys ok v h hok
    match ys, h with
    | [.n n, .b x, .n a], h =>
      simp [swapG] at h
      obtain ⟨_, rfl⟩ := h
      exact swR_pure n a x
end Go.Proofs.Ytnjjcklhpgfnjaa.Con
