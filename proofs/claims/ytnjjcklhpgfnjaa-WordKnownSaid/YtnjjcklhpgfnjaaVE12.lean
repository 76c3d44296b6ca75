/- VE12: contracts: what a function of numbers and bools gives, said by a plain function. -/
import Derived.Test.YtnjjcklhpgfnjaaVE11
namespace Go.VE
open Go
open Go.RowKit (Below)

/-- A number or a bool that came in. -/
inductive At where
  | n (x : BitVec 64)
  | b (x : Bool)

def flatA (k : Option IntKind) (x : A) : Option At :=
  match k with
  | some k => match x.bv with
    | some (k', y) => match kEq k k' with
      | true => some (.n y)
      | false => none
    | none => none
  | none => match x.bool? with
    | some y => some (.b y)
    | none => none

def flatL : List (Option IntKind) → List A → Option (List At)
  | [], [] => some []
  | k :: ks, x :: xs => match flatA k x, flatL ks xs with
    | some y, some ys => some (y :: ys)
    | _, _ => none
  | _, _ => none

/-- The shape of an argument: of cells, or one alone. -/
inductive Sh where
  | one (k : Option IntKind)
  | agg (ks : List (Option IntKind))

def flat : List Sh → List V → Option (List At)
  | [], [] => some []
  | .one k :: ps, .a x :: r => match flatA k x, flat ps r with
    | some y, some ys => some (y :: ys)
    | _, _ => none
  | .agg ks :: ps, .g cs :: r => match flatL ks cs, flat ps r with
    | some zs, some ys => some (zs ++ ys)
    | _, _ => none
  | _, _ => none

def mkA (k : Option IntKind) (y : At) : A :=
  match k, y with
  | some k, .n x => .i k x
  | none, .b x => .b x
  | _, _ => .poison

def mkL : List (Option IntKind) → List At → List A
  | [], _ => []
  | _ :: _, [] => []
  | k :: ks, y :: ys => mkA k y :: mkL ks ys

def mkVs : List Sh → List At → List V
  | [], _ => []
  | .one _ :: _, [] => []
  | .one k :: ps, y :: ys => .a (mkA k y) :: mkVs ps ys
  | .agg ks :: ps, ys => .g (mkL ks ys) :: mkVs ps (ys.drop ks.length)

theorem flatA_rel {ν : Nu} {k : Option IntKind} {x : A} {y : At} {v : Value} (h : flatA k x = some y) (hr : x.rel ν v) : (mkA k y).rel ν v := by
  unfold flatA at h
  split at h
  · split at h
    · rename_i e
      split at h
      · rename_i hk
        simp at h; subst h
        rw [kEq_true hk]
        exact A.rel_bv hr e
      · cases h
    · cases h
  · split at h
    · rename_i e
      simp at h; subst h
      exact A.rel_bool hr e
    · cases h

theorem flatL_length : ∀ {ks : List (Option IntKind)} {xs : List A} {ys : List At}, flatL ks xs = some ys → ys.length = ks.length
  | [], [], ys, h => by simp [flatL] at h; subst h; rfl
  | k :: ks, x :: xs, ys, h => by
    simp only [flatL] at h
    split at h
    · rename_i y ys' h1 h2
      simp at h; subst h
      simp [flatL_length h2]
    · cases h
  | [], _ :: _, _, h => by simp [flatL] at h
  | _ :: _, [], _, h => by simp [flatL] at h

theorem mkL_append : ∀ (ks : List (Option IntKind)) (zs ys : List At), zs.length = ks.length → mkL ks (zs ++ ys) = mkL ks zs
  | [], _, _, _ => by simp [mkL]
  | _ :: _, [], _, h => by simp at h
  | k :: ks, z :: zs, ys, h => by simp only [List.cons_append, mkL]; rw [mkL_append ks zs ys (by simpa using h)]

theorem flatL_rel {ν : Nu} : ∀ {ks : List (Option IntKind)} {xs : List A} {ys : List At} {vs : List Value}, flatL ks xs = some ys → relL ν xs vs → relL ν (mkL ks ys) vs
  | [], [], ys, vs, h, hr => by
    simp [flatL] at h; subst h
    cases vs with
    | nil => trivial
    | cons v vs => exact hr.elim
  | k :: ks, x :: xs, ys, vs, h, hr => by
    simp only [flatL] at h
    split at h
    · rename_i y ys' h1 h2
      simp at h; subst h
      cases vs with
      | nil => exact hr.elim
      | cons v vs => exact ⟨flatA_rel h1 hr.1, flatL_rel h2 hr.2⟩
    · cases h
  | [], _ :: _, _, _, h, _ => by simp [flatL] at h
  | _ :: _, [], _, _, h, _ => by simp [flatL] at h

theorem flat_rel {ν : Nu} : ∀ {ps : List Sh} {args : List V} {ys : List At} {vs : List Value}, flat ps args = some ys → relV ν args vs → relV ν (mkVs ps ys) vs
  | [], [], ys, vs, h, hr => by
    simp [flat] at h; subst h
    cases vs with
    | nil => trivial
    | cons v vs => exact hr.elim
  | .one k :: ps, .a x :: r, ys, vs, h, hr => by
    simp only [flat] at h
    split at h
    · rename_i y ys' h1 h2
      simp at h; subst h
      cases vs with
      | nil => exact hr.elim
      | cons v vs => exact ⟨flatA_rel h1 hr.1, flat_rel h2 hr.2⟩
    · cases h
  | .agg ks :: ps, .g cs :: r, ys, vs, h, hr => by
    simp only [flat] at h
    split at h
    · rename_i zs ys' h1 h2
      simp at h; subst h
      cases vs with
      | nil => exact hr.elim
      | cons v vs =>
        obtain ⟨⟨us, rfl, hu⟩, h3⟩ := hr
        have hl := flatL_length h1
        refine ⟨⟨us, rfl, ?_⟩, ?_⟩
        · rw [mkL_append _ _ _ hl]; exact flatL_rel h1 hu
        · rw [← hl, List.drop_left]; exact flat_rel h2 h3
    · cases h
  | [], _ :: _, _, _, h, _ => by simp [flat] at h
  | .one _ :: _, [], _, _, h, _ => by simp [flat] at h
  | .agg _ :: _, [], _, _, h, _ => by simp [flat] at h
  | .one _ :: _, .g _ :: _, _, _, h, _ => by simp [flat] at h
  | .one _ :: _, .t _ :: _, _, _, h, _ => by simp [flat] at h
  | .agg _ :: _, .a _ :: _, _, _, h, _ => by simp [flat] at h
  | .agg _ :: _, .t _ :: _, _, _, h, _ => by simp [flat] at h

/-- A contract: `g` says what is given. -/
def specΓ (ps : List Sh) (g : List At → Option (A × V)) : List V → List HE → Option (A × V) := fun args _ => match flat ps args with
  | some ys => g ys
  | none => none

theorem PureOK.weaken {P : Program} {gw : GW} {f : FuncId} {args args' : List V} {h : List HE} {v : V} (hp : PureOK P gw f args' [] v) (ha : ∀ ν vs, relV ν args vs → relV ν args' vs) : PureOK P gw f args h v :=
  fun ν w vs hw hm hv _ => hp ν w vs hw hm (ha ν vs hv) (fun _ hj => absurd rfl hj)

theorem spec_ok {P : Program} {gw : GW} {f : FuncId} {ps : List Sh} {g : List At → Option (A × V)} (hent : entersAll P = true) (hbody : ∃ fn, P.funcs[f]? = some fn ∧ fn.body ≠ none)
    (H : ∀ ys ok v, g ys = some (ok, v) → okB ok = true → PureOK P gw f (mkVs ps ys) [] v) :
    ∀ args h ok v, specΓ ps g args h = some (ok, v) → okB ok = true → (Enters P f ∧ PureOK P gw f args h v) ∨ AtOnce P f args v := by
  intro args h ok v hs hok
  obtain ⟨fn, hf, hb⟩ := hbody
  unfold specΓ at hs
  split at hs
  · rename_i ys hy
    exact .inl ⟨enters_of hent f fn hf hb, (H ys ok v hs hok).weaken (fun ν vs hv => flat_rel hy hv)⟩
  · cases hs

theorem bodied {P : Program} {f : FuncId} {fn : Func} (hf : P.funcs[f]? = some fn) (hb : fn.body.isSome = true) : ∃ fn, P.funcs[f]? = some fn ∧ fn.body ≠ none :=
  ⟨fn, hf, fun e => by rw [e] at hb; cases hb⟩

/-- What the evaluator says of a function, as a contract's fact. -/
theorem pure_of_eval {P : Program} {gw : GW} {l : List (TypeId × List Bool)} (hE : eqTabOk P l = true) {Γ : CallE} (hΓ : CallOK P gw Γ) (hent : entersAll P = true) {it fuel n : Nat} {f : FuncId} {args : List V} {ok : A} {v : V}
    (hΓf : Γ f args [] = none) (he : evalF { P := P, eqT := eqTab l, it := it } Γ fuel (n + 1) f args [] = some (ok, v)) (hok : okB ok = true) : PureOK P gw f args [] v :=
  evalF_top (cx := { P := P, eqT := eqTab l, it := it }) (eqOK_of hE) hΓ (enters_of hent) hΓf he hok
end Go.VE
