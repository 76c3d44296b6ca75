/- Contracts of the words' seat: WordAlu and WordJumps are true. -/
import Derived.Test.YtnjjcklhpgfnjaaAluLaw
namespace Go.Proofs.Ytnjjcklhpgfnjaa.Con
open Go Go.VE
theorem evL3 (op : U) (x : Bool) (a b : U) : evalF { P := Try.prog, eqT := eqTab eqs } Γ2 600 8 3 [.a (.i .i64 op), .a (.b x), .a (.i .u64 a), .a (.i .u64 b)] [] = alu3 op x a b := by kernel_rfl
theorem evL4 (op : U) (x : Bool) (a b : U) : evalF { P := Try.prog, eqT := eqTab eqs } Γ2 600 8 4 [.a (.i .i64 op), .a (.b x), .a (.i .u64 a), .a (.i .u64 b)] [] = jump4 op x a b := by kernel_rfl
def trueG : List At → Option (A × V)
  | [.n _, .b _, .n _, .n _] => some (.tt, .a .tt)
  | _ => none
def Γ3 : CallE := addΓ 3 (specΓ [.one (some .i64), .one none, .one (some .u64), .one (some .u64)] trueG) (addΓ 4 (specΓ [.one (some .i64), .one none, .one (some .u64), .one (some .u64)] trueG) Γ2)
theorem pure_tt1 {f : Nat} {args : List V} {h : List HE} (hp : PureOK Try.prog gw0 f args h (.a (.b true))) : PureOK Try.prog gw0 f args h (.a .tt) := by
  intro ν w vs a b c d
  exact (hp ν w vs a b c d).mono fun e w' ⟨u, he, hr, hb⟩ => ⟨u, he, hr, hb⟩
theorem Γ3ok : CallOK Try.prog gw0 Γ3 := by
  refine addΓ_ok (spec_ok ent (bodied Try.func3 (by kernel_rfl)) ?_) (addΓ_ok (spec_ok ent (bodied Try.func4 (by kernel_rfl)) ?_) Γ2ok)
  · intro ys ok v h hok
    match ys, h with
    | [.n o, .b x, .n a, .n b], h =>
      simp [trueG] at h
      obtain ⟨_, rfl⟩ := h
      obtain ⟨k, e, hk⟩ := alu3_true o x a b
      exact pure_tt1 (pure_of_eval eqsOk Γ2ok ent rfl ((evL3 o x a b).trans e) hk)
  · intro ys ok v h hok
    match ys, h with
    | [.n o, .b x, .n a, .n b], h =>
      simp [trueG] at h
      obtain ⟨_, rfl⟩ := h
      obtain ⟨k, e, hk⟩ := jump4_true o x a b
      exact pure_tt1 (pure_of_eval eqsOk Γ2ok ent rfl ((evL4 o x a b).trans e) hk)
end Go.Proofs.Ytnjjcklhpgfnjaa.Con
