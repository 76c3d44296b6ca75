/- WordKnown: the words' laws as contracts of WE; the text's pieces. -/
import Derived.Test.YtnjjcklhpgfnjaaC3
import Derived.Test.YtnjjcklhpgfnjaaWE33
namespace Go.WE
set_option linter.unusedVariables false
open Go Go.Proofs
open Go.RowKit (Below)

abbrev U := BitVec 64
abbrev K (n : Int) : U := BitVec.ofInt 64 n

theorem walk3 (o : U) (x : Bool) (a b : U) (w : World) : Calls Try.prog 3 #[.int .i64 (vof .i64 o), .bool x, .int .u64 (vof .u64 a), .int .u64 (vof .u64 b)] w fun e w' => ∃ u, e = .returned u ∧ u = .bool true ∧ Below w.heap.size w w' := by
  obtain ⟨k, he, hok⟩ := Ytnjjcklhpgfnjaa.Con.alu3_true o x a b
  refine (Go.VE.evalF_calls (gw := Go.VE.gw0) Ytnjjcklhpgfnjaa.Con.eqsOk Ytnjjcklhpgfnjaa.Con.Γ2ok Ytnjjcklhpgfnjaa.Con.ent rfl ((Ytnjjcklhpgfnjaa.Con.evL3 o x a b).trans he) hok trivial (vs := [.int .i64 (vof .i64 o), .bool x, .int .u64 (vof .u64 a), .int .u64 (vof .u64 b)]) ⟨rfl, rfl, rfl, rfl, trivial⟩).mono ?_
  rintro e w' ⟨v, rfl, hv, hb⟩
  exact ⟨_, rfl, hv, hb⟩
theorem walk4 (o : U) (x : Bool) (a b : U) (w : World) : Calls Try.prog 4 #[.int .i64 (vof .i64 o), .bool x, .int .u64 (vof .u64 a), .int .u64 (vof .u64 b)] w fun e w' => ∃ u, e = .returned u ∧ u = .bool true ∧ Below w.heap.size w w' := by
  obtain ⟨k, he, hok⟩ := Ytnjjcklhpgfnjaa.Con.jump4_true o x a b
  refine (Go.VE.evalF_calls (gw := Go.VE.gw0) Ytnjjcklhpgfnjaa.Con.eqsOk Ytnjjcklhpgfnjaa.Con.Γ2ok Ytnjjcklhpgfnjaa.Con.ent rfl ((Ytnjjcklhpgfnjaa.Con.evL4 o x a b).trans he) hok trivial (vs := [.int .i64 (vof .i64 o), .bool x, .int .u64 (vof .u64 a), .int .u64 (vof .u64 b)]) ⟨rfl, rfl, rfl, rfl, trivial⟩).mono ?_
  rintro e w' ⟨v, rfl, hv, hb⟩
  exact ⟨_, rfl, hv, hb⟩

def wordS : List V → Option (A × V)
  | [.t (.a a0), .t (.a a1), .t (.a a2), .t (.a a3)] => match a0.bv, a1.bool?, a2.bv, a3.bv with
    | some (.i64, _), some _, some (.u64, _), some (.u64, _) => some (.tt, .t (.a .tt))
    | _, _, _, _ => none
  | _ => none

theorem bool_val {x : A} {y : Bool} (h : x.bool? = some y) {ν : Nu} {u : Value} (hr : x.rel ν u) : u = .bool y := by
  cases x <;> simp [A.bool?] at h <;> subst h <;> simpa only [A.rel] using hr

theorem word_pure {f : FuncId} (he : Enters Try.prog f) (hw : ∀ (o : U) (x : Bool) (a b : U) (w : World), Calls Try.prog f #[.int .i64 (vof .i64 o), .bool x, .int .u64 (vof .u64 a), .int .u64 (vof .u64 b)] w fun e w' => ∃ u, e = .returned u ∧ u = .bool true ∧ Below w.heap.size w w')
    {args : List V} {ok : A} {v : V} (h : wordS args = some (ok, v)) : PureOK Try.prog f args v := by
  unfold wordS at h
  split at h
  · rename_i a0 a1 a2 a3
    split at h
    · rename_i x0 x1 x2 x3 h0 h1 h2 h3
      simp only [Option.some.injEq, Prod.mk.injEq] at h
      obtain ⟨rfl, rfl⟩ := h
      refine pure_of_calls (q := fun u => u = .bool true) he (fun ν u hu => ?_) (fun ν vs w hvs => ?_)
      · subst hu
        show (A.tt).rel ν _
        simp only [A.rel]
      · match vs, hvs with
        | [v0, v1, v2, v3], ⟨r0, r1, r2, r3, _⟩ =>
          have e0 := bv_val h0 (show a0.rel ν v0 from r0)
          have e1 := bool_val h1 (show a1.rel ν v1 from r1)
          have e2 := bv_val h2 (show a2.rel ν v2 from r2)
          have e3 := bv_val h3 (show a3.rel ν v3 from r3)
          subst e0 e1 e2 e3
          exact hw _ _ _ _ w
    · cases h
  · cases h

theorem entW : entersAll Try.prog = true := by kernel_rfl
theorem enters3 : Enters Try.prog 3 := enters_of entW 3 _ Try.func3 (by simp [Try.f3])
theorem enters4 : Enters Try.prog 4 := enters_of entW 4 _ Try.func4 (by simp [Try.f4])

noncomputable abbrev cxW : Cx := { P := Try.prog, eqT := eqTab [] }
theorem XW {Γ : Gam} (h : ΓOK Try.prog Γ) : CxOK cxW Γ := ⟨eqOK_of (cx := cxW) (l := []) (by kernel_rfl) rfl, h, noDfr_ok, noLam _ _ _ _, enters_of entW⟩
def ΓW : Gam := specG 3 wordS (specG 4 wordS noΓ)
theorem ΓW_ok : ΓOK Try.prog ΓW := specG_ok (fun _ _ _ h _ => word_pure enters3 walk3 h) (specG_ok (fun _ _ _ h _ => word_pure enters4 walk4 h) noΓ_ok)
end Go.WE
