/- What may be known, made of anything: as a contract. -/
import Derived.Test.YtljopbfbljkjoaaDoorGam
namespace Go.WE
set_option linter.unusedVariables false
set_option maxRecDepth 100000
open Go Go.Proofs
open Go.RowKit (Below)

def blN (n : Nat) : Nat := if n = 0 then 0 else n.log2 + 1
def lenTab : ByteArray := ⟨((List.range 256).map fun n => UInt8.ofNat (blN n)).toArray⟩
def lenE (v : U) : U :=
  let t0 : Bool := BitVec.ule (K 4294967296) v
  let t1 : U := v >>> (BitVec.toNat (K 32))
  let t2 : Bool := BitVec.ule (K 65536) (cond t0 t1 v)
  let t3 : U := (cond t0 t1 v) >>> (BitVec.toNat (K 16))
  let t4 : U := cond t2 t3 (cond t0 t1 v)
  let t5 : Bool := BitVec.ule (K 256) t4
  let t6 : U := cond t0 (K 32) (K 0)
  let t7 : U := cond t2 (t6 + (K 16)) t6
  let t8 : U := cond t5 (t7 + (K 8)) t7
  let t9 : U := t4 >>> (BitVec.toNat (K 8))
  let t10 : U := nrm .u8 (cond t5 t9 t4)
  let t11 : U := nrm .u8 (strAt lenTab t10)
  t8 + t11
def onesU (v : U) : U := ((K 1) <<< (BitVec.toNat (lenE v))) - (K 1)
theorem ones_ev (v : U) : (evalF cxK noΓ 400 20 82 [one (.i .u64 v)] H.none).res = some (.b (!(BitVec.msb (lenE v))), one (.i .u64 (onesU v))) := by kernel_rfl
theorem msb_small {a b : U} (ha : a.toNat ≤ 56) (hb : b.toNat < 256) : (a + b).msb = false := by
  rw [BitVec.msb_eq_decide]
  simp only [decide_eq_false_iff_not]
  rw [BitVec.toNat_add]
  omega
theorem nrm_u8 (x : U) : (nrm .u8 x).toNat < 256 := by
  show ((x.setWidth 8).setWidth 64).toNat < 256
  rw [BitVec.toNat_setWidth, BitVec.toNat_setWidth]
  omega
theorem len_msb (v : U) : BitVec.msb (lenE v) = false := by
  unfold lenE
  refine msb_small ?_ (nrm_u8 _)
  generalize BitVec.ule (K 4294967296) v = p
  generalize BitVec.ule (K 65536) _ = q
  generalize BitVec.ule (K 256) _ = r
  cases p <;> cases q <;> cases r <;> decide
theorem PureOK.more {P : Program} {f : FuncId} {args args' : List V} {v : V} (h : PureOK P f args' v) (ha : ∀ ν vs, relV ν args vs → relV ν args' vs) : PureOK P f args v := by
  rcases h with ⟨h1, h2⟩ | h
  · exact .inl ⟨h1, fun h S ν w vs hr hw hm hv => h2 h S ν w vs hr hw hm (ha _ _ hv)⟩
  · exact .inr fun ν w vs hv => h ν w vs (ha _ _ hv)
def onesS : List V → Option (A × V)
  | [.t (.a x)] => match x.bv with
    | some (.u64, v) => some (.tt, one (.i .u64 (onesU v)))
    | _ => none
  | _ => none
theorem ones_ok {Γ : Gam} (hΓ : ΓOK Tryd.prog Γ) : ΓOK Tryd.prog (specG 82 onesS Γ) := by
  refine specG_ok (fun args ok v hs hok => ?_) hΓ
  unfold onesS at hs
  split at hs
  · rename_i x
    split at hs
    · rename_i v' hx
      simp only [Option.some.injEq, Prod.mk.injEq] at hs
      obtain ⟨rfl, rfl⟩ := hs
      have h1 : okB (.b (!(BitVec.msb (lenE v')))) = true := by rw [len_msb]; rfl
      refine PureOK.more (pure_of_eval (XK noΓ_ok) rfl (ones_ev v') h1 rfl rfl) fun ν vs hv => ?_
      match vs, hv with
      | [u], ⟨h, _⟩ =>
        refine ⟨?_, trivial⟩
        have h : x.rel ν u := h
        show (A.i .u64 v').rel ν u
        simp only [A.rel]
        exact bv_val hx h
    · cases hs
  · cases hs
noncomputable def ΓO : Gam := specG 82 onesS noΓ
theorem ΓO_ok : ΓOK Tryd.prog ΓO := ones_ok noΓ_ok
def okOf : Option (A × V) → Nat
  | some (.tt, _) => 1
  | some (.b _, _) => 2
  | some _ => 3
  | none => 0
theorem known_ok (r : RW) : okOf (evalF cxK ΓO 400 20 7 [.t r.t] H.none).res = 1 := by kernel_rfl
end Go.WE
