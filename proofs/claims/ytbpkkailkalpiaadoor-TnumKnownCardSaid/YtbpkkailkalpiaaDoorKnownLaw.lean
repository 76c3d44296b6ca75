/- The law TnumKnown: exact by phases, as a contract; the loop of 4096 rounds by induction. -/
import Derived.Test.YtbpkkailkalpiaaDoorExactLaw
namespace Go.WE
set_option linter.unusedVariables false
set_option maxRecDepth 100000
open Go Go.TL Go.Proofs
open Go.RowKit (Below)

theorem z5_rel {ν : Nu} {vs : List Value} (h : zero5.rel ν vs) : zero5W.t.rel ν vs := by
  unfold zero5 at h
  unfold W5.t zero5W
  simp only [T.rel, relLst, A.rel] at h ⊢
  have hz : vof .u64 (K 0) = 0 := rfl
  obtain ⟨u0, w0, e0, r0, ⟨v0, f0, ⟨g0, _⟩, c0⟩, u1, w1, e1, r1, ⟨v1, f1, ⟨g1, _⟩, c1⟩, u2, w2, e2, r2, ⟨v2, f2, ⟨g2, _⟩, c2⟩, u3, w3, e3, r3, ⟨v3, f3, ⟨g3, _⟩, c3⟩, u4, w4, e4, r4, ⟨v4, f4, ⟨g4, _⟩, c4⟩, e5⟩ := h
  exact ⟨u0, w0, e0, r0, ⟨v0, f0, by rw [hz]; exact g0, c0⟩, u1, w1, e1, r1, ⟨v1, f1, by rw [hz]; exact g1, c1⟩, u2, w2, e2, r2, ⟨v2, f2, by rw [hz]; exact g2, c2⟩, u3, w3, e3, r3, ⟨v3, f3, by rw [hz]; exact g3, c3⟩, u4, w4, e4, r4, ⟨v4, f4, by rw [hz]; exact g4, c4⟩, e5⟩
theorem z5_less (av am bv bm : U) : LessM (xm av am bv bm zero5 zero5) (xm av am bv bm zero5W.t zero5W.t) := ⟨rfl, same_blk, rfl, same_blk, rfl, ⟨rfl, fun ν vs h => z5_rel h⟩, rfl, ⟨rfl, fun ν vs h => z5_rel h⟩, trivial⟩
theorem lt8 : ∀ k : Fin 8, BitVec.ult (kk k.val) (K 8) = true := by decide +kernel

section
variable (av am bv bm : U) {W : World} {a : Act} {w : World}
abbrev E (t : Nat) : ES := es av am bv bm t
def mE (t : Nat) : List (Nat × Blk) := xm av am bv bm (E av am bv bm t).f.t (E av am bv bm t).d.t
theorem es_at {i m : Nat} (hm : m < 8) : E av am bv bm (8 * i + (m + 1)) = estep av am bv bm (kk i) (kk m) (E av am bv bm (8 * i + m)) := by
  show es av am bv bm (8 * i + m + 1) = _
  rw [es, show (8 * i + m) / 8 = i by omega, show (8 * i + m) % 8 = m by omega]

theorem xloop1 {i : Nat} (h : Own fp33 4 (mE av am bv bm (8 * i)) W (s6 (.i .i64 (E av am bv bm (8 * i)).n) (.i .u64 (kk i)) (.i .u64 (kk 0))) a w) :
    (Code.block 2 (.loop xl1)).wp Tryd.prog (fun x a' w' => x = .normal ∧ Own fp33 4 (mE av am bv bm (8 * (i + 1))) W (s5 (.i .i64 (E av am bv bm (8 * (i + 1))).n) (.i .u64 (kk i))) a' w') a w := by
  refine for_loop (fun m => Own fp33 4 (mE av am bv bm (8 * i + m)) W (s6 (.i .i64 (E av am bv bm (8 * i + m)).n) (.i .u64 (kk i)) (.i .u64 (kk m)))) (Own fp33 4 (mE av am bv bm (8 * (i + 1))) W (s5 (.i .i64 (E av am bv bm (8 * (i + 1))).n) (.i .u64 (kk i)))) 8 ?_ ?_ h (fun a' w' h => ⟨rfl, h⟩)
  · intro m hm a w hI
    rw [xl1_eq, ← kk_one]
    refine wp_two (Own.goB (X0 noΓ_ok) rfl ((xh1c _ _ _ _ _ _ _ _ _).trans (by rw [lt8 ⟨m, hm⟩])) (xh1t _ _ _ _ _ _ _ _ _) rfl rfl rfl (by kernel_rfl) (LessA.refl _) (LessM.refl _) hI) fun a w hI => ?_
    refine wp_two (Own.go (X0 noΓ_ok) rfl (xbe _ _ _ _ _ _ _) rfl rfl rfl (by kernel_rfl) (LessA.refl _) (LessM.refl _) hI) fun a w hI => ?_
    rw [← es_at av am bv bm hm] at hI
    exact Own.go (X0 noΓ_ok) rfl (xi1e _ _ _ _ _ _ _ _ _) rfl rfl rfl (by kernel_rfl) (LessA.refl _) (LessM.refl _) hI
  · intro a w hI
    rw [xl1_eq]
    exact wp_out (Own.outB (X0 noΓ_ok) rfl ((xh1c _ _ _ _ _ _ _ _ _).trans (by rfl)) (xh1f _ _ _ _ _ _ _ _ _) rfl rfl rfl (by kernel_rfl) (LessA.refl _) (LessM.refl _) hI)

theorem xloop0 (h : Own fp33 4 (mE av am bv bm 0) W (s5 (.i .i64 (E av am bv bm 0).n) (.i .u64 (kk 0))) a w) :
    (Code.block 0 (.loop xl0)).wp Tryd.prog (fun x a' w' => x = .normal ∧ Own fp33 4 (mE av am bv bm 64) W (s4 (.i .i64 (E av am bv bm 64).n)) a' w') a w := by
  refine for_loop (fun i => Own fp33 4 (mE av am bv bm (8 * i)) W (s5 (.i .i64 (E av am bv bm (8 * i)).n) (.i .u64 (kk i)))) (Own fp33 4 (mE av am bv bm 64) W (s4 (.i .i64 (E av am bv bm 64).n))) 8 ?_ ?_ h (fun a' w' h => ⟨rfl, h⟩)
  · intro i hi a w hI
    rw [xl0_eq, ← kk_one]
    refine wp_two (Own.goB (X0 noΓ_ok) rfl ((xh0c _ _ _ _ _ _ _ _).trans (by rw [lt8 ⟨i, hi⟩])) (xh0t _ _ _ _ _ _ _ _) rfl rfl rfl (by kernel_rfl) (LessA.refl _) (LessM.refl _) hI) fun a w hI => ?_
    refine wp_two (wp_in (wp_two (Own.go (X0 noΓ_ok) rfl (xe7 _ _ _ _ _ _ _ _) rfl rfl rfl (by kernel_rfl) (l'' := s6 (.i .i64 (E av am bv bm (8 * i)).n) (.i .u64 (kk i)) (.i .u64 (kk 0)))
      (fun ν => ⟨rfl, same_rel, rfl, same_rel, rfl, same_rel, rfl, same_rel, rfl, same_rel, rfl, same_rel, rfl, same_rel, rfl, lit_less rfl, trivial⟩) (LessM.refl _) hI) fun a w hI => xloop1 av am bv bm hI)) fun a w hI => ?_
    exact Own.go (X0 noΓ_ok) rfl (xi0e _ _ _ _ _ _ _ _) rfl rfl rfl (by kernel_rfl) (LessA.refl _) (LessM.refl _) hI
  · intro a w hI
    rw [xl0_eq]
    exact wp_out (Own.outB (X0 noΓ_ok) rfl ((xh0c _ _ _ _ _ _ _ _).trans (by rfl)) (xh0f _ _ _ _ _ _ _ _) rfl rfl rfl (by kernel_rfl) (LessA.refl _) (LessM.refl _) hI)

theorem xloop6 {n : U} {f d : W5} {g : G5} (b0 : badC g.m.a0 d.a0 g.v.a0 f.a0 = false) (b1 : badC g.m.a1 d.a1 g.v.a1 f.a1 = false) (b2 : badC g.m.a2 d.a2 g.v.a2 f.a2 = false) (b3 : badC g.m.a3 d.a3 g.v.a3 f.a3 = false) (b4 : badC g.m.a4 d.a4 g.v.a4 f.a4 = false)
    (h : Own fp33 49 (xg av am bv bm f d g) W (s8 (.i .i64 n) (.lit .i64 0)) a w) :
    (Code.block 6 (.loop xl6)).wp Tryd.prog (fun x a' w' => x = .normal ∧ Own fp33 49 (xg av am bv bm f d g) W (s7 (.i .i64 n)) a' w') a w := by
  refine for_loop (fun i => Own fp33 49 (xg av am bv bm f d g) W (s8 (.i .i64 n) (.lit .i64 (Int.ofNat i)))) (Own fp33 49 (xg av am bv bm f d g) W (s7 (.i .i64 n))) 5 ?_ ?_ h (fun a' w' h => ⟨rfl, h⟩)
  · intro i hi a w hI
    match i, hi, hI with
    | 0, _, hI => exact Own.goB (X0 noΓ_ok) rfl ((x6c_0 _ _ _ _ _ _ _ _).trans (by rw [b0])) (x6e_0 _ _ _ _ _ _ _ _) rfl rfl rfl (by kernel_rfl) (LessA.refl _) (LessM.refl _) hI
    | 1, _, hI => exact Own.goB (X0 noΓ_ok) rfl ((x6c_1 _ _ _ _ _ _ _ _).trans (by rw [b1])) (x6e_1 _ _ _ _ _ _ _ _) rfl rfl rfl (by kernel_rfl) (LessA.refl _) (LessM.refl _) hI
    | 2, _, hI => exact Own.goB (X0 noΓ_ok) rfl ((x6c_2 _ _ _ _ _ _ _ _).trans (by rw [b2])) (x6e_2 _ _ _ _ _ _ _ _) rfl rfl rfl (by kernel_rfl) (LessA.refl _) (LessM.refl _) hI
    | 3, _, hI => exact Own.goB (X0 noΓ_ok) rfl ((x6c_3 _ _ _ _ _ _ _ _).trans (by rw [b3])) (x6e_3 _ _ _ _ _ _ _ _) rfl rfl rfl (by kernel_rfl) (LessA.refl _) (LessM.refl _) hI
    | 4, _, hI => exact Own.goB (X0 noΓ_ok) rfl ((x6c_4 _ _ _ _ _ _ _ _).trans (by rw [b4])) (x6e_4 _ _ _ _ _ _ _ _) rfl rfl rfl (by kernel_rfl) (LessA.refl _) (LessM.refl _) hI
  · intro a w hI
    exact Own.phase (r := ⟨.exit 6, .tt, s7 (.i .i64 n), xg av am bv bm f d g⟩) (X0 noΓ_ok) rfl (x6f _ _ _ _ _ _ _ _) rfl rfl rfl (by kernel_rfl) (LessA.refl _) (LessM.refl _) hI (fun ν' a' w' x hx h => ⟨hx, h⟩)
end

theorem body33 : Tryd.f33.body = some c33 := by kernel_rfl
theorem exact_calls {av am bv bm : U} (ha : av.toNat < 8) (ham : am.toNat < 8) (hb : bv.toNat < 8) (hbm : bm.toNat < 8) {vs : List Value} (hv : relV nu0 [.t (tnT av am), .t (tnT bv bm)] vs) (W : World) :
    Calls Tryd.prog 33 vs.toArray W fun e w' => ∃ u, e = .returned u ∧ u = .bool true ∧ Below W.heap.size W w' := by
  refine calls_phases Tryd.func33 body33 ?_
  rw [c33_eq]
  have st := Own.enterA (fp := fp33) (W := W) hv (by show 2 ≤ 118; decide)
  refine wp_two (Own.go (X0 noΓ_ok) rfl (xe0 av am bv bm) rfl rfl rfl (by kernel_rfl) (LessA.refl _) (LessM.refl _) st) fun a w hI => ?_
  refine wp_two (Own.go (X0 noΓ_ok) rfl (xe1 av am bv bm) rfl rfl rfl (by kernel_rfl) (LessA.refl _) (LessM.refl _) hI) fun a w hI => ?_
  refine wp_two (Own.go (X0 noΓ_ok) rfl (xe2 av am bv bm) rfl rfl rfl (by kernel_rfl) (LessA.refl _) (z5_less av am bv bm) hI) fun a w hI => ?_
  refine wp_two (Own.go (X0 noΓ_ok) rfl (xe3 av am bv bm _ _) rfl rfl rfl (by kernel_rfl) (l'' := s4 (.i .i64 (K 0)))
    (fun ν => ⟨rfl, same_rel, rfl, same_rel, rfl, same_rel, rfl, same_rel, rfl, same_rel, rfl, lit_less rfl, trivial⟩) (LessM.refl _) hI) fun a w hI => ?_
  refine wp_two (wp_two (Own.go (X0 noΓ_ok) rfl (xe4 av am bv bm _ _ _) rfl rfl rfl (by kernel_rfl) (l'' := s5 (.i .i64 (K 0)) (.i .u64 (kk 0)))
    (fun ν => ⟨rfl, same_rel, rfl, same_rel, rfl, same_rel, rfl, same_rel, rfl, same_rel, rfl, same_rel, rfl, lit_less rfl, trivial⟩) (LessM.refl _) hI) fun a w hI => xloop0 av am bv bm hI) fun a w hI => ?_
  rw [xrest_eq]
  refine wp_two (Own.go (X0 noΓ_ok) rfl (xe19 av am bv bm _ _ _) rfl rfl rfl (by kernel_rfl) (LessA.refl _) (LessM.refl _) hI) fun a w hI => ?_
  have e0 := ex0 ha ham hb hbm
  have e1 := ex1 ha ham hb hbm
  have e2 := ex2 ha ham hb hbm
  have e3 := ex3 ha ham hb hbm
  have e4 := ex4 ha ham hb hbm
  refine wp_two (wp_two (Own.go (X0 noΓ_ok) rfl (xe20 av am bv bm _ _ _ _) rfl rfl rfl (by kernel_rfl) (LessA.refl _) (LessM.refl _) hI) fun a w hI =>
    xloop6 av am bv bm (bad_no (v0 := K 0) e0.1 e0.2) (bad_no (v0 := K 0) e1.1 e1.2) (bad_no (v0 := K 0) e2.1 e2.2) (bad_no (v0 := K 0) e3.1 e3.2) (bad_no (v0 := K 0) e4.1 e4.2) hI) fun a w hI => ?_
  refine Own.ret (X0 noΓ_ok) rfl (x25e av am bv bm _ _ _ _) rfl rfl (by kernel_rfl) hI (fun ν u w' hu hb' => ⟨u, rfl, ?_, hb'⟩)
  have hu : (A.b (BitVec.slt (K 0) (es av am bv bm 64).n)).rel ν u := hu
  simp only [A.rel] at hu
  rw [hu, ex_n ha ham hb hbm]

def lt8B (x : U) : Bool := BitVec.ult x (K 8)
theorem lt8_nat {x : U} (h : lt8B x = true) : x.toNat < 8 := by
  unfold lt8B at h
  rw [BitVec.ult, decide_eq_true_iff] at h
  exact h
def exS : List V → Option (A × V)
  | [.t (.st [.a x, .a y]), .t (.st [.a x', .a y'])] => match x.bv, y.bv, x'.bv, y'.bv with
    | some (.u64, av), some (.u64, am), some (.u64, bv), some (.u64, bm) => some (.b ((lt8B av && lt8B am) && (lt8B bv && lt8B bm)), .t (.a .tt))
    | _, _, _, _ => none
  | _ => none
theorem enters33 : Enters Tryd.prog 33 := enters_of entT 33 _ Tryd.func33 (by simp [Tryd.f33])
theorem ex_ok {Γ : Gam} (hΓ : ΓOK Tryd.prog Γ) : ΓOK Tryd.prog (specG 33 exS Γ) := by
  refine specG_ok (fun args ok v hs hok => ?_) hΓ
  unfold exS at hs
  split at hs
  · split at hs
    · rename_i h1 h2 h3 h4
      simp only [Option.some.injEq, Prod.mk.injEq] at hs
      obtain ⟨rfl, rfl⟩ := hs
      have hk : ((lt8B _ && lt8B _) && (lt8B _ && lt8B _)) = true := hok
      simp only [Bool.and_eq_true] at hk
      refine (pure_of_calls (q := fun u => u = .bool true) (v := .t (.a .tt)) enters33 (fun ν u hu => ?_) (fun ν vs w hv => exact_calls (lt8_nat hk.1.1) (lt8_nat hk.1.2) (lt8_nat hk.2.1) (lt8_nat hk.2.2) (relV_free rfl hv) w)).more fun ν vs hv => bin_args h1 h2 h3 h4 hv
      subst hu
      show (A.tt).rel ν _
      simp only [A.rel]
    · cases hs
  · cases hs
def saysS : List V → Option (A × V)
  | [.t (.st [.a (.i .u64 av), .a (.i .u64 am)]), .t (.st [.a (.i .u64 bv), .a (.i .u64 bm)]), .t (.a (.i .u64 v)), .t (.a (.i .i64 n))] => some (.tt, .t (.a .tt))
  | _ => none
def ΓN : Gam := specG 33 exS (tabΓ 3 0 .u8 dbt saysS ΓT)

theorem ΓN_ok : ΓOK Tryd.prog ΓN := ex_ok (tabΓ_ok (fun args ok v hs hok => by
  unfold saysS at hs
  split at hs
  · rename_i av am bv bm v n
    simp only [Option.some.injEq, Prod.mk.injEq] at hs
    obtain ⟨rfl, rfl⟩ := hs
    have he := says_ev av am bv bm v n
    rw [saysB_true] at he
    obtain ⟨h1, h2⟩ := tab_of_eval (X0 ΓD_ok) dbt_wrap rfl he rfl rfl rfl
    refine ⟨h1, fun h hh S ν w vs hr hw hm hv => (h2 h hh S ν w vs hr hw hm hv).mono ?_⟩
    rintro e w' ⟨u, ν', rfl, hu, g⟩
    refine ⟨u, ν', rfl, ?_, g⟩
    have hu : (A.b true).rel ν' u := hu
    show (A.tt).rel ν' u
    simpa only [A.rel] using hu
  · cases hs) ΓT_ok)

/-! ### the loop -/

noncomputable def c4 : Code := bodyOf Tryd.prog 4
noncomputable def n0 : Code := c4.sA
noncomputable def n1 : Code := c4.sB.sA.sA
noncomputable def nl : Code := c4.sB.sA.sB.inn.inn
noncomputable def nr : Code := c4.sB.sB
theorem c4_eq : c4 = .seq n0 (.seq (.seq n1 (.block 0 (.loop nl))) nr) := by kernel_rfl
theorem body4 : Tryd.f4.body = some c4 := by kernel_rfl
def fp4 : Fp := ⟨549755813983, 75, 66, fun _ _ => none⟩
noncomputable def hT : H := H.tab 0 .u8 dbt
noncomputable def evN (c : Code) (l : List (Nat × V)) : Out := evalC cxT (evalF cxT ΓN 400 20) fp4 400 c (stOf l hT)
def k0L : List (Nat × V) := [(0, one .ff)]
def k1L (x : A) : List (Nat × V) := [(0, one .ff), (1, one x)]
def asU (x : U) : U := x
def okK (x : U) : Bool := (lt8B (BitVec.srem x (K 8)) && lt8B (BitVec.srem (BitVec.sdiv x (K 8)) (K 8))) && (lt8B (BitVec.srem (BitVec.sdiv x (K 64)) (K 8)) && lt8B (BitVec.sdiv x (K 512)))
theorem ne0 : endOf fp4.km [0] (evN n0 []).pick = some ⟨.nrm, .tt, k0L⟩ := by kernel_rfl
theorem ne1 : endOf fp4.km [0, 1] (evN n1 k0L).pick = some ⟨.nrm, .tt, k1L (.lit .i64 0)⟩ := by kernel_rfl
theorem nlc (x : U) : (evN nl (k1L (.i .i64 x))).cnd = some (BitVec.slt x (K 4096)) := by kernel_rfl
theorem nlt (x : U) : endOf fp4.km [0, 1] ((evN nl (k1L (.i .i64 x))).at true) = some ⟨.nrm, .b (okK x), k1L (.i .i64 (x + K 1))⟩ := by kernel_rfl
theorem nlf (x : U) : endOf fp4.km [0] ((evN nl (k1L (.i .i64 x))).at false) = some ⟨.exit 0, .tt, k0L⟩ := by kernel_rfl
theorem ner : endOf fp4.km [0] (evN nr k0L).pick = some ⟨.ret, .b true, [(0, one (.b true))]⟩ := by kernel_rfl
theorem k4096 : ∀ k : Fin 4096, BitVec.slt (kk k.val) (K 4096) = true ∧ okK (kk k.val) = true := by decide +kernel

theorem nloop {W : World} {ν : Nu} {a : Act} {w : World} (h : At fp4 hT W ν (k1L (.i .i64 (kk 0))) a w) : (Code.block 0 (.loop nl)).wp Tryd.prog (fun x a' w' => x = .normal ∧ At fp4 hT W ν k0L a' w') a w := by
  refine for_loop (fun k => At fp4 hT W ν (k1L (.i .i64 (kk k)))) (At fp4 hT W ν k0L) 4096 ?_ ?_ h (fun a' w' h => ⟨rfl, h⟩)
  · intro k hk a w hI
    rw [← kk_one]
    exact At.goB (X0 ΓN_ok) rfl ((nlc _).trans (by rw [(k4096 ⟨k, hk⟩).1])) (nlt _) (k4096 ⟨k, hk⟩).2 rfl (by kernel_rfl) (LessL.refl _) hI
  · intro a w hI
    exact At.outB (X0 ΓN_ok) rfl ((nlc _).trans (by rfl)) (nlf _) rfl rfl (by kernel_rfl) (LessL.refl _) hI

/-- TnumKnown returns true. -/
theorem known4_calls {W : World} (hW : TabIn W 0 .u8 dbt) : Calls Tryd.prog 4 #[] W fun e w' => e = .returned (.bool true) ∧ Below W.heap.size W w' := by
  refine calls_phases Tryd.func4 body4 ?_
  rw [c4_eq]
  have st : At fp4 hT W (nuTab 0) [] { tmps := #[] ++ Array.replicate (Tryd.f4.ntmps - (#[] : Array Value).size) undef, defers := [] } W := ⟨⟨mem_tab dbt_wrap hW, (fun t v h => by cases h), (by simp [Tryd.f4, fp4]), rfl⟩, Below.refl _ _⟩
  refine wp_two (At.go (X0 ΓN_ok) rfl ne0 rfl rfl (by kernel_rfl) (LessL.refl _) st) fun a w hI => ?_
  refine wp_two (wp_two (At.go (X0 ΓN_ok) rfl ne1 rfl rfl (by kernel_rfl) (l'' := k1L (.i .i64 (kk 0))) ⟨rfl, same_rel, rfl, lit_less rfl, trivial⟩ hI) fun a w hI => nloop hI) fun a w hI => ?_
  exact At.ret (u := .bool true) (X0 ΓN_ok) rfl ner rfl rfl (by kernel_rfl) (fun ν x h => .inr h) rfl (fun ν x h => by have h : (A.b true).rel ν x := h; simpa only [A.rel] using h) (fun w' hb => ⟨rfl, hb⟩) hI
end Go.WE
