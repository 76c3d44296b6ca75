/- Calls over a state, as contracts; Set, Store, Load, Known. -/
import Derived.Test.YtljopbfbljkjoaaDoorKnown
import Derived.Test.YtljopbfbljkjoaaDoorWE38
namespace Go.WE
set_option linter.unusedVariables false
set_option maxRecDepth 100000
open Go Go.Proofs
open Go.RowKit (Below)

noncomputable def ΓL : Gam := readΓ (layΓ noΓ)
theorem ΓL_ok : ΓOK Tryd.prog ΓL := readΓ_ok (layΓ_ok noΓ_ok)
noncomputable def evS (f : Nat) (s : FSt) (rest : List V) : R := evalF cxK ΓL 400 20 f (pt 0 :: rest) (hM [(0, ⟨true, s.t⟩)] 1)
def resM (r : R) : Option (A × V × List Nat × Option Blk) := match r.pick with
  | some (ok, v, h) => some (ok, v, h.wr, h.m.get 0)
  | none => none
theorem resM_some {r : R} {ok : A} {v : V} {wr : List Nat} {b : Option Blk} (h : resM r = some (ok, v, wr, b)) : ∃ h', r.pick = some (ok, v, h') ∧ h'.wr = wr ∧ h'.m.get 0 = b := by
  unfold resM at h
  split at h
  · rename_i ok v h' hp
    simp only [Option.some.injEq, Prod.mk.injEq] at h
    obtain ⟨rfl, rfl, rfl, rfl⟩ := h
    exact ⟨h', hp, rfl, rfl⟩
  · cases h

theorem call_state {f : Nat} {s s' : FSt} {rest : List V} {ok : A} {v : V} {wr : List Nat} (hΓ : ΓL f (pt 0 :: rest) (hM [(0, ⟨true, s.t⟩)] 1) = none) (he : resM (evS f s rest) = some (ok, v, wr, some ⟨true, s'.t⟩)) (hok : okB ok = true) (hwr : wr = [0] ∨ wr = []) (hv : v.free = true) :
    Enters Tryd.prog f ∧ ∀ (r : Nat) (w : World) (us : List Value) (ν : Nu), Holds w r s.t → relV (nuOne r) rest us → Calls Tryd.prog f (.pointer (some ⟨r, 0, none⟩) :: us).toArray w fun e w' => ∃ u, e = .returned u ∧ v.rel ν u ∧ But r w.heap.size w w' ∧ Holds w' r s'.t := by
  obtain ⟨h', hp, rfl, hg⟩ := resM_some he
  obtain ⟨h1, h2⟩ := evalF_fn (XK ΓL_ok) hΓ hp hok
  refine ⟨h1, fun r w us ν hh hr => call_one h2 hwr hg rfl rfl hv hh (vs := .pointer (some ⟨r, 0, none⟩) :: us) ⟨?_, hr⟩ ν⟩
  show (A.ptr 0 []).rel (nuOne r) _
  simp only [A.rel]
  exact ⟨r, 0, rfl, rfl⟩

theorem ptr_arg {S : Nat → Prop} {ν : Nu} {w : World} {h : H} {id : Nat} {s : FSt} {rest : List V} {vs : List Value} (hs : stateOf h id = some s) (hm : Mem S ν w h) (hS : S id ∨ h.lo ≤ id) (hv : relV ν (.t (.a (.ptr id [])) :: rest) vs) :
    ∃ r us, ν id = some (r, 0) ∧ Holds w r s.t ∧ vs = .pointer (some ⟨r, 0, none⟩) :: us ∧ relV ν rest us := by
  match vs, hv with
  | v0 :: us, ⟨r0, hr⟩ =>
    have r0 : (A.ptr id []).rel ν v0 := r0
    simp only [A.rel] at r0
    obtain ⟨r, base, e1, rfl⟩ := r0
    have hb := stateOf_some hs
    obtain ⟨r', base', cs, ty, fr, pre, us', post, q1, q2, q3, q4, q5, q6⟩ := (hm.seen id _ hb hS).cells rfl
    rw [e1] at q1
    cases q1
    obtain ⟨rfl, rfl⟩ := q6 rfl
    exact ⟨r, us, e1, seen_holds (hm.seen id _ hb hS) rfl rfl e1, rfl, hr⟩

/-- What a call says over a state: it turns it. -/
def SaysW (f : Nat) (s : FSt) (rest : List V) (v : V) (s' : FSt) : Prop := Enters Tryd.prog f ∧ ∀ h id, stateOf h id = some s → FnOK Tryd.prog f (.t (.a (.ptr id [])) :: rest) h v ((h.see id).put id ⟨true, s'.t⟩)
/-- .. or leaves it. -/
def SaysR (f : Nat) (s : FSt) (rest : List V) (v : V) : Prop := Enters Tryd.prog f ∧ ∀ h id, stateOf h id = some s → FnOK Tryd.prog f (.t (.a (.ptr id [])) :: rest) h v (h.see id)

theorem saysW_ev {f : Nat} {s s' : FSt} {rest rest' : List V} {ok : A} {v : V} {wr : List Nat} (hΓ : ΓL f (pt 0 :: rest') (hM [(0, ⟨true, s.t⟩)] 1) = none) (he : resM (evS f s rest') = some (ok, v, wr, some ⟨true, s'.t⟩)) (hok : okB ok = true) (hwr : wr = [0] ∨ wr = []) (hv : v.free = true)
    (hr : ∀ ν ν' us, relV ν rest us → relV ν' rest' us) : SaysW f s rest v s' := by
  obtain ⟨h1, h2⟩ := call_state hΓ he hok hwr hv
  refine ⟨h1, fun h id hs S ν w vs hrd _ hm hargs => ?_⟩
  have hrd' : ∀ i, i ∈ (h.see id).rd → S i := hrd
  obtain ⟨r, us, hν, hh, rfl, hrs⟩ := ptr_arg hs hm (see_seen hrd') hargs
  refine (h2 r w us ν hh (hr _ _ _ hrs)).mono ?_
  rintro e w' ⟨u, rfl, hu, hbut, hh'⟩
  have g1 := hm.see id
  exact ⟨u, ν, rfl, hu, g1.trans (goes_turned (h := h.see id) g1.mem (stateOf_some hs) rfl hν hbut hh')⟩

theorem goes_same {S : Nat → Prop} {ν : Nu} {w w' : World} {h : H} (hm : Mem S ν w h) (hb : Below w.heap.size w w') : Goes S ν w h ν w' h := goes_calm hm hb

theorem saysR_ev {f : Nat} {s : FSt} {rest rest' : List V} {ok : A} {v : V} (hΓ : ΓL f (pt 0 :: rest') (hM [(0, ⟨true, s.t⟩)] 1) = none) (he : (resM (evS f s rest')).map (fun p => (p.1, p.2.1, p.2.2.1)) = some (ok, v, [])) (hok : okB ok = true) (hv : v.free = true)
    (hr : ∀ ν ν' us, relV ν rest us → relV ν' rest' us) : SaysR f s rest v := by
  cases hp : resM (evS f s rest') with
  | none => rw [hp] at he; cases he
  | some p =>
    rw [hp] at he
    obtain ⟨ok', v', wr', b'⟩ := p
    simp only [Option.map_some, Option.some.injEq, Prod.mk.injEq] at he
    obtain ⟨rfl, rfl, rfl⟩ := he
    obtain ⟨h', hp', hw', _⟩ := resM_some hp
    obtain ⟨h1, h2⟩ := evalF_fn (XK ΓL_ok) hΓ hp' hok
    refine ⟨h1, fun h id hs S ν w vs hrd _ hm hargs => ?_⟩
    obtain ⟨r, us, hν, hh, rfl, hrs⟩ := ptr_arg hs hm (see_seen hrd) hargs
    refine (h2 (fun _ => True) (nuOne r) w (.pointer (some ⟨r, 0, none⟩) :: us) (fun _ _ => trivial) (fun _ _ => trivial) (mem_one hh) ⟨?_, hr _ _ _ hrs⟩).mono ?_
    · show (A.ptr 0 []).rel (nuOne r) _
      simp only [A.rel]
      exact ⟨r, 0, rfl, rfl⟩
    · rintro e w' ⟨u, ν', rfl, hu, g⟩
      have g' : Goes (fun _ => True) (nuOne r) w (hM [(0, ⟨true, s.t⟩)] 1).mark ν' w' h' := g
      have hb := goes_below hw' (mem_one hh) (S := fun _ => True) g'
      exact ⟨u, ν, rfl, V.rel_free hv hu, (goes_calm hm hb).trans ((goes_calm hm hb).mem.see id)⟩

/-- Contracts of calls that turn a state. -/
def stΓ (f : Nat) (spec : FSt → List V → Option (A × V × FSt)) (Γ : Gam) : Gam := fun g args h => match Nat.beq g f with
  | true => match args with
    | .t (.a (.ptr id [])) :: rest => match stateOf h id with
      | some s => match spec s rest with
        | some (ok, v, s') => some (.leaf ok v ((h.see id).put id ⟨true, s'.t⟩))
        | none => Γ g args h
      | none => Γ g args h
    | _ => Γ g args h
  | false => Γ g args h
def rdΓ (f : Nat) (spec : FSt → List V → Option (A × V)) (Γ : Gam) : Gam := fun g args h => match Nat.beq g f with
  | true => match args with
    | .t (.a (.ptr id [])) :: rest => match stateOf h id with
      | some s => match spec s rest with
        | some (ok, v) => some (.leaf ok v (h.see id))
        | none => Γ g args h
      | none => Γ g args h
    | _ => Γ g args h
  | false => Γ g args h

theorem stΓ_ok {f : Nat} {spec : FSt → List V → Option (A × V × FSt)} {Γ : Gam} (hs : ∀ s rest ok v s', spec s rest = some (ok, v, s') → okB ok = true → SaysW f s rest v s') (hΓ : ΓOK Tryd.prog Γ) : ΓOK Tryd.prog (stΓ f spec Γ) where
  ok := by
    intro g args h r ok v h' hr hp hok
    unfold stΓ at hr
    split at hr
    · rename_i hb
      have := Go.WE.beq_true hb
      subst this
      split at hr
      · split at hr
        · rename_i h1
          split at hr
          · rename_i h2
            cases hr
            simp only [R.pick, Option.some.injEq, Prod.mk.injEq] at hp
            obtain ⟨rfl, rfl, rfl⟩ := hp
            obtain ⟨h3, h4⟩ := hs _ _ _ _ _ h2 hok
            exact .inl ⟨h3, h4 _ _ h1⟩
          · exact hΓ.ok _ _ h r ok v h' hr hp hok
        · exact hΓ.ok _ _ h r ok v h' hr hp hok
      · exact hΓ.ok _ _ h r ok v h' hr hp hok
    · exact hΓ.ok _ _ h r ok v h' hr hp hok
  pan := by
    intro g args h r ok v h' hr hp hok
    unfold stΓ at hr
    repeat' split at hr
    all_goals first | exact hΓ.pan _ _ h r ok v h' hr hp hok | (cases hr; simp [R.pickP] at hp)
  ext := by
    intro g args h r hr hlo
    unfold stΓ at hr
    split at hr
    · split at hr
      · rename_i id _
        split at hr
        · rename_i h1
          split at hr
          · cases hr
            exact (see_ext h id).trans (put_ext (h := h.see id) (stateOf_some h1) rfl rfl)
          · exact hΓ.ext _ _ h r hr hlo
        · exact hΓ.ext _ _ h r hr hlo
      · exact hΓ.ext _ _ h r hr hlo
    · exact hΓ.ext _ _ h r hr hlo
theorem rdΓ_ok {f : Nat} {spec : FSt → List V → Option (A × V)} {Γ : Gam} (hs : ∀ s rest ok v, spec s rest = some (ok, v) → okB ok = true → SaysR f s rest v) (hΓ : ΓOK Tryd.prog Γ) : ΓOK Tryd.prog (rdΓ f spec Γ) where
  ok := by
    intro g args h r ok v h' hr hp hok
    unfold rdΓ at hr
    split at hr
    · rename_i hb
      have := Go.WE.beq_true hb
      subst this
      split at hr
      · split at hr
        · rename_i h1
          split at hr
          · rename_i h2
            cases hr
            simp only [R.pick, Option.some.injEq, Prod.mk.injEq] at hp
            obtain ⟨rfl, rfl, rfl⟩ := hp
            obtain ⟨h3, h4⟩ := hs _ _ _ _ h2 hok
            exact .inl ⟨h3, h4 _ _ h1⟩
          · exact hΓ.ok _ _ h r ok v h' hr hp hok
        · exact hΓ.ok _ _ h r ok v h' hr hp hok
      · exact hΓ.ok _ _ h r ok v h' hr hp hok
    · exact hΓ.ok _ _ h r ok v h' hr hp hok
  pan := by
    intro g args h r ok v h' hr hp hok
    unfold rdΓ at hr
    repeat' split at hr
    all_goals first | exact hΓ.pan _ _ h r ok v h' hr hp hok | (cases hr; simp [R.pickP] at hp)
  ext := by
    intro g args h r hr hlo
    unfold rdΓ at hr
    repeat' split at hr
    all_goals first | exact hΓ.ext _ _ h r hr hlo | (cases hr; exact see_ext h _)

/-! ### registers -/

def bvI (k : IntKind) (a : A) : Option U := match a.bv with
  | some (k', y) => match kEq k' k with
    | true => some y
    | false => none
  | none => none
theorem bv_less1 {x : A} {k : IntKind} {y : U} (h : bvI k x = some y) {ν ν' : Nu} {vs : List Value} (hr : (T.a x).rel ν vs) : (T.a (.i k y)).rel ν' vs := by
  unfold bvI at h
  split at h
  · rename_i k' y' hb
    split at h
    · rename_i hk
      have hk := kEq_true hk
      subst hk
      cases h
      simp only [T.rel] at hr ⊢
      obtain ⟨v, rfl, hx, hc⟩ := hr
      exact ⟨v, rfl, by simp only [A.rel]; exact bv_val hb hx, hc⟩
    · cases h
  · cases h
def rwOfT : T → Option RW
  | .st [.a k, .a o, .a m, .a i, .st [.st [.a tv, .a tm], .st [.a ul, .a uh], .st [.a sl, .a sh]]] => match bvI .i64 k, bvI .i64 o, bvI .i64 m, bvI .i64 i, bvI .u64 tv, bvI .u64 tm, bvI .u64 ul, bvI .u64 uh, bvI .i64 sl, bvI .i64 sh with
    | some k, some o, some m, some i, some tv, some tm, some ul, some uh, some sl, some sh => some ⟨k, o, m, i, tv, tm, ul, uh, sl, sh⟩
    | _, _, _, _, _, _, _, _, _, _ => none
  | _ => none
theorem rwOfT_rel {t : T} {r : RW} (h : rwOfT t = some r) {ν ν' : Nu} {u : Value} (hr : t.relV ν u) : r.t.relV ν' u := by
  unfold rwOfT at h
  split at h
  · split at h
    · rename_i h1 h2 h3 h4 h5 h6 h7 h8 h9 h10
      cases h
      obtain ⟨vs, rfl, hr⟩ := hr
      refine ⟨vs, rfl, ?_⟩
      unfold RW.t
      simp only [T.rel, relTs] at hr ⊢
      obtain ⟨u1, w1, e1, r1, u2, w2, e2, r2, u3, w3, e3, r3, u4, w4, e4, r4, u5, w5, e5, ⟨u6, w6, e6, ⟨a1, b1, f1, s1, a2, b2, f2, s2, f3⟩, u7, w7, e7, ⟨a3, b3, f4, s3, a4, b4, f5, s4, f6⟩, u8, w8, e8, ⟨a5, b5, f7, s5, a6, b6, f8, s6, f9⟩, e9⟩, e10⟩ := hr
      have c1 := bv_less1 (ν' := ν') h1 (ν := ν) (vs := u1) (by simpa only [T.rel] using r1)
      have c2 := bv_less1 (ν' := ν') h2 (ν := ν) (vs := u2) (by simpa only [T.rel] using r2)
      have c3 := bv_less1 (ν' := ν') h3 (ν := ν) (vs := u3) (by simpa only [T.rel] using r3)
      have c4 := bv_less1 (ν' := ν') h4 (ν := ν) (vs := u4) (by simpa only [T.rel] using r4)
      have c5 := bv_less1 (ν' := ν') h5 (ν := ν) (vs := a1) (by simpa only [T.rel] using s1)
      have c6 := bv_less1 (ν' := ν') h6 (ν := ν) (vs := a2) (by simpa only [T.rel] using s2)
      have c7 := bv_less1 (ν' := ν') h7 (ν := ν) (vs := a3) (by simpa only [T.rel] using s3)
      have c8 := bv_less1 (ν' := ν') h8 (ν := ν) (vs := a4) (by simpa only [T.rel] using s4)
      have c9 := bv_less1 (ν' := ν') h9 (ν := ν) (vs := a5) (by simpa only [T.rel] using s5)
      have c10 := bv_less1 (ν' := ν') h10 (ν := ν) (vs := a6) (by simpa only [T.rel] using s6)
      simp only [T.rel] at c1 c2 c3 c4 c5 c6 c7 c8 c9 c10
      exact ⟨u1, w1, e1, c1, u2, w2, e2, c2, u3, w3, e3, c3, u4, w4, e4, c4, u5, w5, e5, ⟨u6, w6, e6, ⟨a1, b1, f1, c5, a2, b2, f2, c6, f3⟩, u7, w7, e7, ⟨a3, b3, f4, c7, a4, b4, f5, c8, f6⟩, u8, w8, e8, ⟨a5, b5, f7, c9, a6, b6, f8, c10, f9⟩, e9⟩, e10⟩
    · cases h
  · cases h
end Go.WE
