/- WE30: contracts of functions that leave memory alone; calls at the top. -/
import Derived.Test.YtljopbfbljkjoaaDoorWE29
import Derived.Below
namespace Go.WE
set_option linter.unusedVariables false
open Go
open Go.RowKit (Below)

/-! ### values that name no block -/

mutual
def A.free : A → Bool
  | .ptr _ _ => false
  | .sl _ _ _ _ _ _ => false
  | .mapp _ => false
  | .fn _ caps => freeAs caps
  | .iface _ x => x.free
  | _ => true
def freeAs : List A → Bool
  | [] => true
  | a :: r => a.free && freeAs r
end

mutual
def T.free : T → Bool
  | .a x => x.free
  | .st fs => freeTs fs
  | .lst _ ts => freeTs ts
  | .arr _ _ _ => true
  | .bad => true
  | .mp _ _ _ => false
def freeTs : List T → Bool
  | [] => true
  | t :: r => t.free && freeTs r
end

def V.free : V → Bool
  | .t x => x.free
  | .tup ts => freeTs ts

def freeVs : List V → Bool
  | [] => true
  | v :: r => v.free && freeVs r

mutual
theorem A.rel_free {ν ν' : Nu} : ∀ {a : A} {v : Value}, a.free = true → a.rel ν v → a.rel ν' v
  | .poison, _, _, _ => by simp only [A.rel]
  | .undef, _, _, h => by simpa only [A.rel] using h
  | .lit _ _, _, _, h => by simpa only [A.rel] using h
  | .i _ _, _, _, h => by simpa only [A.rel] using h
  | .tt, _, _, h => by simpa only [A.rel] using h
  | .ff, _, _, h => by simpa only [A.rel] using h
  | .b _, _, _, h => by simpa only [A.rel] using h
  | .nilp, _, _, h => by simpa only [A.rel] using h
  | .ptr _ _, _, hf, _ => by simp [A.free] at hf
  | .nils, _, _, h => by simpa only [A.rel] using h
  | .sl _ _ _ _ _ _, _, hf, _ => by simp [A.free] at hf
  | .mapp _, _, hf, _ => by simp [A.free] at hf
  | .nilf, _, _, h => by simpa only [A.rel] using h
  | .fn _ caps, _, hf, h => by
    simp only [A.rel] at h ⊢
    simp only [A.free] at hf
    obtain ⟨vs, h1, h2⟩ := h
    exact ⟨vs, h1, relL_free hf h2⟩
  | .iface _ _, _, hf, h => by
    simp only [A.rel] at h ⊢
    simp only [A.free] at hf
    obtain ⟨u, h1, h2⟩ := h
    exact ⟨u, h1, A.rel_free hf h2⟩
  | .raw _, _, _, h => by simpa only [A.rel] using h
theorem relL_free {ν ν' : Nu} : ∀ {as : List A} {vs : List Value}, freeAs as = true → relL ν as vs → relL ν' as vs
  | [], _, _, h => by simpa only [relL] using h
  | a :: as, _, hf, h => by
    simp only [relL] at h ⊢
    simp only [freeAs, Bool.and_eq_true] at hf
    obtain ⟨v, us, h1, h2, h3⟩ := h
    exact ⟨v, us, h1, A.rel_free hf.1 h2, relL_free hf.2 h3⟩
end

mutual
theorem T.rel_free {ν ν' : Nu} : ∀ {t : T} {vs : List Value}, t.free = true → t.rel ν vs → t.rel ν' vs
  | .a x, vs, hf, h => by
    simp only [T.rel] at h ⊢
    obtain ⟨v, h1, h2, h3⟩ := h
    exact ⟨v, h1, A.rel_free hf h2, h3⟩
  | .st fs, vs, hf, h => by
    simp only [T.rel] at h ⊢
    exact relTs_free hf h
  | .lst s ts, vs, hf, h => by
    simp only [T.rel] at h ⊢
    exact relLst_free hf h
  | .arr _ _ _, vs, _, h => by simpa only [T.rel] using h
  | .bad, vs, _, h => by simpa only [T.rel] using h
  | .mp _ _ _, vs, hf, _ => by simp [T.free] at hf
theorem relTs_free {ν ν' : Nu} : ∀ {ts : List T} {vs : List Value}, freeTs ts = true → relTs ν ts vs → relTs ν' ts vs
  | [], _, _, h => by simpa only [relTs] using h
  | t :: ts, _, hf, h => by
    simp only [relTs] at h ⊢
    simp only [freeTs, Bool.and_eq_true] at hf
    obtain ⟨us, ws, h1, h2, h3⟩ := h
    exact ⟨us, ws, h1, T.rel_free hf.1 h2, relTs_free hf.2 h3⟩
theorem relLst_free {ν ν' : Nu} {s : Nat} : ∀ {ts : List T} {vs : List Value}, freeTs ts = true → relLst ν s ts vs → relLst ν' s ts vs
  | [], _, _, h => by simpa only [relLst] using h
  | t :: ts, _, hf, h => by
    simp only [relLst] at h ⊢
    simp only [freeTs, Bool.and_eq_true] at hf
    obtain ⟨us, ws, h1, h2, h3, h4⟩ := h
    exact ⟨us, ws, h1, h2, T.rel_free hf.1 h3, relLst_free hf.2 h4⟩
end

theorem T.relV_free {ν ν' : Nu} {t : T} {v : Value} (hf : t.free = true) (h : t.relV ν v) : t.relV ν' v := by
  cases t with
  | a x => exact A.rel_free (show x.free = true from hf) (show x.rel ν v from h)
  | bad => trivial
  | st fs => obtain ⟨vs, h1, h2⟩ := h; exact ⟨vs, h1, T.rel_free hf h2⟩
  | lst s ts => obtain ⟨vs, h1, h2⟩ := h; exact ⟨vs, h1, T.rel_free hf h2⟩
  | arr s n sh => obtain ⟨vs, h1, h2⟩ := h; exact ⟨vs, h1, T.rel_free hf h2⟩
  | mp k ks ts => simp [T.free] at hf

theorem relVs_free {ν ν' : Nu} : ∀ {ts : List T} {vs : List Value}, freeTs ts = true → relVs ν ts vs → relVs ν' ts vs
  | [], [], _, _ => trivial
  | t :: ts, v :: vs, hf, h => by
    simp only [freeTs, Bool.and_eq_true] at hf
    exact ⟨T.relV_free hf.1 h.1, relVs_free hf.2 h.2⟩
  | [], _ :: _, _, h => h.elim
  | _ :: _, [], _, h => h.elim

theorem V.rel_free {ν ν' : Nu} {x : V} {v : Value} (hf : x.free = true) (h : x.rel ν v) : x.rel ν' v := by
  cases x with
  | t u => exact T.relV_free hf h
  | tup ts => obtain ⟨vs, h1, h2⟩ := h; exact ⟨vs, h1, relVs_free hf h2⟩

theorem relV_free {ν ν' : Nu} : ∀ {xs : List V} {vs : List Value}, freeVs xs = true → relV ν xs vs → relV ν' xs vs
  | [], [], _, _ => trivial
  | x :: xs, v :: vs, hf, h => by
    simp only [freeVs, Bool.and_eq_true] at hf
    exact ⟨V.rel_free hf.1 h.1, relV_free hf.2 h.2⟩
  | [], _ :: _, _, h => h.elim
  | _ :: _, [], _, h => h.elim

/-! ### terms in the place of numbers that are known -/

def symA : A → A
  | .lit k n => .i k (BitVec.ofInt 64 n)
  | .tt => .b true
  | .ff => .b false
  | a => a

mutual
def symT : T → T
  | .a x => .a (symA x)
  | .st fs => .st (symTs fs)
  | .lst s ts => .lst s (symTs ts)
  | .arr s n sh => .arr s n sh
  | .bad => .bad
  | .mp k ks ts => .mp k ks ts
def symTs : List T → List T
  | [] => []
  | t :: r => symT t :: symTs r
end

def symV : V → V
  | .t x => .t (symT x)
  | .tup ts => .tup (symTs ts)

def symVs : List V → List V
  | [] => []
  | v :: r => symV v :: symVs r

theorem symA_rel {ν : Nu} {a : A} {v : Value} (h : a.rel ν v) : (symA a).rel ν v := by
  unfold symA
  split
  · rename_i k n
    have := A.rel_bv h (show A.bv (.lit k n) = some (k, BitVec.ofInt 64 n) from rfl)
    simpa only [A.rel] using this
  · simpa only [A.rel] using h
  · simpa only [A.rel] using h
  · exact h

mutual
theorem symT_rel {ν : Nu} : ∀ {t : T} {vs : List Value}, t.rel ν vs → (symT t).rel ν vs
  | .a x, vs, h => by
    simp only [T.rel, symT] at h ⊢
    obtain ⟨v, h1, h2, h3⟩ := h
    exact ⟨v, h1, symA_rel h2, h3⟩
  | .st fs, vs, h => by
    simp only [T.rel, symT] at h ⊢
    exact symTs_rel h
  | .lst s ts, vs, h => by
    simp only [T.rel, symT] at h ⊢
    exact symLst_rel h
  | .arr _ _ _, vs, h => by simpa only [T.rel, symT] using h
  | .bad, vs, h => by simpa only [T.rel, symT] using h
  | .mp _ _ _, vs, h => by simp only [T.rel] at h
theorem symTs_rel {ν : Nu} : ∀ {ts : List T} {vs : List Value}, relTs ν ts vs → relTs ν (symTs ts) vs
  | [], _, h => by simpa only [relTs, symTs] using h
  | t :: ts, _, h => by
    simp only [relTs, symTs] at h ⊢
    obtain ⟨us, ws, h1, h2, h3⟩ := h
    exact ⟨us, ws, h1, symT_rel h2, symTs_rel h3⟩
theorem symLst_rel {ν : Nu} {s : Nat} : ∀ {ts : List T} {vs : List Value}, relLst ν s ts vs → relLst ν s (symTs ts) vs
  | [], _, h => by simpa only [relLst, symTs] using h
  | t :: ts, _, h => by
    simp only [relLst, symTs] at h ⊢
    obtain ⟨us, ws, h1, h2, h3, h4⟩ := h
    exact ⟨us, ws, h1, h2, symT_rel h3, symLst_rel h4⟩
end

theorem symT_relV {ν : Nu} {t : T} {v : Value} (h : t.relV ν v) : (symT t).relV ν v := by
  cases t with
  | a x => exact symA_rel (show x.rel ν v from h)
  | bad => trivial
  | st fs => obtain ⟨vs, h1, h2⟩ := h; exact ⟨vs, h1, symT_rel h2⟩
  | lst s ts => obtain ⟨vs, h1, h2⟩ := h; exact ⟨vs, h1, symT_rel h2⟩
  | arr s n sh => obtain ⟨vs, h1, h2⟩ := h; exact ⟨vs, h1, symT_rel h2⟩
  | mp k ks ts => obtain ⟨vs, h1, h2⟩ := h; exact ⟨vs, h1, symT_rel h2⟩

theorem symTs_relVs {ν : Nu} : ∀ {ts : List T} {vs : List Value}, relVs ν ts vs → relVs ν (symTs ts) vs
  | [], [], _ => by simp [symTs, relVs]
  | t :: ts, v :: vs, h => ⟨symT_relV h.1, symTs_relVs h.2⟩
  | [], _ :: _, h => h.elim
  | _ :: _, [], h => h.elim

theorem symV_rel {ν : Nu} {x : V} {v : Value} (h : x.rel ν v) : (symV x).rel ν v := by
  cases x with
  | t u => exact symT_relV h
  | tup ts => obtain ⟨vs, h1, h2⟩ := h; exact ⟨vs, h1, symTs_relVs h2⟩

theorem symVs_rel {ν : Nu} : ∀ {xs : List V} {vs : List Value}, relV ν xs vs → relV ν (symVs xs) vs
  | [], [], _ => trivial
  | _ :: _, _ :: _, h => ⟨symV_rel h.1, symVs_rel h.2⟩
  | [], _ :: _, h => h.elim
  | _ :: _, [], h => h.elim

theorem rel_i {ν : Nu} {k : IntKind} {x : BitVec 64} : (A.i k x).rel ν (.int k (vof k x)) := by simp only [A.rel]
theorem rel_b {ν : Nu} {x : Bool} : (A.b x).rel ν (.bool x) := by simp only [A.rel]
theorem relTs_nil {ν : Nu} : relTs ν [] [] := by simp only [relTs]
theorem relTs_one {ν : Nu} {x : A} {v : Value} {ts : List T} {vs : List Value} (h : x.rel ν v) (hc : Cell v) (hr : relTs ν ts vs) : relTs ν (.a x :: ts) (v :: vs) := by
  simp only [relTs]
  exact ⟨[v], vs, rfl, by simp only [T.rel]; exact ⟨v, rfl, h, hc⟩, hr⟩
theorem rel_st {ν : Nu} {ts : List T} {vs : List Value} (h : relTs ν ts vs) : (T.st ts).rel ν vs := by simp only [T.rel]; exact h

theorem vrel_i {ν : Nu} {k : IntKind} {x : BitVec 64} : (V.t (.a (.i k x))).rel ν (.int k (vof k x)) := rel_i (ν := ν)
theorem vrel_b {ν : Nu} {x : Bool} : (V.t (.a (.b x))).rel ν (.bool x) := rel_b (ν := ν)
theorem vrel_st {ν : Nu} {ts : List T} {vs : Array Value} (h : relTs ν ts vs.toList) : (V.t (.st ts)).rel ν (.agg vs) := ⟨vs, rfl, rel_st h⟩
theorem relV_nil {ν : Nu} : relV ν [] [] := trivial
theorem relV_cons {ν : Nu} {x : V} {u : Value} {xs : List V} {us : List Value} (h : x.rel ν u) (hr : relV ν xs us) : relV ν (x :: xs) (u :: us) := ⟨h, hr⟩

/-! ### contracts -/

abbrev Gam := FuncId → List V → H → Option R

def noΓ : Gam := fun _ _ _ => none
theorem noΓ_ok {P : Program} : ΓOK P noΓ := ⟨fun _ _ _ _ _ _ _ h => (by cases h), fun _ _ _ _ _ _ _ h => (by cases h), fun _ _ _ _ h => (by cases h)⟩

def noDfr : DfrE := fun _ _ _ _ => none
theorem noDfr_ok {P : Program} : DfrOK P (fun _ _ _ _ => none) := ⟨fun _ _ _ _ _ _ _ h => (by cases h), fun _ _ _ _ _ _ _ h => (by cases h)⟩

/-- A function that leaves memory as it is: what it gives, at terms. -/
def pureΓ (f : FuncId) (spec : List V → Option (A × V)) (Γ : Gam) : Gam := fun g args h => match Nat.beq g f with
  | true => match spec (symVs args) with
    | some (ok, v) => some (.leaf ok v h)
    | none => none
  | false => Γ g args h

/-- What a contract of a function that leaves memory as it is says. -/
def PureOK (P : Program) (f : FuncId) (args : List V) (v : V) : Prop := (Enters P f ∧ ∀ h, FnOK P f args h v h) ∨ AtOnce P f args v

theorem pureΓ_ok {P : Program} {f : FuncId} {spec : List V → Option (A × V)} {Γ : Gam} (hs : ∀ args ok v, spec args = some (ok, v) → okB ok = true → PureOK P f args v) (hΓ : ΓOK P Γ) : ΓOK P (pureΓ f spec Γ) where
  ok := by
    intro g args h r ok v h' hr hp hok
    unfold pureΓ at hr
    split at hr
    · rename_i hb
      have := beq_true hb
      subst this
      split at hr
      · rename_i ok1 v1 hsp
        cases hr
        simp only [R.pick, Option.some.injEq, Prod.mk.injEq] at hp
        obtain ⟨rfl, rfl, rfl⟩ := hp
        rcases hs _ _ _ hsp hok with ⟨h1, h2⟩ | h2
        · exact .inl ⟨h1, fun S ν w vs hrd hwr hm hv => h2 h S ν w vs hrd hwr hm (symVs_rel hv)⟩
        · exact .inr ⟨fun ν w vs hv => h2 ν w vs (symVs_rel hv), rfl⟩
      · cases hr
    · exact hΓ.ok g args h r ok v h' hr hp hok
  pan := by
    intro g args h r ok v h' hr hp hok
    unfold pureΓ at hr
    split at hr
    · split at hr
      · cases hr; simp [R.pickP] at hp
      · cases hr
    · exact hΓ.pan g args h r ok v h' hr hp hok
  ext := by
    intro g args h r hr hlo
    unfold pureΓ at hr
    split at hr
    · split at hr
      · cases hr; exact Ext.refl _
      · cases hr
    · exact hΓ.ext g args h r hr hlo

/-! ### no memory -/

def H.none : H := ⟨.nil, [], [], 0, 0, []⟩
def nu0 : Nu := fun _ => none

theorem mem_none (S : Nat → Prop) (w : World) : Mem S nu0 w H.none :=
  ⟨⟨fun _ _ _ h => (by cases h), fun id b h => (by simp [H.none, Tr.get_nil] at h), fun _ _ => rfl, fun id b h => (by simp [H.none, Tr.get_nil] at h), Nat.le_refl _, fun g hg => (by cases hg)⟩,
    fun id b h => (by simp [H.none, Tr.get_nil] at h)⟩

def R.res (r : R) : Option (A × V) := match r.pick with
  | some (ok, v, _) => some (ok, v)
  | none => none

theorem R.res_some {r : R} {ok : A} {v : V} (h : r.res = some (ok, v)) : ∃ h', r.pick = some (ok, v, h') := by
  unfold R.res at h
  split at h
  · rename_i o v' h' hp
    simp only [Option.some.injEq, Prod.mk.injEq] at h
    obtain ⟨rfl, rfl⟩ := h
    exact ⟨h', hp⟩
  · cases h

/-- A call without memory leaves any memory as it is. -/
theorem fnOK_any {P : Program} {f : FuncId} {args : List V} {v : V} {h' : H} (h0 : FnOK P f args H.none v h') (ha : freeVs args = true) (hv : v.free = true) : ∀ h, FnOK P f args h v h := by
  intro h S ν w vs _ _ hm hargs
  refine (h0 (fun _ => True) nu0 w vs (fun _ _ => trivial) (fun _ _ => trivial) (mem_none _ w) (relV_free ha hargs)).mono ?_
  rintro e w' ⟨u, ν', rfl, hu, g⟩
  have hb : ∀ r, r < w.heap.size → w'.heap[r]? = w.heap[r]? := fun r hr => g.frm.block r hr (fun id base h => by cases h)
  refine ⟨u, ν, rfl, V.rel_free hv hu, ⟨Nu.le_refl _, ⟨⟨fun id r base h => Nat.lt_of_lt_of_le (hm.nums.lt id r base h) g.frm.size, hm.nums.inj, hm.nums.fresh, hm.nums.bound, hm.nums.lo, hm.nums.glob⟩, fun id b h1 h2 => ?_⟩,
    ⟨g.frm.os, g.frm.tape, g.frm.output, g.frm.size, fun r hr _ => hb r hr⟩, fun id r base h h' => (by rw [h] at h'; cases h'), Ext.refl _, fun _ _ => rfl⟩⟩
  exact (hm.seen id b h1 h2).mono (Nu.le_refl _) (fun r base h3 => hb r (hm.nums.lt id r base h3))

structure CxOK (cx : Cx) (Γ : Gam) : Prop where
  eq : EqOK cx
  gam : ΓOK cx.P Γ
  dfr : DfrOK cx.P cx.dfr
  lam : LamsOK cx
  ent : ∀ f fn, cx.P.funcs[f]? = some fn → fn.body ≠ none → Enters cx.P f

theorem noLam (P : Program) (eqT : TypeId → Option (List Bool)) (it : Nat) (dfr : DfrE) : LamsOK { P := P, eqT := eqT, it := it, dfr := dfr } := fun _ _ _ _ _ fp hfp id d s o h => by
  rw [hfp] at h; cases h

section
variable {cx : Cx} {Γ : Gam} {fuel n : Nat} {f : FuncId} {args : List V} {h : H}

theorem evalF_fn (X : CxOK cx Γ) {ok : A} {v : V} {h' : H} (hΓ : Γ f args h = none) (he : (evalF cx Γ fuel (n + 1) f args h).pick = some (ok, v, h')) (hok : okB ok = true) : Enters cx.P f ∧ FnOK cx.P f args h v h' := by
  simp only [evalF, hΓ] at he
  split at he
  · rename_i fn hf
    refine ⟨X.ent f fn hf ?_, evalFn_sound X.eq (evalF_sound X.eq X.gam X.dfr X.lam X.ent n) X.dfr X.lam hf he hok⟩
    intro hb
    unfold evalFn at he
    rw [hb] at he
    simp [R.pick] at he
  · simp [R.pick] at he

/-- A contract out of a call without memory. -/
theorem pure_of_eval (X : CxOK cx Γ) {ok : A} {v : V} (hΓ : Γ f args H.none = none) (he : (evalF cx Γ fuel (n + 1) f args H.none).res = some (ok, v)) (hok : okB ok = true) (ha : freeVs args = true) (hv : v.free = true) : PureOK cx.P f args v := by
  obtain ⟨h', hp⟩ := R.res_some he
  obtain ⟨h1, h2⟩ := evalF_fn X hΓ hp hok
  exact .inl ⟨h1, fnOK_any h2 ha hv⟩

/-- A call without memory. -/
theorem top_calls (X : CxOK cx Γ) {ok : A} {v : V} (hΓ : Γ f args H.none = none) (he : (evalF cx Γ fuel (n + 1) f args H.none).res = some (ok, v)) (hok : okB ok = true) {vs : List Value} (hargs : relV nu0 args vs) (w : World) :
    Calls cx.P f vs.toArray w (fun e w' => ∃ u ν', e = .returned u ∧ v.rel ν' u ∧ Below w.heap.size w w') := by
  obtain ⟨h', hp⟩ := R.res_some he
  obtain ⟨_, h2⟩ := evalF_fn X hΓ hp hok
  refine (h2 (fun _ => True) nu0 w vs (fun _ _ => trivial) (fun _ _ => trivial) (mem_none _ w) hargs).mono ?_
  rintro e w' ⟨u, ν', rfl, hu, g⟩
  exact ⟨u, ν', rfl, hu, ⟨g.frm.os, g.frm.tape, g.frm.output, g.frm.size, fun r hr => g.frm.block r hr (fun id base h => by cases h)⟩⟩
end
end Go.WE
