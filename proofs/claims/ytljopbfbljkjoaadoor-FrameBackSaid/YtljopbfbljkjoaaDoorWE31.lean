/- WE31: a table of numbers that is a package's variable; calls that look at it. -/
import Derived.Test.YtljopbfbljkjoaaDoorWE30
import Derived.ProofKit
import Derived.LaidMore
namespace Go.WE
set_option linter.unusedVariables false
open Go
open Go.RowKit (Below)

/-- What a table holds. -/
def tabT (k : IntKind) (ns : List Int) : T := .lst 1 (ns.map fun n => .a (.lit k n))
/-- A memory that has a table alone. -/
def H.tab (g : Nat) (k : IntKind) (ns : List Int) : H := ⟨Tr.set .nil g ⟨false, tabT k ns⟩, [], [], g + 1, g + 1, [g]⟩
def nuTab (g : Nat) : Nu := fun id => if id = g then some (g, 0) else none

def TabIn (W : World) (g : Nat) (k : IntKind) (ns : List Int) : Prop := ∃ cs ty fr post, W.heap[g]? = some (.cells cs ty fr) ∧ cs.toList = (ns.map fun n => Value.int k n) ++ post

theorem tab_rel {k : IntKind} {ν : Nu} : ∀ {ns : List Int}, (ns.all fun n => decide (k.wrap n = n)) = true → relLst ν 1 (ns.map fun n => .a (.lit k n)) (ns.map fun n => Value.int k n)
  | [], _ => by simp [relLst]
  | n :: ns, h => by
    simp only [List.all_cons, Bool.and_eq_true, decide_eq_true_eq] at h
    simp only [List.map_cons, relLst]
    refine ⟨[.int k n], ns.map fun n => Value.int k n, rfl, rfl, ?_, tab_rel h.2⟩
    simp only [T.rel]
    exact ⟨.int k n, rfl, by simp only [A.rel]; exact ⟨trivial, h.1⟩, trivial⟩

theorem mem_tab {S : Nat → Prop} {W : World} {g : Nat} {k : IntKind} {ns : List Int} (hw : (ns.all fun n => decide (k.wrap n = n)) = true) (h : TabIn W g k ns) : Mem S (nuTab g) W (H.tab g k ns) := by
  obtain ⟨cs, ty, fr, post, h1, h2⟩ := h
  have hlt : g < W.heap.size := (Array.getElem?_eq_some_iff.1 h1).1
  have hget : ∀ id, (H.tab g k ns).m.get id = if g = id then some ⟨false, tabT k ns⟩ else none := fun id => by
    show (Tr.set .nil g _).get id = _
    rw [Tr.get_set, Tr.get_nil]
  have hν : ∀ id r base, nuTab g id = some (r, base) → id = g ∧ r = g ∧ base = 0 := fun id r base h => by
    unfold nuTab at h
    split at h
    · cases h; exact ⟨by assumption, rfl, rfl⟩
    · cases h
  refine ⟨⟨fun id r base hb => by obtain ⟨_, rfl, _⟩ := hν _ _ _ hb; exact hlt, fun id b hb hrw => ?_, fun id hid => ?_, fun id b hb => ?_, Nat.le_refl _, fun x hx => ?_⟩, fun id b hb _ => ?_⟩
  · rw [hget] at hb
    split at hb
    · cases hb; cases hrw
    · cases hb
  · have hid : g + 1 ≤ id := hid
    unfold nuTab
    rw [if_neg (by omega)]
  · rw [hget] at hb
    split at hb
    · rename_i e; subst e; exact Nat.lt_succ_self _
    · cases hb
  · have hx : x ∈ [g] := hx
    simp at hx
    subst hx
    simp [nuTab]
  · rw [hget] at hb
    split at hb
    · rename_i e
      subst e
      cases hb
      exact .inl ⟨g, 0, cs, ty, fr, [], ns.map fun n => Value.int k n, post, by simp [nuTab], h1, by simpa using h2, rfl, by show T.rel _ (.lst 1 _) _; simp only [T.rel]; exact tab_rel hw, fun h => by cases h⟩
    · cases hb

theorem tab_calm {S : Nat → Prop} {g : Nat} {k : IntKind} {ns : List Int} {ν' : Nu} {W w' : World} {h' : H} (gs : Goes S (nuTab g) W (H.tab g k ns) ν' w' h') : ∀ r, r < W.heap.size → w'.heap[r]? = W.heap[r]? := by
  intro r hr
  refine gs.frm.block r hr (fun id base hb => ?_)
  have hid : id = g := by
    unfold nuTab at hb
    split at hb
    · assumption
    · cases hb
  subst hid
  refine ⟨by rw [gs.ext.lo]; exact Nat.lt_succ_self _, fun hwr => ?_⟩
  rcases gs.ext.wrw id hwr with h3 | ⟨b, h3, h4⟩ | h3
  · cases h3
  · have : (Tr.set .nil id (⟨false, tabT k ns⟩ : Blk)).get id = some b := h3
    rw [Tr.get_set, if_pos rfl] at this
    cases this
    cases h4
  · have h3 : id + 1 ≤ id := h3
    omega

theorem top_calls_tab {cx : Cx} {Γ : Gam} {fuel n : Nat} {f : FuncId} {args : List V} {g : Nat} {k : IntKind} {ns : List Int} (X : CxOK cx Γ) {ok : A} {v : V} (hΓ : Γ f args (H.tab g k ns) = none) (he : (evalF cx Γ fuel (n + 1) f args (H.tab g k ns)).res = some (ok, v)) (hok : okB ok = true)
    {vs : List Value} (hargs : relV (nuTab g) args vs) {W : World} (hw : (ns.all fun n => decide (k.wrap n = n)) = true) (hT : TabIn W g k ns) :
    Calls cx.P f vs.toArray W (fun e w' => ∃ u ν', e = .returned u ∧ v.rel ν' u ∧ Below W.heap.size W w') := by
  obtain ⟨h', hp⟩ := R.res_some he
  obtain ⟨_, h2⟩ := evalF_fn X hΓ hp hok
  refine (h2 (fun _ => True) (nuTab g) W vs (fun _ _ => trivial) (fun _ _ => trivial) (mem_tab hw hT) hargs).mono ?_
  rintro e w' ⟨u, ν', rfl, hu, gs⟩
  exact ⟨u, ν', rfl, hu, ⟨gs.frm.os, gs.frm.tape, gs.frm.output, gs.frm.size, tab_calm gs⟩⟩

/-! ### a function that looks at a table -/

def eqLits (k : IntKind) : List T → List Int → Bool
  | [], [] => true
  | .a (.lit k' m) :: ts, n :: ns => kEq k' k && decide (m = n) && eqLits k ts ns
  | _, _ => false

def eqTabT (k : IntKind) (ns : List Int) : T → Bool
  | .lst s ts => Nat.beq s 1 && eqLits k ts ns
  | _ => false

theorem eqLits_spec {k : IntKind} : ∀ {ts : List T} {ns : List Int}, eqLits k ts ns = true → ts = ns.map fun n => .a (.lit k n)
  | [], [], _ => rfl
  | t :: ts, n :: ns, h => by
    cases t with
    | a x =>
      cases x with
      | lit k' m =>
        simp only [eqLits, Bool.and_eq_true, decide_eq_true_eq] at h
        rw [kEq_true h.1.1, h.1.2, eqLits_spec h.2]; rfl
      | _ => simp [eqLits] at h
    | _ => simp [eqLits] at h
  | [], _ :: _, h => by simp [eqLits] at h
  | .a x :: _, [], h => by simp [eqLits] at h
  | .st _ :: _, [], h => by simp [eqLits] at h
  | .lst _ _ :: _, [], h => by simp [eqLits] at h
  | .arr _ _ _ :: _, [], h => by simp [eqLits] at h
  | .bad :: _, [], h => by simp [eqLits] at h

theorem eqTabT_spec {k : IntKind} {ns : List Int} {t : T} (h : eqTabT k ns t = true) : t = tabT k ns := by
  unfold eqTabT at h
  split at h
  · simp only [Bool.and_eq_true] at h
    rw [beq_true h.1, eqLits_spec h.2]; rfl
  · cases h

theorem lits_of_rel {k : IntKind} {ν : Nu} : ∀ {ns : List Int} {vs : List Value}, relLst ν 1 (ns.map fun n => .a (.lit k n)) vs → vs = ns.map fun n => Value.int k n
  | [], vs, h => by simpa [relLst] using h
  | n :: ns, vs, h => by
    simp only [List.map_cons, relLst] at h
    obtain ⟨us, ws, rfl, _, h1, h2⟩ := h
    simp only [T.rel] at h1
    obtain ⟨v, rfl, h1, _⟩ := h1
    simp only [A.rel] at h1
    rw [h1.1, lits_of_rel h2]; rfl

def tabHas (g : Nat) (k : IntKind) (ns : List Int) (h : H) : Bool := memB g h.gl && (match h.m.get g with | some b => eqTabT k ns b.t | none => false)

def tabΓ (f g : Nat) (k : IntKind) (ns : List Int) (spec : List V → Option (A × V)) (Γ : Gam) : Gam := fun f' args h => match Nat.beq f' f with
  | true => match tabHas g k ns h with
    | true => match spec (symVs args) with
      | some (ok, v) => some (.leaf ok v (h.see g))
      | none => none
    | false => none
  | false => Γ f' args h

theorem fnOK_tab {P : Program} {f g : Nat} {k : IntKind} {ns : List Int} {args : List V} {v : V} {h' : H} (hw : (ns.all fun n => decide (k.wrap n = n)) = true) (h0 : FnOK P f args (H.tab g k ns) v h') (ha : freeVs args = true) (hv : v.free = true) {h : H} (hh : tabHas g k ns h = true) :
    FnOK P f args h v (h.see g) := by
  intro S ν w vs hrd _ hm hargs
  unfold tabHas at hh
  simp only [Bool.and_eq_true] at hh
  have hgl := memB_iff.1 hh.1
  have hT : TabIn w g k ns := by
    cases hb : h.m.get g with
    | none => rw [hb] at hh; simp at hh
    | some b =>
      rw [hb] at hh
      have ht := eqTabT_spec hh.2
      obtain ⟨r, base, cs, ty, fr, pre, us, post, q1, q2, q3, q4, q5, q6⟩ := (hm.seen g b hb (see_seen hrd)).cells (by rw [ht]; rfl)
      rw [hm.nums.glob g hgl] at q1
      cases q1
      rw [ht] at q5
      have q5 : T.rel ν (.lst 1 _) us := q5
      simp only [T.rel] at q5
      have := lits_of_rel q5
      subst this
      have : pre = [] := List.length_eq_zero_iff.1 q4
      subst this
      exact ⟨cs, ty, fr, post, q2, by simpa using q3⟩
  refine (h0 (fun _ => True) (nuTab g) w vs (fun _ _ => trivial) (fun _ _ => trivial) (mem_tab hw hT) (relV_free ha hargs)).mono ?_
  rintro e w' ⟨u, ν', rfl, hu, gs⟩
  have hb := tab_calm gs
  have g1 : Goes S ν w h ν w' h := ⟨Nu.le_refl _, ⟨⟨fun id r base h => Nat.lt_of_lt_of_le (hm.nums.lt id r base h) gs.frm.size, hm.nums.inj, hm.nums.fresh, hm.nums.bound, hm.nums.lo, hm.nums.glob⟩, fun id b h1 h2 =>
      (hm.seen id b h1 h2).mono (Nu.le_refl _) (fun r base h3 => hb r (hm.nums.lt id r base h3))⟩,
    ⟨gs.frm.os, gs.frm.tape, gs.frm.output, gs.frm.size, fun r hr _ => hb r hr⟩, fun id r base h h' => (by rw [h] at h'; cases h'), Ext.refl _, fun _ _ => rfl⟩
  exact ⟨u, ν, rfl, V.rel_free hv hu, g1.trans (g1.mem.see g)⟩

theorem tabΓ_ok {P : Program} {f g : Nat} {k : IntKind} {ns : List Int} {spec : List V → Option (A × V)} {Γ : Gam} (hs : ∀ args ok v, spec args = some (ok, v) → okB ok = true → Enters P f ∧ ∀ h, tabHas g k ns h = true → FnOK P f args h v (h.see g)) (hΓ : ΓOK P Γ) : ΓOK P (tabΓ f g k ns spec Γ) where
  ok := by
    intro f' args h r ok v h' hr hp hok
    unfold tabΓ at hr
    split at hr
    · rename_i hb
      have := beq_true hb
      subst this
      split at hr
      · rename_i hh
        split at hr
        · rename_i ok1 v1 hsp
          cases hr
          simp only [R.pick, Option.some.injEq, Prod.mk.injEq] at hp
          obtain ⟨rfl, rfl, rfl⟩ := hp
          obtain ⟨h1, h2⟩ := hs _ _ _ hsp hok
          exact .inl ⟨h1, fun S ν w vs hrd hwr hm hv => h2 h hh S ν w vs hrd hwr hm (symVs_rel hv)⟩
        · cases hr
      · cases hr
    · exact hΓ.ok f' args h r ok v h' hr hp hok
  pan := by
    intro f' args h r ok v h' hr hp hok
    unfold tabΓ at hr
    split at hr
    · split at hr
      · split at hr
        · cases hr; simp [R.pickP] at hp
        · cases hr
      · cases hr
    · exact hΓ.pan f' args h r ok v h' hr hp hok
  ext := by
    intro f' args h r hr hlo
    unfold tabΓ at hr
    split at hr
    · split at hr
      · split at hr
        · cases hr; exact see_ext _ _
        · cases hr
      · cases hr
    · exact hΓ.ext f' args h r hr hlo

theorem tab_of_eval {cx : Cx} {Γ : Gam} {fuel n : Nat} {f g : Nat} {k : IntKind} {ns : List Int} {args : List V} (X : CxOK cx Γ) {ok : A} {v : V} (hw : (ns.all fun n => decide (k.wrap n = n)) = true) (hΓ : Γ f args (H.tab g k ns) = none) (he : (evalF cx Γ fuel (n + 1) f args (H.tab g k ns)).res = some (ok, v)) (hok : okB ok = true) (ha : freeVs args = true) (hv : v.free = true) :
    Enters cx.P f ∧ ∀ h, tabHas g k ns h = true → FnOK cx.P f args h v (h.see g) := by
  obtain ⟨h', hp⟩ := R.res_some he
  obtain ⟨h1, h2⟩ := evalF_fn X hΓ hp hok
  exact ⟨h1, fun h hh => fnOK_tab hw h2 ha hv hh⟩

/-- What the condition on the listed table gives. -/
theorem tab_of_laid {P : Program} {W : World} {name : String} {g t e n : Nat} {k : IntKind} {ns : List Int} (hg : P.globalNamed name = some g) (ht : (P.globals[g]?).map (·.type) = some t)
    (hu : P.underlying t = some (.array n e)) (hk : P.underlying e = some (.int k)) (hc : P.cellsOf e = 1) (hct : P.cellsOf t = n) {laid : List (String × DataW Unit)}
    (hl : laid = [(name, .agg (ns.map fun x => .lit (.int k x)))]) (hp : (laid.filter fun x => x.2.handleName?.isSome) = []) (h : laidMetH P laid W) : TabIn W g k ns := by
  unfold laidMetH at h
  rw [hp] at h
  simp only at h
  subst hl
  obtain ⟨ps, ⟨g0, t0, cs0, f0, p0, q0, hg0, ht0, hv0, hd0, _⟩, _, _⟩ := h
  obtain rfl := Option.some.inj (hg.symm.trans hg0)
  obtain rfl := Option.some.inj (ht.symm.trans ht0)
  obtain ⟨xs, m, rfl, hx, hlen, hn, hel⟩ := DataW.trod_array hu hd0
  rw [hc] at hel
  rw [hct] at hlen
  simp only [Prod.mk.injEq, DataW.agg.injEq] at hx
  have hheap : ∃ ty fr, W.heap[g]? = some (.cells cs0 ty fr) := by
    simp only [World.var?, hg, Option.bind_some] at hv0
    split at hv0
    · rename_i c ty fr hh
      cases hv0
      exact ⟨ty, fr, hh⟩
    · cases hv0
  obtain ⟨ty, fr, hh⟩ := hheap
  refine ⟨cs0, ty, fr, [], hh, ?_⟩
  rw [List.append_nil]
  have hlx : xs.length = ns.length := by
    have := congrArg List.length hx.1
    simpa using this.symm
  apply List.ext_getElem?
  intro i
  by_cases hi : i < n
  · have h1 := hel i hi
    rw [Nat.mul_one] at h1
    have hix : i < xs.length := by omega
    rw [List.getElem?_eq_getElem hix] at h1
    obtain ⟨z, e1, e2, _⟩ := DataW.trod_int hk h1
    have hin : i < ns.length := by omega
    have h2 : (ns.map fun x => DataW.lit (Lit.int k x))[i]? = (xs.map (·.1))[i]? := by rw [hx.1]
    rw [List.getElem?_map, List.getElem?_map, List.getElem?_eq_getElem hin, List.getElem?_eq_getElem hix] at h2
    simp only [Option.map_some, Option.some.injEq] at h2
    rw [e2] at h2
    simp only [DataW.lit.injEq, Lit.int.injEq, true_and] at h2
    have hic : i < cs0.toList.length := by omega
    rw [List.drop_eq_getElem_cons hic] at e1
    simp only [List.take_succ_cons, List.take_zero, List.cons.injEq, and_true] at e1
    rw [List.getElem?_eq_getElem hic, e1, List.getElem?_map, List.getElem?_eq_getElem hin, ← h2]
    rfl
  · rw [List.getElem?_eq_none (by omega), List.getElem?_eq_none (by simp; omega)]
end Go.WE
