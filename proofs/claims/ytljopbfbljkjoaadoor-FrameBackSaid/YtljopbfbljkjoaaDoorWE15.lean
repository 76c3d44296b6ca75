/- WE15: calls and built-in functions are carried out as the evaluator says. -/
import Derived.Test.YtljopbfbljkjoaaDoorWE14
namespace Go.WE
open Go

section
variable {cx : Cx} {S : Nat → Prop} {ν : Nu} {w : World} {h : H} {call : CallE} {a : Act} {o : Oper} {K : Act → World → Prop} {Q : Exit → Act → World → Prop}

theorem evalBuiltin_calm {b : Builtin} {vs : List V} {us : Array Value} {ts : Array TypeId} {t : TypeId} {cs : Array Bool} {r : OpR} (hb1 : b ≠ .append) (hb2 : b ≠ .copy) (he : evalBuiltin cx.P h b vs ts = some r) (hok : okB r.ok = true) (hv : relV ν vs us.toList) :
    ∃ v, (builtin b ts t cs us).run cx.P w = .ok (.value v) w ∧ r.v.rel ν v ∧ r.h = h := by
  unfold evalBuiltin at he
  split at he
  · exact absurd rfl hb1
  · exact absurd rfl hb2
  · split at he
    · rename_i id p s st len cap elem hu
      simp only [Option.some.injEq] at he
      subst he
      obtain ⟨t0, ht0, hu⟩ := bind_some hu
      cases hl : us.toList with
      | nil => rw [hl] at hv; exact hv.elim
      | cons x xs =>
        rw [hl] at hv
        have hx : (A.sl id p s st len cap).rel ν x := hv.1
        simp only [A.rel] at hx
        obtain ⟨b', base, o', c, _, rfl, _, _, _⟩ := hx
        have e0 : us[0]? = some (.slice (some ⟨b', o', none⟩) len.val c) := by rw [← Array.getElem?_toList, hl]; rfl
        refine ⟨.int .i64 len.val, by simp [builtin, Builtin.len_, ht0, e0, run_underlying' hu, goInt], ?_, rfl⟩
        show (ixInt len).rel ν _
        cases len with
        | lit n =>
          simp only [ixInt, A.rel]
          refine ⟨rfl, ?_⟩
          have hok : okB (ofDec (decide (IntKind.i64.wrap (n : Int) = (n : Int)))) = true := hok
          cases hd : decide (IntKind.i64.wrap (n : Int) = (n : Int)) with
          | false => rw [hd] at hok; cases hok
          | true => exact of_decide_eq_true hd
        | sym n =>
          simp only [ixInt, A.rel]
          have hok : okB (ixSmall (.sym n)) = true := hok
          have hlt : n < 2 ^ 63 := blt_lt hok
          congr 1
          show (n : Int) = vof .i64 (BitVec.ofNat 64 n)
          unfold vof
          rw [BitVec.toNat_ofNat, Nat.mod_eq_of_lt (by omega)]
          simp [IntKind.wrap, IntKind.bits, IntKind.signed]
          omega
    · rename_i elem hu
      rw [mkA_eq he]
      obtain ⟨t0, ht0, hu⟩ := bind_some hu
      cases hl : us.toList with
      | nil => rw [hl] at hv; exact hv.elim
      | cons x xs =>
        rw [hl] at hv
        have hx : A.nils.rel ν x := hv.1
        simp only [A.rel] at hx
        subst hx
        have e0 : us[0]? = some (.slice none 0 0) := by rw [← Array.getElem?_toList, hl]; rfl
        refine ⟨.int .i64 0, by simp [builtin, Builtin.len_, ht0, e0, run_underlying' hu, goInt], ?_, rfl⟩
        show (A.lit .i64 0).rel ν _
        simp only [A.rel]
        exact ⟨trivial, by decide⟩
    · rename_i s hu
      split at he
      · rename_i hw
        rw [mkA_eq he]
        obtain ⟨t0, ht0, hu⟩ := bind_some hu
        cases hl : us.toList with
        | nil => rw [hl] at hv; exact hv.elim
        | cons x xs =>
          rw [hl] at hv
          have hx : (A.raw (.string s)).rel ν x := hv.1
          simp only [A.rel] at hx
          subst hx
          have e0 : us[0]? = some (.string s) := by rw [← Array.getElem?_toList, hl]; rfl
          refine ⟨.int .i64 s.size, by simp [builtin, Builtin.len_, ht0, e0, run_underlying' hu, goInt], ?_, rfl⟩
          show (A.lit .i64 s.size).rel ν _
          simp only [A.rel]
          exact ⟨trivial, of_decide_eq_true hw⟩
      · cases he
    · cases he
  · split at he
    · rename_i x r
      obtain ⟨z, hz, he⟩ := bind_some he
      rw [mkA_eq he]
      cases hl : us.toList with
      | nil => rw [hl] at hv; exact hv.elim
      | cons y ys =>
        rw [hl] at hv
        obtain ⟨v', h1, h2⟩ := foldl_min (P := cx.P) (w := w) hz hv.1 hv.2
        refine ⟨v', ?_, h2, rfl⟩
        simp only [builtin, Builtin.min_]
        rw [hl]
        simp only
        rw [Sem.run_bind, h1]; rfl
    · cases he
  · split at he
    · rename_i x r
      obtain ⟨z, hz, he⟩ := bind_some he
      rw [mkA_eq he]
      cases hl : us.toList with
      | nil => rw [hl] at hv; exact hv.elim
      | cons y ys =>
        rw [hl] at hv
        obtain ⟨v', h1, h2⟩ := foldl_max (P := cx.P) (w := w) hz hv.1 hv.2
        refine ⟨v', ?_, h2, rfl⟩
        simp only [builtin, Builtin.max_]
        rw [hl]
        simp only
        rw [Sem.run_bind, h1]; rfl
    · cases he
  · cases he

theorem relV_two {x y : A} {us : Array Value} (h : relV ν [.t (.a x), .t (.a y)] us.toList) : ∃ vx vy, us[0]? = some vx ∧ us[1]? = some vy ∧ x.rel ν vx ∧ y.rel ν vy := by
  cases hl : us.toList with
  | nil => rw [hl] at h; exact h.elim
  | cons u us1 =>
    rw [hl] at h
    obtain ⟨h1, h2⟩ := h
    cases us1 with
    | nil => exact h2.elim
    | cons u2 us2 => exact ⟨u, u2, by rw [← Array.getElem?_toList, hl]; rfl, by rw [← Array.getElem?_toList, hl]; rfl, h1, h2.1⟩

theorem evalBuiltin_sound (m : Mem S ν w h) {b : Builtin} {vs : List V} {us : Array Value} {ts : Array TypeId} {t : TypeId} {cs : Array Bool} {r : OpR} (he : evalBuiltin cx.P h b vs ts = some r) (hok : okB r.ok = true) (hS : ∀ i, i ∈ r.h.rd → S i) (hv : relV ν vs us.toList) :
    ∃ v w' ν', (builtin b ts t cs us).run cx.P w = .ok (.value v) w' ∧ r.v.rel ν' v ∧ Goes S ν w h ν' w' r.h := by
  by_cases h1 : b = .append
  · subst h1
    simp only [evalBuiltin] at he
    split at he
    · rename_i x y t0 e2 ht0 ht1
      obtain ⟨t1, ht1, hu2⟩ := bind_some ht1
      obtain ⟨vx, vy, e0, e1, hx, hy⟩ := relV_two hv
      obtain ⟨v, w', ν', g1, g2, g3⟩ := evAppend_sound (P := cx.P) m he hok hS ht0 ht1 hu2 hx hy e0 e1 t
      refine ⟨v, w', ν', ?_, g2, g3⟩
      simp [builtin, g1]
    · cases he
  · by_cases h2 : b = .copy
    · subst h2
      simp only [evalBuiltin] at he
      split at he
      · rename_i x y t0 ht0
        obtain ⟨vx, vy, e0, e1, hx, hy⟩ := relV_two hv
        obtain ⟨v, w', ν', g1, g2, g3⟩ := evCopy_sound (P := cx.P) m he hok hS ht0 hx hy e0 e1 t
        refine ⟨v, w', ν', ?_, g2, g3⟩
        simp [builtin, g1]
      · cases he
    · obtain ⟨v, g1, g2, g3⟩ := evalBuiltin_calm (w := w) (t := t) (cs := cs) h1 h2 he hok hv
      exact ⟨v, w, ν, g1, g2, by rw [g3]; exact Goes.refl m⟩

theorem evalCall_sound (hC : CallOK cx.P call) (m : Mem S ν w h) {G : Cond} {gt : Nat → Ent} {c : Call} {r : OpR} (he : evalCall cx call G gt h c = some r) (hok : okB r.ok = true) (hrd : ∀ i, i ∈ r.h.rd → S i) (hwr : ∀ i, i ∈ r.h.wr → S i)
    (hop : o.op = .call c) (hG : holds a.tmps G) (hs : Slots ν a.tmps gt c.operands.toList) (hg : Glob ν c.operands.toList) (hK : Then S ν w h a o K r) : o.wp cx.P a w K Q := by
  unfold evalCall at he
  split at he
  · cases he
  · rename_i vs hvs
    have hsub : ∀ x, x ∈ c.args.toList → x ∈ c.operands.toList := by intro x hx; simp [Call.operands]; exact .inr (by simpa using hx)
    have hargs := opVs_sound (a := a) hG hvs (hs.sub hsub) (fun g hm => hg g (hsub _ hm))
    have harr : (c.args.map a.eval).toList = c.args.toList.map a.eval := by simp
    have hsem : execOp a.eval o = (do let d ← resolve a.eval c o.type; invoke d.target d.args) := by unfold execOp; rw [hop]
    split at he
    · rename_i f hcal
      have hf1 : ∀ x, x ∈ [f] → x ∈ c.operands.toList := by intro x hx; simp [Call.operands, hcal]; simp at hx; exact .inl hx
      split at he
      · rename_i f' caps hf
        have hfv := opA_sound (a := a) hf hG (hs.sub hf1) (fun g hm => hg g (hf1 _ hm))
        simp only [A.rel] at hfv
        obtain ⟨cvs, hfv, hcaps⟩ := hfv
        have hall := relV_append hargs (relV_of_relL hcaps)
        have earr : c.args.map a.eval ++ cvs = (c.args.toList.map a.eval ++ cvs.toList).toArray := by
          apply Array.ext'; simp
        have hrun : (execOp a.eval o).run cx.P w = (callFunc f' (c.args.map a.eval ++ cvs)).run cx.P w := by
          rw [hsem, Sem.run_bind]
          simp only [resolve, hcal, hfv, Deferred.ofValue, Sem.run_pure, Result.andThen_ok, invoke]
          simp
        unfold R.one at he
        split at he
        · rename_i ok v h' hcall
          simp only [Option.some.injEq] at he
          subst he
          have hp : (call f' (vs ++ caps.map fun x => .t (.a x)) h).pick = some (ok, v, h') := by rw [hcall]; rfl
          rcases hC.ok _ _ _ _ _ _ hp hok with ⟨hent, hfn⟩ | ⟨hnow, e⟩
          · refine wp_of_enter (f := f') (args := c.args.map a.eval ++ cvs) (by rw [hrun]; exact hent _ w) ?_
            rw [earr]
            refine (hfn S ν w _ hrd hwr m hall).mono ?_
            rintro e w' ⟨u, ν', rfl, hu, hgo⟩
            exact ⟨u, rfl, hK ν' w' u hu hgo⟩
          · obtain ⟨u, h1, h2⟩ := hnow ν w _ hall
            refine wp_of_value (v := u) (w' := w) (by rw [hrun, earr]; exact h1) (hK ν w u h2 ?_)
            show Goes S ν w h ν w h'
            rw [e]; exact Goes.refl m
        · cases he
      · cases he
    · rename_i b hcal
      obtain ⟨v, w', ν', h1, h2, h3⟩ := evalBuiltin_sound (w := w) m (t := o.type) (cs := c.args.map fun | .const _ => true | _ => false) (us := c.args.map a.eval) he hok hrd (by rw [harr]; exact hargs)
      refine wp_of_value (v := v) (w' := w') ?_ (hK ν' w' v h2 h3)
      rw [hsem, Sem.run_bind]
      simp only [resolve, hcal, Sem.run_pure, Result.andThen_ok, invoke]
      exact h1
    · cases he
end
end Go.WE
