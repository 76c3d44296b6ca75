/- WE17: one operation. -/
import Derived.Test.YtljopbfbljkjoaaDoorWE35
namespace Go.WE
open Go

section
variable {cx : Cx} {S : Nat → Prop} {ν : Nu} {w : World} {h : H} {call : CallE} {a : Act} {o : Oper} {K : Act → World → Prop} {Q : Exit → Act → World → Prop}

theorem wp_move {x : Value} {r : OpR} (he : execOp a.eval o = pure (.value x)) (hr : Runs cx.P S ν w h (pure x) r) (hK : Then S ν w h a o K r) : o.wp cx.P a w K Q := by
  obtain ⟨v, w', ν', h1, h2, h3⟩ := hr
  simp at h1
  obtain ⟨rfl, rfl⟩ := h1
  refine wp_of_value (v := x) (w' := w) ?_ (hK ν' w x h2 h3)
  rw [he]; rfl

theorem evalOp_sound (hE : EqOK cx) (hC : CallOK cx.P call) (m : Mem S ν w h) {G : Cond} {gt : Nat → Ent} {op : Op} {r : OpR} (he : evalOp cx call G gt h op = some r) (hok : okB r.ok = true) (hrd : ∀ i, i ∈ r.h.rd → S i) (hwr : ∀ i, i ∈ r.h.wr → S i)
    (hop : o.op = op) (hG : holds a.tmps G) (hs : Slots ν a.tmps gt op.operands.toList) (hg : Glob ν op.operands.toList) (hK : Then S ν w h a o K r) : o.wp cx.P a w K Q := by
  have vv : ∀ {x : Operand}, x ∈ op.operands.toList → ∀ y, opV G none gt x = some y → y.rel ν (a.eval x) := by
    intro x hx y hy
    exact opV_sound hy hG (X := none) trivial (hs.sub (by intro z hz; simp at hz; subst hz; exact hx)) (fun g hm => hg g (by simp at hm; subst hm; exact hx))
  have aa : ∀ {x : Operand}, x ∈ op.operands.toList → ∀ y, opA G gt x = some y → y.rel ν (a.eval x) := by
    intro x hx y hy
    exact opA_sound hy hG (hs.sub (by intro z hz; simp at hz; subst hz; exact hx)) (fun g hm => hg g (by simp at hm; subst hm; exact hx))
  cases op <;> simp only [evalOp] at he
  case move x => exact wp_move (by unfold execOp; rw [hop]) (evMove_sound m he (vv (by simp [Op.operands]))) hK
  case assign x => exact wp_move (by unfold execOp; rw [hop]) (evMove_sound m he (vv (by simp [Op.operands]))) hK
  case pick c x y =>
    obtain ⟨v, w', ν', h1, h2, h3⟩ := evalPick_sound (cx := cx) m he hG hs hg
    refine wp_of_value (v := v) (w' := w') ?_ (hK ν' w' v h2 h3)
    rw [Sem.run_bind] at h1
    cases hb : (asBool (a.eval c)).run cx.P w with
    | ok b w1 =>
      rw [hb] at h1
      replace h1 : Result.ok (if b = true then a.eval x else a.eval y) w1 = Result.ok v w' := h1
      injection h1 with h1 h4
      subst h1 h4
      have : execOp a.eval o = (do pure (.value (if ← asBool (a.eval c) then a.eval x else a.eval y))) := by unfold execOp; rw [hop]
      rw [this, Sem.run_bind, hb]; rfl
    | _ => rw [hb] at h1; cases h1
  case alloc t => exact wp_runs (by unfold execOp; rw [hop]) (evAlloc_sound m he) hK
  case box t x => exact wp_runs (by unfold execOp; rw [hop]) (evBox_sound m he (vv (by simp [Op.operands]))) hK
  case build t parts =>
    refine wp_runs (s := Instr.build t (parts.map fun (i, x) => (i, a.eval x))) (by unfold execOp; rw [hop]) (evBuild_sound m he ?_) hK
    intro y hy
    have := opParts_sound (a := a) hG hy (hs.sub (by simp [Op.operands])) (fun g hm => hg g (by simpa [Op.operands] using hm))
    simpa using this
  case buildSlice t len parts =>
    refine wp_runs (s := Instr.buildSlice t len (parts.map fun (i, x) => (i, a.eval x))) (by unfold execOp; rw [hop]) (evBuildSlice_sound m he ?_) hK
    intro y hy
    have := opParts_sound (a := a) hG hy (hs.sub (by simp [Op.operands])) (fun g hm => hg g (by simpa [Op.operands] using hm))
    simpa using this
  case load t x =>
    unfold evLoad at he
    split at he
    · rename_i y hy
      obtain ⟨v, h1, h2, h3⟩ := evalLoad_sound he hok m hrd (aa (by simp [Op.operands]) _ hy)
      exact wp_runs (by unfold execOp; rw [hop]) ⟨v, w, ν, h1, h2, h3⟩ hK
    · cases he
  case store t x y =>
    unfold evStore at he
    split at he
    · rename_i x' hx'
      split at he
      · rename_i y' hy'
        obtain ⟨w', h1, h2, h3⟩ := evalStore_sound he hok m hrd (aa (by simp [Op.operands]) _ hx') (vv (by simp [Op.operands]) _ hy')
        refine wp_of_skip (w' := w') ?_ (hK ν w' undef (by rw [h2]; show A.undef.rel ν _; simp only [A.rel]) h3)
        have : execOp a.eval o = (do Instr.storeAt t (a.eval x) (a.eval y); pure .skip) := by unfold execOp; rw [hop]
        rw [this, Sem.run_bind, h1]; rfl
      · cases he
    · cases he
  case nilCheck x =>
    obtain ⟨⟨b, off, e⟩, hr⟩ := evNilCheck_sound (P := cx.P) m he (aa (x := x) (by simp [Op.operands]))
    refine wp_move (x := a.eval x) ?_ hr hK
    unfold execOp; rw [hop]; simp only; rw [e]
  case binOp op t x y yt =>
    unfold evBin at he
    split at he
    · rename_i x' hx'
      split at he
      · rename_i y' hy'
        exact wp_runs (by unfold execOp; rw [hop]) (evalBin_sound hE m he hok (vv (by simp [Op.operands]) _ hx') (vv (by simp [Op.operands]) _ hy') x y) hK
      · cases he
    · cases he
  case unOp op t x => exact wp_runs (by unfold execOp; rw [hop]) (evUn_sound m he (aa (by simp [Op.operands]))) hK
  case convert src dst x => exact wp_runs (by unfold execOp; rw [hop]) (evConv_sound m he (aa (by simp [Op.operands]))) hK
  case makeFunc fn first captured =>
    obtain ⟨e, hr⟩ := evMakeFunc_sound (P := cx.P) (vs := captured.map a.eval) m he (by
      intro y hy
      have := opAs_sound (a := a) hG hy (hs.sub (by intro z hz; simp [Op.operands]; exact .inr (by simpa using hz))) (fun g hm => hg g (by simp [Op.operands]; exact .inr (by simpa using hm)))
      simpa using this)
    refine wp_runs (s := Instr.makeFunc fn #[] (captured.map a.eval)) ?_ hr hK
    have e1 : first = #[] := by apply Array.ext'; simpa using e
    subst e1; unfold execOp; rw [hop]; simp
  case fieldAddr s x f => exact wp_runs (by unfold execOp; rw [hop]) (evFieldAddr_sound m he (aa (by simp [Op.operands]))) hK
  case field s x f => exact wp_runs (by unfold execOp; rw [hop]) (evField_sound m he hok (vv (by simp [Op.operands]))) hK
  case indexAddr t x ix => exact wp_runs (by unfold execOp; rw [hop]) (evIndexAddr_sound m he hok (aa (by simp [Op.operands])) (aa (by simp [Op.operands]))) hK
  case index t x ix => exact wp_runs (by unfold execOp; rw [hop]) (evIndex_sound m he hok (vv (by simp [Op.operands])) (aa (by simp [Op.operands]))) hK
  case extract x ix => exact wp_runs (by unfold execOp; rw [hop]) (evExtract_sound m he (vv (by simp [Op.operands]))) hK
  case makeInterface t x =>
    obtain ⟨e, hr⟩ := evIface_sound m he (aa (x := x) (by simp [Op.operands]))
    exact wp_runs (by unfold execOp; rw [hop]) hr hK
  case makeSlice t len cap => exact wp_runs (by unfold execOp; rw [hop]) (evMakeSlice_sound m he hok (aa (by simp [Op.operands])) (aa (by simp [Op.operands]))) hK
  case slice t x lo hi mx =>
    have oo : ∀ {z : Option Operand}, (∀ q, z = some q → q ∈ (Op.slice t x lo hi mx).operands.toList) → (∀ y, optA G gt z = some (some y) → ∃ v, z.map a.eval = some v ∧ y.rel ν v) := by
      intro z hz y hy
      cases z with
      | none => cases hy
      | some x' =>
        simp only [optA, Option.some.injEq] at hy
        exact ⟨_, rfl, aa (x := x') (hz x' rfl) y hy⟩
    have on : ∀ {z : Option Operand}, optA G gt z = none → z.map a.eval = none := by
      intro z hz
      cases z with
      | none => rfl
      | some x' => cases hz
    refine wp_runs (s := Instr.sliceAt t (a.eval x) (lo.map a.eval) (hi.map a.eval) (mx.map a.eval)) (by unfold execOp; rw [hop])
      (evSlice_sound m he hok (aa (by simp [Op.operands])) on (oo ?_) on (oo ?_) (fun e => by rw [e]; rfl)) hK
    · rintro x' rfl; simp [Op.operands]
    · rintro x' rfl; simp [Op.operands]
  case makeMap t r => exact wp_runs (by unfold execOp; rw [hop]) (evMakeMap_sound (a := a) m he) hK
  case lookup t x k ok' => exact wp_runs (by unfold execOp; rw [hop]) (evLookup_sound m he hrd (aa (by simp [Op.operands])) (aa (by simp [Op.operands]))) hK
  case mapUpdate t x k y =>
    obtain ⟨w', h1, h2, h3⟩ := evMapUpdate_sound m he hrd (aa (x := x) (by simp [Op.operands])) (aa (x := k) (by simp [Op.operands])) (vv (x := y) (by simp [Op.operands]))
    refine wp_of_skip (w' := w') ?_ (hK ν w' undef (by rw [h2]; show A.undef.rel ν _; simp only [A.rel]) h3)
    have : execOp a.eval o = (do Instr.mapUpdate t (a.eval x) (a.eval k) (a.eval y); pure .skip) := by unfold execOp; rw [hop]
    rw [this, Sem.run_bind, h1]; rfl
  case insert t x k y =>
    obtain ⟨w', h1, h2, h3⟩ := evMapUpdate_sound m he hrd (aa (x := x) (by simp [Op.operands])) (aa (x := k) (by simp [Op.operands])) (vv (x := y) (by simp [Op.operands]))
    refine wp_of_skip (w' := w') ?_ (hK ν w' undef (by rw [h2]; show A.undef.rel ν _; simp only [A.rel]) h3)
    have : execOp a.eval o = (do Instr.mapUpdate t (a.eval x) (a.eval k) (a.eval y); pure .skip) := by unfold execOp; rw [hop]
    rw [this, Sem.run_bind, h1]; rfl
  case call c => exact evalCall_sound hC m he hok hrd hwr hop hG (hs.sub (by simp [Op.operands])) (fun g hm => hg g (by simpa [Op.operands] using hm)) hK
  all_goals cases he
end
end Go.WE
