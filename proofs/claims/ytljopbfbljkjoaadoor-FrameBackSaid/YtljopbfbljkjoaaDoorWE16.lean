/- WE16: each operation is carried out as the evaluator says. -/
import Derived.Test.YtljopbfbljkjoaaDoorWE15
namespace Go.WE
open Go

section
variable {cx : Cx} {S : Nat → Prop} {ν : Nu} {w : World} {h : H} {call : CallE} {a : Act} {o : Oper} {K : Act → World → Prop} {Q : Exit → Act → World → Prop}

theorem relLst_flat {z : T} {n : Nat} {zs : List Value} (hz : z.rel ν zs) (hl : zs.length = n) : ∀ (len : Nat), relLst ν n (List.replicate len z) ((List.replicate len zs).flatten)
  | 0 => by simp [relLst]
  | len + 1 => by
    simp only [List.replicate_succ, relLst, List.flatten_cons]
    exact ⟨zs, _, rfl, hl, hz, relLst_flat hz hl len⟩

theorem range_flat {zs : List Value} {n : Nat} (hl : zs.length = n) (f : Nat → Value) (hf : ∀ j, f j = zs.getD (j % n) undef) : ∀ (len : Nat), (List.range (len * n)).map f = (List.replicate len zs).flatten
  | 0 => by simp
  | len + 1 => by
    rw [Nat.succ_mul, Nat.add_comm, List.range_add, List.map_append, List.map_map, List.replicate_succ, List.flatten_cons]
    have h1 : (List.range n).map f = zs := by
      apply List.ext_getElem?
      intro i
      rw [List.getElem?_map]
      by_cases hi : i < n
      · rw [List.getElem?_range hi]
        simp only [Option.map_some, hf, Nat.mod_eq_of_lt hi]
        rw [List.getD_eq_getElem?_getD, List.getElem?_eq_getElem (by omega)]
        rfl
      · rw [List.getElem?_eq_none (by simp; omega), List.getElem?_eq_none (by omega)]; rfl
    have h2 : (List.range (len * n)).map (f ∘ fun x => n + x) = (List.range (len * n)).map f := by
      apply List.map_congr_left
      intro j _
      simp only [Function.comp, hf, Nat.add_mod_left]
    rw [h1, h2, range_flat hl f hf len]

theorem evBuildSlice_sound (m : Mem S ν w h) {t : TypeId} {len : Nat} {ps : Option (List (Nat × V))} {r : OpR} {qs : Array (Nat × Value)} (he : evBuildSlice cx h t len ps = some r) (hp : ∀ y, ps = some y → relP ν y qs.toList) :
    Runs cx.P S ν w h (Instr.buildSlice t len qs) r := by
  unfold evBuildSlice at he
  split at he
  · rename_i ps
    split at he
    · rename_i elem hu
      split at he
      · rename_i n hn
        split at he
        · rename_i z hz
          unfold evBuildSlice2 at he
          split at he
          · rename_i hc
            simp only [Bool.and_eq_true] at hc
            obtain ⟨⟨⟨c1, c2⟩, c3⟩, c4⟩ := hc
            have c1 := blt_lt c1
            have c2 := blt_lt c2
            have c3 := Nat.le_of_ble_eq_true c3
            obtain ⟨e4, n', hn'⟩ := optEqN_eq c4
            rw [hn'] at e4; cases e4
            split at he
            · rename_i u hpu
              simp only [Option.some.injEq] at he
              subst he
              obtain ⟨zv, hzr, hzc⟩ := zeroT_run (ν := ν) (w := w) hz
              have hzl := size_length hn' hzc
              have hzs : zv.cells.size = n := by rw [← hzl]; simp
              have hpos : len * n ≠ 0 := Nat.mul_ne_zero (by omega) (by omega)
              have hcells : (((Array.range (len * n)).map (fun j => zv.cells[j % zv.cells.size]!)) : Array Value).toList = (List.replicate len zv.cells.toList).flatten := by
                rw [Array.toList_map, Array.toList_range]
                refine range_flat hzl _ (fun j => ?_) len
                rw [hzs]
                have : j % n < zv.cells.size := by rw [hzs]; exact Nat.mod_lt _ c1
                rw [getElem!_pos zv.cells (j % n) this, List.getD_eq_getElem?_getD, Array.getElem?_toList, Array.getElem?_eq_getElem this]
                rfl
              obtain ⟨vs', h1, h2⟩ := putParts_sound (fun i off k hp => by simp at hp; simp only [stepOff, Ix.val]; rw [← hp.1, hp.2, Nat.mul_comm]) hpu (hp _ rfl) (vs := (Array.range (len * n)).map (fun j => zv.cells[j % zv.cells.size]!)) (by
                rw [hcells]; simp only [T.rel]; exact relLst_flat hzc hzl len)
              refine ⟨.slice (some ⟨w.heap.size, 0, none⟩) len len, _, _, ?_, ?_, m.alloc (vs := vs') elem h2⟩
              · rw [Instr.buildSlice, Sem.run_bind, run_underlying' hu]
                simp only [Result.andThen_ok]
                rw [Sem.run_bind, run_sizeOf' hn]
                simp only [Result.andThen_ok]
                rw [if_neg (by omega), if_neg hpos]
                rw [Sem.run_bind, hzr]
                simp only [Result.andThen_ok, Sem.run_pure, Sem.run_bind]
                rw [h1]
                simp [newRow]
              · show (A.sl _ _ _ _ _ _).rel _ _
                simp only [A.rel]
                exact ⟨w.heap.size, 0, 0, len, by simp [upd], rfl, fun _ => by simp [pathOff, Ix.val], Nat.le_refl _, fun c' e => by simp at e; subst e; rfl⟩
            · cases he
          · cases he
        · cases he
      · cases he
    · cases he
  · cases he

theorem evalPick_sound (m : Mem S ν w h) {G : Cond} {gt : Nat → Ent} {c x y : Operand} {r : OpR} (he : evalPick h G gt c x y = some r) (hG : holds a.tmps G) (hs : Slots ν a.tmps gt [c, x, y]) (hg : Glob ν [c, x, y]) :
    Runs cx.P S ν w h (do pure (if ← asBool (a.eval c) then a.eval x else a.eval y)) r := by
  have hex : ∀ p, a.eval c = .bool p → (do pure (if ← asBool (a.eval c) then a.eval x else a.eval y) : Sem Value).run cx.P w = .ok (if p then a.eval x else a.eval y) w := by
    intro p hp
    rw [Sem.run_bind, hp]; rfl
  have hX : ∀ want, a.eval c = .bool want → holds a.tmps (pickC c want) := by
    intro want hw
    cases c with
    | tmp s => exact hw
    | _ => trivial
  have sc : Slots ν a.tmps gt [c] := hs.sub (by simp)
  have sx : Slots ν a.tmps gt [x] := hs.sub (by simp)
  have sy : Slots ν a.tmps gt [y] := hs.sub (by simp)
  have gc : Glob ν [c] := fun g hm => hg g (by simp at hm ⊢; exact .inl hm)
  have gx : Glob ν [x] := fun g hm => hg g (by simp at hm ⊢; exact .inr (.inl hm))
  have gy : Glob ν [y] := fun g hm => hg g (by simp at hm ⊢; exact .inr (.inr hm))
  unfold evalPick at he
  split at he
  · rename_i hc
    have hcv := opA_sound (a := a) hc hG sc gc
    simp only [A.rel] at hcv
    obtain ⟨v, hx, he⟩ := bind_some he
    rw [mkR_eq he]
    exact Runs.same m (hex _ hcv) (opV_sound hx hG (hX _ hcv) sx gx)
  · rename_i hc
    have hcv := opA_sound (a := a) hc hG sc gc
    simp only [A.rel] at hcv
    obtain ⟨v, hx, he⟩ := bind_some he
    rw [mkR_eq he]
    exact Runs.same m (hex _ hcv) (opV_sound hx hG (hX _ hcv) sy gy)
  · rename_i p hc
    have hcv := opA_sound (a := a) hc hG sc gc
    simp only [A.rel] at hcv
    split at he
    · rename_i va vb h1 h2
      rw [mkR_eq he]
      refine Runs.same m (hex _ hcv) (mergeV_rel ?_)
      cases p
      · exact opV_sound h2 hG (hX _ hcv) sy gy
      · exact opV_sound h1 hG (hX _ hcv) sx gx
    · cases he
  · cases he
end
end Go.WE
