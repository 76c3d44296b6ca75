/- WE35: maps of numbers: made, added to, looked up. -/
import Derived.Test.YtljopbfbljkjoaaDoorWE16
import Derived.MapKept
import Derived.Maps.Keyed
namespace Go.WE
set_option linter.unusedVariables false
open Go

section
variable {cx : Cx} {S : Nat → Prop} {ν : Nu} {w : World} {h : H}

theorem mapTy_some {P : Program} {t e : TypeId} {k : IntKind} (h : mapTy P t = some (k, e)) : ∃ kt, P.underlying t = some (.map kt e) ∧ P.underlying kt = some (.int k) := by
  unfold mapTy at h
  split at h
  · rename_i kt e' h1
    split at h
    · rename_i k' h2
      simp only [Option.some.injEq, Prod.mk.injEq] at h
      obtain ⟨rfl, rfl⟩ := h
      exact ⟨kt, h1, h2⟩
    · cases h
  · cases h

theorem evMakeMap_sound (m : Mem S ν w h) {t : TypeId} {hint : Option Operand} {r : OpR} {a : Act} (he : evMakeMap cx h t hint = some r) : Runs cx.P S ν w h (Instr.makeMap t (hint.map a.eval)) r := by
  unfold evMakeMap at he
  split at he
  · rename_i k e hh ht
    obtain ⟨kt, h1, h2⟩ := mapTy_some ht
    simp only [Option.some.injEq] at he
    subst he
    refine ⟨.map (some w.heap.size), w.alloc (.map #[] 0), _, ?_, ?_, m.allocO (t := .mp k [] []) fun hle => .inr ⟨w.heap.size, #[], 0, by simp [upd], heap_alloc_new _ _, trivial⟩⟩
    · cases hint with
      | none => rfl
      | some x =>
        cases x with
        | const v => cases v with
          | int k n => (simp [Instr.makeMap, newObj, run_underlying h1, Act.eval, asInt, asIntOf]; rfl)
          | _ => cases hh
        | _ => cases hh
    · show (A.mapp h.next).rel _ _
      simp only [A.rel]
      exact ⟨w.heap.size, by simp [upd], rfl⟩
  · cases he

theorem zeroT_run' {P : Program} {ν : Nu} {w : World} {t : TypeId} {z : T} (h : zeroT P t = some z) : ∃ i v, P.info? t = some i ∧ i.zero = some v ∧ (zeroValue t).run P w = .ok v w ∧ z.rel ν v.cells.toList := by
  unfold zeroT at h
  split at h
  · rename_i i hi
    split at h
    · rename_i v hz
      split at h
      · rename_i hc
        refine ⟨i, v, hi, hz, ?_, (shape_all 1000).1 _ _ _ _ h (ofAtoms_rel _) (fun u hu => cellB_cell (List.all_eq_true.1 hc u hu))⟩
        simp [zeroValue, typeInfo, hi, hz]
      · cases h
    · cases h
  · cases h
theorem zeroV_run {P : Program} {ν : Nu} {w : World} {t : TypeId} {z : T} (h : zeroV P t = some z) : ∃ v, (zeroValue t).run P w = .ok v w ∧ z.relV ν v := by
  unfold zeroV at h
  split at h
  · rename_i x v hz hv
    split at h
    · rename_i hc
      simp only [Option.some.injEq] at h
      subst h
      obtain ⟨i, u, h1, h2, h3, h4⟩ := zeroT_run' (ν := ν) (w := w) hz
      rw [h1, Option.bind_some, h2] at hv
      cases hv
      refine ⟨v, h3, ?_⟩
      rw [cells_of (cellB_cell hc)] at h4
      simp only [T.rel] at h4
      obtain ⟨u, e, h5, _⟩ := h4
      simp at e
      subst e
      exact h5
    · cases h
  · rename_i fs cs hz hv
    simp only [Option.some.injEq] at h
    subst h
    obtain ⟨i, u, h1, h2, h3, h4⟩ := zeroT_run' (ν := ν) (w := w) hz
    rw [h1, Option.bind_some, h2] at hv
    cases hv
    exact ⟨_, h3, cs, rfl, h4⟩
  · rename_i s ts cs hz hv
    simp only [Option.some.injEq] at h
    subst h
    obtain ⟨i, u, h1, h2, h3, h4⟩ := zeroT_run' (ν := ν) (w := w) hz
    rw [h1, Option.bind_some, h2] at hv
    cases hv
    exact ⟨_, h3, cs, rfl, h4⟩
  · cases h

theorem findNow_none {ν : Nu} {k : IntKind} {n : Int} : ∀ {ks : List Int} {ts : List T} {es : List MapEntry} (i : Nat), entsRel ν k ks ts es → (ks.any fun j => decide (n = j)) = false → Instr.findNow (.int k) (.int k n) es i = some none
  | [], [], [], _, _, _ => rfl
  | j :: ks, t :: ts, e :: es, i, hr, hn => by
    simp only [List.any_cons, Bool.or_eq_false_iff, decide_eq_false_iff_not] at hn
    have h1 := hr.1.1
    have h2 := findNow_none (i + 1) hr.2.2 hn.2
    have hb : (n == j) = false := beq_false_of_ne hn.1
    simp only [Instr.findNow, h1, Instr.sameNow, if_true, hb, h2]
  | [], [], _ :: _, _, h, _ => h.elim
  | [], _ :: _, _, _, h, _ => h.elim
  | _ :: _, [], _, _, h, _ => h.elim
  | _ :: _, _ :: _, [], _, h, _ => h.elim

theorem findK_some {ν : Nu} {k : IntKind} {n : Int} {u : T} : ∀ {ks : List Int} {ts : List T} {es : List MapEntry} (i : Nat), entsRel ν k ks ts es → findK n ks ts = some u → ∃ j v, Instr.findNow (.int k) (.int k n) es i = some (some (j, v)) ∧ u.relV ν v
  | [], [], [], _, _, h => by cases h
  | j :: ks, t :: ts, e :: es, i, hr, hn => by
    have h1 := hr.1.1
    unfold findK at hn
    split at hn
    · rename_i hd
      have hd := of_decide_eq_true hd
      subst hd
      cases hn
      exact ⟨i, e.val, by simp only [Instr.findNow, h1, Instr.sameNow, if_true, beq_self_eq_true], hr.2.1⟩
    · rename_i hd
      have hd := of_decide_eq_false hd
      obtain ⟨j', v, h2, h3⟩ := findK_some (i + 1) hr.2.2 hn
      have hb : (n == j) = false := beq_false_of_ne hd
      exact ⟨j', v, by simp only [Instr.findNow, h1, Instr.sameNow, if_true, hb, h2], h3⟩
  | [], [], _ :: _, _, h, _ => h.elim
  | [], _ :: _, _, _, h, _ => h.elim
  | _ :: _, [], _, _, h, _ => h.elim
  | _ :: _, _ :: _, [], _, h, _ => h.elim

theorem findK_none {ν : Nu} {k : IntKind} {n : Int} : ∀ {ks : List Int} {ts : List T} {es : List MapEntry}, entsRel ν k ks ts es → findK n ks ts = none → (ks.any fun j => decide (n = j)) = false
  | [], [], [], _, _ => rfl
  | j :: ks, t :: ts, e :: es, hr, hn => by
    unfold findK at hn
    split at hn
    · cases hn
    · rename_i hd
      simp only [List.any_cons, hd, Bool.false_or]
      exact findK_none hr.2.2 hn
  | [], [], _ :: _, h, _ => h.elim
  | [], _ :: _, _, h, _ => h.elim
  | _ :: _, [], _, h, _ => h.elim
  | _ :: _, _ :: _, [], h, _ => h.elim

theorem entsRel_push {ν : Nu} {k : IntKind} {n : Int} {u : T} {e : MapEntry} (h1 : e.key = .int k n ∧ k.wrap n = n) (h2 : u.relV ν e.val) : ∀ {ks : List Int} {ts : List T} {es : List MapEntry}, entsRel ν k ks ts es → entsRel ν k (ks ++ [n]) (ts ++ [u]) (es ++ [e])
  | [], [], [], _ => ⟨h1, h2, trivial⟩
  | j :: ks, t :: ts, e :: es, hr => ⟨hr.1, hr.2.1, entsRel_push h1 h2 hr.2.2⟩
  | [], [], _ :: _, h => h.elim
  | [], _ :: _, _, h => h.elim
  | _ :: _, [], _, h => h.elim
  | _ :: _, _ :: _, [], h => h.elim

theorem run_findKey {P : Program} {w : World} {kt : TypeId} {k : IntKind} {n : Int} {es : List MapEntry} {r : Option (Nat × Value)} (hk : P.underlying kt = some (.int k)) (h : Instr.findNow (.int k) (.int k n) es 0 = some r) : (Instr.findKey kt (.int k n) es).run P w = .ok r w := by
  simp [Instr.findKey, run_underlying hk, h, Result.andThen]
theorem run_checkKey_int {P : Program} {w : World} {kt : TypeId} {k : IntKind} {n : Int} (hk : P.underlying kt = some (.int k)) (b : Bool) : (Instr.checkKey b 10000 kt (.int k n)).run P w = .ok () w := by
  unfold Instr.checkKey
  simp [run_underlying hk, Result.andThen]

theorem evMapUpdate_sound (m : Mem S ν w h) {t : TypeId} {x key : Option A} {v : Option V} {r : OpR} {vx vk vv : Value} (he : evMapUpdate cx h t x key v = some r) (hS : ∀ i, i ∈ r.h.rd → S i)
    (hx : ∀ y, x = some y → y.rel ν vx) (hk : ∀ y, key = some y → y.rel ν vk) (hv : ∀ y, v = some y → y.rel ν vv) :
    ∃ w', (Instr.mapUpdate t vx vk vv).run cx.P w = .ok () w' ∧ r.v = .t (.a .undef) ∧ Goes S ν w h ν w' r.h := by
  unfold evMapUpdate at he
  split at he
  · rename_i id k n u k1 el ht
    obtain ⟨kt, g1, g2⟩ := mapTy_some ht
    split at he
    · rename_i b hb
      split at he
      · rename_i k2 ks ts hbt
        split at he
        · rename_i hc
          simp only [Bool.and_eq_true, Bool.not_eq_true'] at hc
          obtain ⟨⟨⟨hrw, hk1⟩, hk2⟩, hnew⟩ := hc
          have hk1 := kEq_true hk1
          have hk2 := kEq_true hk2
          subst hk1 hk2
          simp only [Option.some.injEq] at he
          subst he
          have hx := hx _ rfl
          have hk := hk _ rfl
          have hv := hv _ rfl
          simp only [A.rel] at hx hk
          obtain ⟨q, e1, rfl⟩ := hx
          obtain ⟨rfl, hn⟩ := hk
          rcases m.seen id b hb (see_seen (h := h) hS) with ⟨r', base, cs, ty, fr, pre, vs, post, _, _, _, _, q5, q6⟩ | ⟨r', es, c, q1, q2, q3⟩
          · -- a map is no cells
            rw [hbt] at q5
            simp only [T.rel] at q5
          · rw [e1] at q1
            cases q1
            rw [hbt] at q3
            have q3 : entsRel ν k ks ts es.toList := q3
            have hf := findNow_none (n := n) 0 q3 hnew
            refine ⟨wset w q (.map (es.push { key := .int k n, val := vv, born := c }) (c + 1)), ?_, rfl, (m.see id).trans ((m.see id).mem.storeO (id := id) (b := b) hb hrw e1 fun hg => .inr ⟨q, _, _, e1, hg, ?_⟩)⟩
            · simp only [Instr.mapUpdate]
              rw [Sem.run_bind, run_underlying g1]
              simp only [Result.andThen_ok]
              rw [Sem.run_bind, MapKept.run_getObj_map q2]
              simp only [Result.andThen_ok]
              rw [Sem.run_bind, run_checkKey_int g2]
              simp only [Result.andThen_ok]
              rw [Sem.run_bind, run_findKey g2 hf]
              simp only [Result.andThen_ok]
              exact MapKept.run_setObj_map _ q2
            · show entsRel ν k _ _ _
              rw [Array.toList_push]
              exact entsRel_push (e := { key := .int k n, val := vv, born := c }) ⟨rfl, hn⟩ hv q3
        · cases he
      · cases he
    · cases he
  · cases he

theorem evLookup_sound (m : Mem S ν w h) {t : TypeId} {x key : Option A} {ok : Bool} {r : OpR} {vx vk : Value} (he : evLookup cx h t x key ok = some r) (hS : ∀ i, i ∈ r.h.rd → S i)
    (hx : ∀ y, x = some y → y.rel ν vx) (hk : ∀ y, key = some y → y.rel ν vk) : Runs cx.P S ν w h (Instr.lookup t vx vk ok) r := by
  unfold evLookup at he
  split at he
  · rename_i id k n k1 el ht
    obtain ⟨kt, g1, g2⟩ := mapTy_some ht
    split at he
    · rename_i b hb
      split at he
      · rename_i k2 ks ts hbt
        split at he
        · rename_i hc
          simp only [Bool.and_eq_true] at hc
          have hk1 := kEq_true hc.1
          have hk2 := kEq_true hc.2
          subst hk1 hk2
          have hx := hx _ rfl
          have hk := hk _ rfl
          simp only [A.rel] at hx hk
          obtain ⟨q, e1, rfl⟩ := hx
          obtain ⟨rfl, hn⟩ := hk
          have key : (∀ i, i ∈ (h.see id).rd → S i) → ∃ es c, w.heap[q]? = some (.map es c) ∧ entsRel ν k ks ts es.toList := fun hS => by
            rcases m.seen id b hb (see_seen hS) with ⟨r', base, cs, ty, fr, pre, vs, post, _, _, _, _, q5, q6⟩ | ⟨r', es, c, q1, q2, q3⟩
            · rw [hbt] at q5
              simp only [T.rel] at q5
            · rw [e1] at q1
              cases q1
              rw [hbt] at q3
              exact ⟨es, c, q2, q3⟩
          split at he
          · rename_i u hu
            simp only [Option.some.injEq] at he
            subst he
            obtain ⟨es, c, q2, q3⟩ := key (by cases ok <;> exact hS)
            obtain ⟨j, v, hf, hv⟩ := findK_some 0 q3 hu
            have hrun : (Instr.lookup t (.map (some q)) (.int k n) ok).run cx.P w = .ok (if ok then .tuple #[v, .bool true] else v) w := by
              simp [Instr.lookup, run_underlying g1, MapKept.run_getObj_map q2, run_checkKey_int g2, run_findKey g2 hf, Result.andThen]
            cases ok
            · exact ⟨v, w, ν, hrun, hv, m.see id⟩
            · refine ⟨.tuple #[v, .bool true], w, ν, hrun, ?_, m.see id⟩
              exact ⟨_, rfl, hv, by show (A.tt).rel ν _; simp only [A.rel], trivial⟩
          · rename_i hu
            split at he
            · rename_i z hz
              simp only [Option.some.injEq] at he
              subst he
              obtain ⟨es, c, q2, q3⟩ := key (by cases ok <;> exact hS)
              have hf := findNow_none 0 q3 (findK_none q3 hu)
              obtain ⟨v, hv, hzv⟩ := zeroV_run (ν := ν) (w := w) hz
              have hrun : (Instr.lookup t (.map (some q)) (.int k n) ok).run cx.P w = .ok (if ok then .tuple #[v, .bool false] else v) w := by
                simp [Instr.lookup, run_underlying g1, MapKept.run_getObj_map q2, run_checkKey_int g2, run_findKey g2 hf, hv, Result.andThen]
              cases ok
              · exact ⟨v, w, ν, hrun, hzv, m.see id⟩
              · refine ⟨.tuple #[v, .bool false], w, ν, hrun, ?_, m.see id⟩
                exact ⟨_, rfl, hzv, by show (A.ff).rel ν _; simp only [A.rel], trivial⟩
            · cases he
        · cases he
      · cases he
    · cases he
  · cases he

/-! ### what is left -/

theorem evMakeMap_ext {t : TypeId} {hint : Option Operand} {r : OpR} (hlo : h.lo ≤ h.next) (he : evMakeMap cx h t hint = some r) : Ext h r.h := by
  unfold evMakeMap at he
  split at he
  · cases he; exact new_ext hlo _
  · cases he
theorem evMapUpdate_ext {t : TypeId} {x key : Option A} {v : Option V} {r : OpR} (he : evMapUpdate cx h t x key v = some r) : Ext h r.h := by
  unfold evMapUpdate at he
  split at he
  · split at he
    · rename_i b hb
      split at he
      · split at he
        · rename_i hc
          simp only [Bool.and_eq_true] at hc
          cases he
          exact (see_ext h _).trans (put_ext (by exact hb) hc.1.1.1 rfl)
        · cases he
      · cases he
    · cases he
  · cases he
theorem evLookup_ext {t : TypeId} {x key : Option A} {ok : Bool} {r : OpR} (he : evLookup cx h t x key ok = some r) : Ext h r.h := by
  unfold evLookup at he
  repeat' split at he
  all_goals first | (cases he; cases ok <;> exact see_ext h _) | cases he
end
end Go.WE
