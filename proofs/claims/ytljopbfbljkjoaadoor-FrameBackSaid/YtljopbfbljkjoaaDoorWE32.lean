/- WE32: slices that are cut, made, copied and appended to. -/
import Derived.Test.YtljopbfbljkjoaaDoorWE12
namespace Go.WE
set_option linter.unusedVariables false
open Go

section
variable {P : Program} {cx : Cx} {S : Nat → Prop} {ν : Nu} {w : World} {h : H}

theorem toIx_sound {x : A} {j : Ix} {ok : A} {v : Value} (he : toIx x = some (j, ok)) (hok : okB ok = true) (hx : x.rel ν v) : ∃ k, v = .int k (j.val : Int) := by
  unfold toIx at he
  split at he
  · rename_i k m'
    simp only [A.rel] at hx
    split at he
    · simp at he
      obtain ⟨rfl, rfl⟩ := he
      exact ⟨k, hx.1⟩
    · cases he
  · rename_i k y
    simp only [A.rel] at hx
    simp at he
    obtain ⟨rfl, rfl⟩ := he
    refine ⟨k, ?_⟩
    rw [hx]
    congr 1
    refine vof_nat ?_
    cases hs : k.signed
    · rfl
    · rw [hs] at hok; exact hok
  · cases he

theorem leIx_sound {a b : Ix} (h : okB (leIx a b) = true) : a.val ≤ b.val := by
  unfold leIx at h
  split at h
  · rename_i a b
    cases hb : Nat.ble a b
    · rw [hb] at h; cases h
    · exact Nat.le_of_ble_eq_true hb
  · exact Nat.le_of_ble_eq_true h

theorem ixAdd_val (a b : Ix) : (ixAdd a b).val = a.val + b.val := by cases a <;> cases b <;> rfl
theorem subIx_val (a b : Ix) : (subIx a b).val = a.val - b.val := by cases a <;> cases b <;> rfl

theorem bound_sound {d j : Ix} {ok : A} {x : Option (Option A)} {ov : Option Value} (he : boundOpt d x = some (j, ok)) (hok : okB ok = true)
    (hn : x = none → ov = none) (hs : ∀ y, x = some (some y) → ∃ v, ov = some v ∧ y.rel ν v) : (x = none ∧ ov = none ∧ j = d) ∨ ∃ k, ov = some (.int k (j.val : Int)) := by
  unfold boundOpt at he
  split at he
  · simp at he
    exact .inl ⟨rfl, hn rfl, he.1.symm⟩
  · cases he
  · obtain ⟨v, h1, h2⟩ := hs _ rfl
    obtain ⟨k, rfl⟩ := toIx_sound he hok h2
    exact .inr ⟨k, h1⟩

theorem run_bound {k : IntKind} {n m : Nat} {code : BoundsCode} (h : n ≤ m) : (Instr.sliceBound (.int k (n : Int)) m code).run P w = .ok n w := by
  rw [Instr.sliceBound, Sem.run_bind]
  simp only [asIntOf, Sem.run_pure, Result.andThen_ok]
  rw [if_pos ⟨by omega, by omega⟩]
  simp

theorem run_bounds {isS : Bool} {len cap : Nat} {lo hi : Option Value} {l u : Nat} (h1 : l ≤ u) (h2 : u ≤ cap) (hlo : (lo = none ∧ l = 0) ∨ ∃ k, lo = some (.int k (l : Int))) (hhi : (hi = none ∧ u = len) ∨ ∃ k, hi = some (.int k (u : Int))) :
    (Instr.sliceBounds isS len cap lo hi none).run P w = .ok (l, u, cap) w := by
  unfold Instr.sliceBounds
  rcases hhi with ⟨rfl, rfl⟩ | ⟨k, rfl⟩
  · rcases hlo with ⟨rfl, rfl⟩ | ⟨k', rfl⟩
    · simp
    · simp [run_bound h1]
  · rcases hlo with ⟨rfl, rfl⟩ | ⟨k', rfl⟩
    · simp [run_bound h2]
    · simp [run_bound h2, run_bound h1]

theorem evSlice_sound (m : Mem S ν w h) {t : TypeId} {x : Option A} {lo hi : Option (Option A)} {mx : Option Operand} {r : OpR} {vx : Value} {vlo vhi vmx : Option Value} (he : evSlice cx h t x lo hi mx = some r) (hok : okB r.ok = true)
    (hx : ∀ y, x = some y → y.rel ν vx) (hl0 : lo = none → vlo = none) (hl1 : ∀ y, lo = some (some y) → ∃ v, vlo = some v ∧ y.rel ν v) (hh0 : hi = none → vhi = none) (hh1 : ∀ y, hi = some (some y) → ∃ v, vhi = some v ∧ y.rel ν v)
    (hmx : mx = none → vmx = none) : Runs cx.P S ν w h (Instr.sliceAt t vx vlo vhi vmx) r := by
  unfold evSlice at he
  split at he
  · rename_i x
    rw [hmx rfl]
    replace hx := hx _ rfl
    split at he
    · rename_i d hu
      unfold evSlice2 at he
      split at he
      · rename_i elem
        split at he
        · rename_i id p s st len cap n hn
          split at he
          · rename_i l o1 u o2 hs hl hh
            simp only [Option.some.injEq] at he
            subst he
            have hs := beq_true hs
            subst hs
            simp only at hok
            have ho12 := andOk_left hok
            have hle := andOk_right hok
            have k1 := leIx_sound (andOk_left hle)
            have k2 := leIx_sound (andOk_right hle)
            simp only [A.rel] at hx
            obtain ⟨b, base, o, c, g1, rfl, g3, g4, g5⟩ := hx
            have hlo : (vlo = none ∧ l.val = 0) ∨ ∃ k, vlo = some (.int k (l.val : Int)) := by
              rcases bound_sound hl (andOk_left ho12) hl0 hl1 with ⟨_, e1, rfl⟩ | e
              · exact .inl ⟨e1, rfl⟩
              · exact .inr e
            have hhi : (vhi = none ∧ u.val = len.val) ∨ ∃ k, vhi = some (.int k (u.val : Int)) := by
              rcases bound_sound hh (andOk_right ho12) hh0 hh1 with ⟨_, e1, rfl⟩ | e
              · exact .inl ⟨e1, rfl⟩
              · exact .inr e
            have hcap : u.val ≤ c := by
              cases cap with
              | none => simp only [capOr] at k2; omega
              | some c' => simp only [capOr] at k2; rw [g5 c' rfl]; exact k2
            refine Runs.same m (v := .slice (if c = l.val then some ⟨b, o, none⟩ else some ⟨b, o + l.val * n, none⟩) (u.val - l.val) (c - l.val)) ?_ ?_
            · rw [Instr.sliceAt, Sem.run_bind, run_underlying' hu]
              simp only [Result.andThen_ok]
              rw [Instr.slice, Sem.run_bind, run_underlying' hu]
              simp only [Result.andThen_ok]
              rw [Sem.run_bind, run_bounds k1 hcap hlo hhi]
              simp only [Result.andThen_ok]
              rw [Sem.run_bind, run_sizeOf' hn]
              simp [add_addr]
            · show (A.sl _ _ _ _ _ _).rel ν _
              simp only [A.rel]
              refine ⟨b, base, if c = l.val then o else o + l.val * n, c - l.val, g1, ?_, ?_, ?_, ?_⟩
              · rw [subIx_val]; split <;> rfl
              · intro hc
                rw [if_neg (by omega), g3 (by omega), ixAdd_val, Nat.mul_add, Nat.mul_comm l.val]
                omega
              · rw [subIx_val]; omega
              · intro c' hc'
                cases cap with
                | none => simp at hc'
                | some c0 => simp at hc'; subst hc'; rw [subIx_val, g5 c0 rfl]
          · cases he
        · cases he
      · rename_i n elem
        split at he
        · rename_i id p s l o1 u o2 hn hl hh
          simp only [Option.some.injEq] at he
          subst he
          simp only at hok
          have ho12 := andOk_left hok
          have hle := andOk_right hok
          have k1 := leIx_sound (andOk_left hle)
          have k2 : u.val ≤ n := leIx_sound (andOk_right hle)
          simp only [A.rel] at hx
          obtain ⟨b, base, g1, rfl⟩ := hx
          have hlo : (vlo = none ∧ l.val = 0) ∨ ∃ k, vlo = some (.int k (l.val : Int)) := by
            rcases bound_sound hl (andOk_left ho12) hl0 hl1 with ⟨_, e1, rfl⟩ | e
            · exact .inl ⟨e1, rfl⟩
            · exact .inr e
          have hhi : (vhi = none ∧ u.val = n) ∨ ∃ k, vhi = some (.int k (u.val : Int)) := by
            rcases bound_sound hh (andOk_right ho12) hh0 hh1 with ⟨_, e1, rfl⟩ | e
            · exact .inl ⟨e1, rfl⟩
            · exact .inr e
          refine Runs.same m (v := .slice (some (if n = l.val then ⟨b, base + pathOff p, none⟩ else ⟨b, base + pathOff p + l.val * s, none⟩)) (u.val - l.val) (n - l.val)) ?_ ?_
          · rw [Instr.sliceAt, Sem.run_bind, run_underlying' hu]
            simp only [Result.andThen_ok]
            rw [Instr.sureAddr, Sem.run_bind]
            simp only [Sem.run_pure, Result.andThen_ok]
            rw [Sem.run_bind, run_bounds k1 k2 hlo hhi]
            simp only [Result.andThen_ok]
            rw [Sem.run_bind, run_sizeOf' hn]
            simp [add_addr]
          · show (A.sl _ _ _ _ _ _).rel ν _
            simp only [A.rel]
            refine ⟨b, base, if n = l.val then base + pathOff p else base + pathOff p + l.val * s, n - l.val, g1, ?_, ?_, ?_, ?_⟩
            · rw [subIx_val]; split <;> rfl
            · intro hc
              rw [if_neg (by omega), Nat.mul_comm l.val]
            · rw [subIx_val]; omega
            · intro c' hc'
              simp at hc'; subst hc'; rw [subIx_val]; rfl
        · cases he
      · cases he
    · cases he
  · cases he

/-! ### make -/

theorem range_flat2 {zs : List Value} {n : Nat} (hl : zs.length = n) (f : Nat → Value) (hf : ∀ j, f j = zs.getD (j % n) undef) : ∀ (len : Nat), (List.range (len * n)).map f = (List.replicate len zs).flatten
  | 0 => by simp
  | len + 1 => by
    rw [Nat.succ_mul, Nat.add_comm, List.range_add, List.map_append, List.map_map, List.replicate_succ, List.flatten_cons]
    have h1 : (List.range n).map f = zs := by
      apply List.ext_getElem?
      intro i
      rw [List.getElem?_map]
      by_cases hi : i < n
      · rw [List.getElem?_range hi]
        simp only [Option.map_some, hf, Nat.mod_eq_of_lt hi]
        rw [List.getD_eq_getElem?_getD, List.getElem?_eq_getElem (by omega)]
        rfl
      · rw [List.getElem?_eq_none (by simp; omega), List.getElem?_eq_none (by omega)]; rfl
    have h2 : (List.range (len * n)).map (f ∘ fun x => n + x) = (List.range (len * n)).map f := by
      apply List.map_congr_left
      intro j _
      simp only [Function.comp, hf, Nat.add_mod_left]
    rw [h1, h2, range_flat2 hl f hf len]

theorem relLst_flat2 {z : T} {n : Nat} {zs : List Value} (hz : z.rel ν zs) (hl : zs.length = n) : ∀ (len : Nat), relLst ν n (List.replicate len z) ((List.replicate len zs).flatten)
  | 0 => by simp [relLst]
  | len + 1 => by
    simp only [List.replicate_succ, relLst, List.flatten_cons]
    exact ⟨zs, _, rfl, hl, hz, relLst_flat2 hz hl len⟩

theorem evMakeSlice_sound (m : Mem S ν w h) {t : TypeId} {l c : Option A} {r : OpR} {vl vc : Value} (he : evMakeSlice cx h t l c = some r) (hok : okB r.ok = true)
    (hl : ∀ y, l = some y → y.rel ν vl) (hc : ∀ y, c = some y → y.rel ν vc) : Runs cx.P S ν w h (Instr.makeSlice t vl vc) r := by
  unfold evMakeSlice at he
  split at he
  · rename_i l kc c
    replace hl := hl _ rfl
    replace hc := hc _ rfl
    split at he
    · rename_i l' o elem hli hu
      split at he
      · rename_i s z b hs hz hb
        split at he
        · rename_i hcond
          simp only [Option.some.injEq] at he
          subst he
          simp only at hok
          simp only [Bool.and_eq_true] at hcond
          obtain ⟨⟨⟨c1, c2⟩, c3⟩, c4⟩ := hcond
          have c1 := blt_lt c1
          have c2 := Nat.le_of_ble_eq_true c2
          have c3 := Nat.le_of_ble_eq_true c3
          obtain ⟨e4, n', hn'⟩ := optEqN_eq c4
          rw [hn'] at e4; cases e4
          obtain ⟨k, rfl⟩ := toIx_sound hli (andOk_left hok) hl
          have hle : l'.val ≤ c := leIx_sound (andOk_right hok)
          simp only [A.rel] at hc
          obtain ⟨rfl, _⟩ := hc
          obtain ⟨zv, hzr, hzc⟩ := zeroT_run (ν := ν) (w := w) hz
          have hzl := size_length hn' hzc
          have hzs : zv.cells.size = s := by rw [← hzl]; simp
          cases hi : cx.P.info? elem with
          | none => simp [bytesT, hi] at hb
          | some i =>
            have hib : i.bytes = b := by simpa [bytesT, hi] using hb
            have his : i.size = s := by simpa [sizeT, hi] using hs
            have hzi : i.zero = some zv := by
              cases hz0 : i.zero with
              | none => simp [zeroValue, typeInfo, hi, hz0] at hzr
              | some v => simp [zeroValue, typeInfo, hi, hz0] at hzr; rw [hzr]
            have hbc : b * c ≤ 4096 * 4096 := Nat.mul_le_mul c3 c2
            have hrun := run_make (P := cx.P) w t elem i zv hu hi hzi k kc (l'.val : Int) (Int.ofNat c) (by omega) (by simp; omega) (by rw [hib]; simp only [Int.ofNat_eq_natCast, ← Int.natCast_mul]; omega) (by simp; omega)
            refine ⟨_, _, upd ν h.next (w.heap.size, 0), hrun, ?_, m.alloc elem ?_⟩
            · show (A.sl _ _ _ _ _ _).rel _ _
              simp only [A.rel]
              exact ⟨w.heap.size, 0, 0, c, by simp [upd], by simp, fun _ => by simp [pathOff, Ix.val], by simpa using hle, fun c' e => by simp at e; subst e; rfl⟩
            · simp only [T.rel]
              have hcells : (madeCells zv.cells ((Int.ofNat c).toNat * i.size)).toList = (List.replicate c zv.cells.toList).flatten := by
                unfold madeCells
                rw [Array.toList_map, Array.toList_range, his]
                refine range_flat2 hzl _ (fun j => ?_) c
                rw [hzs]
                have : j % s < zv.cells.size := by rw [hzs]; exact Nat.mod_lt _ c1
                rw [getElem!_pos zv.cells (j % s) this, List.getD_eq_getElem?_getD, Array.getElem?_toList, Array.getElem?_eq_getElem this]
                rfl
              rw [hcells]
              exact relLst_flat2 hzc hzl c
        · cases he
      · cases he
    · cases he
  · cases he

/-! ### elements that are read and written -/

theorem split_at {α : Type} {a b a' b' : List α} (e : a ++ b = a' ++ b') (hl : a.length = a'.length) : a = a' ∧ b = b' := List.append_inj e hl

theorem xOff (p : List Step) (s : Nat) (st : Ix) (j : Nat) : pathOff (p ++ [.x s (ixAdd st (.lit j))]) = pathOff p + s * (st.val + j) := by
  rw [pathOff_append]
  show pathOff p + (s * (ixAdd st (.lit j)).val + 0) = _
  rw [ixAdd_val]; rfl

theorem elemsT_rel {t : T} {p : List Step} {s : Nat} {st : Ix} {vs : List Value} (hr : t.rel ν vs) : ∀ {n j : Nat} {us : List T}, elemsT t p s st n j = some us → okB (elemsOk t p s st n j) = true → (∀ u, u ∈ us → u.size = some s) →
    us.length = n ∧ ((n = 0 ∧ us = []) ∨ ∃ a cs b, vs = a ++ cs ++ b ∧ a.length = pathOff p + s * (st.val + j) ∧ cs.length = n * s ∧ relLst ν s us cs)
  | 0, j, us, h, _, _ => by simp [elemsT] at h; subst h; exact ⟨rfl, .inl ⟨rfl, rfl⟩⟩
  | n + 1, j, us, h, hok, hs => by
    simp only [elemsT] at h
    split at h
    · rename_i u us' h1 h2
      simp only [Option.some.injEq] at h
      subst h
      simp only [elemsOk] at hok
      obtain ⟨a, c1, b, e, g1, g2⟩ := subT_rel h1 (andOk_left hok) hr
      have hl1 := size_length (hs u (by simp)) g2
      rw [xOff] at g1
      obtain ⟨q1, q2⟩ := elemsT_rel hr h2 (andOk_right hok) (fun u hu => hs u (by simp [hu]))
      refine ⟨by simp [q1], .inr ?_⟩
      rcases q2 with ⟨rfl, rfl⟩ | ⟨a', cs, b', e', k1, k2, k3⟩
      · refine ⟨a, c1, b, e, g1, by omega, ?_⟩
        simp only [relLst]
        exact ⟨c1, [], by simp, hl1, g2, rfl⟩
      · have hh : a' = a ++ c1 ∧ cs ++ b' = b := by
          refine split_at ?_ ?_
          · rw [← List.append_assoc, ← e', e]
          · rw [k1, List.length_append, g1, hl1, Nat.mul_add, Nat.mul_add, Nat.mul_add]; omega
        refine ⟨a, c1 ++ cs, b', by rw [e, ← hh.2]; simp, g1, by rw [List.length_append, hl1, k2, Nat.succ_mul]; omega, ?_⟩
        simp only [relLst]
        exact ⟨c1, cs, rfl, hl1, g2, k3⟩
    · cases h

theorem relLst_cell {s : Nat} : ∀ {us : List T} {cs : List Value}, relLst ν s us cs → (∀ u, u ∈ us → ∀ c, u.rel ν c → ∀ v, v ∈ c → Cell v) → ∀ v, v ∈ cs → Cell v
  | [], cs, h, _, v, hv => by simp only [relLst] at h; subst h; cases hv
  | u :: us, cs, h, hc, v, hv => by
    simp only [relLst] at h
    obtain ⟨c1, c2, rfl, _, h1, h2⟩ := h
    rcases List.mem_append.1 hv with hv | hv
    · exact hc u (by simp) c1 h1 v hv
    · exact relLst_cell h2 (fun u hu => hc u (by simp [hu])) v hv

theorem relLst_len {s : Nat} : ∀ {us : List T} {cs : List Value}, relLst ν s us cs → cs.length = us.length * s
  | [], cs, h => by simp only [relLst] at h; subst h; simp
  | u :: us, cs, h => by
    simp only [relLst] at h
    obtain ⟨c1, c2, rfl, h0, _, h2⟩ := h
    rw [List.length_append, h0, relLst_len h2, List.length_cons, Nat.succ_mul]; omega

theorem putElems_rel {p : List Step} {s : Nat} {st : Ix} : ∀ {us : List T} {j : Nat} {t t' : T} {vs ws : List Value}, t.rel ν vs → putElems t p s st us j = some t' → okB (putOk t p s st us j) = true → relLst ν s us ws →
    (us = [] ∧ t' = t) ∨ ∃ a old b, vs = a ++ old ++ b ∧ a.length = pathOff p + s * (st.val + j) ∧ old.length = ws.length ∧ t'.rel ν (a ++ ws ++ b)
  | [], j, t, t', vs, ws, hr, h, _, _ => by simp [putElems] at h; exact .inl ⟨rfl, h.symm⟩
  | u :: us, j, t, t', vs, ws, hr, h, hok, hw => by
    simp only [relLst] at hw
    obtain ⟨w1, w2, rfl, hl1, hu, hw2⟩ := hw
    simp only [putElems] at h
    simp only [putOk] at hok
    split at h
    · rename_i t1 h1
      rw [h1] at hok
      simp only at hok
      obtain ⟨a, old, b, rfl, g1, g2, g3⟩ := updT_rel hu h1 (andOk_left hok) hr
      rw [xOff] at g1
      rcases putElems_rel g3 h (andOk_right hok) hw2 with ⟨rfl, rfl⟩ | ⟨a', old', b', e', k1, k2, k3⟩
      · simp only [relLst] at hw2
        subst hw2
        exact .inr ⟨a, old, b, rfl, g1, by simp [g2], by simpa using g3⟩
      · have hh : a' = a ++ w1 ∧ old' ++ b' = b := by
          refine split_at ?_ ?_
          · rw [← List.append_assoc, ← e']
          · rw [k1, List.length_append, g1, hl1, Nat.mul_add, Nat.mul_add, Nat.mul_add]; omega
        refine .inr ⟨a, old ++ old', b', by rw [← hh.2]; simp, g1, by simp [g2, k2], ?_⟩
        rw [hh.1] at k3
        simpa using k3
    · cases h

/-- The first elements of a slice are read. -/
theorem readSl_sound (m : Mem S ν w h) {n k : Nat} {x : A} {us : List T} {ok : A} {h1 : H} {vx : Value} (he : readSl h n x = some (us, ok, h1)) (hok : okB ok = true) (hS : ∀ i, i ∈ h1.rd → S i) (hx : x.rel ν vx)
    (hsz : ∀ u, u ∈ us → u.size = some k) (hk : ∀ id p s st len c, x = .sl id p s st len c → k = s) :
    ∃ cs : List Value, (Builtin.firstCells k n vx).run P w = .ok cs.toArray w ∧ relLst ν k us cs ∧ us.length = n ∧ Goes S ν w h ν w h1 := by
  unfold readSl at he
  split at he
  · rename_i id p s st len cap
    have hks := hk _ _ _ _ _ _ rfl
    subst hks
    split at he
    · rename_i b hb
      split at he
      · rename_i hnm
        split at he
        case h_2 => cases he
        rename_i us' hus
        simp only [Option.some.injEq, Prod.mk.injEq] at he
        obtain ⟨rfl, rfl, rfl⟩ := he
        obtain ⟨q, base, cs, ty, fr, pre, vs, post, g1, g2, g3, g4, g5, g6⟩ := (m.seen id b hb (see_seen hS)).cells hnm
        simp only [A.rel] at hx
        obtain ⟨q', base', o, c, e1, rfl, e3, e4, e5⟩ := hx
        rw [g1] at e1
        cases e1
        obtain ⟨hl, hh⟩ := elemsT_rel g5 hus (andOk_right hok) hsz
        have hn : n ≤ len.val := leIx_sound (andOk_left hok)
        rcases hh with ⟨rfl, rfl⟩ | ⟨a, us2, z, e, k1, k2, k3⟩
        · refine ⟨[], ?_, by simp [relLst], rfl, m.see id⟩
          simp [Builtin.firstCells, loadCells, loadCellsFrom]
        · refine ⟨us2, ?_, k3, hl, m.see id⟩
          simp only [Builtin.firstCells]
          rw [← k2]
          by_cases h0 : c = 0
          · have : n = 0 := by omega
            subst this
            have : us2 = [] := List.length_eq_zero_iff.1 (by omega)
            subst this
            simp [loadCells, loadCellsFrom]
          · refine loadCells_run (pre := pre ++ a) (post := z ++ post) g2 (by rw [g3, e]; simp) ?_
            rw [List.length_append, g4, k1, e3 h0]; simp only [Nat.add_zero]; omega
      · cases he
    · cases he
  · split at he
    · simp only [Option.some.injEq, Prod.mk.injEq] at he
      obtain ⟨rfl, rfl, rfl⟩ := he
      simp only [A.rel] at hx
      subst hx
      exact ⟨[], by simp [Builtin.firstCells], by simp [relLst], rfl, Goes.refl m⟩
    · cases he
  · cases he

theorem all_size {s : Nat} {us : List T} (h : (us.all fun u => optEqN u.size (some s)) = true) : ∀ u, u ∈ us → u.size = some s := fun u hu => by
  have := List.all_eq_true.1 h u hu
  obtain ⟨e, n, hn⟩ := optEqN_eq this
  exact e

/-- Elements are written into a slice's block. -/
theorem writeSl_sound (m : Mem S ν w h) {us : List T} {id r base o : Nat} {p : List Step} {s : Nat} {st : Ix} {ok : A} {h1 : H} {ws : List Value} (he : writeSl h us id p s st = some (ok, h1)) (hok : okB ok = true) (hS : ∀ i, i ∈ h1.rd → S i)
    (hw : relLst ν s us ws) (hν : ν id = some (r, base)) (ho : us ≠ [] → o = base + pathOff p + s * st.val) :
    ∃ w', (storeCells ⟨r, o, none⟩ ws).run P w = .ok () w' ∧ Goes S ν w h ν w' h1 := by
  unfold writeSl at he
  split at he
  · rename_i b hb
    split at he
    · rename_i hrw
      simp only [Bool.and_eq_true] at hrw
      obtain ⟨hrw, hnm⟩ := hrw
      split at he
      · rename_i hsz
        have hsz := all_size hsz
        split at he
        · rename_i t' ht'
          simp only [Option.some.injEq, Prod.mk.injEq] at he
          obtain ⟨rfl, rfl⟩ := he
          obtain ⟨q, base', cs, ty, fr, pre, vs, post, g1, g2, g3, g4, g5, g6⟩ := (m.seen id b hb (see_seen (h := h) hS)).cells hnm
          rw [hν] at g1
          cases g1
          obtain ⟨rfl, rfl⟩ := g6 hrw
          have hpre : pre = [] := List.length_eq_zero_iff.1 g4
          subst hpre
          have hcell : ∀ v, v ∈ ws → Cell v := relLst_cell hw (fun u hu c hc => rel_cells hc)
          rcases putElems_rel g5 ht' hok hw with ⟨rfl, rfl⟩ | ⟨a, old, z, rfl, k1, k2, k3⟩
          · have : ws = [] := by simpa [relLst] using hw
            subst this
            refine ⟨w, rfl, ?_⟩
            have := (m.see id).trans ((m.see id).mem.store (id := id) (b := b) hb hrw hν (cs := cs) (ty := ty) ⟨vs, post, by rw [g3]; simp, g5⟩)
            rwa [wset_self g2] at this
          · by_cases hu : us = []
            · subst hu
              have : ws = [] := by simpa [relLst] using hw
              subst this
              simp only [putElems, Option.some.injEq] at ht'
              subst ht'
              refine ⟨w, rfl, ?_⟩
              have := (m.see id).trans ((m.see id).mem.store (id := id) (b := b) hb hrw hν (cs := cs) (ty := ty) ⟨a ++ old ++ z, post, by rw [g3]; simp, g5⟩)
              rwa [wset_self g2] at this
            · obtain ⟨cs', q1, q2⟩ := storeCells_run (P := P) ws old a (z ++ post) w r o 0 cs ty g2 (by rw [g3]; simp) (by rw [k1, ho hu]; simp only [Nat.add_zero]; omega) k2 hcell
              exact ⟨_, q2, (m.see id).trans ((m.see id).mem.store (id := id) (b := b) hb hrw hν (cs := cs') (ty := ty) ⟨a ++ ws ++ z, post, by rw [q1]; simp, k3⟩)⟩
        · cases he
      · cases he
    · cases he
  · cases he

/-! ### append and copy -/

theorem evAppend_sound (m : Mem S ν w h) {t t2 : TypeId} {e2 : TypeId} {x y : A} {r : OpR} {vx vy : Value} {ts : Array TypeId} {us : Array Value} (he : evAppend P h t x y = some r) (hok : okB r.ok = true) (hS : ∀ i, i ∈ r.h.rd → S i)
    (ht : ts[0]? = some t) (ht2 : ts[1]? = some t2) (hu2 : P.underlying t2 = some (.slice e2)) (hx : x.rel ν vx) (hy : y.rel ν vy) (h0 : us[0]? = some vx) (h1 : us[1]? = some vy) (ty : TypeId) :
    ∃ v w' ν', (Builtin.append_ ts ty us).run P w = .ok v w' ∧ r.v.rel ν' v ∧ Goes S ν w h ν' w' r.h := by
  unfold evAppend at he
  split at he
  · rename_i elem id p s st len cap id2 p2 s2 st2 n cap2 hu
    split at he
    · rename_i k hk hs2
      have hs2 := beq_true hs2
      subst hs2
      split at he
      · rename_i es o1 hr1 hks hrd
        have hks := beq_true hks
        subst hks
        split at he
        · rename_i o2 hr2 hwr
          simp only [Option.some.injEq] at he
          subst he
          simp only at hok hS
          have hokr := andOk_left (andOk_right hok)
          have hokw := andOk_right (andOk_right hok)
          have hcap := leIx_sound (andOk_left hok)
          have hsz : ∀ u, u ∈ es → u.size = some k := by
            unfold writeSl at hwr
            split at hwr
            · split at hwr
              · split at hwr
                · exact all_size (by assumption)
                · cases hwr
              · cases hwr
            · cases hwr
          have hS1 : ∀ i, i ∈ hr1.rd → S i := by
            intro i hi
            refine hS i ?_
            unfold writeSl at hwr
            split at hwr
            · split at hwr
              · split at hwr
                · split at hwr
                  · simp only [Option.some.injEq, Prod.mk.injEq] at hwr
                    obtain ⟨_, rfl⟩ := hwr
                    exact mem_noteB.2 (.inr hi)
                  · cases hwr
                · cases hwr
              · cases hwr
            · cases hwr
          obtain ⟨cs, g1, g2, g3, g4⟩ := readSl_sound (P := P) (w := w) m (k := k) hrd hokr hS1 hy hsz (fun _ _ _ _ _ _ e => by cases e; rfl)
          simp only [A.rel] at hx
          obtain ⟨b, base, o, c, q1, rfl, q3, q4, q5⟩ := hx
          have hc : c = cap.val := q5 _ rfl
          rw [ixAdd_val] at hcap
          have hn : len.val + n ≤ c := by rw [hc]; exact hcap
          obtain ⟨w', k1, k2⟩ := writeSl_sound (P := P) (w := w) g4.mem (ws := cs) (r := b) (base := base) (o := o + len.val * k) hwr hokw hS g2 q1 (fun hne => by
            have : 0 < n := by rw [← g3]; exact List.length_pos_iff.2 hne
            rw [q3 (by omega), ixAdd_val, Nat.mul_add, Nat.mul_comm len.val]; omega)
          have hyn : ∃ a2 c2, vy = .slice a2 n c2 := by
            simp only [A.rel] at hy
            obtain ⟨b', base', o', c', _, rfl, _⟩ := hy
            exact ⟨_, _, rfl⟩
          obtain ⟨a2, c2, rfl⟩ := hyn
          refine ⟨.slice (some ⟨b, o, none⟩) (len.val + n) c, w', ν, ?_, ?_, g4.trans k2⟩
          · simp only [Builtin.append_, ht, ht2, h0, h1]
            rw [Sem.run_bind, run_underlying' hu]
            simp only [Result.andThen_ok]
            rw [Sem.run_bind, run_sizeOf' hk]
            simp only [Result.andThen_ok]
            simp [run_underlying' hu2, Builtin.lenOf, hn, g1, add_addr, k1]
          · show (A.sl _ _ _ _ _ _).rel ν _
            simp only [A.rel]
            exact ⟨b, base, o, c, q1, by rw [ixAdd_val]; rfl, q3, by rw [ixAdd_val]; exact hn, fun c' e => by cases e; exact hc⟩
        · cases he
      · cases he
    · cases he
  · cases he

theorem evCopy_sound (m : Mem S ν w h) {t : TypeId} {x y : A} {r : OpR} {vx vy : Value} {ts : Array TypeId} {us : Array Value} (he : evCopy P h t x y = some r) (hok : okB r.ok = true) (hS : ∀ i, i ∈ r.h.rd → S i)
    (ht : ts[0]? = some t) (hx : x.rel ν vx) (hy : y.rel ν vy) (h0 : us[0]? = some vx) (h1 : us[1]? = some vy) (ty : TypeId) :
    ∃ v w' ν', (Builtin.copy_ ts ty us).run P w = .ok v w' ∧ r.v.rel ν' v ∧ Goes S ν w h ν' w' r.h := by
  unfold evCopy at he
  split at he
  · rename_i elem id p s st len cap hu
    split at he
    · rename_i k hk
      simp only [Option.some.injEq] at he
      subst he
      simp only [A.rel] at hx hy
      subst hy
      obtain ⟨b, base, o, c, q1, rfl, q3, q4, q5⟩ := hx
      refine ⟨goInt 0, w, ν, ?_, ?_, Goes.refl m⟩
      · simp only [Builtin.copy_, ht, h0, h1]
        rw [Sem.run_bind, run_underlying' hu]
        simp only [Result.andThen_ok]
        simp only [Builtin.lenOf, Sem.run_bind, Sem.run_pure, Result.andThen_ok, run_sizeOf' hk]
        have e0 : Nat.min 0 len.val = 0 := Nat.zero_min _
        simp [Builtin.firstCells, storeCells, e0]
      · show (A.lit .i64 _).rel ν _
        simp only [A.rel]
        exact ⟨rfl, by decide⟩
    · cases he
  · rename_i elem id p s st mm cap id2 p2 s2 st2 n cap2 hu
    split at he
    · rename_i k hk hs2
      simp only [Bool.and_eq_true] at hs2
      obtain ⟨hs2, hsm⟩ := hs2
      have hsm := Nat.le_of_ble_eq_true hsm
      have hs2 := beq_true hs2
      subst hs2
      split at he
      · rename_i es o1 hr1 hks hrd
        have hks := beq_true hks
        subst hks
        split at he
        · rename_i o2 hr2 hwr
          simp only [Option.some.injEq] at he
          subst he
          simp only at hok hS
          have hokr := andOk_left hok
          have hokw := andOk_right hok
          have hsz : ∀ u, u ∈ es → u.size = some k := by
            unfold writeSl at hwr
            split at hwr
            · split at hwr
              · split at hwr
                · exact all_size (by assumption)
                · cases hwr
              · cases hwr
            · cases hwr
          have hS1 : ∀ i, i ∈ hr1.rd → S i := by
            intro i hi
            refine hS i ?_
            unfold writeSl at hwr
            split at hwr
            · split at hwr
              · split at hwr
                · split at hwr
                  · simp only [Option.some.injEq, Prod.mk.injEq] at hwr
                    obtain ⟨_, rfl⟩ := hwr
                    exact mem_noteB.2 (.inr hi)
                  · cases hwr
                · cases hwr
              · cases hwr
            · cases hwr
          obtain ⟨cs, g1, g2, g3, g4⟩ := readSl_sound (P := P) (w := w) m (k := k) hrd hokr hS1 hy hsz (fun _ _ _ _ _ _ e => by cases e; rfl)
          simp only [A.rel] at hx
          obtain ⟨b, base, o, c, q1, rfl, q3, q4, q5⟩ := hx
          have q4 : mm ≤ c := q4
          obtain ⟨w', k1, k2⟩ := writeSl_sound (P := P) (w := w) g4.mem (ws := cs) (r := b) (base := base) (o := o) hwr hokw hS g2 q1 (fun hne => by
            have h5 : 0 < Nat.min n mm := by rw [← g3]; exact List.length_pos_iff.2 hne
            have h6 : Nat.min n mm ≤ mm := Nat.min_le_right _ _
            exact q3 (by omega))
          have hyn : ∃ a2 c2, vy = .slice a2 n c2 := by
            simp only [A.rel] at hy
            obtain ⟨b', base', o', c', _, rfl, _⟩ := hy
            exact ⟨_, _, rfl⟩
          obtain ⟨a2, c2, rfl⟩ := hyn
          refine ⟨goInt (Nat.min n mm), w', ν, ?_, ?_, g4.trans k2⟩
          · simp only [Builtin.copy_, ht, h0, h1]
            rw [Sem.run_bind, run_underlying' hu]
            simp only [Result.andThen_ok]
            simp only [Builtin.lenOf, Sem.run_bind, Sem.run_pure, Result.andThen_ok, run_sizeOf' hk]
            show ((Builtin.firstCells k (Nat.min n mm) _).run P w).andThen _ = _
            rw [g1]
            simp only [Result.andThen_ok, k1]
            rfl
          · show (A.lit .i64 _).rel ν _
            simp only [A.rel]
            refine ⟨rfl, ?_⟩
            simp [IntKind.wrap, IntKind.bits, IntKind.signed]
            omega
        · cases he
      · cases he
    · cases he
  · cases he
end
end Go.WE
