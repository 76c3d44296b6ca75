/- WE12: operations without calls, on. -/
import Derived.Test.YtljopbfbljkjoaaDoorWE11
namespace Go.WE
open Go

section
variable {P : Program} {cx : Cx} {S : Nat → Prop} {ν : Nu} {w : World} {h : H}

theorem evIndexAddr_sound (m : Mem S ν w h) {t : TypeId} {x i : Option A} {r : OpR} {vx vi : Value} (he : evIndexAddr cx h t x i = some r) (hok : okB r.ok = true) (hx : ∀ y, x = some y → y.rel ν vx) (hi : ∀ y, i = some y → y.rel ν vi) :
    Runs cx.P S ν w h (Instr.indexAt t vx vi) r := by
  unfold evIndexAddr at he
  split at he
  · rename_i x
    split at he
    · rename_i i
      split at he
      · rename_i d hu
        unfold evIndexAddr2 at he
        replace hx := hx _ rfl
        replace hi := hi _ rfl
        split at he
        · rename_i len elem
          split at he
          · rename_i id p
            split at he
            · rename_i j ok hj
              split at he
              · rename_i n hn
                simp only [Option.some.injEq] at he
                subst he
                obtain ⟨k, rfl, hlt⟩ := ixOf_sound hj hok hi
                simp only [A.rel] at hx
                obtain ⟨b, base, g1, rfl⟩ := hx
                have hlt : j.val < len := hlt
                refine Runs.same m (v := .pointer (some ⟨b, base + pathOff p + j.val * n, none⟩)) ?_ ?_
                · rw [Instr.indexAt, Sem.run_bind]
                  simp only [asIntOf, Sem.run_pure, Result.andThen_ok]
                  rw [Sem.run_bind, run_underlying' hu]
                  simp [Instr.sureAddr, run_underlying' hu, hlt, run_sizeOf' hn, add_addr]
                · show (A.ptr _ _).rel ν _
                  simp only [A.rel]
                  exact ⟨b, base, g1, by rw [pathOff_append]; simp only [pathOff, stepOff, Nat.add_zero, Nat.add_assoc, Nat.mul_comm]⟩
              · cases he
            · cases he
          · cases he
        · rename_i elem
          split at he
          · rename_i id p s st len cap
            split at he
            · rename_i j ok hj
              split at he
              · rename_i n hn
                split at he
                · rename_i hs
                  have hs := beq_true hs
                  subst hs
                  simp only [Option.some.injEq] at he
                  subst he
                  obtain ⟨k, rfl, hlt⟩ := ixOf_sound hj hok hi
                  simp only [A.rel] at hx
                  obtain ⟨b, base, o, c, g1, rfl, g3, g4, g5⟩ := hx
                  have ho := g3 (by omega)
                  refine Runs.same m (v := .pointer (some ⟨b, o + j.val * n, none⟩)) ?_ ?_
                  · rw [Instr.indexAt, Sem.run_bind]
                    simp only [asIntOf, Sem.run_pure, Result.andThen_ok]
                    rw [Sem.run_bind, run_underlying' hu]
                    simp [run_underlying' hu, hlt, run_sizeOf' hn, add_addr]
                  · show (A.ptr _ _).rel ν _
                    simp only [A.rel]
                    refine ⟨b, base, g1, ?_⟩
                    rw [pathOff_append, ho]
                    have hv : (ixAdd st j).val = st.val + j.val := by cases st <;> cases j <;> rfl
                    simp only [pathOff, stepOff, Nat.add_zero, hv]
                    have ee : base + pathOff p + n * st.val + j.val * n = base + (pathOff p + n * (st.val + j.val)) := by rw [Nat.mul_add, Nat.mul_comm j.val n]; omega
                    rw [ee]
                · cases he
              · cases he
            · cases he
          · cases he
        · cases he
      · cases he
    · cases he
  · cases he

theorem strA_sound {s : ByteArray} {i ok z : A} {v : Value} (he : strA s i = some (ok, z)) (hok : okB ok = true) (hi : i.rel ν v) :
    ∃ k n b, v = .int k n ∧ 0 ≤ n ∧ s[n.toNat]? = some b ∧ z.rel ν (.int .u8 b.toNat) := by
  unfold strA at he
  split at he
  · rename_i k n
    simp only [A.rel] at hi
    split at he
    · rename_i m
      split at he
      · rename_i b hb
        simp at he
        obtain ⟨_, rfl⟩ := he
        refine ⟨k, _, b, hi.1, Int.natCast_nonneg m, hb, ?_⟩
        simp only [A.rel]
        refine ⟨trivial, ?_⟩
        have := b.toNat_lt
        simp [IntKind.wrap, IntKind.bits, IntKind.signed]
        omega
      · cases he
    · cases he
  · rename_i k x
    simp only [A.rel] at hi
    split at he
    · cases he
    · rename_i hs
      simp at he
      obtain ⟨e1, rfl⟩ := he
      have hv : vof k x = ((nrm k x).toNat : Int) := vof_unsigned k x hs
      have hlt : (nrm k x).toNat < s.size := by
        split at e1
        · rename_i hc
          simp only [Bool.and_eq_true] at hc
          have e := kEq_true hc.1
          have h256 := Nat.le_of_ble_eq_true hc.2
          subst e
          have : (nrm .u8 x).toNat < 256 := by
            simp [nrm]
            omega
          omega
        · subst e1
          exact blt_lt hok
      obtain ⟨b, hb⟩ : ∃ b, s[(nrm k x).toNat]? = some b := ⟨_, getElem?_pos s (nrm k x).toNat hlt⟩
      refine ⟨k, _, b, by rw [hi, hv], Int.natCast_nonneg _, by rw [Int.toNat_natCast]; exact hb, ?_⟩
      simp only [A.rel]
      unfold strAt
      rw [hb]
      have := b.toNat_lt
      simp [vof, IntKind.wrap, IntKind.bits, IntKind.signed]
      omega
  · cases he

theorem evIndex_sound (m : Mem S ν w h) {t : TypeId} {x : Option V} {i : Option A} {r : OpR} {vx vi : Value} (he : evIndex cx h t x i = some r) (hok : okB r.ok = true) (hx : ∀ y, x = some y → y.rel ν vx) (hi : ∀ y, i = some y → y.rel ν vi) :
    Runs cx.P S ν w h (Instr.index t vx vi) r := by
  unfold evIndex at he
  split at he
  · rename_i x
    split at he
    · rename_i i
      split at he
      · rename_i d hu
        unfold evIndex2 at he
        replace hx := hx _ rfl
        replace hi := hi _ rfl
        split at he
        · split at he
          · rename_i s
            split at he
            · rename_i ok z hz
              simp only [Option.some.injEq] at he
              subst he
              obtain ⟨k, n, b, rfl, e2, e3, e4⟩ := strA_sound hz hok hi
              refine Runs.same m (v := .int .u8 b.toNat) ?_ e4
              have hx : vx = .string s := hx
              rw [Instr.index, Sem.run_bind]
              simp only [asIntOf, Sem.run_pure, Result.andThen_ok]
              rw [Sem.run_bind, run_underlying' hu, hx]
              simp only [Result.andThen_ok]
              rw [if_pos e2, e3]
              rfl
            · cases he
          · cases he
        · rename_i len elem
          split at he
          · rename_i t'
            split at he
            · rename_i j ok hj
              split at he
              · rename_i n hn
                split at he
                · rename_i u hsu
                  split at he
                  · rename_i hf
                    simp only [Option.some.injEq] at he
                    subst he
                    obtain ⟨k, rfl, hlt⟩ := ixOf_sound hj (andOk_left hok) hi
                    have hlt : j.val < len := hlt
                    obtain ⟨vs, rfl, hr⟩ := sub_agg hsu hx
                    obtain ⟨a, us, b, e, g1, g2⟩ := subT_rel hsu (andOk_right hok) hr
                    obtain ⟨v, k1, k2⟩ := part_run (P := cx.P) (w := w) hf g2 e (off := j.val * n) (by rw [g1]; simp [pathOff, stepOff, Nat.mul_comm])
                    refine Runs.same m (v := v) ?_ k2
                    rw [Instr.index, Sem.run_bind]
                    simp only [asIntOf, Sem.run_pure, Result.andThen_ok]
                    rw [Sem.run_bind, run_underlying' hu]
                    simp only [Result.andThen_ok]
                    rw [if_pos ⟨Int.natCast_nonneg _, by omega⟩, Sem.run_bind, run_sizeOf' hn]
                    simp only [Result.andThen_ok, Int.toNat_natCast]
                    exact k1
                  · cases he
                · cases he
              · cases he
            · cases he
          · cases he
        · cases he
      · cases he
    · cases he
  · cases he

theorem relVs_get : ∀ {ts : List T} {vs : List Value}, relVs ν ts vs → ∀ (i : Nat) (t : T), ts[i]? = some t → ∃ v, vs[i]? = some v ∧ t.relV ν v
  | [], [], _, _, _, e => by simp at e
  | _ :: _, v :: _, h, 0, x, e => by simp at e; subst e; exact ⟨v, rfl, h.1⟩
  | _ :: as, _ :: vs, h, i + 1, x, e => by simpa using relVs_get h.2 i x (by simpa using e)
  | [], _ :: _, h, _, _, _ => h.elim
  | _ :: _, [], h, _, _, _ => h.elim

theorem evExtract_sound (m : Mem S ν w h) {ix : Nat} {x : Option V} {r : OpR} {vx : Value} (he : evExtract h ix x = some r) (hx : ∀ y, x = some y → y.rel ν vx) : Runs P S ν w h (Instr.extract vx ix) r := by
  unfold evExtract at he
  split at he
  · rename_i ws
    split at he
    · rename_i t ht
      rw [mkR_eq he]
      obtain ⟨vs, rfl, hr⟩ := hx _ rfl
      obtain ⟨v, h1, h2⟩ := relVs_get hr ix t ht
      simp at h1
      exact Runs.same m (v := v) (by simp [Instr.extract, h1]) h2
    · cases he
  · cases he

theorem mkAgg_eq {t : T} {r : OpR} (he : mkAgg h t = some r) : (∀ x, t ≠ .a x) ∧ r = ⟨.tt, .t t, h⟩ := by
  unfold mkAgg at he
  split at he
  · rename_i hb
    exact ⟨fun x e => (by subst e; cases hb), mkR_eq he⟩
  · cases he

theorem evBuild_sound (m : Mem S ν w h) {t : TypeId} {ps : Option (List (Nat × V))} {r : OpR} {qs : Array (Nat × Value)} (he : evBuild cx h t ps = some r) (hp : ∀ y, ps = some y → relP ν y qs.toList) : Runs cx.P S ν w h (Instr.build t qs) r := by
  unfold evBuild at he
  split at he
  · rename_i ps
    split at he
    · rename_i z hz
      obtain ⟨zv, hzr, hzc⟩ := zeroT_run (ν := ν) (w := w) hz
      split at he
      · rename_i d hu
        unfold evBuild2 at he
        split at he
        · rename_i fields
          split at he
          · rename_i pl hpl
            obtain ⟨u, hf, he⟩ := bind_some he
            obtain ⟨hag, he⟩ := mkAgg_eq he
            rw [he]
            obtain ⟨vs', h1, h2⟩ := putParts_sound (fun _ _ _ _ => rfl) hf (hp _ rfl) hzc
            refine Runs.same m (v := .agg vs') ?_ (agg_relV h2 hag)
            rw [Instr.build, Sem.run_bind, hzr]
            simp only [Result.andThen_ok]
            rw [Sem.run_bind, run_underlying' hu]
            simp only [Result.andThen_ok]
            rw [Sem.run_bind, array_mapM_run (placesOf_sound hpl)]
            simp only [Result.andThen_ok]
            have e2 : (fun i : Nat => (pl.toArray)[i]?) = (fun i : Nat => pl[i]?) := by funext i; simp
            rw [e2, h1]
            rfl
          · cases he
        · rename_i len elem
          split at he
          · rename_i n hn
            obtain ⟨u, hf, he⟩ := bind_some he
            obtain ⟨hag, he⟩ := mkAgg_eq he
            rw [he]
            obtain ⟨vs', h1, h2⟩ := putParts_sound (fun i off n hp => by simp at hp; simp only [stepOff, Ix.val]; rw [← hp.1, hp.2, Nat.mul_comm]) hf (hp _ rfl) hzc
            refine Runs.same m (v := .agg vs') ?_ (agg_relV h2 hag)
            rw [Instr.build, Sem.run_bind, hzr]
            simp only [Result.andThen_ok]
            rw [Sem.run_bind, run_underlying' hu]
            simp only [Result.andThen_ok]
            rw [Sem.run_bind, run_sizeOf' hn]
            simp only [Result.andThen_ok]
            rw [h1]
            rfl
          · cases he
        · cases he
      · cases he
    · cases he
  · cases he

theorem evIface_sound (m : Mem S ν w h) {t : TypeId} {x : Option A} {r : OpR} {vx : Value} (he : evIface cx h t x = some r) (hx : ∀ y, x = some y → y.rel ν vx) :
    True ∧ Runs cx.P S ν w h (Instr.makeInterface t vx) r := by
  refine ⟨trivial, ?_⟩
  unfold evIface at he
  split at he
  · rename_i y
    split at he
    · rename_i ha hs
      have hne : ∃ d, cx.P.underlying t = some d := by
        cases hu : cx.P.underlying t with
        | none => simp [isAggT, hu] at ha
        | some d => exact ⟨d, rfl⟩
      obtain ⟨d, hd⟩ := hne
      split at he
      · cases he
      · rename_i hni
        rw [mkA_eq he]
        refine Runs.same m (v := .iface t vx) ?_ (by show (A.iface t y).rel ν _; simp only [A.rel]; exact ⟨vx, rfl, hx _ rfl⟩)
        unfold Instr.makeInterface
        rw [Sem.run_bind, run_underlying' hd]
        simp only [Result.andThen_ok]
        cases d <;> first | rfl | exact absurd hd (hni _)
    · cases he
  · cases he
end
end Go.WE
