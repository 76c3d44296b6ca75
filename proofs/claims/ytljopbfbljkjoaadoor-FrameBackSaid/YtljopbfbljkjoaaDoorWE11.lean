/- WE11: operations without calls. -/
import Derived.Test.YtljopbfbljkjoaaDoorWE10
namespace Go.WE
open Go

section
variable {P : Program} {cx : Cx} {S : Nat → Prop} {ν : Nu} {w : World} {h : H}

/-- What is computed is what the evaluator says, and so is what it leaves. -/
def Runs (P : Program) (S : Nat → Prop) (ν : Nu) (w : World) (h : H) (s : Sem Value) (r : OpR) : Prop :=
  ∃ v w' ν', s.run P w = .ok v w' ∧ r.v.rel ν' v ∧ Goes S ν w h ν' w' r.h

theorem Runs.same (m : Mem S ν w h) {s : Sem Value} {ok : A} {x : V} {v : Value} (hr : s.run P w = .ok v w) (hx : x.rel ν v) : Runs P S ν w h s ⟨ok, x, h⟩ := ⟨v, w, ν, hr, hx, Goes.refl m⟩

theorem mkA_eq {x : A} {r : OpR} (he : mkA h x = some r) : r = ⟨.tt, .t (.a x), h⟩ := by simp [mkA] at he; exact he.symm
theorem mkR_eq {v : V} {r : OpR} (he : mkR h v = some r) : r = ⟨.tt, v, h⟩ := by simp [mkR] at he; exact he.symm

theorem evMove_sound (m : Mem S ν w h) {x : Option V} {r : OpR} {vx : Value} (he : evMove h x = some r) (hx : ∀ y, x = some y → y.rel ν vx) : Runs P S ν w h (pure vx) r := by
  unfold evMove at he
  split at he
  · rw [mkR_eq he]; exact Runs.same m rfl (hx _ rfl)
  · cases he

theorem evAlloc_sound (m : Mem S ν w h) {t : TypeId} {r : OpR} (he : evAlloc cx h t = some r) : Runs cx.P S ν w h (Instr.alloc t true (.tuple #[])) r := by
  unfold evAlloc at he
  split at he
  · rename_i z hz
    simp only [Option.some.injEq] at he
    subst he
    obtain ⟨v, h1, h2⟩ := zeroT_run (ν := ν) (w := w) hz
    refine ⟨.pointer (some ⟨w.heap.size, 0, none⟩), _, _, ?_, ?_, m.alloc (vs := v.cells) t h2⟩
    · simp only [Instr.alloc]
      rw [Sem.run_bind, h1]
      simp [newVar, newRow]
    · show (A.ptr h.next []).rel _ _
      simp only [A.rel]
      exact ⟨w.heap.size, 0, by simp [upd], rfl⟩
  · cases he

theorem evBox_sound (m : Mem S ν w h) {t : TypeId} {x : Option V} {r : OpR} {vx : Value} (he : evBox P h t x = some r) (hx : ∀ y, x = some y → y.rel ν vx) : Runs P S ν w h (Instr.box t vx) r := by
  unfold evBox at he
  split at he
  · rename_i v
    split at he
    · rename_i u hu
      split at he
      · rename_i hs
        simp only [Option.some.injEq] at he
        subst he
        obtain ⟨_, n, hn⟩ := optEqN_eq hs
        have hr := V.cells_rel hu (hx _ rfl) (size_ne_bad hn)
        refine ⟨.pointer (some ⟨w.heap.size, 0, none⟩), _, _, ?_, ?_, m.alloc (vs := vx.cells) t hr⟩
        · simp [Instr.box, newVar, newRow]
        · show (A.ptr h.next []).rel _ _
          simp only [A.rel]
          exact ⟨w.heap.size, 0, by simp [upd], rfl⟩
      · cases he
    · cases he
  · cases he

theorem evNilCheck_sound (m : Mem S ν w h) {x : Option A} {r : OpR} {vx : Value} (he : evNilCheck h x = some r) (hx : ∀ y, x = some y → y.rel ν vx) :
    (∃ b o, vx = .pointer (some ⟨b, o, none⟩)) ∧ Runs P S ν w h (pure vx) r := by
  unfold evNilCheck at he
  split at he
  · rename_i id p
    have hr := hx _ rfl
    rw [mkA_eq he]
    refine ⟨?_, Runs.same m rfl hr⟩
    simp only [A.rel] at hr
    obtain ⟨b, base, _, e⟩ := hr
    exact ⟨b, _, e⟩
  · cases he

theorem evUn_sound (m : Mem S ν w h) {op : UnOp} {x : Option A} {r : OpR} {vx : Value} (he : evUn h op x = some r) (hx : ∀ y, x = some y → y.rel ν vx) : Runs P S ν w h (Op.unary op vx) r := by
  unfold evUn at he
  split at he
  · rename_i y
    obtain ⟨z, hz, he⟩ := bind_some he
    rw [mkA_eq he]
    obtain ⟨v, h1, h2⟩ := unA_sound (P := P) (w := w) hz (hx _ rfl)
    exact Runs.same m h1 h2
  · cases he

theorem evConv_sound (m : Mem S ν w h) {src dst : TypeId} {x : Option A} {r : OpR} {vx : Value} (he : evConv cx h src dst x = some r) (hx : ∀ y, x = some y → y.rel ν vx) : Runs cx.P S ν w h (convert src dst vx) r := by
  unfold evConv at he
  split at he
  · rename_i y
    split at he
    · rename_i d1 hd1
      split at he
      · rename_i k hd2
        obtain ⟨z, hz, he⟩ := bind_some he
        rw [mkA_eq he]
        obtain ⟨k', n, h0, h2⟩ := convA_sound hz (hx _ rfl)
        refine Runs.same m (v := .int k (k.wrap n)) ?_ h2
        rw [convert, Sem.run_bind, run_underlying' hd1]
        simp only [Result.andThen_ok]
        rw [Sem.run_bind, run_underlying' hd2, h0]
        rfl
      · cases he
    · cases he
  · cases he

theorem evMakeFunc_sound (m : Mem S ν w h) {fn : Fn} {first : List Operand} {cs : Option (List A)} {r : OpR} {vs : Array Value} (he : evMakeFunc h fn first cs = some r) (hx : ∀ y, cs = some y → relL ν y vs.toList) :
    first = [] ∧ Runs P S ν w h (Instr.makeFunc fn #[] vs) r := by
  unfold evMakeFunc at he
  split at he
  · split at he
    · split at he
      · rename_i y
        split at he
        · rw [mkA_eq he]
          refine ⟨rfl, Runs.same m rfl ?_⟩
          show (A.fn _ _).rel ν _
          simp only [A.rel]
          exact ⟨vs, rfl, hx _ rfl⟩
        · cases he
      · cases he
    · cases he
  · cases he

theorem pathOff_append : ∀ (p q : List Step), pathOff (p ++ q) = pathOff p + pathOff q
  | [], q => by simp [pathOff]
  | a :: p, q => by simp only [List.cons_append, pathOff, pathOff_append p q]; omega

theorem evFieldAddr_sound (m : Mem S ν w h) {s : TypeId} {f : Nat} {x : Option A} {r : OpR} {vx : Value} (he : evFieldAddr cx h s f x = some r) (hx : ∀ y, x = some y → y.rel ν vx) : Runs cx.P S ν w h (Instr.fieldAt s vx f) r := by
  unfold evFieldAddr at he
  split at he
  · rename_i id p
    split at he
    · rename_i fields hu
      split at he
      · rename_i fd hfd
        split at he
        · rename_i n hn
          rw [mkA_eq he]
          have hr := hx _ rfl
          simp only [A.rel] at hr
          obtain ⟨b, base, g1, rfl⟩ := hr
          refine Runs.same m (v := .pointer (some ⟨b, base + pathOff p + fd.offset, none⟩)) ?_ ?_
          · rw [Instr.fieldAt, Sem.run_bind, run_underlying' hu]
            simp only [Result.andThen_ok, hfd]
            rw [Sem.run_bind]
            simp only [Instr.sureAddr, Sem.run_pure, Result.andThen_ok]
            rw [Sem.run_bind, fieldPlace, Sem.run_bind, run_sizeOf' hn]
            simp only [Result.andThen_ok]
            rw [if_neg (by omega), add_addr]
            rfl
          · show (A.ptr _ _).rel ν _
            simp only [A.rel]
            exact ⟨b, base, g1, by rw [pathOff_append]; simp only [pathOff, stepOff, Nat.add_zero, Nat.add_assoc]⟩
        · cases he
      · cases he
    · cases he
  · cases he

theorem part_run {t : TypeId} {u : T} {us a b : List Value} {cs : Array Value} {off : Nat} (hf : fitsT P t u = true) (hu : u.rel ν us) (e : cs.toList = a ++ us ++ b) (ho : a.length = off) :
    ∃ v, (part t cs off).run P w = .ok v w ∧ u.relV ν v := by
  unfold fitsT at hf
  split at hf
  · rename_i ha
    have key : optEqN u.size (sizeT P t) = true → (∀ x, u ≠ .a x) → ∃ v, (part t cs off).run P w = .ok v w ∧ u.relV ν v := by
      intro hs h1
      obtain ⟨e1, n, hn⟩ := optEqN_eq hs
      have hl := size_length hn hu
      refine ⟨.agg (cs.extract off (off + n)), ?_, ?_⟩
      · rw [part, Sem.run_bind, run_isAgg' ha]
        simp only [Result.andThen_ok, if_true]
        rw [Sem.run_bind, run_sizeOf' (e1 ▸ hn)]
        rfl
      · refine agg_relV ?_ h1
        have : (cs.extract off (off + n)).toList = us := by
          rw [Array.toList_extract, e, List.extract_eq_take_drop, List.append_assoc, List.drop_left' ho, Nat.add_sub_cancel_left, List.take_left' hl]
        rw [this]; exact hu
    split at hf
    · cases hf
    · cases hf
    · rename_i h1 h2
      exact key hf h1
  · rename_i ha
    split at hf
    · rename_i x
      simp only [T.rel] at hu
      obtain ⟨v, rfl, h2, _⟩ := hu
      refine ⟨v, ?_, h2⟩
      rw [part, Sem.run_bind, run_isAgg' ha]
      have : cs[off]? = some v := by
        rw [← Array.getElem?_toList, e, ← ho, List.append_assoc, List.getElem?_append_right (Nat.le_refl _), Nat.sub_self]; rfl
      simp [this]
    · cases hf
  · cases hf

/-- A value that is looked into is of a struct or an array. -/
theorem sub_agg {s : Step} {t u : T} {v : Value} (hs : subT [s] t = some u) (hr : t.relV ν v) : ∃ vs, v = .agg vs ∧ t.rel ν vs.toList := by
  cases t with
  | a x => cases s <;> simp [subT] at hs
  | bad => cases s <;> simp [subT] at hs
  | mp k ks ts => cases s <;> simp [subT] at hs
  | st fs => exact hr
  | lst s ts => exact hr
  | arr s n sh => exact hr

theorem evField_sound (m : Mem S ν w h) {s : TypeId} {f : Nat} {x : Option V} {r : OpR} {vx : Value} (he : evField cx h s f x = some r) (hok : okB r.ok = true) (hx : ∀ y, x = some y → y.rel ν vx) : Runs cx.P S ν w h (Instr.field s vx f) r := by
  unfold evField at he
  split at he
  · rename_i t
    split at he
    · rename_i fields hu
      split at he
      · rename_i fd hfd
        split at he
        · rename_i u hsu
          split at he
          · rename_i hf
            simp only [Option.some.injEq] at he
            subst he
            obtain ⟨vs, rfl, hr⟩ := sub_agg hsu (hx _ rfl)
            obtain ⟨a, us, b, e, g1, g2⟩ := subT_rel hsu hok hr
            obtain ⟨v, k1, k2⟩ := part_run (P := cx.P) (w := w) hf g2 e (off := fd.offset) (by rw [g1]; simp [pathOff, stepOff])
            refine Runs.same m (v := v) ?_ k2
            rw [Instr.field, Sem.run_bind, run_underlying' hu]
            simp only [Result.andThen_ok, hfd]
            rw [Sem.run_bind]
            simp only [asAgg, Sem.run_pure, Result.andThen_ok]
            exact k1
          · cases he
        · cases he
      · cases he
    · cases he
  · cases he

theorem vof_nat {k : IntKind} {y : BitVec 64} (h : (match k.signed with | true => !(nrm k y).msb | false => true) = true) : vof k y = ((nrm k y).toNat : Int) := by
  have h0 : 0 ≤ vof k y := by
    rcases Int.lt_or_le (vof k y) 0 with hlt | hle
    · obtain ⟨h1, h2⟩ := (vof_neg_iff k y).1 hlt
      rw [h1] at h
      simp [h2] at h
    · exact hle
  rw [← vof_toNat k y h0, Int.toNat_of_nonneg h0]

/-- An index is what it is told, and below the length. -/
theorem ixOf_sound {x : A} {n j : Ix} {ok : A} {v : Value} (he : ixOf x n = some (j, ok)) (hok : okB ok = true) (hx : x.rel ν v) : ∃ k, v = .int k (j.val : Int) ∧ j.val < n.val := by
  unfold ixOf at he
  split at he
  · rename_i k m'
    simp only [A.rel] at hx
    split at he
    · rename_i m
      split at he
      · split at he
        · rename_i n hb
          simp at he
          obtain ⟨rfl, rfl⟩ := he
          exact ⟨k, hx.1, blt_lt hb⟩
        · cases he
      · simp at he
        obtain ⟨rfl, rfl⟩ := he
        exact ⟨k, hx.1, blt_lt hok⟩
    · cases he
  · rename_i k y
    simp only [A.rel] at hx
    simp at he
    obtain ⟨rfl, rfl⟩ := he
    simp only [okB, Bool.and_eq_true] at hok
    obtain ⟨h1, h2⟩ := hok
    refine ⟨k, ?_, blt_lt h2⟩
    rw [hx]
    congr 1
    exact vof_nat h1
  · cases he
end
end Go.WE
