/- A call that gives a pointer to a new block. -/
import Derived.Test.YtljopbfbljkjoaaDoorOps
namespace Go.WE
set_option linter.unusedVariables false
open Go

/-- A call without memory that gives a new block: it does so at any memory. -/
theorem fnOK_new {P : Program} {f : FuncId} {args : List V} {id0 : Nat} {t t' : T} {h0 : H} (h1 : FnOK P f args H.none (.t (.a (.ptr id0 []))) h0) (hb0 : h0.m.get id0 = some ⟨true, t⟩) (ht : t.free = true) (hnm : notMp t = true)
    (hw : ∀ ν vs, t.rel ν vs → t'.rel ν vs) (ha : freeVs args = true) : ∀ h, FnOK P f args h (.t (.a (.ptr h.next []))) (h.new ⟨true, t'⟩) := by
  intro h S ν w vs _ _ hm hargs
  refine (h1 (fun _ => True) nu0 w vs (fun _ _ => trivial) (fun _ _ => trivial) (mem_none _ w) (relV_free ha hargs)).mono ?_
  rintro e w' ⟨u, ν', rfl, hu, g⟩
  have hb : ∀ r, r < w.heap.size → w'.heap[r]? = w.heap[r]? := fun r hr => g.frm.block r hr (fun id base h => by cases h)
  have hu : (A.ptr id0 []).rel ν' u := hu
  simp only [A.rel] at hu
  obtain ⟨b, base, hν, rfl⟩ := hu
  obtain ⟨r, base', cs, ty, fr, pre, vs', post, q1, q2, q3, q4, q5, q6⟩ := (g.mem.seen id0 _ hb0 (.inl trivial)).cells hnm
  rw [hν] at q1
  cases q1
  obtain ⟨rfl, rfl⟩ := q6 rfl
  have hge : w.heap.size ≤ b := g.new id0 b 0 rfl hν
  have hlt : b < w'.heap.size := g.mem.nums.lt id0 b 0 hν
  have hn : ν h.next = none := hm.nums.fresh _ (Nat.le_refl _)
  have hle := le_upd (p := (b, 0)) hn
  have hget : ∀ id, (h.new ⟨true, t'⟩).m.get id = if h.next = id then some ⟨true, t'⟩ else h.m.get id := fun id => Tr.get_set _ _ _ _
  refine ⟨_, upd ν h.next (b, 0), rfl, ?_, hle, ⟨⟨?_, ?_, ?_, ?_, ?_, fun g hg => hle _ _ (hm.nums.glob g hg)⟩, ?_⟩, ⟨g.frm.os, g.frm.tape, g.frm.output, g.frm.size, fun r hr _ => hb r hr⟩, ?_, new_ext hm.nums.lo _, ?_⟩
  · show (A.ptr _ _).rel _ _
    simp only [A.rel]
    exact ⟨b, 0, by simp [upd], rfl⟩
  · intro id r base hi
    unfold upd at hi
    split at hi
    · simp at hi; omega
    · have h1 := hm.nums.lt id r base hi
      exact Nat.lt_of_lt_of_le h1 g.frm.size
  · intro id b' hb' hrw id' r base base' h1 h2
    rw [hget] at hb'
    unfold upd at h1 h2
    split at h1 <;> split at h2
    · omega
    · simp at h1; have := hm.nums.lt _ _ _ h2; omega
    · simp at h2; have := hm.nums.lt _ _ _ h1; omega
    · rename_i e1 e2
      rw [if_neg (fun e => e1 e.symm)] at hb'
      exact hm.nums.inj id b' hb' hrw id' r base base' h1 h2
  · intro id hi
    have hi : h.next + 1 ≤ id := hi
    unfold upd
    rw [if_neg (by omega)]
    exact hm.nums.fresh id (by omega)
  · intro id b hb
    show id < h.next + 1
    rw [hget] at hb
    split at hb
    · omega
    · have := hm.nums.bound id b hb; omega
  · have := hm.nums.lo
    show h.lo ≤ h.next + 1
    omega
  · intro id b' hb' hS
    rw [hget] at hb'
    split at hb'
    · rename_i e
      subst e
      simp at hb'
      subst hb'
      exact .inl ⟨b, 0, cs, ty, (0, 0), pre, vs', post, by simp [upd], q2, q3, q4, hw _ _ (T.rel_free ht q5), fun _ => ⟨rfl, rfl⟩⟩
    · exact (hm.seen id b' hb' hS).mono hle fun r base hi => hb r (hm.nums.lt _ _ _ hi)
  · intro id r base hn' hi
    unfold upd at hi
    split at hi
    · simp at hi; omega
    · rw [hn'] at hi; cases hi
  · intro id hi
    unfold upd
    rw [if_neg (by omega)]

/-- Contracts that give a new block. -/
def newΓ (f : FuncId) (spec : List V → Option T) (Γ : Gam) : Gam := fun g args h => match Nat.beq g f with
  | true => match spec args with
    | some t => some (.leaf .tt (.t (.a (.ptr h.next []))) (h.new ⟨true, t⟩))
    | none => Γ g args h
  | false => Γ g args h

theorem newΓ_ok {P : Program} {f : FuncId} {spec : List V → Option T} {Γ : Gam} (hs : ∀ args t, spec args = some t → Enters P f ∧ ∀ h, FnOK P f args h (.t (.a (.ptr h.next []))) (h.new ⟨true, t⟩)) (hΓ : ΓOK P Γ) : ΓOK P (newΓ f spec Γ) where
  ok := by
    intro g args h r ok v h' hr hp hok
    unfold newΓ at hr
    split at hr
    · rename_i hb
      have := Go.WE.beq_true hb
      subst this
      split at hr
      · rename_i t hsp
        cases hr
        simp only [R.pick, Option.some.injEq, Prod.mk.injEq] at hp
        obtain ⟨rfl, rfl, rfl⟩ := hp
        obtain ⟨h1, h2⟩ := hs args _ hsp
        exact .inl ⟨h1, h2 _⟩
      · exact hΓ.ok g args h r ok v h' hr hp hok
    · exact hΓ.ok g args h r ok v h' hr hp hok
  pan := by
    intro g args h r ok v h' hr hp hok
    unfold newΓ at hr
    split at hr
    · split at hr
      · cases hr; simp [R.pickP] at hp
      · exact hΓ.pan g args h r ok v h' hr hp hok
    · exact hΓ.pan g args h r ok v h' hr hp hok
  ext := by
    intro g args h r hr hlo
    unfold newΓ at hr
    split at hr
    · split at hr
      · cases hr; exact new_ext hlo _
      · exact hΓ.ext g args h r hr hlo
    · exact hΓ.ext g args h r hr hlo
end Go.WE
