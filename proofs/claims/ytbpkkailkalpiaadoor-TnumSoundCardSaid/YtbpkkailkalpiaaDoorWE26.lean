/- WE26: regions. -/
import Derived.Test.YtbpkkailkalpiaaDoorWE25
namespace Go.WE
set_option linter.unusedVariables false
open Go

section
variable {cx : Cx} {call : CallE} {fp : Fp} {S : Nat → Prop} {ops : List Oper} {D : Array Nat} {σ τ : Nat → St} {Q : Exit → Act → World → Prop}
variable {a0 : Act} {ν0 ν : Nu} {listed : Array Bool} {a : Act} {w w0 : World}

theorem count_set_false : ∀ (l : List Bool) (i : Nat), l[i]? = some false → (l.set i true).count false + 1 = l.count false
  | [], i, h => by simp at h
  | b :: l, 0, h => by simp at h; subst h; simp
  | b :: l, i + 1, h => by
    simp at h
    have := count_set_false l i h
    simp only [List.set_cons_succ, List.count_cons]
    omega

theorem ready_nil {listed : Array Bool} (h : ∀ j, j < listed.size → listed.getD j false = true) : Region.ready .any ops.toArray listed = [] := by
  refine List.eq_nil_iff_forall_not_mem.2 (fun j hj => ?_)
  have := getD_true_false (mem_ready.1 hj).1
  have h2 := h j this.2
  rw [this.1] at h2; cases h2

/-- The least one that has not come up may. -/
theorem ready_least (hc : chkEdges ops D = true) {listed : Array Bool} (hs : listed.size = ops.length) {j : Nat} (hj : j < ops.length) (hu : listed.getD j false = false)
    (hl : ∀ k, k < j → listed.getD k false = true) : j ∈ Region.ready .any ops.toArray listed := by
  refine mem_ready.2 ⟨?_, ops[j], by simp [hj], fun e he hb => hl _ (edge_lt hc (List.getElem?_eq_getElem hj) he hb)⟩
  have : j < listed.size := by omega
  simp [Array.getD_eq_getD_getElem?, this] at hu ⊢
  exact hu

/-- All have come up. -/
theorem Inv.rel (hC : CallOK cx.P call) (R : Reg cx call fp ops D σ τ) (h0 : Rel cx.P fp S ops 0 (σ 0) ν0 a0 w0) (v : Inv cx fp S ops D σ τ a0 ν0 w0 listed ν a w)
    (hall : ∀ j, j < ops.length → listed.getD j false = true) : CRel cx.P fp S (σ ops.length) ν a w ∧ Goes S ν0 w0 (σ 0).h ν w (σ ops.length).h := by
  have hx := R.ext hC (Nat.zero_le _) (Nat.le_refl ops.length)
  have hxs := (R.lok hC (Nat.le_refl ops.length)).2
  have hle : ν0.le ν := by
    intro id b hb
    have hid : id < (σ 0).h.next := by
      refine Classical.byContradiction fun hge => ?_
      rw [h0.c.mem.nums.fresh id (by omega)] at hb; cases hb
    rw [v.old id hid]; exact hb
  have hm : Mem S ν w (σ ops.length).h := by
    refine ⟨⟨v.lt, v.inj ops.length (Nat.le_refl _), ?_, R.bound hC (Nat.le_refl _), (R.lok hC (Nat.le_refl _)).1, ?_⟩, ?_⟩
    · intro id hid
      cases hb : ν id with
      | none => rfl
      | some b =>
        exfalso
        rcases v.dom id b hb with h1 | ⟨j, hj, h1, h2⟩
        · have := hx.next; omega
        · have hjl : j < ops.length := by rw [← v.lsize]; exact listed_lt hj
          have := R.nle hC (i := j + 1) (k := ops.length) (by omega) (Nat.le_refl _)
          rw [R.nx hjl] at this; omega
    · intro g hg
      rw [hx.gl] at hg
      exact hle g _ (h0.c.mem.nums.glob g hg)
    · intro id b hb hs
      have hs : S id ∨ (σ 0).h.lo ≤ id := by rw [← hx.lo]; exact hs
      exact (v.seen id ops.length b (Nat.le_refl _) hs (fun j hj _ => ⟨fun _ => hj, fun _ => hall j hj⟩) hb).mono (cut_le _ _) (fun _ _ _ => rfl)
  have hc0 : ∀ s, ((σ 0).get fp.km s).c = none := by
    intro s
    cases hc : ((σ 0).get fp.km s).c with
    | none => rfl
    | some p => obtain ⟨sj, x⟩ := p; obtain ⟨j, hj, _⟩ := h0.conds s sj x hc; omega
  have hdefs : ∀ k, k ≤ ops.length → (σ k).defs = (σ 0).defs := by
    intro k
    induction k with
    | zero => intro _; rfl
    | succ k ih =>
      intro hk
      have hkl : k < ops.length := by omega
      rw [R.next hkl]
      exact ((R.stat hC (List.getElem?_eq_getElem hkl)).defs).trans (ih (by omega))
  refine ⟨⟨hm, ?_, hxs.vconds h0.c.vconds, v.size, ?_⟩, ⟨hle, hm, ⟨v.os, v.tape, v.output, v.wsize, fun r hr hn => v.block r hr fun id base hb => ?_⟩, v.new, hx, v.old⟩⟩
  · intro s
    by_cases hex : ∃ j, j < ops.length ∧ dstOf ops j = some s
    · obtain ⟨j, hj, hdj⟩ := hex
      exact (v.ent j s (hall j hj) hdj).mono (cut_le _ _)
    · have hno : ∀ j, j < ops.length → dstOf ops j ≠ some s := fun j hj hdj => hex ⟨j, hj, hdj⟩
      have e := R.get hC (i := 0) (k := ops.length) (Nat.zero_le _) (Nat.le_refl _) (s := s) (fun j _ h2 => hno j h2)
      have hk : a.tmps.getD s undef = a0.tmps.getD s undef := v.keep s (fun j hj => hno j (by rw [← v.lsize]; exact listed_lt hj))
      have hs0 := (h0.c.slots s).1 (by rw [hc0]; trivial)
      rw [e]
      refine ⟨fun _ => ?_, fun hno => absurd (by rw [hc0]; trivial) hno⟩
      rw [hk]
      exact V.rel_mono hle hs0
  · rw [hdefs _ (Nat.le_refl _), v.defers]
    exact h0.c.defers.mono hle
  · have := hn id base hb
    rw [hx.lo] at this
    exact this

theorem anyAll (hE : EqOK cx) (hC : CallOK cx.P call) (R : Reg cx call fp ops D σ τ) (hokj : ∀ j, j < ops.length → okB (τ j).ok = true)
    (hrd : ∀ i, i ∈ (σ ops.length).h.rd → S i) (hwr : ∀ i, i ∈ (σ ops.length).h.wr → S i) (hgl : ∀ o, o ∈ ops → OpGl o (σ 0).h)
    (h0 : Rel cx.P fp S ops 0 (σ 0) ν0 a0 w0) (hQ : ∀ ν a w, CRel cx.P fp S (σ ops.length) ν a w → Goes S ν0 w0 (σ 0).h ν w (σ ops.length).h → Q .normal a w) :
    ∀ (f : Nat) (listed : Array Bool) (ν : Nu) (a : Act) (w : World), listed.toList.count false = f → Inv cx fp S ops D σ τ a0 ν0 w0 listed ν a w → wpAny cx.P .any ops.toArray Q f listed a w := by
  intro f
  induction f with
  | zero =>
    intro listed ν a w hf v
    have hall : ∀ j, j < ops.length → listed.getD j false = true := by
      intro j hj
      have h1 := List.count_eq_zero.1 hf
      have : j < listed.size := by rw [v.lsize]; exact hj
      cases hx : listed.getD j false with
      | true => rfl
      | false =>
        refine absurd ?_ h1
        simp [Array.getD_eq_getD_getElem?, this] at hx
        rw [← hx]
        simp
    obtain ⟨h1, h2⟩ := v.rel hC R h0 hall
    exact ⟨ready_nil (fun j hj => hall j (by rw [← v.lsize]; exact hj)), hQ ν a w h1 h2⟩
  | succ f ih =>
    intro listed ν a w hf v
    have hex : ∃ j, j < ops.length ∧ listed.getD j false = false := by
      refine Classical.byContradiction fun hno => ?_
      have : listed.toList.count false = 0 := List.count_eq_zero.2 fun hm => by
        obtain ⟨j, hj, he⟩ := List.getElem_of_mem hm
        refine hno ⟨j, by rw [← v.lsize]; simpa using hj, ?_⟩
        have hj' : j < listed.size := by simpa using hj
        simp [Array.getD_eq_getD_getElem?, hj']
        simpa using he
      omega
    have hleast : ∃ j, j < ops.length ∧ listed.getD j false = false ∧ ∀ k, k < j → listed.getD k false = true := by
      obtain ⟨j, hj⟩ := hex
      induction j using Nat.strongRecOn with
      | _ j ihj =>
        by_cases hk : ∃ k, k < j ∧ listed.getD k false = false
        · obtain ⟨k, hkj, hku⟩ := hk
          exact ihj k hkj ⟨by omega, hku⟩
        · refine ⟨j, hj.1, hj.2, fun k hkj => ?_⟩
          cases hx : listed.getD k false with
          | true => rfl
          | false => exact absurd ⟨k, hkj, hx⟩ hk
    obtain ⟨j, hjm, hju, hjl⟩ := hleast
    refine ⟨fun h0' => ?_, fun i hi => ?_⟩
    · have := ready_least (D := D) R.edges v.lsize hjm hju hjl
      rw [h0'] at this; cases this
    · have hiu := getD_true_false (mem_ready.1 hi).1
      refine v.step hE hC R hokj hrd hwr hgl h0 hi (fun ν' a' w' v' => ih _ ν' a' w' ?_ v')
      have h1 : listed.toList[i]? = some false := by
        have := hiu.1
        simp [Array.getD_eq_getD_getElem?, hiu.2] at this
        simp [hiu.2, this]
      have := count_set_false listed.toList i h1
      rw [Array.toList_setIfInBounds]
      omega

/-! ### regions -/

theorem CRel.start {st : St} (h : CRel cx.P fp S st ν a w) (ops : List Oper) : Rel cx.P fp S ops 0 { st with tmps := [] } ν a w := by
  refine ⟨⟨h.mem, fun s => ?_, h.vconds, h.size, h.defers⟩, fun s sj x hc => ?_⟩
  · cases hd : Nat.testBit fp.km s
    · rw [get_false hd]
      exact ⟨fun _ => by simp [getT, V.rel, T.relV, A.rel], fun hno => absurd (by simp [getT, holds]) hno⟩
    · have := h.slots s
      rw [get_true hd] at this
      rw [get_true hd]
      exact this
  · cases hd : Nat.testBit fp.km s
    · rw [get_false hd] at hc; simp [getT] at hc
    · rw [get_true hd] at hc
      have := h.vconds s
      rw [show varsGet ({ st with tmps := [] } : St).vars s = varsGet st.vars s from rfl, this] at hc
      cases hc

theorem Mem.drew {st : St} (h : Mem S ν w st.h) : Mem S ν { w with drawn := w.drawn + 1 } st.h := ⟨⟨h.nums.lt, h.nums.inj, h.nums.fresh, h.nums.bound, h.nums.lo, h.nums.glob⟩, h.seen⟩

theorem CRel.drew {st : St} (h : CRel cx.P fp S st ν a w) : CRel cx.P fp S st ν a { w with drawn := w.drawn + 1 } := ⟨h.mem.drew, h.slots, h.vconds, h.size, h.defers⟩

theorem Goes.undrew {h h' : H} {w' : World} {ν' : Nu} (g : Goes S ν { w with drawn := w.drawn + 1 } h ν' w' h') : Goes S ν w h ν' w' h' :=
  ⟨g.le, g.mem, ⟨g.frm.os, g.frm.tape, g.frm.output, g.frm.size, g.frm.block⟩, g.new, g.ext, g.old⟩

theorem notmps_exts {st st' : St} (h : ExtS { st with tmps := [] } st') : ExtS st st' := ⟨h.h, h.vars, h.vconds, h.defs, h.ok⟩

theorem evalRegion_ext (hC : CallOK cx.P call) {draw : Bool} {st : St} (hlo : LoOK st) : (evalRegion cx call fp ops draw st).All (ExtS st) := by
  unfold evalRegion
  split
  · trivial
  · split
    · split
      · have h1 : ((evalOps cx call fp ops 0 ops { st.mark with tmps := [] }).norm { st.mark with tmps := [] }).All (ExtS { st.mark with tmps := [] }) :=
          norm_all (evalOps_ext hC (show LoOK { st.mark with tmps := [] } from Nat.le_refl _))
        exact all_back hlo (Out.All.mono (fun s h => notmps_exts h) h1)
      · exact Out.All.mono (fun s h => notmps_exts h) (evalOps_ext hC (st := { st with tmps := [] }) hlo)
    · split
      · trivial
      · split
        · trivial
        · split
          · trivial
          · rename_i s l hs _ _
            obtain ⟨σ, τ, e1, e2, e3, e4, e5⟩ := evalOpsD_states ops 0 _ _ _ hs
            simp only [Nat.zero_add] at e1 e2 e3
            have key : ∀ k, k ≤ ops.length → LoOK (σ k) ∧ ExtS (σ 0) (σ k) := by
              intro k
              induction k with
              | zero => intro _; rw [e1]; exact ⟨hlo, ExtS.refl _⟩
              | succ k ih =>
                intro hk
                obtain ⟨h1, h2⟩ := ih (by omega)
                have hkl : k < ops.length := by omega
                obtain ⟨q1, q2⟩ := e3 k _ (List.getElem?_eq_getElem hkl)
                have hx : ExtS (σ k).mark (τ k) := (stepOp_stat hC q1).exts (mk_lo _)
                have hb : ExtS (σ k) (σ (k + 1)) := by
                  rw [q2]
                  exact ⟨back_ext h1 hx.h, hx.vars, hx.vconds, hx.defs, hx.ok⟩
                exact ⟨hb.lo h1, h2.trans hb⟩
            have := (key ops.length (Nat.le_refl _)).2
            rw [e2, e1] at this
            exact notmps_exts this

theorem evalRegion_sound (hE : EqOK cx) (hC : CallOK cx.P call) {ops : Array Oper} {draw : Bool} {id : Nat} {e : Ex} {st st' : St} (he : (evalRegion cx call fp ops.toList draw st).pick = some (e, st')) (hok : okB st'.ok = true)
    (hrd : ∀ i, i ∈ st'.h.rd → S i) (hwr : ∀ i, i ∈ st'.h.wr → S i) (hgl : ∀ o, o ∈ ops.toList → OpGl o st.h)
    (hr : CRel cx.P fp S st ν a w) (hQ : ∀ ν' a' w' x, CRel cx.P fp S st' ν' a' w' → Goes S ν w st.h ν' w' st'.h → e.rel ν' x → Q x a' w') : (Code.region id ops draw).wp cx.P Q a w := by
  have hlo : LoOK st := hr.mem.nums.lo
  unfold evalRegion at he
  split at he
  · simp [Out.pick] at he
  · rename_i hd
    split at he
    · split at he
      · rw [pick_back] at he
        split at he
        · rename_i e1 s1 hp
          simp only [Option.some.injEq, Prod.mk.injEq] at he
          obtain ⟨rfl, rfl⟩ := he
          have hb0 : LoOK ({ st.mark with tmps := [] } : St) := Nat.le_refl _
          obtain ⟨s2, hp2, hweak⟩ := norm_pick (P := cx.P) (base := { st.mark with tmps := [] }) rfl (evalOps_ext hC hb0) e1 s1 hp
          refine wp_region_list ?_
          have hrs : ∀ i, i ∈ s1.h.rd → markS S st.h i := back_rd hrd
          have hws : ∀ i, i ∈ s1.h.wr → markS S st.h i := back_wr hwr
          have := evalOps_seq (Q := Q) (S := markS S st.h) hE hC hd ops.toList 0 _ ν a w (by simp) (by exact hgl) hp2 (hweak.ok hok) (fun i hi => hrs i (hweak.rd i hi)) (fun i hi => hws i (hweak.wr i hi)) (hr.mark.start _)
            (fun ν' a' w' x hr' hg' hx => by
              obtain ⟨h1, h2⟩ := hweak.rel fp (markS S st.h) ν w ν' a' w' hr.mark.mem hr' hg'
              obtain ⟨h3, h4⟩ := h1.back hlo h2
              exact hQ ν' a' w' x h3 h4 hx)
          simpa using this
        · cases he
      · refine wp_region_list ?_
        have := evalOps_seq (Q := Q) hE hC hd ops.toList 0 ({ st with tmps := [] } : St) ν a w (by simp) (by exact hgl) he hok hrd hwr (hr.start _) (fun ν' a' w' x hr' hg' hx => hQ ν' a' w' x hr' hg' hx)
        simpa using this
    · split at he
      · simp [Out.pick] at he
      · rename_i hc
        simp only [Bool.and_eq_true] at hc
        obtain ⟨⟨c1, c2⟩, c3⟩ := hc
        split at he
        · simp [Out.pick] at he
        · rename_i s l hs
          split at he
          · simp [Out.pick] at he
          · rename_i hfts
            simp only [Out.pick, Option.some.injEq, Prod.mk.injEq] at he
            obtain ⟨rfl, rfl⟩ := he
            generalize hD : Region.before ops.toList.toArray = D at *
            obtain ⟨σ, τ, e1, e2, e3, e4, e5⟩ := evalOpsD_states ops.toList 0 _ _ _ hs
            simp only [Nat.zero_add] at e1 e2 e3 e5
            have R : Reg cx call fp ops.toList D σ τ := by
              refine ⟨e3, c1, c2, hd, ?_, ?_, ?_⟩
              · intro k m hkm hm
                have := chkFts_spec hfts hkm (e5 k (by omega)) (e5 m hm)
                simpa using this
              · rw [e1]; exact hlo
              · rw [e1]; exact hr.mem.nums.bound
            refine wp_region_any c3 ?_
            have hst := hr.drew.start ops.toList
            rw [← e1] at hst
            have hokj : ∀ j, j < ops.toList.length → okB (τ j).ok = true := by
              intro j hj
              have hdown : ∀ k, j + 1 + k ≤ ops.toList.length → okB (σ (j + 1 + k)).ok = true → okB (σ (j + 1)).ok = true := by
                intro k
                induction k with
                | zero => intro _ h; exact h
                | succ k ih =>
                  intro hk h
                  have hkl : j + 1 + k < ops.toList.length := by omega
                  obtain ⟨q1, q2⟩ := e3 (j + 1 + k) _ (List.getElem?_eq_getElem hkl)
                  rw [show j + 1 + (k + 1) = j + 1 + k + 1 by omega, q2] at h
                  exact ih (by omega) ((stepOp_stat hC q1).ok h)
              have h1 := hdown (ops.toList.length - (j + 1)) (by omega) (by rw [show j + 1 + (ops.toList.length - (j + 1)) = ops.toList.length by omega, e2]; exact hok)
              obtain ⟨q1, q2⟩ := e3 j _ (List.getElem?_eq_getElem hj)
              rw [q2] at h1
              exact h1
            have hgl' : ∀ o, o ∈ ops.toList → OpGl o (σ 0).h := by rw [e1]; exact hgl
            have := anyAll (Q := Q) (S := S) hE hC R hokj (by rw [e2]; exact hrd) (by rw [e2]; exact hwr) hgl' hst
              (fun ν' a' w' hr' hg' => hQ ν' a' w' .normal (by rw [e2] at hr'; exact hr') (by rw [e1, e2] at hg'; exact hg'.undrew) rfl) ops.size (Array.replicate ops.size false) ν a { w with drawn := w.drawn + 1 } (by simp) ?_
            · simpa using this
            · have hrep : ∀ j, (Array.replicate ops.size false).getD j false = false := fun j => by
                by_cases hl : j < ops.size <;> simp [Array.getD_eq_getD_getElem?, hl]
              have hno : ∀ j, (Array.replicate ops.size false).getD j false = true → False := fun j hj => by rw [hrep] at hj; cases hj
              have hm := hst.c.mem
              have hnx : ∀ id b, ν id = some b → id < (σ 0).h.next := fun id b hb => by
                refine Classical.byContradiction fun hge => ?_
                rw [hm.nums.fresh id (by omega)] at hb; cases hb
              refine ⟨fun i hi => (hno i hi).elim, by simp, fun _ _ => rfl, fun j _ hj => (hno j hj).elim, fun _ _ => rfl, fun id b hb => .inl (hnx id b hb), hm.nums.lt, ?_, ?_, fun id r base h h' => (by rw [h] at h'; cases h'),
                rfl, rfl, rfl, Nat.le_refl _, fun _ _ _ => rfl, hst.c.size, rfl⟩
              · intro k hk id b hb hrw id' r base base' h1 h2
                have hid := hnx id _ h1
                obtain ⟨b0, q1, q2⟩ := (R.ext hC (Nat.zero_le k) hk).rw id b hid hb
                exact hm.nums.inj id b0 q1 (q2.trans hrw) id' r base base' h1 h2
              · intro id k b hk hS hcons hb
                have hnt : ∀ j, j < k → ¬ Touches σ τ j id := fun j hj ht => by
                  have := (hcons j (by omega) ht).2 hj
                  exact hno j this
                have hid : id < (σ 0).h.next := by
                  refine Classical.byContradiction fun hge => ?_
                  have h3 := R.bound hC hk id b hb
                  have key : ∀ m, m ≤ k → (σ m).h.next ≤ id := by
                    intro m
                    induction m with
                    | zero => intro _; omega
                    | succ m ih =>
                      intro hm
                      refine Classical.byContradiction fun hlt => hnt m (by omega) (.inr ⟨ih (by omega), ?_⟩)
                      rw [R.nx (by omega)] at hlt
                      omega
                  have := key k (Nat.le_refl _)
                  omega
                have e := R.blk hC (i := 0) (k := k) (Nat.zero_le _) hk hid (fun j _ h2 hw => hnt j h2 (.inl hw))
                rw [e] at hb
                refine (hm.seen id b hb hS).mono ?_ (fun _ _ _ => rfl)
                intro id' b' hb'
                have h4 := hnx id' b' hb'
                have h5 := R.nle hC (Nat.zero_le k) hk
                unfold cut
                rw [if_pos (by omega)]; exact hb'
end
end Go.WE
