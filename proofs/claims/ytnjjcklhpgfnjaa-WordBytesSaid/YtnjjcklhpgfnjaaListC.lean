/- Words' bytes: CopyBytes and SameBytes as contracts. -/
import Derived.Test.YtnjjcklhpgfnjaaPiece
namespace Go.WE
set_option linter.unusedVariables false
open Go Go.Proofs
open Go.RowKit (Below)

/-- Cells of a block by its index. -/
theorem seen_cell {ν : Nu} {w : World} {id : Nat} {rw : Bool} {m : Ix} {k : IntKind} {g : Nat → BitVec 64} (h : Seen ν w id ⟨rw, .arr 1 m (.int k g)⟩) : ∃ r base, ν id = some (r, base) ∧ r < w.heap.size ∧ ∀ j, j < m.val → w.cell? ⟨r, base + j, none⟩ = some (.int k (vof k (g j))) := by
  obtain ⟨r, base, cs, ty, fr, pre, us, post, h1, h2, h3, h4, h5, _⟩ := h
  refine ⟨r, base, h1, (Array.getElem?_eq_some_iff.1 h2).1, fun j hj => ?_⟩
  have h5 : (T.arr 1 m (.int k g)).rel ν us := h5
  simp only [T.rel] at h5
  obtain ⟨hl, hs⟩ := h5
  have hs := hs j hj
  simp only [Sh.rel, Nat.one_mul] at hs
  have hlt : j < us.length := by rw [hl]; omega
  have hu : us[j]? = some (.int k (vof k (g j))) := by
    rw [List.take_one, List.head?_drop] at hs
    rw [List.getElem?_eq_getElem hlt] at hs ⊢
    simpa using hs
  have hc : cs[base + j]? = some (.int k (vof k (g j))) := by
    rw [← Array.getElem?_toList, h3, List.append_assoc, List.getElem?_append_right (by omega), h4, Nat.add_sub_cancel_left, List.getElem?_append_left hlt, hu]
  simp [World.cell?, h2, hc]

/-- A new block that a call has made. -/
theorem goes_made {S : Nat → Prop} {ν : Nu} {w w' : World} {h : H} {b : Nat} {cs : Array Value} {ty : TypeId} {vs post : List Value} {t : T} (hm : Mem S ν w h) (hb : Below w.heap.size w w') (hge : w.heap.size ≤ b)
    (hcell : w'.heap[b]? = some (.cells cs ty (0, 0))) (hcs : cs.toList = vs ++ post) (ht : ∀ ν', t.rel ν' vs) : Goes S ν w h (upd ν h.next (b, 0)) w' (h.new ⟨true, t⟩) := by
  have hlt : b < w'.heap.size := (Array.getElem?_eq_some_iff.1 hcell).1
  have hn : ν h.next = none := hm.nums.fresh _ (Nat.le_refl _)
  have hle := le_upd (p := (b, 0)) hn
  have hget : ∀ id, (h.new ⟨true, t⟩).m.get id = if h.next = id then some ⟨true, t⟩ else h.m.get id := fun id => Tr.get_set _ _ _ _
  refine ⟨hle, ⟨⟨?_, ?_, ?_, ?_, ?_, fun g hg => hle _ _ (hm.nums.glob g hg)⟩, ?_⟩, ⟨hb.os, hb.tape, hb.output, hb.size, fun r hr _ => hb.block r hr⟩, ?_, new_ext hm.nums.lo _, ?_⟩
  · intro id r base hi
    unfold upd at hi
    split at hi
    · simp at hi; omega
    · have h1 := hm.nums.lt id r base hi
      exact Nat.lt_of_lt_of_le h1 hb.size
  · intro id b' hb' hrw id' r base base' h1 h2
    rw [hget] at hb'
    unfold upd at h1 h2
    split at h1 <;> split at h2
    · omega
    · simp at h1; have := hm.nums.lt _ _ _ h2; omega
    · simp at h2; have := hm.nums.lt _ _ _ h1; omega
    · rename_i e1 e2
      rw [if_neg (fun e => e1 e.symm)] at hb'
      exact hm.nums.inj id b' hb' hrw id' r base base' h1 h2
  · intro id hi
    have hi : h.next + 1 ≤ id := hi
    unfold upd
    rw [if_neg (by omega)]
    exact hm.nums.fresh id (by omega)
  · intro id b hb
    show id < h.next + 1
    rw [hget] at hb
    split at hb
    · omega
    · have := hm.nums.bound id b hb; omega
  · have := hm.nums.lo
    show h.lo ≤ h.next + 1
    omega
  · intro id b' hb' hS
    rw [hget] at hb'
    split at hb'
    · rename_i e
      subst e
      simp at hb'
      subst hb'
      exact ⟨b, 0, cs, ty, (0, 0), [], vs, post, by simp [upd], hcell, by simpa using hcs, rfl, ht _, fun _ => ⟨rfl, rfl⟩⟩
    · exact (hm.seen id b' hb' hS).mono hle fun r base hi => hb.block r (hm.nums.lt id r base hi)
  · intro id r base hn' hi
    unfold upd at hi
    split at hi
    · simp at hi; omega
    · rw [hn'] at hi; cases hi
  · intro id hi
    unfold upd
    rw [if_neg (by omega)]

/-- A call that leaves old memory as it is. -/
theorem goes_calm {S : Nat → Prop} {ν : Nu} {w w' : World} {h : H} (hm : Mem S ν w h) (hb : Below w.heap.size w w') : Goes S ν w h ν w' h :=
  ⟨Nu.le_refl _, ⟨⟨fun id r base h => Nat.lt_of_lt_of_le (hm.nums.lt id r base h) hb.size, hm.nums.inj, hm.nums.fresh, hm.nums.bound, hm.nums.lo, hm.nums.glob⟩, fun id b h1 h2 => (hm.seen id b h1 h2).mono (Nu.le_refl _) (fun r base h3 => hb.block r (hm.nums.lt id r base h3))⟩,
    ⟨hb.os, hb.tape, hb.output, hb.size, fun r hr _ => hb.block r hr⟩, fun id r base h h' => (by rw [h] at h'; cases h'), Ext.refl _, fun _ _ => rfl⟩

theorem enters25 : Enters Try.prog 25 := enters_of entW 25 _ Try.func25 (by simp [Try.f25])
theorem enters26 : Enters Try.prog 26 := enters_of entW 26 _ Try.func26 (by simp [Try.f26])

theorem bytes_rel {g : Nat → BitVec 64} {n : Nat} (ν : Nu) : (T.arr 1 (.sym n) (.int .u8 g)).rel ν (Ytnjjcklhpgfnjaa.Cop.bytesL (fun j => vof .u8 (g j)) n) := by
  simp only [T.rel]
  refine ⟨by simp [Ytnjjcklhpgfnjaa.Cop.bytesL, Ix.val], fun i hi => ?_⟩
  have hi : i < n := hi
  simp only [Sh.rel]
  rw [Nat.one_mul, List.take_one, List.head?_drop]
  simp [Ytnjjcklhpgfnjaa.Cop.bytesL, hi]

theorem copy_fn {id n : Nat} {c : Option Ix} {h : H} {rw : Bool} {g : Nat → BitVec 64} (hb : h.m.get id = some ⟨rw, .arr 1 (.sym n) (.int .u8 g)⟩) (h0 : 0 < n) (hn : n ≤ CC) :
    FnOK Try.prog 25 [slV id n c] h (.t (.a (.sl h.next [] 1 (.lit 0) (.sym n) none))) ((h.see id).new ⟨true, .arr 1 (.sym n) (.int .u8 g)⟩) := by
  intro S ν w vs hrd _ hm hargs
  match vs, hargs with
  | [v0], ⟨r0, _⟩ =>
    have r0 : (A.sl id [] 1 (.lit 0) (.sym n) c).rel ν v0 := r0
    simp only [A.rel] at r0
    obtain ⟨b, base, o, c', hid, rfl, ho, hl, _⟩ := r0
    have hrd' : ∀ i, i ∈ (h.see id).rd → S i := hrd
    obtain ⟨r, base', hid', hr, hc⟩ := seen_cell (hm.seen id _ hb (see_seen hrd'))
    rw [hid] at hid'
    cases hid'
    have ho := ho (by simp only [Ix.val] at hl; omega)
    have ho : o = base := by simpa [Ix.val, pathOff] using ho
    subst ho
    refine (Ytnjjcklhpgfnjaa.Cop.copy_any b o n c' (fun j => vof .u8 (g j)) w (Nat.le_trans hn (by decide)) hr (fun j hj => hc j hj)).mono ?_
    rintro e w' ⟨v, rfl, hown, hbel, _⟩
    obtain ⟨_, hcase⟩ := hown
    rcases hcase with ⟨_, e0⟩ | ⟨b', cap', cur, rfl, hge, hh, hncap, hcap, hsz, htake⟩
    · omega
    · refine ⟨_, upd ν h.next (b', 0), rfl, ?_, ?_⟩
      · show (A.sl h.next [] 1 (.lit 0) (.sym n) none).rel _ _
        simp only [A.rel]
        exact ⟨b', 0, 0, cap', by simp [upd], rfl, fun _ => rfl, hncap, fun _ e => by cases e⟩
      · have hs := hm.see id
        have hm' : Mem S ν w (h.see id) := hs.mem
        refine hs.trans ?_
        exact goes_made (h := h.see id) (post := cur.toList.drop n) hm' hbel hge hh (by rw [Nat.mul_one] at htake; rw [← htake, List.take_append_drop]) (fun ν' => bytes_rel ν')

theorem same_fn {id id' : Nat} {st len st' len' : Ix} {c c' : Option Ix} {h : H} {rw rw' : Bool} {m m' : Ix} {g g' : Nat → BitVec 64} (hb : h.m.get id = some ⟨rw, .arr 1 m (.int .u8 g)⟩) (hb' : h.m.get id' = some ⟨rw', .arr 1 m' (.int .u8 g')⟩)
    (h1 : st.val + len.val ≤ m.val) (h2 : st'.val + len'.val ≤ m'.val) (h3 : len.val ≤ CC) (h4 : len'.val ≤ CC) :
    FnOK Try.prog 26 [.t (.a (.sl id [] 1 st len c)), .t (.a (.sl id' [] 1 st' len' c'))] h (.t (.a (.b (sameD len.val len'.val (fun j => g (st.val + j)) (fun j => g' (st'.val + j)))))) ((h.see id).see id') := by
  intro S ν w vs hrd _ hm hargs
  match vs, hargs with
  | [v0, v1], ⟨r0, r1, _⟩ =>
    have r0 : (A.sl id [] 1 st len c).rel ν v0 := r0
    have r1 : (A.sl id' [] 1 st' len' c').rel ν v1 := r1
    simp only [A.rel] at r0 r1
    obtain ⟨b, base, o, k, hid, rfl, ho, hl, _⟩ := r0
    obtain ⟨b', base', o', k', hid', rfl, ho', hl', _⟩ := r1
    have hs1 := hm.see id
    have hrd1 : ∀ i, i ∈ ((h.see id).see id').rd → S i := hrd
    have hrd0 : ∀ i, i ∈ (h.see id).rd → S i := fun i hi => hrd i ((see_ext (h.see id) id').rd i hi)
    obtain ⟨r, bs, hi1, hr, hc⟩ := seen_cell (hm.seen id _ hb (see_seen hrd0))
    obtain ⟨r', bs', hi2, hr', hc'⟩ := seen_cell (hs1.mem.seen id' _ hb' (see_seen hrd1))
    rw [hid] at hi1
    rw [hid'] at hi2
    cases hi1
    cases hi2
    refine (Ytnjjcklhpgfnjaa.Cop.same_any _ _ len.val k len'.val k' (fun j => vof .u8 (g (st.val + j))) (fun j => vof .u8 (g' (st'.val + j))) w (Nat.le_trans h3 (by decide)) (Nat.le_trans h4 (by decide)) (fun j hj => ⟨b, o, rfl, ?_⟩) (fun j hj => ⟨b', o', rfl, ?_⟩)).mono ?_
    · have e : o = base + st.val := by simpa [pathOff] using ho (by omega)
      rw [e, Nat.add_assoc]
      exact hc (st.val + j) (by omega)
    · have e : o' = base' + st'.val := by simpa [pathOff] using ho' (by omega)
      rw [e, Nat.add_assoc]
      exact hc' (st'.val + j) (by omega)
    · rintro e w' ⟨rfl, hbel⟩
      refine ⟨_, ν, rfl, ?_, ?_⟩
      · show (A.b _).rel ν _
        simp only [A.rel]
        rfl
      · have g1 := goes_calm hm hbel
        exact (g1.trans (g1.mem.see id)).trans ((g1.mem.see id).mem.see id')

theorem same_nil_fn {id : Nat} {st len : Ix} {c : Option Ix} (h0 : len.val = 0) (h : H) : FnOK Try.prog 26 [.t (.a .nils), .t (.a (.sl id [] 1 st len c))] h (.t (.a .tt)) h := by
  intro S ν w vs hrd _ hm hargs
  match vs, hargs with
  | [v0, v1], ⟨r0, r1, _⟩ =>
    have r0 : (A.nils).rel ν v0 := r0
    have r1 : (A.sl id [] 1 st len c).rel ν v1 := r1
    simp only [A.rel] at r0 r1
    obtain ⟨b, base, o, k, hid, rfl, ho, hl, _⟩ := r1
    subst r0
    rw [h0]
    refine (Ytnjjcklhpgfnjaa.Cop.same_any none (some ⟨b, o, none⟩) 0 0 0 k (fun _ => 0) (fun _ => 0) w (by decide) (by decide) (fun j hj => absurd hj (Nat.not_lt_zero _)) (fun j hj => absurd hj (Nat.not_lt_zero _))).mono ?_
    rintro e w' ⟨rfl, hbel⟩
    refine ⟨_, ν, rfl, ?_, goes_calm hm hbel⟩
    show (A.tt).rel ν _
    simp only [A.rel]
    simp
theorem copy0_fn {id : Nat} {c : Option Ix} (h : H) : FnOK Try.prog 25 [slV id 0 c] h (.t (.a .nils)) h := by
  intro S ν w vs hrd _ hm hargs
  match vs, hargs with
  | [v0], ⟨r0, _⟩ =>
    have r0 : (A.sl id [] 1 (.lit 0) (.sym 0) c).rel ν v0 := r0
    simp only [A.rel] at r0
    obtain ⟨b, base, o, k, hid, rfl, ho, hl, _⟩ := r0
    refine (Ytnjjcklhpgfnjaa.Cop.copy_empty (some ⟨b, o, none⟩) k w).mono ?_
    rintro e w' ⟨rfl, hbel⟩
    refine ⟨_, ν, rfl, ?_, goes_calm hm hbel⟩
    show (A.nils).rel ν _
    simp only [A.rel]

theorem copyΓ_ok {Γ : Gam} (hΓ : ΓOK Try.prog Γ) : ΓOK Try.prog (copyΓ Γ) where
  ok := by
    intro f args h r ok v h' hr hp hok
    unfold copyΓ at hr
    split at hr
    · rename_i hg
      have hg := Go.WE.beq_true hg
      subst hg
      split at hr
      · split at hr
        · rename_i hb
          cases hr
          simp only [R.pick, Option.some.injEq, Prod.mk.injEq] at hp
          obtain ⟨rfl, rfl, rfl⟩ := hp
          have hok : (Nat.blt 0 _ && (Nat.beq _ _ && Nat.ble _ CC)) = true := hok
          simp only [Bool.and_eq_true] at hok
          have e := Go.WE.beq_true hok.2.1
          subst e
          exact .inl ⟨enters25, copy_fn hb (Nat.le_of_ble_eq_true hok.1) (Nat.le_of_ble_eq_true hok.2.2)⟩
        · cases hr
      · cases hr
    · exact hΓ.ok f args h r ok v h' hr hp hok
  pan := by
    intro f args h r ok v h' hr hp hok
    unfold copyΓ at hr
    split at hr
    · split at hr
      · split at hr
        · cases hr; simp [R.pickP] at hp
        · cases hr
      · cases hr
    · exact hΓ.pan f args h r ok v h' hr hp hok
  ext := by
    intro f args h r hr hlo
    unfold copyΓ at hr
    split at hr
    · split at hr
      · split at hr
        · rename_i id _ _ _ _ _ _ _
          cases hr
          exact (see_ext h id).trans (new_ext (h := h.see id) hlo _)
        · cases hr
      · cases hr
    · exact hΓ.ext f args h r hr hlo

theorem copy0Γ_ok {Γ : Gam} (hΓ : ΓOK Try.prog Γ) : ΓOK Try.prog (copy0Γ Γ) where
  ok := by
    intro f args h r ok v h' hr hp hok
    unfold copy0Γ at hr
    split at hr
    · rename_i hg
      have hg := Go.WE.beq_true hg
      subst hg
      split at hr
      · cases hr
        simp only [R.pick, Option.some.injEq, Prod.mk.injEq] at hp
        obtain ⟨rfl, rfl, rfl⟩ := hp
        have hok : Nat.beq _ 0 = true := hok
        have e := Go.WE.beq_true hok
        subst e
        exact .inl ⟨enters25, copy0_fn _⟩
      · cases hr
    · exact hΓ.ok f args h r ok v h' hr hp hok
  pan := by
    intro f args h r ok v h' hr hp hok
    unfold copy0Γ at hr
    split at hr
    · split at hr
      · cases hr; simp [R.pickP] at hp
      · cases hr
    · exact hΓ.pan f args h r ok v h' hr hp hok
  ext := by
    intro f args h r hr hlo
    unfold copy0Γ at hr
    split at hr
    · split at hr
      · cases hr; exact Ext.refl _
      · cases hr
    · exact hΓ.ext f args h r hr hlo

theorem sameΓ_ok {Γ : Gam} (hΓ : ΓOK Try.prog Γ) : ΓOK Try.prog (sameΓ Γ) where
  ok := by
    intro f args h r ok v h' hr hp hok
    unfold sameΓ at hr
    split at hr
    · rename_i hg
      have hg := Go.WE.beq_true hg
      subst hg
      split at hr
      · split at hr
        · rename_i hb hb'
          cases hr
          simp only [R.pick, Option.some.injEq, Prod.mk.injEq] at hp
          obtain ⟨rfl, rfl, rfl⟩ := hp
          have hok : (Nat.ble _ _ && (Nat.ble _ _ && (Nat.ble _ CC && Nat.ble _ CC))) = true := hok
          simp only [Bool.and_eq_true] at hok
          exact .inl ⟨enters26, same_fn hb hb' (Nat.le_of_ble_eq_true hok.1) (Nat.le_of_ble_eq_true hok.2.1) (Nat.le_of_ble_eq_true hok.2.2.1) (Nat.le_of_ble_eq_true hok.2.2.2)⟩
        · cases hr
      · cases hr
        simp only [R.pick, Option.some.injEq, Prod.mk.injEq] at hp
        obtain ⟨rfl, rfl, rfl⟩ := hp
        have hok : Nat.beq _ 0 = true := hok
        exact .inl ⟨enters26, same_nil_fn (Go.WE.beq_true hok) _⟩
      · exact hΓ.ok _ args h r ok v h' hr hp hok
    · exact hΓ.ok f args h r ok v h' hr hp hok
  pan := by
    intro f args h r ok v h' hr hp hok
    unfold sameΓ at hr
    split at hr
    · split at hr
      · split at hr
        · cases hr; simp [R.pickP] at hp
        · cases hr
      · cases hr; simp [R.pickP] at hp
      · exact hΓ.pan f args h r ok v h' hr hp hok
    · exact hΓ.pan f args h r ok v h' hr hp hok
  ext := by
    intro f args h r hr hlo
    unfold sameΓ at hr
    split at hr
    · split at hr
      · split at hr
        · cases hr; exact (see_ext _ _).trans (see_ext _ _)
        · cases hr
      · cases hr; exact Ext.refl _
      · exact hΓ.ext f args h r hr hlo
    · exact hΓ.ext f args h r hr hlo

noncomputable def cxB : Cx := { P := Try.prog, eqT := eqTab [], it := 9 }
theorem XB {Γ : Gam} (h : ΓOK Try.prog Γ) : CxOK cxB Γ := ⟨eqOK_of (cx := cxB) (l := []) (by kernel_rfl) rfl, h, noDfr_ok, noLam _ _ _ _, enters_of entW⟩
theorem work_ev : (evalF cxW noΓ 400 20 12 [] H.none).res = some (.tt, .t (.a .tt)) := by kernel_rfl
theorem work_ok {Γ : Gam} (hΓ : ΓOK Try.prog Γ) : ΓOK Try.prog (specG 12 workS Γ) := by
  refine specG_ok (fun args ok v h hok => ?_) hΓ
  unfold workS at h
  split at h
  · simp only [Option.some.injEq, Prod.mk.injEq] at h
    obtain ⟨rfl, rfl⟩ := h
    exact pure_of_eval (XW noΓ_ok) rfl work_ev rfl rfl rfl
  · cases h
def ΓL : Gam := specG 12 workS noΓ
def ΓB (fit : Bool) : Gam := copyΓ (sameΓ (pieceΓ fit ΓL))
theorem ΓL_ok : ΓOK Try.prog ΓL := work_ok noΓ_ok
theorem ΓB_ok (fit : Bool) : ΓOK Try.prog (ΓB fit) := copyΓ_ok (sameΓ_ok (pieceΓ_ok ΓL_ok))
def hB (n : Nat) (g : Nat → BitVec 64) : H := hM [(0, ⟨false, .arr 1 (.sym n) (.int .u8 g)⟩)] 1

/-! ### no list -/

def pbad0 (a s : BitVec 64) : Bool := cond (cond (!(BitVec.sle (KK 0) (idxB s))) true (BitVec.slt a (KK 0))) true (BitVec.slt (KK 0 - s) a)
noncomputable def evP0 (a s : BitVec 64) : R := evalF cxW noΓ 400 20 42 [.t (.a .nils), ui a, ui s] H.none
theorem pc0 (a s : BitVec 64) : (evP0 a s).cnd = some (pbad0 a s) := by kernel_rfl
theorem pv0 (a s : BitVec 64) : (evP0 a s).atV true = some (.tt, .t (.a .nils)) := by kernel_rfl
def pnilS : List V → Option (A × V)
  | [.t (.a .nils), .t (.a (.i .i64 a)), .t (.a (.i .i64 s))] => some (.b (pbad0 a s), .t (.a .nils))
  | _ => none
theorem pnil_ok {Γ : Gam} (hΓ : ΓOK Try.prog Γ) : ΓOK Try.prog (specG 42 pnilS Γ) := by
  refine specG_ok (fun args ok v h hok => ?_) hΓ
  unfold pnilS at h
  split at h
  · rename_i a s
    simp only [Option.some.injEq, Prod.mk.injEq] at h
    obtain ⟨rfl, rfl⟩ := h
    have hb : pbad0 a s = true := hok
    obtain ⟨h', hp⟩ := R.atV_some ((pc0 a s).trans (by rw [hb])) (pv0 a s)
    obtain ⟨h1, h2⟩ := evalF_fn (XW noΓ_ok) rfl hp rfl
    exact .inl ⟨h1, fnOK_any h2 rfl rfl⟩
  · cases h
def ΓZ : Gam := specG 42 pnilS ΓL
theorem ΓZ_ok : ΓOK Try.prog ΓZ := pnil_ok ΓL_ok
def Γ0 : Gam := copy0Γ (sameΓ ΓZ)
theorem Γ0_ok : ΓOK Try.prog Γ0 := copy0Γ_ok (sameΓ_ok ΓZ_ok)
end Go.WE
