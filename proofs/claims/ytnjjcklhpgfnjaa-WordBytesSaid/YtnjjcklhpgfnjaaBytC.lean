/- Words' bytes: LentBytes, KeptBytes, ref.Put and its there as contracts. -/
import Derived.Test.YtnjjcklhpgfnjaaListC
import Derived.Test.YtnjjcklhpgfnjaaPutR
namespace Go.WE
set_option linter.unusedVariables false
open Go Go.Proofs
open Go.RowKit (Below)

/-- A list with five marks behind it. -/
def lentB (g : Nat → BitVec 64) (n j : Nat) : BitVec 64 := bif Nat.blt j n then g j else BitVec.ofNat 64 (201 + 7 * (j - n))
def putB (g : Nat → BitVec 64) (a s : Nat) (v : BitVec 64) (j : Nat) : BitVec 64 := bif Nat.ble a j && Nat.blt j (a + s) then v >>> (8 * (j - a)) else g j
def keptD (n : Nat) (g g' : Nat → BitVec 64) : Bool := decide (Ytnjjcklhpgfnjaa.Cop.keptP n (fun j => vof .u8 (g j)) (fun j => vof .u8 (g' j)))
def thereD (n : Nat) (a s : BitVec 64) : Bool := decide (Ytnjjcklhpgfnjaa.Cop.thereP n (vof .i64 a) (vof .i64 s))

def lentΓ (Γ : Gam) : Gam := fun f args h => match Nat.beq f 19 with
  | true => match args with
    | [.t (.a (.sl id [] 1 (.lit 0) (.sym n) _))] => match h.m.get id with
      | some ⟨_, .arr 1 (.sym m) (.int .u8 g)⟩ => some (.leaf (.b (Nat.blt 0 n && (Nat.beq n m && Nat.ble n CC))) (.t (.a (.sl h.next [] 1 (.lit 0) (.sym (n + 5)) none))) ((h.see id).new ⟨true, .arr 1 (.sym (n + 5)) (.int .u8 (lentB g n))⟩))
      | some _ => none
      | none => some (.leaf (.b (Nat.beq n 0)) (.t (.a (.sl h.next [] 1 (.lit 0) (.sym 5) none))) (h.new ⟨true, .arr 1 (.sym 5) (.int .u8 (lentB (fun _ => 0#64) 0))⟩))
    | [.t (.a .nils)] => some (.leaf .tt (.t (.a (.sl h.next [] 1 (.lit 0) (.sym 5) none))) (h.new ⟨true, .arr 1 (.sym 5) (.int .u8 (lentB (fun _ => 0#64) 0))⟩))
    | _ => none
  | false => Γ f args h

def keptΓ (Γ : Gam) : Gam := fun f args h => match Nat.beq f 22 with
  | true => match args with
    | [.t (.a (.sl id [] 1 (.lit 0) (.sym m) _)), .t (.a (.sl id' [] 1 (.lit 0) (.sym n) _))] => match h.m.get id with
      | some ⟨_, .arr 1 m0 (.int .u8 g)⟩ => match h.m.get id' with
        | some ⟨_, .arr 1 m1 (.int .u8 g')⟩ => some (.leaf (.b (Nat.beq m (n + 5) && (Nat.ble m m0.val && (Nat.ble n m1.val && Nat.ble n CC)))) (.t (.a (.b (keptD n g g')))) ((h.see id).see id'))
        | some _ => none
        | none => some (.leaf (.b (Nat.beq n 0 && (Nat.beq m 5 && Nat.ble m m0.val))) (.t (.a (.b (keptD 0 g (fun _ => 0#64))))) (h.see id))
      | _ => none
    | [.t (.a (.sl id [] 1 (.lit 0) (.sym m) _)), .t (.a .nils)] => match h.m.get id with
      | some ⟨_, .arr 1 m0 (.int .u8 g)⟩ => some (.leaf (.b (Nat.beq m 5 && Nat.ble m m0.val)) (.t (.a (.b (keptD 0 g (fun _ => 0#64))))) (h.see id))
      | _ => none
    | _ => none
  | false => Γ f args h

def thereΓ (fit : Bool) (Γ : Gam) : Gam := fun f args h => match Nat.beq f 43 with
  | true => match args with
    | [.t (.a (.sl _ [] 1 (.lit 0) (.sym n) _)), .t (.a (.i .i64 a)), .t (.a sv)] => match fit with
      | true => match sv with
        | .lit .i64 (.ofNat size) => some (.leaf (.b (fitB n a size && (Nat.ble n CC && isSize size))) (.t (.a .tt)) h)
        | _ => none
      | false => match sv with
        | .i .i64 s => some (.leaf (.b (Nat.ble n CC && !thereD n a s)) (.t (.a .ff)) h)
        | _ => none
    | [.t (.a .nils), .t (.a (.i .i64 a)), .t (.a (.i .i64 s))] => some (.leaf (.b (!thereD 0 a s)) (.t (.a .ff)) h)
    | _ => none
  | false => Γ f args h

def putΓ (fit : Bool) (Γ : Gam) : Gam := fun f args h => match Nat.beq f 23 with
  | true => match args with
    | [.t (.a (.sl id [] 1 (.lit 0) (.sym n) _)), .t (.a (.i .i64 a)), .t (.a sv), .t (.a (.i .u64 v))] => match h.m.get id with
      | some ⟨_, .arr 1 (.sym m) (.int .u8 g)⟩ => match fit with
        | true => match sv with
          | .lit .i64 (.ofNat size) => some (.leaf (.b (fitB n a size && (Nat.ble n CC && (isSize size && Nat.beq n m)))) (.tup [.a (.sl h.next [] 1 (.lit 0) (.sym n) none), .a .tt]) ((h.see id).new ⟨true, .arr 1 (.sym n) (.int .u8 (putB g a.toNat size v))⟩))
          | _ => none
        | false => match sv with
          | .i .i64 s => some (.leaf (.b (Nat.blt 0 n && (Nat.ble n CC && (Nat.beq n m && !thereD n a s)))) (.tup [.a (.sl h.next [] 1 (.lit 0) (.sym n) none), .a .ff]) ((h.see id).new ⟨true, .arr 1 (.sym n) (.int .u8 g)⟩))
          | _ => none
      | some _ => none
      | none => match sv with
        | .i .i64 s => some (.leaf (.b (Nat.beq n 0 && !thereD 0 a s)) (.tup [.a .nils, .a .ff]) h)
        | _ => none
    | [.t (.a .nils), .t (.a (.i .i64 a)), .t (.a (.i .i64 s)), .t (.a (.i .u64 v))] => some (.leaf (.b (!thereD 0 a s)) (.tup [.a .nils, .a .ff]) h)
    | _ => none
  | false => Γ f args h

theorem enters19 : Enters Try.prog 19 := enters_of entW 19 _ Try.func19 (by simp [Try.f19])
theorem enters22 : Enters Try.prog 22 := enters_of entW 22 _ Try.func22 (by simp [Try.f22])
theorem enters23 : Enters Try.prog 23 := enters_of entW 23 _ Try.func23 (by simp [Try.f23])
theorem enters43 : Enters Try.prog 43 := enters_of entW 43 _ Try.func43 (by simp [Try.f43])

/-! ### LentBytes -/

theorem lentB_vof (g : Nat → BitVec 64) (n j : Nat) (hj : j < n + 5) : vof .u8 (lentB g n j) = Ytnjjcklhpgfnjaa.Cop.lentG (fun j => vof .u8 (g j)) n j := by
  unfold lentB Ytnjjcklhpgfnjaa.Cop.lentG
  by_cases h : j < n
  · have hb : Nat.blt j n = true := Nat.ble_eq_true_of_le h
    rw [hb, if_pos h]
    rfl
  · have hb : Nat.blt j n = false := by
      cases e : Nat.blt j n
      · rfl
      · exact absurd (Nat.le_of_ble_eq_true e) h
    rw [hb, if_neg h, cond_false]
    obtain ⟨d, rfl⟩ : ∃ d, j = n + d := ⟨j - n, by omega⟩
    rw [Nat.add_sub_cancel_left]
    match d, (by omega : d < 5) with
    | 0, _ | 1, _ | 2, _ | 3, _ | 4, _ => rfl
theorem bytesL_congr {g g' : Nat → Int} {n : Nat} (h : ∀ j, j < n → g j = g' j) : Ytnjjcklhpgfnjaa.Cop.bytesL g n = Ytnjjcklhpgfnjaa.Cop.bytesL g' n := by
  unfold Ytnjjcklhpgfnjaa.Cop.bytesL
  refine List.map_congr_left fun j hj => ?_
  rw [h j (List.mem_range.1 hj)]

/-- A list that a call has made. -/
theorem made_list {S : Nat → Prop} {ν : Nu} {w w' : World} {h : H} {v : Value} {n : Nat} {g : Nat → BitVec 64} {z : Nat → Int} (hm : Mem S ν w h) (hbel : Below w.heap.size w w') (h0 : 0 < n) (hz : ∀ j, j < n → z j = vof .u8 (g j))
    (hown : w'.ownsRow w.heap.size 5 1 v n (Ytnjjcklhpgfnjaa.Cop.bytesL z n)) : ∃ ν', (slV h.next n none).rel ν' v ∧ Goes S ν w h ν' w' (h.new ⟨true, .arr 1 (.sym n) (.int .u8 g)⟩) := by
  rw [bytesL_congr hz] at hown
  obtain ⟨_, hcase⟩ := hown
  rcases hcase with ⟨_, e0⟩ | ⟨b', cap', cur, rfl, hge, hh, hncap, hcap, hsz, htake⟩
  · omega
  · refine ⟨upd ν h.next (b', 0), ?_, ?_⟩
    · show (A.sl h.next [] 1 (.lit 0) (.sym n) none).rel _ _
      simp only [A.rel]
      exact ⟨b', 0, 0, cap', by simp [upd], rfl, fun _ => rfl, hncap, fun _ e => by cases e⟩
    · exact goes_made (post := cur.toList.drop n) hm hbel hge hh (by rw [Nat.mul_one] at htake; rw [← htake, List.take_append_drop]) (fun ν' => bytes_rel ν')

theorem lent_fn {id n : Nat} {c : Option Ix} {h : H} {rw : Bool} {g : Nat → BitVec 64} (hb : h.m.get id = some ⟨rw, .arr 1 (.sym n) (.int .u8 g)⟩) (h0 : 0 < n) (hn : n ≤ CC) :
    FnOK Try.prog 19 [slV id n c] h (slV h.next (n + 5) none) ((h.see id).new ⟨true, .arr 1 (.sym (n + 5)) (.int .u8 (lentB g n))⟩) := by
  intro S ν w vs hrd _ hm hargs
  match vs, hargs with
  | [v0], ⟨r0, _⟩ =>
    have r0 : (A.sl id [] 1 (.lit 0) (.sym n) c).rel ν v0 := r0
    simp only [A.rel] at r0
    obtain ⟨b, base, o, c', hid, rfl, ho, hl, _⟩ := r0
    have hrd' : ∀ i, i ∈ (h.see id).rd → S i := hrd
    obtain ⟨r, base', hid', hr, hc⟩ := seen_cell (hm.seen id _ hb (see_seen hrd'))
    rw [hid] at hid'
    cases hid'
    have ho := ho (by simp only [Ix.val] at hl; omega)
    have ho : o = base := by simpa [Ix.val, pathOff] using ho
    subst ho
    refine (Ytnjjcklhpgfnjaa.Cop.lent_any b o n c' (fun j => vof .u8 (g j)) w (Nat.le_trans hn (by decide)) hr h0 (fun j hj => hc j hj)).mono ?_
    rintro e w' ⟨v, rfl, hown, hbel⟩
    have hs := hm.see id
    obtain ⟨ν', h1, h2⟩ := made_list (h := h.see id) (g := lentB g n) hs.mem hbel (by omega) (fun j hj => (lentB_vof g n j hj).symm) hown
    exact ⟨_, ν', rfl, h1, hs.trans h2⟩

theorem lent0_made {S : Nat → Prop} {ν : Nu} {w : World} {h : H} (hm : Mem S ν w h) (a : Option Addr) (cap : Nat) :
    Calls Try.prog 19 #[.slice a 0 cap] w fun e w' => ∃ u ν', e = .returned u ∧ (slV h.next 5 none).rel ν' u ∧ Goes S ν w h ν' w' (h.new ⟨true, .arr 1 (.sym 5) (.int .u8 (lentB (fun _ => 0#64) 0))⟩) := by
  refine (Ytnjjcklhpgfnjaa.Cop.lent_empty a cap w).mono ?_
  rintro e w' ⟨v, rfl, hown, hbel⟩
  obtain ⟨ν', h1, h2⟩ := made_list (g := lentB (fun _ => 0#64) 0) hm hbel (by omega) (fun j hj => (lentB_vof _ 0 j (by omega)).symm) hown
  exact ⟨_, ν', rfl, h1, h2⟩
theorem lent0_fn {id : Nat} {c : Option Ix} (h : H) : FnOK Try.prog 19 [slV id 0 c] h (slV h.next 5 none) (h.new ⟨true, .arr 1 (.sym 5) (.int .u8 (lentB (fun _ => 0#64) 0))⟩) := by
  intro S ν w vs _ _ hm hargs
  match vs, hargs with
  | [v0], ⟨r0, _⟩ =>
    have r0 : (A.sl id [] 1 (.lit 0) (.sym 0) c).rel ν v0 := r0
    simp only [A.rel] at r0
    obtain ⟨b, base, o, k, hid, rfl, ho, hl, _⟩ := r0
    exact lent0_made hm _ _
theorem lentN_fn (h : H) : FnOK Try.prog 19 [.t (.a .nils)] h (slV h.next 5 none) (h.new ⟨true, .arr 1 (.sym 5) (.int .u8 (lentB (fun _ => 0#64) 0))⟩) := by
  intro S ν w vs _ _ hm hargs
  match vs, hargs with
  | [v0], ⟨r0, _⟩ =>
    have r0 : (A.nils).rel ν v0 := r0
    simp only [A.rel] at r0
    subst r0
    exact lent0_made hm _ _
theorem lentΓ_ok {Γ : Gam} (hΓ : ΓOK Try.prog Γ) : ΓOK Try.prog (lentΓ Γ) where
  ok := by
    intro f args h r ok v h' hr hp hok
    unfold lentΓ at hr
    split at hr
    · rename_i hg
      have hg := Go.WE.beq_true hg
      subst hg
      split at hr
      · split at hr
        · rename_i hb
          cases hr
          simp only [R.pick, Option.some.injEq, Prod.mk.injEq] at hp
          obtain ⟨rfl, rfl, rfl⟩ := hp
          have hok : (Nat.blt 0 _ && (Nat.beq _ _ && Nat.ble _ CC)) = true := hok
          simp only [Bool.and_eq_true] at hok
          have e := Go.WE.beq_true hok.2.1
          subst e
          exact .inl ⟨enters19, lent_fn hb (Nat.le_of_ble_eq_true hok.1) (Nat.le_of_ble_eq_true hok.2.2)⟩
        · cases hr
        · cases hr
          simp only [R.pick, Option.some.injEq, Prod.mk.injEq] at hp
          obtain ⟨rfl, rfl, rfl⟩ := hp
          have hok : Nat.beq _ 0 = true := hok
          have e := Go.WE.beq_true hok
          subst e
          exact .inl ⟨enters19, lent0_fn _⟩
      · cases hr
        simp only [R.pick, Option.some.injEq, Prod.mk.injEq] at hp
        obtain ⟨rfl, rfl, rfl⟩ := hp
        exact .inl ⟨enters19, lentN_fn _⟩
      · cases hr
    · exact hΓ.ok f args h r ok v h' hr hp hok
  pan := by
    intro f args h r ok v h' hr hp hok
    unfold lentΓ at hr
    split at hr
    · split at hr
      · split at hr
        · cases hr; simp [R.pickP] at hp
        · cases hr
        · cases hr; simp [R.pickP] at hp
      · cases hr; simp [R.pickP] at hp
      · cases hr
    · exact hΓ.pan f args h r ok v h' hr hp hok
  ext := by
    intro f args h r hr hlo
    unfold lentΓ at hr
    split at hr
    · split at hr
      · split at hr
        · rename_i id _ _ _ _ _ _ _
          cases hr
          exact (see_ext h id).trans (new_ext (h := h.see id) hlo _)
        · cases hr
        · cases hr; exact new_ext hlo _
      · cases hr; exact new_ext hlo _
      · cases hr
    · exact hΓ.ext f args h r hr hlo

/-! ### KeptBytes -/

theorem kept_ret {S : Nat → Prop} {ν : Nu} {w w' : World} {h h' : H} {b : Bool} (hbel : Below w.heap.size w w') (hm : Mem S ν w h) (hs : ∀ w', Goes S ν w h ν w' h → Goes S ν w h ν w' h') :
    ∃ u ν', Ending.returned (.bool b) = .returned u ∧ (V.t (.a (.b b))).rel ν' u ∧ Goes S ν w h ν' w' h' := by
  refine ⟨_, ν, rfl, ?_, hs _ (goes_calm hm hbel)⟩
  show (A.b _).rel ν _
  simp only [A.rel]
theorem kept_fn {id id' m n : Nat} {c c' : Option Ix} {h : H} {rw rw' : Bool} {m0 m1 : Ix} {g g' : Nat → BitVec 64} (hb : h.m.get id = some ⟨rw, .arr 1 m0 (.int .u8 g)⟩) (hb' : h.m.get id' = some ⟨rw', .arr 1 m1 (.int .u8 g')⟩)
    (hmn : m = n + 5) (h1 : m ≤ m0.val) (h2 : n ≤ m1.val) (h3 : n ≤ CC) :
    FnOK Try.prog 22 [slV id m c, slV id' n c'] h (.t (.a (.b (keptD n g g')))) ((h.see id).see id') := by
  subst hmn
  intro S ν w vs hrd _ hm hargs
  match vs, hargs with
  | [v0, v1], ⟨r0, r1, _⟩ =>
    have r0 : (A.sl id [] 1 (.lit 0) (.sym (n + 5)) c).rel ν v0 := r0
    have r1 : (A.sl id' [] 1 (.lit 0) (.sym n) c').rel ν v1 := r1
    simp only [A.rel] at r0 r1
    obtain ⟨b, base, o, k, hid, rfl, ho, hl, _⟩ := r0
    obtain ⟨b', base', o', k', hid', rfl, ho', hl', _⟩ := r1
    have hs1 := hm.see id
    have hrd1 : ∀ i, i ∈ ((h.see id).see id').rd → S i := hrd
    have hrd0 : ∀ i, i ∈ (h.see id).rd → S i := fun i hi => hrd i ((see_ext (h.see id) id').rd i hi)
    obtain ⟨r, bs, hi1, hr, hc⟩ := seen_cell (hm.seen id _ hb (see_seen hrd0))
    obtain ⟨r', bs', hi2, hr', hc'⟩ := seen_cell (hs1.mem.seen id' _ hb' (see_seen hrd1))
    rw [hid] at hi1
    rw [hid'] at hi2
    cases hi1
    cases hi2
    have e : o = base := by simpa [pathOff, Ix.val] using ho (by simp only [Ix.val] at hl; omega)
    refine (Ytnjjcklhpgfnjaa.Cop.kept_any b o k (some ⟨b', o', none⟩) n k' (fun j => vof .u8 (g j)) (fun j => vof .u8 (g' j)) w (Nat.le_trans h3 (by decide)) hl (fun j hj => ?_) (fun j hj => ⟨b', o', rfl, ?_⟩)).mono ?_
    · rw [e]
      exact hc j (by omega)
    · have e : o' = base' := by simpa [pathOff, Ix.val] using ho' (by simp only [Ix.val] at hl'; omega)
      rw [e]
      exact hc' j (by omega)
    · rintro e w' ⟨rfl, hbel⟩
      have g1 := goes_calm hm hbel
      refine ⟨_, ν, rfl, ?_, (g1.trans (g1.mem.see id)).trans ((g1.mem.see id).mem.see id')⟩
      show (A.b _).rel ν _
      simp only [A.rel]
      rfl
theorem kept0_calls {S : Nat → Prop} {ν : Nu} {w : World} {h : H} {id : Nat} {c : Option Ix} {rw : Bool} {m0 : Ix} {g : Nat → BitVec 64} (hb : h.m.get id = some ⟨rw, .arr 1 m0 (.int .u8 g)⟩) (h1 : 5 ≤ m0.val) (hrd : ∀ i, i ∈ (h.see id).rd → S i) (hm : Mem S ν w h)
    {v0 : Value} (r0 : (slV id 5 c).rel ν v0) (a : Option Addr) (k' : Nat) : Calls Try.prog 22 #[v0, .slice a 0 k'] w fun e w' => ∃ u ν', e = .returned u ∧ (V.t (.a (.b (keptD 0 g (fun _ => 0#64))))).rel ν' u ∧ Goes S ν w h ν' w' (h.see id) := by
  have r0 : (A.sl id [] 1 (.lit 0) (.sym 5) c).rel ν v0 := r0
  simp only [A.rel] at r0
  obtain ⟨b, base, o, k, hid, rfl, ho, hl, _⟩ := r0
  obtain ⟨r, bs, hi1, hr, hc⟩ := seen_cell (hm.seen id _ hb (see_seen hrd))
  rw [hid] at hi1
  cases hi1
  have e : o = base := by simpa [pathOff, Ix.val] using ho (by simp only [Ix.val] at hl; omega)
  refine (Ytnjjcklhpgfnjaa.Cop.kept_any b o k a 0 k' (fun j => vof .u8 (g j)) (fun j => vof .u8 0#64) w (by decide) hl (fun j hj => ?_) (fun j hj => absurd hj (Nat.not_lt_zero _))).mono ?_
  · rw [e]
    exact hc j (by omega)
  · rintro e w' ⟨rfl, hbel⟩
    have g1 := goes_calm hm hbel
    refine ⟨_, ν, rfl, ?_, g1.trans (g1.mem.see id)⟩
    show (A.b _).rel ν _
    simp only [A.rel]
    rfl
theorem kept0_fn {id id' : Nat} {c c' : Option Ix} {h : H} {rw : Bool} {m0 : Ix} {g : Nat → BitVec 64} (hb : h.m.get id = some ⟨rw, .arr 1 m0 (.int .u8 g)⟩) (h1 : 5 ≤ m0.val) :
    FnOK Try.prog 22 [slV id 5 c, slV id' 0 c'] h (.t (.a (.b (keptD 0 g (fun _ => 0#64))))) (h.see id) := by
  intro S ν w vs hrd _ hm hargs
  match vs, hargs with
  | [v0, v1], ⟨r0, r1, _⟩ =>
    have r1 : (A.sl id' [] 1 (.lit 0) (.sym 0) c').rel ν v1 := r1
    simp only [A.rel] at r1
    obtain ⟨b', base', o', k', hid', rfl, ho', hl', _⟩ := r1
    exact kept0_calls hb h1 hrd hm r0 _ _
theorem keptN_fn {id : Nat} {c : Option Ix} {h : H} {rw : Bool} {m0 : Ix} {g : Nat → BitVec 64} (hb : h.m.get id = some ⟨rw, .arr 1 m0 (.int .u8 g)⟩) (h1 : 5 ≤ m0.val) :
    FnOK Try.prog 22 [slV id 5 c, .t (.a .nils)] h (.t (.a (.b (keptD 0 g (fun _ => 0#64))))) (h.see id) := by
  intro S ν w vs hrd _ hm hargs
  match vs, hargs with
  | [v0, v1], ⟨r0, r1, _⟩ =>
    have r1 : (A.nils).rel ν v1 := r1
    simp only [A.rel] at r1
    subst r1
    exact kept0_calls hb h1 hrd hm r0 _ _
theorem keptΓ_ok {Γ : Gam} (hΓ : ΓOK Try.prog Γ) : ΓOK Try.prog (keptΓ Γ) where
  ok := by
    intro f args h r ok v h' hr hp hok
    unfold keptΓ at hr
    split at hr
    · rename_i hg
      have hg := Go.WE.beq_true hg
      subst hg
      split at hr
      · split at hr
        · rename_i hb
          split at hr
          · rename_i hb'
            cases hr
            simp only [R.pick, Option.some.injEq, Prod.mk.injEq] at hp
            obtain ⟨rfl, rfl, rfl⟩ := hp
            have hok : (Nat.beq _ (_ + 5) && (Nat.ble _ _ && (Nat.ble _ _ && Nat.ble _ CC))) = true := hok
            simp only [Bool.and_eq_true] at hok
            exact .inl ⟨enters22, kept_fn hb hb' (Go.WE.beq_true hok.1) (Nat.le_of_ble_eq_true hok.2.1) (Nat.le_of_ble_eq_true hok.2.2.1) (Nat.le_of_ble_eq_true hok.2.2.2)⟩
          · cases hr
          · cases hr
            simp only [R.pick, Option.some.injEq, Prod.mk.injEq] at hp
            obtain ⟨rfl, rfl, rfl⟩ := hp
            have hok : (Nat.beq _ 0 && (Nat.beq _ 5 && Nat.ble _ _)) = true := hok
            simp only [Bool.and_eq_true] at hok
            have e1 := Go.WE.beq_true hok.1
            have e2 := Go.WE.beq_true hok.2.1
            subst e1 e2
            exact .inl ⟨enters22, kept0_fn hb (Nat.le_of_ble_eq_true hok.2.2)⟩
        · cases hr
      · split at hr
        · rename_i hb
          cases hr
          simp only [R.pick, Option.some.injEq, Prod.mk.injEq] at hp
          obtain ⟨rfl, rfl, rfl⟩ := hp
          have hok : (Nat.beq _ 5 && Nat.ble _ _) = true := hok
          simp only [Bool.and_eq_true] at hok
          have e2 := Go.WE.beq_true hok.1
          subst e2
          exact .inl ⟨enters22, keptN_fn hb (Nat.le_of_ble_eq_true hok.2)⟩
        · cases hr
      · cases hr
    · exact hΓ.ok f args h r ok v h' hr hp hok
  pan := by
    intro f args h r ok v h' hr hp hok
    unfold keptΓ at hr
    split at hr
    · split at hr
      · split at hr
        · split at hr
          · cases hr; simp [R.pickP] at hp
          · cases hr
          · cases hr; simp [R.pickP] at hp
        · cases hr
      · split at hr
        · cases hr; simp [R.pickP] at hp
        · cases hr
      · cases hr
    · exact hΓ.pan f args h r ok v h' hr hp hok
  ext := by
    intro f args h r hr hlo
    unfold keptΓ at hr
    split at hr
    · split at hr
      · split at hr
        · split at hr
          · cases hr; exact (see_ext _ _).trans (see_ext _ _)
          · cases hr
          · cases hr; exact see_ext _ _
        · cases hr
      · split at hr
        · cases hr; exact see_ext _ _
        · cases hr
      · cases hr
    · exact hΓ.ext f args h r hr hlo

/-! ### there -/

theorem vof_int (a : BitVec 64) : vof .i64 a = a.toInt := by rw [← wrap_toInt, IntKind.wrap_i64]; have := a.toInt_lt; have := a.le_toInt; omega
theorem fit_there {n s : Nat} {a : BitVec 64} (hf : fitB n a s = true) (hn : n ≤ CC) (hs : isSize s = true) : Ytnjjcklhpgfnjaa.Cop.thereP n (vof .i64 a) s ∧ vof .i64 a = (a.toNat : Int) := by
  have h := fit_le hf
  have h2 := vof_int a
  have h3 : a.toInt = (a.toNat : Int) := small_int (by omega)
  refine ⟨?_, h2.trans h3⟩
  unfold Ytnjjcklhpgfnjaa.Cop.thereP
  rw [h2, h3]
  have := size_cases hs
  omega
theorem there_ret {ν : Nu} {S : Nat → Prop} {w : World} {h : H} {a0 : Option Addr} {n cap : Nat} {a s : Int} {b : A} (hn : n ≤ CC) (ha : IntKind.i64.wrap a = a) (hs : IntKind.i64.wrap s = s) (hm : Mem S ν w h) (hb : b.rel ν (.bool (decide (Ytnjjcklhpgfnjaa.Cop.thereP n a s)))) :
    Calls Try.prog 43 #[.slice a0 n cap, .int .i64 a, .int .i64 s] w fun e w' => ∃ u ν', e = .returned u ∧ (V.t (.a b)).rel ν' u ∧ Goes S ν w h ν' w' h := by
  refine (Ytnjjcklhpgfnjaa.Cop.there_any a0 n cap a s w (Nat.le_trans hn (by decide)) ha hs).mono ?_
  rintro e w' ⟨rfl, rfl⟩
  exact ⟨_, ν, rfl, hb, goes_calm hm (Below.refl _ _)⟩
theorem there_fit_fn {id n s : Nat} {a : BitVec 64} {c : Option Ix} (hf : fitB n a s = true) (hn : n ≤ CC) (hs : isSize s = true) (h : H) : FnOK Try.prog 43 [slV id n c, ui a, li s] h (.t (.a .tt)) h := by
  intro S ν w vs _ _ hm hargs
  match vs, hargs with
  | [v0, v1, v2], ⟨r0, r1, r2, _⟩ =>
    have r0 : (A.sl id [] 1 (.lit 0) (.sym n) c).rel ν v0 := r0
    have r1 : (A.i .i64 a).rel ν v1 := r1
    have r2 : (A.lit .i64 (.ofNat s)).rel ν v2 := r2
    simp only [A.rel] at r0 r1 r2
    obtain ⟨b, base, o, k, hid, rfl, ho, hl, _⟩ := r0
    subst r1
    have hth := (fit_there hf hn hs).1
    have hv2 : v2 = .int .i64 (s : Int) := by
      have := size_le hs
      first
        | exact r2
        | exact r2.1
        | exact r2.2
    subst hv2
    refine there_ret hn (wrap_vof _ a) (by rw [IntKind.wrap_i64]; have := size_le hs; omega) hm ?_
    simp only [A.rel]
    exact congrArg Value.bool (decide_eq_true hth)
theorem there_not {ν : Nu} {S : Nat → Prop} {w : World} {h : H} {a0 : Option Addr} {n cap : Nat} {a s : BitVec 64} (hn : n ≤ CC) (hf : thereD n a s = false) (hm : Mem S ν w h) :
    Calls Try.prog 43 #[.slice a0 n cap, .int .i64 (vof .i64 a), .int .i64 (vof .i64 s)] w fun e w' => ∃ u ν', e = .returned u ∧ (V.t (.a .ff)).rel ν' u ∧ Goes S ν w h ν' w' h := by
  refine there_ret hn (wrap_vof _ a) (wrap_vof _ s) hm ?_
  have hf : decide (Ytnjjcklhpgfnjaa.Cop.thereP n (vof .i64 a) (vof .i64 s)) = false := hf
  simp only [A.rel]
  exact congrArg Value.bool hf
theorem there_not_fn {id n : Nat} {a s : BitVec 64} {c : Option Ix} (hf : thereD n a s = false) (hn : n ≤ CC) (h : H) : FnOK Try.prog 43 [slV id n c, ui a, ui s] h (.t (.a .ff)) h := by
  intro S ν w vs _ _ hm hargs
  match vs, hargs with
  | [v0, v1, v2], ⟨r0, r1, r2, _⟩ =>
    have r0 : (A.sl id [] 1 (.lit 0) (.sym n) c).rel ν v0 := r0
    have r1 : (A.i .i64 a).rel ν v1 := r1
    have r2 : (A.i .i64 s).rel ν v2 := r2
    simp only [A.rel] at r0 r1 r2
    obtain ⟨b, base, o, k, hid, rfl, ho, hl, _⟩ := r0
    subst r1 r2
    exact there_not hn hf hm
theorem there_nil_fn {a s : BitVec 64} (hf : thereD 0 a s = false) (h : H) : FnOK Try.prog 43 [.t (.a .nils), ui a, ui s] h (.t (.a .ff)) h := by
  intro S ν w vs _ _ hm hargs
  match vs, hargs with
  | [v0, v1, v2], ⟨r0, r1, r2, _⟩ =>
    have r0 : (A.nils).rel ν v0 := r0
    have r1 : (A.i .i64 a).rel ν v1 := r1
    have r2 : (A.i .i64 s).rel ν v2 := r2
    simp only [A.rel] at r0 r1 r2
    subst r0 r1 r2
    exact there_not (by unfold CC; omega) hf hm
theorem thereΓ_ok {fit : Bool} {Γ : Gam} (hΓ : ΓOK Try.prog Γ) : ΓOK Try.prog (thereΓ fit Γ) where
  ok := by
    intro f args h r ok v h' hr hp hok
    unfold thereΓ at hr
    split at hr
    · rename_i hg
      have hg := Go.WE.beq_true hg
      subst hg
      split at hr
      · split at hr
        · split at hr
          · cases hr
            simp only [R.pick, Option.some.injEq, Prod.mk.injEq] at hp
            obtain ⟨rfl, rfl, rfl⟩ := hp
            have hok : (fitB _ _ _ && (Nat.ble _ CC && isSize _)) = true := hok
            simp only [Bool.and_eq_true] at hok
            exact .inl ⟨enters43, there_fit_fn hok.1 (Nat.le_of_ble_eq_true hok.2.1) hok.2.2 _⟩
          · cases hr
        · split at hr
          · cases hr
            simp only [R.pick, Option.some.injEq, Prod.mk.injEq] at hp
            obtain ⟨rfl, rfl, rfl⟩ := hp
            have hok : (Nat.ble _ CC && !thereD _ _ _) = true := hok
            simp only [Bool.and_eq_true, Bool.not_eq_true'] at hok
            exact .inl ⟨enters43, there_not_fn hok.2 (Nat.le_of_ble_eq_true hok.1) _⟩
          · cases hr
      · cases hr
        simp only [R.pick, Option.some.injEq, Prod.mk.injEq] at hp
        obtain ⟨rfl, rfl, rfl⟩ := hp
        have hok : (!thereD 0 _ _) = true := hok
        simp only [Bool.not_eq_true'] at hok
        exact .inl ⟨enters43, there_nil_fn hok _⟩
      · cases hr
    · exact hΓ.ok f args h r ok v h' hr hp hok
  pan := by
    intro f args h r ok v h' hr hp hok
    unfold thereΓ at hr
    split at hr
    · split at hr
      · split at hr
        · split at hr
          · cases hr; simp [R.pickP] at hp
          · cases hr
        · split at hr
          · cases hr; simp [R.pickP] at hp
          · cases hr
      · cases hr; simp [R.pickP] at hp
      · cases hr
    · exact hΓ.pan f args h r ok v h' hr hp hok
  ext := by
    intro f args h r hr hlo
    unfold thereΓ at hr
    split at hr
    · split at hr
      · split at hr
        · split at hr
          · cases hr; exact Ext.refl _
          · cases hr
        · split at hr
          · cases hr; exact Ext.refl _
          · cases hr
      · cases hr; exact Ext.refl _
      · cases hr
    · exact hΓ.ext f args h r hr hlo

/-! ### ref.Put -/

theorem u8_mod (x : BitVec 64) : vof .u8 x = ((x.toNat % 256 : Nat) : Int) := by
  unfold vof
  rw [IntKind.wrap_u8]
  omega
theorem u64_nat (x : BitVec 64) : vof .u64 x = (x.toNat : Int) := by
  unfold vof
  rw [IntKind.wrap_u64]
  have := x.isLt
  omega
theorem putB_vof (g : Nat → BitVec 64) (a s : Nat) (v : BitVec 64) (j : Nat) : Ytnjjcklhpgfnjaa.Cop.putG (fun j => vof .u8 (g j)) a s v.toNat j = vof .u8 (putB g a s v j) := by
  unfold Ytnjjcklhpgfnjaa.Cop.putG putB
  by_cases h : a ≤ j ∧ j < a + s
  · have h1 : Nat.ble a j = true := Nat.ble_eq_true_of_le h.1
    have h2 : Nat.blt j (a + s) = true := Nat.ble_eq_true_of_le h.2
    rw [h1, h2, if_pos h]
    show _ = vof .u8 (v >>> (8 * (j - a)))
    rw [u8_mod, BitVec.toNat_ushiftRight, Nat.shiftRight_eq_div_pow, Nat.pow_mul]
  · have hb : (Nat.ble a j && Nat.blt j (a + s)) = false := by
      cases e : (Nat.ble a j && Nat.blt j (a + s))
      · rfl
      · simp only [Bool.and_eq_true] at e
        exact absurd ⟨Nat.le_of_ble_eq_true e.1, Nat.le_of_ble_eq_true e.2⟩ h
    rw [hb, if_neg h]
    rfl
theorem tup_rel {ν : Nu} {x : A} {b : Bool} {y : A} {l : Value} (h : (V.t (.a x)).rel ν l) (hy : y.rel ν (.bool b)) : (V.tup [.a x, .a y]).rel ν (.tuple #[l, .bool b]) := ⟨_, rfl, h, hy, trivial⟩
theorem put_fit_fn {id n s : Nat} {a v : BitVec 64} {c : Option Ix} {h : H} {rw : Bool} {g : Nat → BitVec 64} (hb : h.m.get id = some ⟨rw, .arr 1 (.sym n) (.int .u8 g)⟩) (hf : fitB n a s = true) (hn : n ≤ CC) (hs : isSize s = true) :
    FnOK Try.prog 23 [slV id n c, ui a, li s, .t (.a (.i .u64 v))] h (.tup [.a (.sl h.next [] 1 (.lit 0) (.sym n) none), .a .tt]) ((h.see id).new ⟨true, .arr 1 (.sym n) (.int .u8 (putB g a.toNat s v))⟩) := by
  intro S ν w vs hrd _ hm hargs
  match vs, hargs with
  | [v0, v1, v2, v3], ⟨r0, r1, r2, r3, _⟩ =>
    have r0 : (A.sl id [] 1 (.lit 0) (.sym n) c).rel ν v0 := r0
    have r1 : (A.i .i64 a).rel ν v1 := r1
    have r2 : (A.lit .i64 (.ofNat s)).rel ν v2 := r2
    have r3 : (A.i .u64 v).rel ν v3 := r3
    simp only [A.rel] at r0 r1 r2 r3
    obtain ⟨b, base, o, k, hid, rfl, ho, hl, _⟩ := r0
    have r2 := r2.1
    subst r1 r2 r3
    have hs8 := size_le hs
    have hle := fit_le hf
    have hrd' : ∀ i, i ∈ (h.see id).rd → S i := hrd
    obtain ⟨r, base', hid', hr, hc⟩ := seen_cell (hm.seen id _ hb (see_seen hrd'))
    rw [hid] at hid'
    cases hid'
    have ho : o = base := by simpa [Ix.val, pathOff] using ho (by simp only [Ix.val] at hl; omega)
    subst ho
    rw [(fit_there hf hn hs).2, u64_nat]
    refine (Ytnjjcklhpgfnjaa.Cop.put_fit b o n k (fun j => vof .u8 (g j)) a.toNat s v.toNat w (Nat.le_trans hn (by decide)) hr v.isLt (size_cases hs) hle (fun j hj => hc j hj)).mono ?_
    rintro e w' ⟨l, rfl, hown, hbel⟩
    have hs := hm.see id
    obtain ⟨ν', h1, h2⟩ := made_list (h := h.see id) (g := putB g a.toNat s v) hs.mem hbel (by omega) (fun j hj => putB_vof g a.toNat s v j) hown
    exact ⟨_, ν', rfl, tup_rel h1 (by simp only [A.rel]), hs.trans h2⟩
theorem there_no {n : Nat} {a s : BitVec 64} (hf : thereD n a s = false) : ¬ Ytnjjcklhpgfnjaa.Cop.thereP n (vof .i64 a) (vof .i64 s) := of_decide_eq_false hf
theorem put_not_fn {id n : Nat} {a s v : BitVec 64} {c : Option Ix} {h : H} {rw : Bool} {g : Nat → BitVec 64} (hb : h.m.get id = some ⟨rw, .arr 1 (.sym n) (.int .u8 g)⟩) (h0 : 0 < n) (hf : thereD n a s = false) (hn : n ≤ CC) :
    FnOK Try.prog 23 [slV id n c, ui a, ui s, .t (.a (.i .u64 v))] h (.tup [.a (.sl h.next [] 1 (.lit 0) (.sym n) none), .a .ff]) ((h.see id).new ⟨true, .arr 1 (.sym n) (.int .u8 g)⟩) := by
  intro S ν w vs hrd _ hm hargs
  match vs, hargs with
  | [v0, v1, v2, v3], ⟨r0, r1, r2, r3, _⟩ =>
    have r0 : (A.sl id [] 1 (.lit 0) (.sym n) c).rel ν v0 := r0
    have r1 : (A.i .i64 a).rel ν v1 := r1
    have r2 : (A.i .i64 s).rel ν v2 := r2
    have r3 : (A.i .u64 v).rel ν v3 := r3
    simp only [A.rel] at r0 r1 r2 r3
    obtain ⟨b, base, o, k, hid, rfl, ho, hl, _⟩ := r0
    subst r1 r2 r3
    have hrd' : ∀ i, i ∈ (h.see id).rd → S i := hrd
    obtain ⟨r, base', hid', hr, hc⟩ := seen_cell (hm.seen id _ hb (see_seen hrd'))
    rw [hid] at hid'
    cases hid'
    have ho : o = base := by simpa [Ix.val, pathOff] using ho (by simp only [Ix.val] at hl; omega)
    subst ho
    refine (Ytnjjcklhpgfnjaa.Cop.put_not (some ⟨b, o, none⟩) n k (fun j => vof .u8 (g j)) (vof .i64 a) (vof .i64 s) (vof .u64 v) w (Nat.le_trans hn (by decide)) (wrap_vof _ a) (wrap_vof _ s) (there_no hf) (fun j hj => ⟨b, o, rfl, hc j hj⟩)).mono ?_
    rintro e w' ⟨l, rfl, hown, hbel, _⟩
    have hs := hm.see id
    obtain ⟨ν', h1, h2⟩ := made_list (h := h.see id) (g := g) hs.mem hbel h0 (fun j hj => rfl) hown
    exact ⟨_, ν', rfl, tup_rel h1 (by simp only [A.rel]), hs.trans h2⟩
theorem put_none {ν : Nu} {S : Nat → Prop} {w : World} {h : H} {a0 : Option Addr} {cap : Nat} {a s v : BitVec 64} (hf : thereD 0 a s = false) (hm : Mem S ν w h) :
    Calls Try.prog 23 #[.slice a0 0 cap, .int .i64 (vof .i64 a), .int .i64 (vof .i64 s), .int .u64 (vof .u64 v)] w fun e w' => ∃ u ν', e = .returned u ∧ (V.tup [.a .nils, .a .ff]).rel ν' u ∧ Goes S ν w h ν' w' h := by
  refine (Ytnjjcklhpgfnjaa.Cop.put_not a0 0 cap (fun _ => 0) (vof .i64 a) (vof .i64 s) (vof .u64 v) w (by decide) (wrap_vof _ a) (wrap_vof _ s) (there_no hf) (fun j hj => absurd hj (Nat.not_lt_zero _))).mono ?_
  rintro e w' ⟨l, rfl, _, hbel, hl⟩
  obtain rfl := hl rfl
  refine ⟨_, ν, rfl, tup_rel ?_ (by simp only [A.rel]), goes_calm hm hbel⟩
  show (A.nils).rel ν _
  simp only [A.rel]
theorem put_none_fn {id : Nat} {a s v : BitVec 64} {c : Option Ix} (hf : thereD 0 a s = false) (h : H) : FnOK Try.prog 23 [slV id 0 c, ui a, ui s, .t (.a (.i .u64 v))] h (.tup [.a .nils, .a .ff]) h := by
  intro S ν w vs _ _ hm hargs
  match vs, hargs with
  | [v0, v1, v2, v3], ⟨r0, r1, r2, r3, _⟩ =>
    have r0 : (A.sl id [] 1 (.lit 0) (.sym 0) c).rel ν v0 := r0
    have r1 : (A.i .i64 a).rel ν v1 := r1
    have r2 : (A.i .i64 s).rel ν v2 := r2
    have r3 : (A.i .u64 v).rel ν v3 := r3
    simp only [A.rel] at r0 r1 r2 r3
    obtain ⟨b, base, o, k, hid, rfl, ho, hl, _⟩ := r0
    subst r1 r2 r3
    exact put_none hf hm
theorem put_nil_fn {a s v : BitVec 64} (hf : thereD 0 a s = false) (h : H) : FnOK Try.prog 23 [.t (.a .nils), ui a, ui s, .t (.a (.i .u64 v))] h (.tup [.a .nils, .a .ff]) h := by
  intro S ν w vs _ _ hm hargs
  match vs, hargs with
  | [v0, v1, v2, v3], ⟨r0, r1, r2, r3, _⟩ =>
    have r0 : (A.nils).rel ν v0 := r0
    have r1 : (A.i .i64 a).rel ν v1 := r1
    have r2 : (A.i .i64 s).rel ν v2 := r2
    have r3 : (A.i .u64 v).rel ν v3 := r3
    simp only [A.rel] at r0 r1 r2 r3
    subst r0 r1 r2 r3
    exact put_none hf hm
theorem putΓ_ok {fit : Bool} {Γ : Gam} (hΓ : ΓOK Try.prog Γ) : ΓOK Try.prog (putΓ fit Γ) where
  ok := by
    intro f args h r ok v h' hr hp hok
    unfold putΓ at hr
    split at hr
    · rename_i hg
      have hg := Go.WE.beq_true hg
      subst hg
      split at hr
      · split at hr
        · rename_i hb
          split at hr
          · split at hr
            · cases hr
              simp only [R.pick, Option.some.injEq, Prod.mk.injEq] at hp
              obtain ⟨rfl, rfl, rfl⟩ := hp
              have hok : (fitB _ _ _ && (Nat.ble _ CC && (isSize _ && Nat.beq _ _))) = true := hok
              simp only [Bool.and_eq_true] at hok
              have e := Go.WE.beq_true hok.2.2.2
              subst e
              exact .inl ⟨enters23, put_fit_fn hb hok.1 (Nat.le_of_ble_eq_true hok.2.1) hok.2.2.1⟩
            · cases hr
          · split at hr
            · cases hr
              simp only [R.pick, Option.some.injEq, Prod.mk.injEq] at hp
              obtain ⟨rfl, rfl, rfl⟩ := hp
              have hok : (Nat.blt 0 _ && (Nat.ble _ CC && (Nat.beq _ _ && !thereD _ _ _))) = true := hok
              simp only [Bool.and_eq_true, Bool.not_eq_true'] at hok
              have e := Go.WE.beq_true hok.2.2.1
              subst e
              exact .inl ⟨enters23, put_not_fn hb (Nat.le_of_ble_eq_true hok.1) hok.2.2.2 (Nat.le_of_ble_eq_true hok.2.1)⟩
            · cases hr
        · cases hr
        · split at hr
          · cases hr
            simp only [R.pick, Option.some.injEq, Prod.mk.injEq] at hp
            obtain ⟨rfl, rfl, rfl⟩ := hp
            have hok : (Nat.beq _ 0 && !thereD 0 _ _) = true := hok
            simp only [Bool.and_eq_true, Bool.not_eq_true'] at hok
            have e := Go.WE.beq_true hok.1
            subst e
            exact .inl ⟨enters23, put_none_fn hok.2 _⟩
          · cases hr
      · cases hr
        simp only [R.pick, Option.some.injEq, Prod.mk.injEq] at hp
        obtain ⟨rfl, rfl, rfl⟩ := hp
        have hok : (!thereD 0 _ _) = true := hok
        simp only [Bool.not_eq_true'] at hok
        exact .inl ⟨enters23, put_nil_fn hok _⟩
      · cases hr
    · exact hΓ.ok f args h r ok v h' hr hp hok
  pan := by
    intro f args h r ok v h' hr hp hok
    unfold putΓ at hr
    split at hr
    · split at hr
      · split at hr
        · split at hr
          · split at hr
            · cases hr; simp [R.pickP] at hp
            · cases hr
          · split at hr
            · cases hr; simp [R.pickP] at hp
            · cases hr
        · cases hr
        · split at hr
          · cases hr; simp [R.pickP] at hp
          · cases hr
      · cases hr; simp [R.pickP] at hp
      · cases hr
    · exact hΓ.pan f args h r ok v h' hr hp hok
  ext := by
    intro f args h r hr hlo
    unfold putΓ at hr
    split at hr
    · split at hr
      · split at hr
        · rename_i id _ _ _ _ _ _ _ _ _ _ _
          split at hr
          · split at hr
            · cases hr; exact (see_ext h _).trans (new_ext (h := h.see _) hlo _)
            · cases hr
          · split at hr
            · cases hr; exact (see_ext h _).trans (new_ext (h := h.see _) hlo _)
            · cases hr
        · cases hr
        · split at hr
          · cases hr; exact Ext.refl _
          · cases hr
      · cases hr; exact Ext.refl _
      · cases hr
    · exact hΓ.ext f args h r hr hlo
end Go.WE
