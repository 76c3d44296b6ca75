/- word.piece: the piece of a list, or nil; at any memory. -/
import Derived.Test.YtnjjcklhpgfnjaaBytesC
import Derived.Test.YtnjjcklhpgfnjaaCx
namespace Go.WE
set_option linter.unusedVariables false
set_option maxRecDepth 100000
open Go Go.Proofs
open Go.RowKit (Below)

def slV (id n : Nat) (c : Option Ix) : V := .t (.a (.sl id [] 1 (.lit 0) (.sym n) c))
abbrev ui (x : BitVec 64) : V := .t (.a (.i .i64 x))
noncomputable def evP (n : Nat) (a : BitVec 64) (s : V) : R := evalF cxW noΓ 400 20 42 [slV 0 n none, ui a, s] (hM [] 1)
def R.cnd : R → Option Bool
  | .node y _ _ => some y
  | _ => none
def R.at (b : Bool) : R → Option (A × V × H)
  | .node _ x y => (bif b then x else y).pick
  | _ => none
def R.atV (b : Bool) (r : R) : Option (A × V) := match r.at b with
  | some (o, v, _) => some (o, v)
  | none => none

theorem R.at_pick {r : R} {b : Bool} (h : r.cnd = some b) : r.pick = r.at b := by
  cases r with
  | node y x z =>
    simp only [R.cnd, Option.some.injEq] at h
    subst h
    cases y <;> rfl
  | _ => simp [R.cnd] at h
theorem R.atV_some {r : R} {b : Bool} {o : A} {v : V} (hc : r.cnd = some b) (h : r.atV b = some (o, v)) : ∃ h', r.pick = some (o, v, h') := by
  rw [R.at_pick hc]
  unfold R.atV at h
  split at h
  · rename_i o' v' h' he
    simp only [Option.some.injEq, Prod.mk.injEq] at h
    obtain ⟨rfl, rfl⟩ := h
    exact ⟨h', he⟩
  · cases h

theorem pc_n (n : Nat) (a s : BitVec 64) : (evP n a (ui s)).cnd = some (pbad n a s) := by kernel_rfl
theorem pv_n (n : Nat) (a s : BitVec 64) : (evP n a (ui s)).atV true = some (.b (cond (cond (!(BitVec.sle (KK 0) (idxB s))) true (BitVec.slt a (KK 0))) true (Nat.blt n (2 ^ 63))), .t (.a .nils)) := by kernel_rfl
def pbadL (n : Nat) (a s : BitVec 64) : Bool := cond (BitVec.slt a (KK 0)) true (BitVec.slt (BitVec.ofNat 64 n - s) a)
def pokL (n : Nat) (a s : BitVec 64) : Bool := cond (BitVec.slt a (KK 0)) true (Nat.blt n (2 ^ 63)) && (((!(BitVec.msb a)) && (!(BitVec.msb (a + s)))) && (Nat.ble a.toNat (a + s).toNat && Nat.ble (a + s).toNat n))
def pslL (a s : BitVec 64) : V := .t (.a (.sl 0 [] 1 (ixAdd (.lit 0) (.sym a.toNat)) (subIx (.sym (a + s).toNat) (.sym a.toNat)) none))
abbrev li (s : Nat) : V := .t (.a (.lit .i64 (.ofNat s)))
theorem pc_1 (n : Nat) (a : BitVec 64) : (evP n a (li 1)).cnd = some (pbadL n a (KK 1)) := by kernel_rfl
theorem pv_1 (n : Nat) (a : BitVec 64) : (evP n a (li 1)).atV false = some (.b (pokL n a (KK 1)), pslL a (KK 1)) := by kernel_rfl
theorem pc_2 (n : Nat) (a : BitVec 64) : (evP n a (li 2)).cnd = some (pbadL n a (KK 2)) := by kernel_rfl
theorem pv_2 (n : Nat) (a : BitVec 64) : (evP n a (li 2)).atV false = some (.b (pokL n a (KK 2)), pslL a (KK 2)) := by kernel_rfl
theorem pc_4 (n : Nat) (a : BitVec 64) : (evP n a (li 4)).cnd = some (pbadL n a (KK 4)) := by kernel_rfl
theorem pv_4 (n : Nat) (a : BitVec 64) : (evP n a (li 4)).atV false = some (.b (pokL n a (KK 4)), pslL a (KK 4)) := by kernel_rfl
theorem pc_8 (n : Nat) (a : BitVec 64) : (evP n a (li 8)).cnd = some (pbadL n a (KK 8)) := by kernel_rfl
theorem pv_8 (n : Nat) (a : BitVec 64) : (evP n a (li 8)).atV false = some (.b (pokL n a (KK 8)), pslL a (KK 8)) := by kernel_rfl

/-- A list whose elements are not looked at, at any memory: `id` stands for 0. -/
theorem fn_any {f : FuncId} {n : Nat} {c : Option Ix} {v1 v2 v : V} {h0 : H} (hf : FnOK Try.prog f [slV 0 n none, v1, v2] (hM [] 1) v h0) (h1 : v1.free = true) (h2 : v2.free = true) {id : Nat} {v' : V}
    (hv : ∀ ν ν' u, ν' 0 = ν id → v.rel ν' u → v'.rel ν u) : ∀ h, FnOK Try.prog f [slV id n c, v1, v2] h v' h := by
  intro h S ν w vs _ _ hm hargs
  match vs, hargs with
  | [u0, u1, u2], ⟨r0, r1, r2, _⟩ =>
    have r0 : (A.sl id [] 1 (.lit 0) (.sym n) c).rel ν u0 := r0
    simp only [A.rel] at r0
    obtain ⟨b, base, o, c', hid, rfl, ho, hl, _⟩ := r0
    let ν0 : Nu := fun i => if i = 0 then some (b, base) else none
    have hν0 : ∀ i r base', ν0 i = some (r, base') → i = 0 ∧ r = b ∧ base' = base := fun i r base' e => by
      simp only [ν0] at e
      split at e
      · cases e; exact ⟨by assumption, rfl, rfl⟩
      · cases e
    have hlt := hm.nums.lt id b base hid
    have hget : ∀ i x, (hM [] 1).m.get i = some x → False := fun i x e => by
      have := get_memT [] i x e
      cases this
    have m0 : Mem (fun _ => True) ν0 w (hM [] 1) := ⟨⟨fun i r b' e => by obtain ⟨_, rfl, _⟩ := hν0 _ _ _ e; exact hlt, fun i x e => (hget i x e).elim, fun i hi => by
        have hi : 1 ≤ i := hi
        simp only [ν0]
        rw [if_neg (by omega)], fun i x e => (hget i x e).elim, Nat.le_refl _, fun g hg => by cases hg⟩, fun i x e => (hget i x e).elim⟩
    have a0 : relV ν0 [slV 0 n none, v1, v2] [.slice (some ⟨b, o, none⟩) n c', u1, u2] := by
      refine ⟨?_, V.rel_free h1 r1, V.rel_free h2 r2, trivial⟩
      show (A.sl 0 [] 1 (.lit 0) (.sym n) none).rel ν0 _
      simp only [A.rel]
      exact ⟨b, base, o, c', by simp [ν0], rfl, ho, hl, fun _ e => by cases e⟩
    refine (hf (fun _ => True) ν0 w _ (fun _ _ => trivial) (fun _ _ => trivial) m0 a0).mono ?_
    rintro e w' ⟨u, ν', rfl, hu, g⟩
    have hb : ∀ r, r < w.heap.size → w'.heap[r]? = w.heap[r]? := fun r hr => g.frm.block r hr fun i b' e => by
      obtain ⟨rfl, rfl, rfl⟩ := hν0 _ _ _ e
      refine ⟨by rw [g.ext.lo]; exact Nat.lt_succ_self _, fun hw => ?_⟩
      rcases g.ext.wrw 0 hw with h3 | ⟨x, h3, _⟩ | h3
      · cases h3
      · exact hget _ _ h3
      · have h3 : 1 ≤ 0 := h3
        omega
    refine ⟨u, ν, rfl, hv ν ν' u ?_ hu, ⟨Nu.le_refl _, ⟨⟨fun i r b' h => Nat.lt_of_lt_of_le (hm.nums.lt i r b' h) g.frm.size, hm.nums.inj, hm.nums.fresh, hm.nums.bound, hm.nums.lo, hm.nums.glob⟩, fun i x h1 h2 => ?_⟩,
      ⟨g.frm.os, g.frm.tape, g.frm.output, g.frm.size, fun r hr _ => hb r hr⟩, fun i r b' h h' => (by rw [h] at h'; cases h'), Ext.refl _, fun _ _ => rfl⟩⟩
    · rw [g.old 0 (Nat.lt_succ_self _)]
      simp only [ν0, if_true]
      exact hid.symm
    · exact (hm.seen i x h1 h2).mono (Nu.le_refl _) (fun r b' h3 => hb r (hm.nums.lt i r b' h3))

abbrev CC : Nat := 140737488351232
theorem KK_nat {s : Nat} (h : s ≤ 8) : (KK (Int.ofNat s)).toNat = s := by
  have : KK (Int.ofNat s) = BitVec.ofNat 64 s := BitVec.ofInt_natCast 64 s
  rw [this, BitVec.toNat_ofNat, Nat.mod_eq_of_lt (by omega)]
theorem size_cases {s : Nat} (h : isSize s = true) : s = 1 ∨ s = 2 ∨ s = 4 ∨ s = 8 := by
  unfold isSize at h
  split at h
  · exact .inl rfl
  · exact .inr (.inl rfl)
  · exact .inr (.inr (.inl rfl))
  · exact .inr (.inr (.inr rfl))
  · cases h
theorem size_le {s : Nat} (h : isSize s = true) : 1 ≤ s ∧ s ≤ 8 := by
  rcases size_cases h with rfl | rfl | rfl | rfl <;> decide
theorem fit_slt {n s : Nat} {a : BitVec 64} (hf : fitB n a s = true) : BitVec.slt a (KK 0) = false := by
  unfold fitB at hf
  simp only [Bool.and_eq_true, Bool.not_eq_true'] at hf
  exact hf.1
theorem fit_le {n s : Nat} {a : BitVec 64} (hf : fitB n a s = true) : a.toNat + s ≤ n := by
  unfold fitB at hf
  simp only [Bool.and_eq_true] at hf
  exact Nat.le_of_ble_eq_true hf.2
theorem add_nat {n s : Nat} {a : BitVec 64} (hs : s ≤ 8) (hf : fitB n a s = true) (hn : n ≤ CC) : (a + KK (Int.ofNat s)).toNat = a.toNat + s := by
  have h := fit_le hf
  rw [BitVec.toNat_add, KK_nat hs, Nat.mod_eq_of_lt (by unfold CC at hn; omega)]
theorem small_int {x : BitVec 64} (h : x.toNat ≤ CC) : x.toInt = (x.toNat : Int) := by
  rw [BitVec.toInt_eq_toNat_cond, if_pos (by unfold CC at h; omega)]
theorem small_msb {x : BitVec 64} (h : x.toNat ≤ CC) : x.msb = false := by
  rw [BitVec.msb_eq_decide]
  unfold CC at h
  simp
  omega
theorem ofn_sub {n s : Nat} (hs : s ≤ n) (h8 : s ≤ 8) (hn : n ≤ CC) : (BitVec.ofNat 64 n - KK (Int.ofNat s)).toNat = n - s := by
  rw [BitVec.toNat_sub, KK_nat h8, BitVec.toNat_ofNat]
  unfold CC at hn
  omega
theorem pbadL_no {n s : Nat} {a : BitVec 64} (hs : s ≤ 8) (hf : fitB n a s = true) (hn : n ≤ CC) : pbadL n a (KK (Int.ofNat s)) = false := by
  have h := fit_le hf
  have e := ofn_sub (s := s) (n := n) (by omega) hs hn
  unfold pbadL
  rw [fit_slt hf, cond_false, BitVec.slt, small_int (by rw [e]; omega), small_int (by omega), e]
  exact decide_eq_false (by omega)
theorem pokL_yes {n s : Nat} {a : BitVec 64} (hs : s ≤ 8) (hf : fitB n a s = true) (hn : n ≤ CC) : pokL n a (KK (Int.ofNat s)) = true := by
  have h := fit_le hf
  have e := add_nat hs hf hn
  unfold pokL
  rw [fit_slt hf, cond_false, small_msb (x := a) (by omega), small_msb (x := a + KK (Int.ofNat s)) (by rw [e]; omega), e]
  have h1 : Nat.blt n (2 ^ 63) = true := by
    rw [show Nat.blt n (2 ^ 63) = Nat.ble (n + 1) (2 ^ 63) from rfl]
    exact Nat.ble_eq_true_of_le (by unfold CC at hn; omega)
  rw [h1, Nat.ble_eq_true_of_le (show a.toNat ≤ a.toNat + s by omega), Nat.ble_eq_true_of_le h]
  rfl

theorem piece_lit {n s : Nat} {a : BitVec 64} (hs : isSize s = true) (hf : fitB n a s = true) (hn : n ≤ CC) (id : Nat) (c : Option Ix) : Enters Try.prog 42 ∧ ∀ h, FnOK Try.prog 42 [slV id n c, ui a, li s] h (.t (.a (.sl id [] 1 (.sym a.toNat) (.lit s) none))) h := by
  have h8 := (size_le hs).2
  have hb := pbadL_no h8 hf hn
  have hk := pokL_yes h8 hf hn
  have he : ∃ h', (evP n a (li s)).pick = some (.b (pokL n a (KK (Int.ofNat s))), pslL a (KK (Int.ofNat s)), h') := by
    rcases size_cases hs with rfl | rfl | rfl | rfl
    · exact R.atV_some ((pc_1 n a).trans (by rw [← hb]; rfl)) (pv_1 n a)
    · exact R.atV_some ((pc_2 n a).trans (by rw [← hb]; rfl)) (pv_2 n a)
    · exact R.atV_some ((pc_4 n a).trans (by rw [← hb]; rfl)) (pv_4 n a)
    · exact R.atV_some ((pc_8 n a).trans (by rw [← hb]; rfl)) (pv_8 n a)
  obtain ⟨h', hp⟩ := he
  obtain ⟨h1, h2⟩ := evalF_fn (XW noΓ_ok) rfl hp hk
  refine ⟨h1, fn_any h2 rfl rfl (fun ν ν' u h0 hu => ?_)⟩
  have hu : (A.sl 0 [] 1 (ixAdd (.lit 0) (.sym a.toNat)) (subIx (.sym (a + KK (Int.ofNat s)).toNat) (.sym a.toNat)) none).rel ν' u := hu
  show (A.sl id [] 1 (.sym a.toNat) (.lit s) none).rel ν u
  simp only [A.rel] at hu ⊢
  obtain ⟨b, base, o, c', g1, g2, g3, g4, g5⟩ := hu
  have e := add_nat h8 hf hn
  have e1 : (ixAdd (.lit 0) (.sym a.toNat)).val = a.toNat := by simp [ixAdd, Ix.val]
  have e2 : (subIx (.sym (a + KK (Int.ofNat s)).toNat) (.sym a.toNat)).val = s := by
    show (a + KK (Int.ofNat s)).toNat - a.toNat = s
    rw [e]
    omega
  rw [e1] at g3
  rw [e2] at g2 g4
  exact ⟨b, base, o, c', h0 ▸ g1, g2, g3, g4, fun _ e => by cases e⟩

theorem piece_nil {n : Nat} {a s : BitVec 64} (hb : pbad n a s = true) (hn : n ≤ CC) (id : Nat) (c : Option Ix) : Enters Try.prog 42 ∧ ∀ h, FnOK Try.prog 42 [slV id n c, ui a, ui s] h (.t (.a .nils)) h := by
  obtain ⟨h', hp⟩ := R.atV_some ((pc_n n a s).trans (by rw [hb])) (pv_n n a s)
  have h1 : Nat.blt n (2 ^ 63) = true := by
    rw [show Nat.blt n (2 ^ 63) = Nat.ble (n + 1) (2 ^ 63) from rfl]
    exact Nat.ble_eq_true_of_le (by unfold CC at hn; omega)
  rw [h1] at hp
  obtain ⟨h2, h3⟩ := evalF_fn (XW noΓ_ok) rfl hp (by show cond _ true true = true; cases (cond (!(BitVec.sle (KK 0) (idxB s))) true (BitVec.slt a (KK 0))) <;> rfl)
  exact ⟨h2, fn_any h3 rfl rfl (fun ν ν' u _ hu => by
    have hu : (A.nils).rel ν' u := hu
    show (A.nils).rel ν u
    simpa only [A.rel] using hu)⟩

theorem pieceΓ_ok {fit : Bool} {Γ : Gam} (hΓ : ΓOK Try.prog Γ) : ΓOK Try.prog (pieceΓ fit Γ) where
  ok := by
    intro f args h r ok v h' hr hp hok
    unfold pieceΓ at hr
    split at hr
    · rename_i hg
      have hg := Go.WE.beq_true hg
      subst hg
      split at hr
      · split at hr
        · split at hr
          · cases hr
            simp only [R.pick, Option.some.injEq, Prod.mk.injEq] at hp
            obtain ⟨rfl, rfl, rfl⟩ := hp
            have hok : (fitB _ _ _ && (Nat.ble _ CC && isSize _)) = true := hok
            simp only [Bool.and_eq_true] at hok
            obtain ⟨h1, h2⟩ := piece_lit hok.2.2 hok.1 (Nat.le_of_ble_eq_true hok.2.1) _ _
            exact .inl ⟨h1, h2 _⟩
          · cases hr
        · split at hr
          · cases hr
            simp only [R.pick, Option.some.injEq, Prod.mk.injEq] at hp
            obtain ⟨rfl, rfl, rfl⟩ := hp
            have hok : (pbad _ _ _ && Nat.ble _ CC) = true := hok
            simp only [Bool.and_eq_true] at hok
            obtain ⟨h1, h2⟩ := piece_nil hok.1 (Nat.le_of_ble_eq_true hok.2) _ _
            exact .inl ⟨h1, h2 _⟩
          · cases hr
      · cases hr
    · exact hΓ.ok f args h r ok v h' hr hp hok
  pan := by
    intro f args h r ok v h' hr hp hok
    unfold pieceΓ at hr
    split at hr
    · split at hr
      · split at hr
        · split at hr
          · cases hr; simp [R.pickP] at hp
          · cases hr
        · split at hr
          · cases hr; simp [R.pickP] at hp
          · cases hr
      · cases hr
    · exact hΓ.pan f args h r ok v h' hr hp hok
  ext := by
    intro f args h r hr hlo
    unfold pieceΓ at hr
    split at hr
    · split at hr
      · split at hr
        · split at hr
          · cases hr; exact Ext.refl _
          · cases hr
        · split at hr
          · cases hr; exact Ext.refl _
          · cases hr
      · cases hr
    · exact hΓ.ext f args h r hr hlo
end Go.WE
