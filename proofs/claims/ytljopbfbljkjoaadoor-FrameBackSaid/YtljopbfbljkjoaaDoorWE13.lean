/- WE13: comparisons, choices. -/
import Derived.Test.YtljopbfbljkjoaaDoorWE32
namespace Go.WE
open Go

def eqVs : List Bool → List Value → List Value → Option Bool
  | [], [], [] => some true
  | false :: s, .int k m :: xs, .int k' n :: ys => if k = k' then (eqVs s xs ys).map fun r => (m == n) && r else none
  | true :: s, .bool p :: xs, .bool q :: ys => (eqVs s xs ys).map fun r => (p == q) && r
  | _, _, _ => none

section
variable {P : Program} {cx : Cx} {S : Nat → Prop} {ν : Nu} {w : World} {h : H}

theorem eqL_sound : ∀ {sh : List Bool} {xs ys : List A} {vx vy : List Value} {z : A}, eqL sh xs ys = some z → relL ν xs vx → relL ν ys vy →
    ∃ r, eqVs sh vx vy = some r ∧ z.rel ν (.bool r)
  | [], [], [], vx, vy, z, h, hx, hy => by
    simp only [relL] at hx hy
    subst hx hy
    simp [eqL] at h; subst h; exact ⟨true, rfl, by simp only [A.rel]⟩
  | s :: sh, x :: xs, y :: ys, vx, vy, z, h, hx, hy => by
    simp only [relL] at hx hy
    obtain ⟨vx, vxs, rfl, hx1, hx2⟩ := hx
    obtain ⟨vy, vys, rfl, hy1, hy2⟩ := hy
    simp only [eqL] at h
    split at h
    · rename_i p q e1 e2
      obtain ⟨r, hr, hq⟩ := eqL_sound e2 hx2 hy2
      cases s
      · simp only [eqA] at e1
        split at e1 <;> simp at e1
        rename_i eb
        subst e1
        obtain ⟨k, m, k', n, rfl, rfl⟩ := binInt_int eb hx1 hy1
        obtain ⟨rfl, hz⟩ := binInt_eql eb hx1 hy1
        exact ⟨(m == n) && r, by simp [eqVs, hr], andA_sound h hz hq⟩
      · simp only [eqA] at e1
        split at e1 <;> simp at e1
        rename_i p' q' eb1 eb2
        subst e1
        have a1 := A.rel_bool hx1 eb1
        have a2 := A.rel_bool hy1 eb2
        subst a1 a2
        exact ⟨(p' == q') && r, by simp [eqVs, hr], andA_sound h (by simp only [A.rel]) hq⟩
    · cases h
  | [], _ :: _, _, _, _, _, h, _, _ => by simp [eqL] at h
  | [], [], _ :: _, _, _, _, h, _, _ => by simp [eqL] at h
  | _ :: _, [], _, _, _, _, h, _, _ => by simp [eqL] at h
  | _ :: _, _ :: _, [], _, _, _, h, _, _ => by simp [eqL] at h

theorem relL_append : ∀ {as bs : List A} {us ws : List Value}, relL ν as us → relL ν bs ws → relL ν (as ++ bs) (us ++ ws)
  | [], bs, us, ws, h1, h2 => by simp only [relL] at h1; subst h1; exact h2
  | a :: as, bs, us, ws, h1, h2 => by
    simp only [relL] at h1
    obtain ⟨v, us', rfl, g1, g2⟩ := h1
    simp only [List.cons_append, relL]
    exact ⟨v, us' ++ ws, rfl, g1, relL_append g2 h2⟩

theorem relLst_relTs {s : Nat} : ∀ {ts : List T} {vs : List Value}, relLst ν s ts vs → relTs ν ts vs
  | [], _, h => by simpa only [relLst, relTs] using h
  | t :: ts, _, h => by
    simp only [relLst] at h
    obtain ⟨us, ws, e, _, h1, h2⟩ := h
    simp only [relTs]
    exact ⟨us, ws, e, h1, relLst_relTs h2⟩

mutual
theorem flatT_rel : ∀ {t : T} {as : List A} {vs : List Value}, flatT t = some as → t.rel ν vs → relL ν as vs
  | .a x, as, vs, h, hr => by
    simp only [flatT, Option.some.injEq] at h
    subst h
    simp only [T.rel] at hr
    obtain ⟨v, rfl, h1, _⟩ := hr
    simp only [relL]
    exact ⟨v, [], rfl, h1, rfl⟩
  | .st fs, as, vs, h, hr => by
    simp only [flatT] at h
    simp only [T.rel] at hr
    exact flatTs_rel h hr
  | .lst s ts, as, vs, h, hr => by
    simp only [flatT] at h
    simp only [T.rel] at hr
    exact flatTs_rel h (relLst_relTs hr)
  | .arr _ _ _, _, _, h, _ => by simp only [flatT] at h; cases h
  | .bad, _, _, h, _ => by simp only [flatT] at h; cases h
  | .mp _ _ _, _, _, h, _ => by simp only [flatT] at h; cases h
theorem flatTs_rel : ∀ {ts : List T} {as : List A} {vs : List Value}, flatTs ts = some as → relTs ν ts vs → relL ν as vs
  | [], as, vs, h, hr => by
    simp only [flatTs, Option.some.injEq] at h
    subst h
    simp only [relTs] at hr
    subst hr
    simp only [relL]
  | t :: ts, as, vs, h, hr => by
    simp only [flatTs] at h
    split at h
    · rename_i a b h1 h2
      simp only [Option.some.injEq] at h
      subst h
      simp only [relTs] at hr
      obtain ⟨us, ws, rfl, g1, g2⟩ := hr
      exact relL_append (flatT_rel h1 g1) (flatTs_rel h2 g2)
    · cases h
end

/-- What is known of the types that are structs or arrays of numbers and bools. -/
def EqOK (cx : Cx) : Prop := ∀ t sh xs ys r, cx.eqT t = some sh → eqVs sh xs ys = some r →
  ∀ (w : World) (X Y : Operand), (do eqGuard .eql t X Y (.agg xs.toArray) (.agg ys.toArray); binOp .eql t (.agg xs.toArray) (.agg ys.toArray)).run cx.P w = .ok (.bool r) w ∧
    (do eqGuard .neq t X Y (.agg xs.toArray) (.agg ys.toArray); binOp .neq t (.agg xs.toArray) (.agg ys.toArray)).run cx.P w = .ok (.bool (!r)) w
theorem eqGuard_int (op : BinOp) (t : TypeId) (X Y : Operand) (k k' : IntKind) (m n : Int) : (eqGuard op t X Y (.int k m) (.int k' n)).run P w = .ok () w := by
  unfold eqGuard; cases op <;> simp
theorem eqGuard_bool (op : BinOp) (t : TypeId) (X Y : Operand) (p q : Bool) : (eqGuard op t X Y (.bool p) (.bool q)).run P w = .ok () w := by
  unfold eqGuard; cases op <;> simp

theorem run_equalIn_bool (d : Nat) {t : TypeId} (h : P.underlying t = some .bool) (p q : Bool) : (Op.equalIn (d + 1) t (.bool p) (.bool q)).run P w = .ok (p == q) w := by
  rw [Op.equalIn, Sem.run_bind, run_underlying' h]; rfl

theorem run_equal_bool {t : TypeId} (h : P.underlying t = some .bool) (p q : Bool) : (Op.equal t (.bool p) (.bool q)).run P w = .ok (p == q) w :=
  run_equalIn_bool 9999 h p q

theorem run_equal_slice {t e : TypeId} (h : P.underlying t = some (.slice e)) (o1 o2 : Option Addr) (l1 c1 l2 c2 : Nat) (r : Bool)
    (hr : (o1 = none ∧ o2.isNone = r) ∨ (o1.isSome = true ∧ o2 = none ∧ r = false)) :
    (Op.equal t (.slice o1 l1 c1) (.slice o2 l2 c2)).run P w = .ok r w := by
  show (Op.equalIn (9999 + 1) t _ _).run P w = _
  unfold Op.equalIn
  rw [Sem.run_bind, run_underlying' h]
  rcases hr with ⟨rfl, rfl⟩ | ⟨h1, rfl, rfl⟩
  · rfl
  · cases o1 with
    | none => cases h1
    | some a => rfl


/-- Held against nil: pointers, functions. -/
theorem run_equal_ptr {t e : TypeId} (h : P.underlying t = some (.pointer e)) (o1 o2 : Option Addr) (r : Bool)
    (hr : (o1 = none ∧ o2.isNone = r) ∨ (o1.isSome = true ∧ o2 = none ∧ r = false)) : (Op.equal t (.pointer o1) (.pointer o2)).run P w = .ok r w := by
  show (Op.equalIn (9999 + 1) t _ _).run P w = _
  unfold Op.equalIn
  rw [Sem.run_bind, run_underlying' h]
  rcases hr with ⟨rfl, rfl⟩ | ⟨h1, rfl, rfl⟩
  · cases o2 <;> simp
  · cases o1 with
    | none => cases h1
    | some a => simp
theorem run_equal_func {t : TypeId} {a b : Array TypeId} {c : Bool} (h : P.underlying t = some (.func a b c)) (f g : Value) (r : Bool)
    (hr : (f = .nilFunc ∧ g = .nilFunc ∧ r = true) ∨ (f = .nilFunc ∧ (∃ x y z, g = .func x y z) ∧ r = false) ∨ ((∃ x y z, f = .func x y z) ∧ g = .nilFunc ∧ r = false)) : (Op.equal t f g).run P w = .ok r w := by
  show (Op.equalIn (9999 + 1) t _ _).run P w = _
  unfold Op.equalIn
  rw [Sem.run_bind, run_underlying' h]
  rcases hr with ⟨rfl, rfl, rfl⟩ | ⟨rfl, ⟨x, y, z, rfl⟩, rfl⟩ | ⟨⟨x, y, z, rfl⟩, rfl, rfl⟩ <;> rfl

/-- Values that are held against nil are no numbers, no structs. -/
def Nilish (v : Value) : Prop := (∃ o l c, v = .slice o l c) ∨ (∃ o, v = .pointer o) ∨ v = .nilFunc ∨ ∃ x y z, v = .func x y z

theorem nilish_bin {t : TypeId} {vx vy : Value} {e : Bool} (hx : Nilish vx) (hy : Nilish vy) (op : BinOp) (X Y : Operand) (hr : (Op.equal t vx vy).run P w = .ok e w) :
    (eqGuard op t X Y vx vy).run P w = .ok () w ∧ (binOp .eql t vx vy).run P w = .ok (.bool e) w ∧ (binOp .neq t vx vy).run P w = .ok (.bool (!e)) w := by
  have h2 : (Op.equal t vx vy >>= fun z => (pure (Value.bool z) : Sem Value)).run P w = .ok (.bool e) w := by rw [Sem.run_bind, hr]; rfl
  have h3 : (Op.equal t vx vy >>= fun z => (pure (Value.bool (!z)) : Sem Value)).run P w = .ok (.bool (!e)) w := by rw [Sem.run_bind, hr]; rfl
  rcases hx with ⟨o, l, c, rfl⟩ | ⟨o, rfl⟩ | rfl | ⟨x, y, z, rfl⟩ <;> rcases hy with ⟨o', l', c', rfl⟩ | ⟨o', rfl⟩ | rfl | ⟨x', y', z', rfl⟩ <;>
    exact ⟨by cases op <;> rfl, h2, h3⟩

theorem nilEq_sound {t : TypeId} {x y : A} {e : Bool} {vx vy : Value} (h : nilEq P t x y = some e) (hx : x.rel ν vx) (hy : y.rel ν vy) (op : BinOp) (X Y : Operand) :
    (eqGuard op t X Y vx vy).run P w = .ok () w ∧ (binOp .eql t vx vy).run P w = .ok (.bool e) w ∧ (binOp .neq t vx vy).run P w = .ok (.bool (!e)) w := by
  unfold nilEq at h
  split at h
  · rename_i el hu
    split at h <;> simp at h <;> subst h <;> simp only [A.rel] at hx hy
    · subst hx hy
      exact nilish_bin (.inl ⟨_, _, _, rfl⟩) (.inl ⟨_, _, _, rfl⟩) op X Y (run_equal_slice hu _ _ _ _ _ _ _ (.inl ⟨rfl, rfl⟩))
    · obtain ⟨b, base, o, c, _, rfl, _⟩ := hx
      subst hy
      exact nilish_bin (.inl ⟨_, _, _, rfl⟩) (.inl ⟨_, _, _, rfl⟩) op X Y (run_equal_slice hu _ _ _ _ _ _ _ (.inr ⟨rfl, rfl, rfl⟩))
    · obtain ⟨b, base, o, c, _, rfl, _⟩ := hy
      subst hx
      exact nilish_bin (.inl ⟨_, _, _, rfl⟩) (.inl ⟨_, _, _, rfl⟩) op X Y (run_equal_slice hu _ _ _ _ _ _ _ (.inl ⟨rfl, rfl⟩))
  · rename_i el hu
    split at h <;> simp at h <;> subst h <;> simp only [A.rel] at hx hy
    · subst hx hy
      exact nilish_bin (.inr (.inl ⟨_, rfl⟩)) (.inr (.inl ⟨_, rfl⟩)) op X Y (run_equal_ptr hu _ _ _ (.inl ⟨rfl, rfl⟩))
    · obtain ⟨b, base, _, rfl⟩ := hx
      subst hy
      exact nilish_bin (.inr (.inl ⟨_, rfl⟩)) (.inr (.inl ⟨_, rfl⟩)) op X Y (run_equal_ptr hu _ _ _ (.inr ⟨rfl, rfl, rfl⟩))
    · obtain ⟨b, base, _, rfl⟩ := hy
      subst hx
      exact nilish_bin (.inr (.inl ⟨_, rfl⟩)) (.inr (.inl ⟨_, rfl⟩)) op X Y (run_equal_ptr hu _ _ _ (.inl ⟨rfl, rfl⟩))
  · rename_i a b c hu
    split at h <;> simp at h <;> subst h <;> simp only [A.rel] at hx hy
    · subst hx hy
      exact nilish_bin (.inr (.inr (.inl rfl))) (.inr (.inr (.inl rfl))) op X Y (run_equal_func hu _ _ _ (.inl ⟨rfl, rfl, rfl⟩))
    · obtain ⟨vs, rfl, _⟩ := hx
      subst hy
      exact nilish_bin (.inr (.inr (.inr ⟨_, _, _, rfl⟩))) (.inr (.inr (.inl rfl))) op X Y (run_equal_func hu _ _ _ (.inr (.inr ⟨⟨_, _, _, rfl⟩, rfl, rfl⟩)))
    · obtain ⟨vs, rfl, _⟩ := hy
      subst hx
      exact nilish_bin (.inr (.inr (.inl rfl))) (.inr (.inr (.inr ⟨_, _, _, rfl⟩))) op X Y (run_equal_func hu _ _ _ (.inr (.inl ⟨rfl, ⟨_, _, _, rfl⟩, rfl⟩)))
  · cases h

theorem eqRes_sound (m : Mem S ν w h) {op : BinOp} {t : TypeId} {z : A} {r : OpR} {e : Bool} {vx vy : Value} {X Y : Operand} (he : eqRes h op z = some r) (hz : z.rel ν (.bool e))
    (h1 : (do eqGuard .eql t X Y vx vy; binOp .eql t vx vy).run P w = .ok (.bool e) w) (h2 : (do eqGuard .neq t X Y vx vy; binOp .neq t vx vy).run P w = .ok (.bool (!e)) w) :
    Runs P S ν w h (do eqGuard op t X Y vx vy; binOp op t vx vy) r := by
  unfold eqRes at he
  split at he
  · rw [mkA_eq he]; exact Runs.same m h1 hz
  · split at he
    · rename_i z' hn
      rw [mkA_eq he]; exact Runs.same m h2 (notA_sound hn hz)
    · cases he
  · cases he

theorem evalBin_sound (hE : EqOK cx) (m : Mem S ν w h) {op : BinOp} {t : TypeId} {x y : V} {r : OpR} (he : evalBin cx h op t x y = some r) (hok : okB r.ok = true) {vx vy : Value} (hx : x.rel ν vx) (hy : y.rel ν vy) (X Y : Operand) :
    Runs cx.P S ν w h (do eqGuard op t X Y vx vy; binOp op t vx vy) r := by
  unfold evalBin at he
  split at he
  · rename_i x y
    have hx : x.rel ν vx := hx
    have hy : y.rel ν vy := hy
    unfold evalBinA at he
    split at he
    · rename_i ok z hb
      simp only [Option.some.injEq] at he
      subst he
      obtain ⟨⟨k, a, k', b, rfl, rfl⟩, v', hr, hz⟩ := binInt_sound (P := cx.P) (w := w) t hb hok hx hy
      exact Runs.same m (v := v') (by rw [Sem.run_bind, eqGuard_int]; exact hr) hz
    · split at he
      · rename_i e hn
        obtain ⟨_, g2, g3⟩ := nilEq_sound (P := cx.P) (w := w) hn hx hy op X Y
        have g1 := fun op => (nilEq_sound (P := cx.P) (w := w) hn hx hy op X Y).1
        exact eqRes_sound m he (ofDec_rel _ _) (by rw [Sem.run_bind, g1]; exact g2) (by rw [Sem.run_bind, g1]; exact g3)
      · split at he
        · rename_i p q hu hp hq
          have a1 := A.rel_bool hx hp
          have a2 := A.rel_bool hy hq
          subst a1 a2
          exact eqRes_sound m he (e := p == q) (by simp only [A.rel]) (by rw [Sem.run_bind, eqGuard_bool]; simp [binOp, run_equal_bool hu]) (by rw [Sem.run_bind, eqGuard_bool]; simp [binOp, run_equal_bool hu])
        · cases he
  · rename_i x y _
    split at he
    · rename_i hag
      simp only [Bool.and_eq_true] at hag
      unfold evalBinG at he
      split at he
      · rename_i sh xs ys hsh hxs hys
        split at he
        · rename_i z hz
          have agg : ∀ {t : T} {v : Value} {as : List A}, aggB t = true → flatT t = some as → t.relV ν v → ∃ vs : Array Value, v = .agg vs ∧ relL ν as vs.toList := by
            intro t v as ha hf hr
            cases t with
            | a x => cases ha
            | bad => simp [flatT] at hf
            | mp k ks ts => simp [flatT] at hf
            | st fs => obtain ⟨vs, e, g⟩ := hr; exact ⟨vs, e, flatT_rel hf g⟩
            | lst s ts => obtain ⟨vs, e, g⟩ := hr; exact ⟨vs, e, flatT_rel hf g⟩
            | arr s n sh => simp [flatT] at hf
          obtain ⟨us, rfl, hu⟩ := agg hag.1 hxs hx
          obtain ⟨ws, rfl, hw⟩ := agg hag.2 hys hy
          obtain ⟨q, hq, hzq⟩ := eqL_sound hz hu hw
          have hrun := hE t sh us.toList ws.toList q hsh hq w X Y
          simp only [Array.toArray_toList] at hrun
          exact eqRes_sound m he hzq hrun.1 hrun.2
        · cases he
      · cases he
    · cases he
  · cases he
end
end Go.WE
