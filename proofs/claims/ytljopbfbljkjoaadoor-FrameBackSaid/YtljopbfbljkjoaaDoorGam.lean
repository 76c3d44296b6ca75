/- frame.Lay, frame.Read as contracts. -/
import Derived.Test.YtljopbfbljkjoaaDoorRead
namespace Go.WE
set_option linter.unusedVariables false
set_option maxRecDepth 100000
open Go Go.Proofs Go.Proofs.YtljopbfbljkjoaaDoor.Eac
open Go.RowKit (Below)

/-- A new block that a call has made. -/
theorem goes_made {S : Nat → Prop} {ν : Nu} {w w' : World} {h : H} {b : Nat} {cs : Array Value} {ty : TypeId} {vs post : List Value} {t : T} (hm : Mem S ν w h) (hb : Below w.heap.size w w') (hge : w.heap.size ≤ b)
    (hcell : w'.heap[b]? = some (.cells cs ty (0, 0))) (hcs : cs.toList = vs ++ post) (ht : ∀ ν', t.rel ν' vs) : Goes S ν w h (upd ν h.next (b, 0)) w' (h.new ⟨true, t⟩) := by
  have hlt : b < w'.heap.size := (Array.getElem?_eq_some_iff.1 hcell).1
  have hn : ν h.next = none := hm.nums.fresh _ (Nat.le_refl _)
  have hle := le_upd (p := (b, 0)) hn
  have hget : ∀ id, (h.new ⟨true, t⟩).m.get id = if h.next = id then some ⟨true, t⟩ else h.m.get id := fun id => Tr.get_set _ _ _ _
  refine ⟨hle, ⟨⟨?_, ?_, ?_, ?_, ?_, fun g hg => hle _ _ (hm.nums.glob g hg)⟩, ?_⟩, ⟨hb.os, hb.tape, hb.output, hb.size, fun r hr _ => hb.block r hr⟩, ?_, new_ext hm.nums.lo _, ?_⟩
  · intro id r base hi
    unfold upd at hi
    split at hi
    · simp at hi; omega
    · have h1 := hm.nums.lt id r base hi
      exact Nat.lt_of_lt_of_le h1 hb.size
  · intro id b' hb' hrw id' r base base' h1 h2
    rw [hget] at hb'
    unfold upd at h1 h2
    split at h1 <;> split at h2
    · omega
    · simp at h1; have := hm.nums.lt _ _ _ h2; omega
    · simp at h2; have := hm.nums.lt _ _ _ h1; omega
    · rename_i e1 e2
      rw [if_neg (fun e => e1 e.symm)] at hb'
      exact hm.nums.inj id b' hb' hrw id' r base base' h1 h2
  · intro id hi
    have hi : h.next + 1 ≤ id := hi
    unfold upd
    rw [if_neg (by omega)]
    exact hm.nums.fresh id (by omega)
  · intro id b hb
    show id < h.next + 1
    rw [hget] at hb
    split at hb
    · omega
    · have := hm.nums.bound id b hb; omega
  · have := hm.nums.lo
    show h.lo ≤ h.next + 1
    omega
  · intro id b' hb' hS
    rw [hget] at hb'
    split at hb'
    · rename_i e
      subst e
      simp at hb'
      subst hb'
      exact .inl ⟨b, 0, cs, ty, (0, 0), [], vs, post, by simp [upd], hcell, by simpa using hcs, rfl, ht _, fun _ => ⟨rfl, rfl⟩⟩
    · exact (hm.seen id b' hb' hS).mono hle fun r base hi => hb.block r (hm.nums.lt id r base hi)
  · intro id r base hn' hi
    unfold upd at hi
    split at hi
    · simp at hi; omega
    · rw [hn'] at hi; cases hi
  · intro id hi
    unfold upd
    rw [if_neg (by omega)]

/-- A call that leaves old memory as it is. -/
theorem goes_calm {S : Nat → Prop} {ν : Nu} {w w' : World} {h : H} (hm : Mem S ν w h) (hb : Below w.heap.size w w') : Goes S ν w h ν w' h :=
  ⟨Nu.le_refl _, ⟨⟨fun id r base h => Nat.lt_of_lt_of_le (hm.nums.lt id r base h) hb.size, hm.nums.inj, hm.nums.fresh, hm.nums.bound, hm.nums.lo, hm.nums.glob⟩, fun id b h1 h2 => (hm.seen id b h1 h2).mono (Nu.le_refl _) (fun r base h3 => hb.block r (hm.nums.lt id r base h3))⟩,
    ⟨hb.os, hb.tape, hb.output, hb.size, fun r hr _ => hb.block r hr⟩, fun id r base h h' => (by rw [h] at h'; cases h'), Ext.refl _, fun _ _ => rfl⟩



/-- A call that turns one block. -/
theorem goes_turned {S : Nat → Prop} {ν : Nu} {w w' : World} {h : H} {id r : Nat} {t' : T} {b : Blk} (m : Mem S ν w h) (hb : h.m.get id = some b) (hrw : b.rw = true) (hν : ν id = some (r, 0)) (hbut : But r w.heap.size w w') (hh : Holds w' r t') :
    Goes S ν w h ν w' (h.put id ⟨true, t'⟩) := by
  have hget : ∀ j, (h.put id ⟨true, t'⟩).m.get j = if id = j then some ⟨true, t'⟩ else h.m.get j := fun j => Tr.get_set _ _ _ _
  refine ⟨Nu.le_refl _, ⟨⟨?_, ?_, m.nums.fresh, ?_, m.nums.lo, m.nums.glob⟩, ?_⟩, ⟨hbut.os, hbut.tape, hbut.output, hbut.size, ?_⟩, fun _ _ _ h h' => (by rw [h] at h'; cases h'), put_ext hb hrw rfl, fun _ _ => rfl⟩
  · intro j r' base hj
    exact Nat.lt_of_lt_of_le (m.nums.lt j r' base hj) hbut.size
  · intro j b' hb' hrw' j' r' base base' h1 h2
    rw [hget] at hb'
    split at hb'
    · rename_i e
      subst e
      exact m.nums.inj id b hb hrw j' r' base base' h1 h2
    · exact m.nums.inj j b' hb' hrw' j' r' base base' h1 h2
  · intro j b' hb'
    rw [hget] at hb'
    split at hb'
    · rename_i e
      subst e
      exact m.nums.bound id b hb
    · exact m.nums.bound j b' hb'
  · intro j b' hb' hS
    rw [hget] at hb'
    split at hb'
    · rename_i e
      subst e
      simp at hb'
      subst hb'
      obtain ⟨cs, ty, vs, post, e1, e2, e3⟩ := hh
      exact .inl ⟨r, 0, cs, ty, (0, 0), [], vs, post, hν, e1, by simpa using e2, rfl, T.rel_mono (fun i p e => by cases e) e3, fun _ => ⟨rfl, rfl⟩⟩
    · rename_i hne
      refine (m.seen j b' hb' hS).mono (Nu.le_refl _) fun r' base hj => hbut.block r' (m.nums.lt _ _ _ hj) ?_
      rintro rfl
      exact hne (m.nums.inj id b hb hrw j r' 0 base hν hj).symm
  · intro r' hr' hn
    refine hbut.block r' hr' ?_
    rintro rfl
    have := hn id 0 hν
    exact this.2 (mem_noteB.2 (.inl ⟨rfl, this.1⟩))

/-- A state out of a tree. -/
def shRF : Sh → Option RF
  | .st [.int .i64 k, .int .i64 o, .int .i64 m, .int .i64 i, .st [.st [.int .u64 tv, .int .u64 tm], .st [.int .u64 ul, .int .u64 uh], .st [.int .i64 sl, .int .i64 sh]]] => some ⟨k, o, m, i, tv, tm, ul, uh, sl, sh⟩
  | _ => none
def asFS : T → Option FSt
  | .st [.arr 10 (.lit 11) rs, .arr 1 (.lit 128) (.int .i64 g), .arr 10 (.lit 16) ks] => match shRF rs, shRF ks with
    | some r, some k => some ⟨r, g, k⟩
    | _, _ => none
  | _ => none
theorem shRF_some {s : Sh} {f : RF} (h : shRF s = some f) : s = f.s := by
  unfold shRF at h
  split at h
  · cases h; rfl
  · cases h
theorem asFS_some {t : T} {s : FSt} (h : asFS t = some s) : t = s.t := by
  unfold asFS at h
  split at h
  · split at h
    · rename_i h1 h2
      cases h
      rw [shRF_some h1, shRF_some h2]
      rfl
    · cases h
  · cases h
/-- The block of a state that a pointer points to. -/
def stateOf (h : H) (id : Nat) : Option FSt := match h.m.get id with
  | some ⟨true, t⟩ => asFS t
  | _ => none
theorem stateOf_some {h : H} {id : Nat} {s : FSt} (e : stateOf h id = some s) : h.m.get id = some ⟨true, s.t⟩ := by
  unfold stateOf at e
  split at e
  · rename_i t ht
    rw [ht, asFS_some e]
  · cases e
def i64Of : A → Option U
  | .lit .i64 n => some (BitVec.ofInt 64 n)
  | .i .i64 x => some x
  | _ => none
theorem i64Of_rel {ν : Nu} {a : A} {x : U} {v : Value} (h : i64Of a = some x) (hr : a.rel ν v) : v = .int .i64 (vof .i64 x) := by
  unfold i64Of at h
  split at h
  · cases h
    simp only [A.rel] at hr
    obtain ⟨rfl, hn⟩ := hr
    rw [vof_ofInt hn]
  · cases h
    simpa only [A.rel] using hr
  · cases h
/-- The byte's number of a place. -/
def posN (x : U) : Nat := (x + 128#64).toNat
theorem pos_facts {x y : U} {b n : Nat} (hb : b + n ≤ 128) (hx : vof .i64 x = (b : Int) - 128) (hy : vof .i64 y = (n : Int)) : posN x = b ∧ y.toNat = n := by
  rw [vof_toInt] at hx hy
  unfold posN
  have h1 := BitVec.toInt_eq_toNat_cond x
  have h2 := BitVec.toInt_eq_toNat_cond y
  have h3 := x.isLt
  have h4 := y.isLt
  rw [hx] at h1
  rw [hy] at h2
  rw [BitVec.toNat_add]
  have : (128#64 : U).toNat = 128 := rfl
  rw [this]
  constructor
  · split at h1 <;> omega
  · split at h2 <;> omega
def readR (g : Nat → U) (x y : U) : U := cond (thereB x y) (readN g (posN x) y.toNat) (K 17)
def FSt.mux (c : Bool) (p q : FSt) : FSt := match c with
  | true => p
  | false => q
def layR (s : FSt) (x y : U) : FSt := FSt.mux (thereB x y) (layN s (posN x) y.toNat) s

def readΓ (Γ : Gam) : Gam := fun f args h => match Nat.beq f 17 with
  | true => match args with
    | [.t (.a (.ptr id [])), .t (.a ax), .t (.a ay)] => match stateOf h id, i64Of ax, i64Of ay with
      | some s, some x, some y => some (.leaf .tt (i64 (readR s.g x y)) (h.see id))
      | _, _, _ => none
    | _ => none
  | false => Γ f args h
def layΓ (Γ : Gam) : Gam := fun f args h => match Nat.beq f 8 with
  | true => match args with
    | [.t (.a (.ptr id [])), .t (.a ax), .t (.a ay)] => match stateOf h id, i64Of ax, i64Of ay with
      | some s, some x, some y => some (.leaf .tt (i64 (cond (thereB x y) (K 0) (K 17))) ((h.see id).put id ⟨true, (layR s x y).t⟩))
      | _, _, _ => none
    | _ => none
  | false => Γ f args h

theorem enters8 : Enters Tryd.prog 8 := enters_of entK 8 _ Tryd.func8 (by simp [Tryd.f8])
theorem enters17 : Enters Tryd.prog 17 := enters_of entK 17 _ Tryd.func17 (by simp [Tryd.f17])
theorem state_args {S : Nat → Prop} {ν : Nu} {w : World} {h : H} {id : Nat} {ax ay : A} {s : FSt} {x y : U} {vs : List Value} (hs : stateOf h id = some s) (hx : i64Of ax = some x) (hy : i64Of ay = some y) (hm : Mem S ν w h) (hS : S id ∨ h.lo ≤ id) (hv : relV ν [.t (.a (.ptr id [])), .t (.a ax), .t (.a ay)] vs) :
    ∃ r, ν id = some (r, 0) ∧ Holds w r s.t ∧ vs = [.pointer (some ⟨r, 0, none⟩), .int .i64 (vof .i64 x), .int .i64 (vof .i64 y)] := by
  match vs, hv with
  | [v0, v1, v2], ⟨r0, r1, r2, _⟩ =>
    have r0 : (A.ptr id []).rel ν v0 := r0
    simp only [A.rel] at r0
    obtain ⟨r, base, e1, rfl⟩ := r0
    have hb := stateOf_some hs
    obtain ⟨r', base', cs, ty, fr, pre, us, post, q1, q2, q3, q4, q5, q6⟩ := (hm.seen id _ hb hS).cells rfl
    rw [e1] at q1
    cases q1
    obtain ⟨rfl, rfl⟩ := q6 rfl
    exact ⟨r, e1, seen_holds (hm.seen id _ hb hS) rfl rfl e1, by rw [i64Of_rel hx r1, i64Of_rel hy r2]; rfl⟩

theorem read_fn {h : H} {id : Nat} {ax ay : A} {s : FSt} {x y : U} (hs : stateOf h id = some s) (hx : i64Of ax = some x) (hy : i64Of ay = some y) :
    FnOK Tryd.prog 17 [.t (.a (.ptr id [])), .t (.a ax), .t (.a ay)] h (i64 (readR s.g x y)) (h.see id) := by
  intro S ν w vs hrd _ hm hv
  obtain ⟨r, hν, hh, rfl⟩ := state_args hs hx hy hm (see_seen hrd) hv
  have fin : ∀ u, u = vof .i64 (readR s.g x y) → ∀ w', Below w.heap.size w w' → ∃ v ν', Ending.returned (.int .i64 u) = .returned v ∧ (i64 (readR s.g x y)).rel ν' v ∧ Goes S ν w h ν' w' (h.see id) := by
    rintro u rfl w' hb
    refine ⟨_, ν, rfl, ?_, (goes_calm hm hb).trans ((goes_calm hm hb).mem.see id)⟩
    show (A.i .i64 _).rel ν _
    simp only [A.rel]
  cases ht : thereB x y
  · refine (read_not ht w hh).mono ?_
    rintro e w' ⟨rfl, hb⟩
    exact fin 17 (by unfold readR; rw [ht]; rfl) w' hb
  · obtain ⟨b, n, hbn, h1, h2⟩ := there_nat ht
    obtain ⟨e1, e2⟩ := pos_facts hbn h1 h2
    refine (read_there hbn h1 h2 ht w hh).mono ?_
    rintro e w' ⟨rfl, hb⟩
    exact fin _ (by unfold readR; rw [ht, e1, e2]; rfl) w' hb

theorem lay_fn {h : H} {id : Nat} {ax ay : A} {s : FSt} {x y : U} (hs : stateOf h id = some s) (hx : i64Of ax = some x) (hy : i64Of ay = some y) :
    FnOK Tryd.prog 8 [.t (.a (.ptr id [])), .t (.a ax), .t (.a ay)] h (i64 (cond (thereB x y) (K 0) (K 17))) ((h.see id).put id ⟨true, (layR s x y).t⟩) := by
  intro S ν w vs hrd _ hm hv
  have hrd' : ∀ i, i ∈ (h.see id).rd → S i := hrd
  obtain ⟨r, hν, hh, rfl⟩ := state_args hs hx hy hm (see_seen hrd') hv
  have hb := stateOf_some hs
  cases ht : thereB x y
  · refine (lay_not ht w hh).mono ?_
    rintro e w' ⟨rfl, hbel⟩
    refine ⟨_, ν, rfl, ?_, ?_⟩
    · show (A.i .i64 _).rel ν _
      simp only [A.rel]
      rfl
    · have e : layR s x y = s := by unfold layR; rw [ht]; rfl
      rw [e]
      have g1 := hm.see id
      exact g1.trans (goes_turned (h := h.see id) g1.mem hb rfl hν (But.of_below hbel) (hh.same (hbel.block r hh.lt)))
  · obtain ⟨b, n, hbn, h1, h2⟩ := there_nat ht
    obtain ⟨e1, e2⟩ := pos_facts hbn h1 h2
    refine (lay_there hbn h1 h2 ht w hh).mono ?_
    rintro e w' ⟨rfl, hh', hbut⟩
    refine ⟨_, ν, rfl, ?_, ?_⟩
    · show (A.i .i64 _).rel ν _
      simp only [A.rel]
      rfl
    · have e : layR s x y = layN s b n := by unfold layR; rw [ht, e1, e2]; rfl
      rw [e]
      have g1 := hm.see id
      exact g1.trans (goes_turned (h := h.see id) g1.mem hb rfl hν hbut hh')

theorem readΓ_ok {Γ : Gam} (hΓ : ΓOK Tryd.prog Γ) : ΓOK Tryd.prog (readΓ Γ) where
  ok := by
    intro f args h r ok v h' hr hp hok
    unfold readΓ at hr
    split at hr
    · rename_i hg
      have hg := Go.WE.beq_true hg
      subst hg
      split at hr
      · split at hr
        · rename_i h1 h2 h3
          cases hr
          simp only [R.pick, Option.some.injEq, Prod.mk.injEq] at hp
          obtain ⟨rfl, rfl, rfl⟩ := hp
          exact .inl ⟨enters17, read_fn h1 h2 h3⟩
        · cases hr
      · cases hr
    · exact hΓ.ok f args h r ok v h' hr hp hok
  pan := by
    intro f args h r ok v h' hr hp hok
    unfold readΓ at hr
    split at hr
    · repeat' split at hr
      all_goals first | (cases hr; simp [R.pickP] at hp) | cases hr
    · exact hΓ.pan f args h r ok v h' hr hp hok
  ext := by
    intro f args h r hr hlo
    unfold readΓ at hr
    split at hr
    · split at hr
      · rename_i id _ _
        split at hr
        · cases hr; exact see_ext h id
        · cases hr
      · cases hr
    · exact hΓ.ext f args h r hr hlo
theorem layΓ_ok {Γ : Gam} (hΓ : ΓOK Tryd.prog Γ) : ΓOK Tryd.prog (layΓ Γ) where
  ok := by
    intro f args h r ok v h' hr hp hok
    unfold layΓ at hr
    split at hr
    · rename_i hg
      have hg := Go.WE.beq_true hg
      subst hg
      split at hr
      · split at hr
        · rename_i h1 h2 h3
          cases hr
          simp only [R.pick, Option.some.injEq, Prod.mk.injEq] at hp
          obtain ⟨rfl, rfl, rfl⟩ := hp
          exact .inl ⟨enters8, lay_fn h1 h2 h3⟩
        · cases hr
      · cases hr
    · exact hΓ.ok f args h r ok v h' hr hp hok
  pan := by
    intro f args h r ok v h' hr hp hok
    unfold layΓ at hr
    split at hr
    · repeat' split at hr
      all_goals first | (cases hr; simp [R.pickP] at hp) | cases hr
    · exact hΓ.pan f args h r ok v h' hr hp hok
  ext := by
    intro f args h r hr hlo
    unfold layΓ at hr
    split at hr
    · split at hr
      · rename_i id _ _
        split at hr
        · rename_i h1 h2 h3
          cases hr
          exact (see_ext h id).trans (put_ext (h := h.see id) (stateOf_some h1) rfl rfl)
        · cases hr
      · cases hr
    · exact hΓ.ext f args h r hr hlo
end Go.WE
