/- helper.words as a contract, for bytes that are known. -/
import Derived.Test.YtcbijmamfbfelaaWords
import Derived.Test.YtcbijmamfbfelaaLaid
namespace Go.WE
set_option linter.unusedVariables false
set_option maxRecDepth 100000
open Go Go.Proofs
open Go.RowKit (Below)

/-- A new block that a call has made. -/
theorem goes_made {S : Nat → Prop} {ν : Nu} {w w' : World} {h : H} {b : Nat} {cs : Array Value} {ty : TypeId} {vs post : List Value} {t : T} (hm : Mem S ν w h) (hb : Below w.heap.size w w') (hge : w.heap.size ≤ b)
    (hcell : w'.heap[b]? = some (.cells cs ty (0, 0))) (hcs : cs.toList = vs ++ post) (ht : ∀ ν', t.rel ν' vs) : Goes S ν w h (upd ν h.next (b, 0)) w' (h.new ⟨true, t⟩) := by
  have hlt : b < w'.heap.size := (Array.getElem?_eq_some_iff.1 hcell).1
  have hn : ν h.next = none := hm.nums.fresh _ (Nat.le_refl _)
  have hle := le_upd (p := (b, 0)) hn
  have hget : ∀ id, (h.new ⟨true, t⟩).m.get id = if h.next = id then some ⟨true, t⟩ else h.m.get id := fun id => Tr.get_set _ _ _ _
  refine ⟨hle, ⟨⟨?_, ?_, ?_, ?_, ?_, fun g hg => hle _ _ (hm.nums.glob g hg)⟩, ?_⟩, ⟨hb.os, hb.tape, hb.output, hb.size, fun r hr _ => hb.block r hr⟩, ?_, new_ext hm.nums.lo _, ?_⟩
  · intro id r base hi
    unfold upd at hi
    split at hi
    · simp at hi; omega
    · have h1 := hm.nums.lt id r base hi
      exact Nat.lt_of_lt_of_le h1 hb.size
  · intro id b' hb' hrw id' r base base' h1 h2
    rw [hget] at hb'
    unfold upd at h1 h2
    split at h1 <;> split at h2
    · omega
    · simp at h1; have := hm.nums.lt _ _ _ h2; omega
    · simp at h2; have := hm.nums.lt _ _ _ h1; omega
    · rename_i e1 e2
      rw [if_neg (fun e => e1 e.symm)] at hb'
      exact hm.nums.inj id b' hb' hrw id' r base base' h1 h2
  · intro id hi
    have hi : h.next + 1 ≤ id := hi
    unfold upd
    rw [if_neg (by omega)]
    exact hm.nums.fresh id (by omega)
  · intro id b hb
    show id < h.next + 1
    rw [hget] at hb
    split at hb
    · omega
    · have := hm.nums.bound id b hb; omega
  · have := hm.nums.lo
    show h.lo ≤ h.next + 1
    omega
  · intro id b' hb' hS
    rw [hget] at hb'
    split at hb'
    · rename_i e
      subst e
      simp at hb'
      subst hb'
      exact .inl ⟨b, 0, cs, ty, (0, 0), [], vs, post, by simp [upd], hcell, by simpa using hcs, rfl, ht _, fun _ => ⟨rfl, rfl⟩⟩
    · exact (hm.seen id b' hb' hS).mono hle fun r base hi => hb.block r (hm.nums.lt id r base hi)
  · intro id r base hn' hi
    unfold upd at hi
    split at hi
    · simp at hi; omega
    · rw [hn'] at hi; cases hi
  · intro id hi
    unfold upd
    rw [if_neg (by omega)]

/-- A call that leaves old memory as it is. -/
theorem goes_calm {S : Nat → Prop} {ν : Nu} {w w' : World} {h : H} (hm : Mem S ν w h) (hb : Below w.heap.size w w') : Goes S ν w h ν w' h :=
  ⟨Nu.le_refl _, ⟨⟨fun id r base h => Nat.lt_of_lt_of_le (hm.nums.lt id r base h) hb.size, hm.nums.inj, hm.nums.fresh, hm.nums.bound, hm.nums.lo, hm.nums.glob⟩, fun id b h1 h2 => (hm.seen id b h1 h2).mono (Nu.le_refl _) (fun r base h3 => hb.block r (hm.nums.lt id r base h3))⟩,
    ⟨hb.os, hb.tape, hb.output, hb.size, fun r hr _ => hb.block r hr⟩, fun id r base h h' => (by rw [h] at h'; cases h'), Ext.refl _, fun _ _ => rfl⟩


/-- What Get makes of eight bytes of a list. -/
noncomputable def getR (ts : List T) (n k : Nat) : Option Int := match (evalF cxH noΓ 400 20 35 [.t (.a (.sl 0 [] 1 (.lit 0) (.lit n) none)), .t (.a (.lit .i64 (Int.ofNat k))), .t (.a (.lit .i64 8))] (hM [(0, ⟨false, .lst 1 ts⟩)] 1)).pick with
  | some (ok, .tup [.a (.lit .u64 N), .a .tt], h') => match okB ok, h'.wr with
    | true, [] => match decide (IntKind.u64.wrap N = N) with
      | true => some N
      | false => none
    | _, _ => none
  | _ => none
theorem getR_some {ts : List T} {n k : Nat} {N : Int} (h : getR ts n k = some N) : ∃ ok h', (evalF cxH noΓ 400 20 35 [.t (.a (.sl 0 [] 1 (.lit 0) (.lit n) none)), .t (.a (.lit .i64 (Int.ofNat k))), .t (.a (.lit .i64 8))] (hM [(0, ⟨false, .lst 1 ts⟩)] 1)).pick = some (ok, .tup [.a (.lit .u64 N), .a .tt], h') ∧ okB ok = true ∧ h'.wr = [] ∧ IntKind.u64.wrap N = N := by
  unfold getR at h
  split at h
  · rename_i ok N' h' hp
    split at h
    · rename_i e1 e2
      split at h
      · rename_i e3
        simp only [Option.some.injEq] at h
        subst h
        exact ⟨ok, h', hp, e1, e2, of_decide_eq_true e3⟩
      · cases h
    · cases h
  · cases h

theorem get_any {ts : List T} {n k : Nat} {N : Int} (hR : getR ts n k = some N) (hf : freeTs ts = true) (hk : IntKind.i64.wrap (Int.ofNat k) = Int.ofNat k) {ν : Nu} {b base c : Nat} {cs : Array Value} {ty : TypeId} {fr : Nat × Nat} {pre vs post : List Value}
    (h3 : cs.toList = pre ++ vs ++ post) (h4 : pre.length = base) (h5 : (T.lst 1 ts).rel ν vs) (hc : n ≤ c) (w : World) (h2 : w.heap[b]? = some (.cells cs ty fr)) :
    Calls Try.prog 35 #[.slice (some ⟨b, base, none⟩) n c, .int .i64 (Int.ofNat k), .int .i64 8] w fun e w' => e = .returned (.tuple #[.int .u64 N, .bool true]) ∧ Below w.heap.size w w' := by
  obtain ⟨ok, h', hp, hok, hwr, _⟩ := getR_some hR
  obtain ⟨_, hfn⟩ := evalF_fn (XH noΓ_ok) rfl hp hok
  let ν0 : Nu := fun i => if i = 0 then some (b, base) else none
  have hν0 : ∀ i r base', ν0 i = some (r, base') → i = 0 ∧ r = b ∧ base' = base := fun i r base' e => by
    simp only [ν0] at e
    split at e
    · cases e; exact ⟨by assumption, rfl, rfl⟩
    · cases e
  have hlt : b < w.heap.size := (Array.getElem?_eq_some_iff.1 h2).1
  have hget : ∀ i x, (hM [(0, ⟨false, .lst 1 ts⟩)] 1).m.get i = some x → i = 0 ∧ x = ⟨false, .lst 1 ts⟩ := fun i x e => by
    have := get_memT _ i x e
    simp only [List.mem_singleton, Prod.mk.injEq] at this
    exact this
  have m0 : Mem (fun _ => True) ν0 w (hM [(0, ⟨false, .lst 1 ts⟩)] 1) := ⟨⟨fun i r b' e => by obtain ⟨_, rfl, _⟩ := hν0 _ _ _ e; exact hlt, fun i x e hrw => by (obtain ⟨_, rfl⟩ := hget i x e; cases hrw), fun i hi => by
      have hi : 1 ≤ i := hi
      simp only [ν0]
      rw [if_neg (by omega)], fun i x e => by obtain ⟨rfl, _⟩ := hget i x e; exact Nat.lt_succ_self _, Nat.le_refl _, fun g hg => (by cases hg)⟩, fun i x e _ => by
      obtain ⟨rfl, rfl⟩ := hget i x e
      exact .inl ⟨b, base, cs, ty, fr, pre, vs, post, by simp [ν0], h2, h3, h4, T.rel_free (t := .lst 1 ts) hf h5, fun h => by cases h⟩⟩
  have a0 : relV ν0 [.t (.a (.sl 0 [] 1 (.lit 0) (.lit n) none)), .t (.a (.lit .i64 (Int.ofNat k))), .t (.a (.lit .i64 8))] [.slice (some ⟨b, base, none⟩) n c, .int .i64 (Int.ofNat k), .int .i64 8] := by
    refine ⟨?_, ?_, ?_, trivial⟩
    · show (A.sl 0 [] 1 (.lit 0) (.lit n) none).rel ν0 _
      simp only [A.rel]
      exact ⟨b, base, base, c, by simp [ν0], rfl, fun _ => by simp [pathOff, Ix.val], hc, fun _ e => by cases e⟩
    · show (A.lit .i64 (Int.ofNat k)).rel ν0 _
      simp only [A.rel]
      exact ⟨trivial, hk⟩
    · show (A.lit .i64 8).rel ν0 _
      simp only [A.rel]
      exact ⟨trivial, rfl⟩
  refine (hfn (fun _ => True) ν0 w _ (fun _ _ => trivial) (fun _ _ => trivial) m0 a0).mono ?_
  rintro e w' ⟨u, ν', rfl, hu, g⟩
  refine ⟨?_, g.frm.os, g.frm.tape, g.frm.output, g.frm.size, fun r hr => g.frm.block r hr fun i b' e => ?_⟩
  · obtain ⟨us, rfl, hus⟩ := hu
    match us, hus with
    | ⟨[u1, u2]⟩, hus =>
      obtain ⟨q1, q2, _⟩ := hus
      have q1 : (A.lit .u64 N).rel ν' u1 := q1
      have q2 : (A.tt).rel ν' u2 := q2
      simp only [A.rel] at q1 q2
      obtain ⟨rfl, _⟩ := q1
      subst q2
      rfl
  · obtain ⟨rfl, rfl, rfl⟩ := hν0 _ _ _ e
    exact ⟨by rw [g.ext.lo]; exact Nat.lt_succ_self _, by rw [hwr]; exact fun h => by cases h⟩

def litsT (l : List Int) : T := .lst 1 (l.map fun n => .a (.lit .u64 n))
noncomputable def wordsS (ts : List T) : Nat → Option (List Int)
  | 8 => match getR ts 8 0 with
    | some a => some [a]
    | none => none
  | 16 => match getR ts 16 0 with
    | some a => match getR ts 16 8 with
      | some b => some [a, b]
      | none => none
    | none => none
  | _ => none
noncomputable def wordsΓ (Γ : Gam) : Gam := fun f args h => match Nat.beq f 30 with
  | true => match args with
    | [.t (.a (.sl id [] 1 (.lit 0) (.lit n) _))] => match h.m.get id with
      | some ⟨_, .lst 1 ts⟩ => match freeTs ts with
        | true => match wordsS ts n with
          | some l => some (.leaf .tt (.t (.a (.sl h.next [] 1 (.lit 0) (.lit l.length) none))) ((h.see id).new ⟨true, litsT l⟩))
          | none => none
        | false => none
      | _ => none
    | _ => none
  | false => Γ f args h

theorem enters30 : Enters Try.prog 30 := enters_of entH 30 _ Try.func30 (by simp [Try.f30])
theorem nums_rel {ν : Nu} : ∀ {l : List Int}, (∀ n, n ∈ l → IntKind.u64.wrap n = n) → (litsT l).rel ν (l.map fun n => .int .u64 n) := by
  intro l h
  unfold litsT
  simp only [T.rel]
  induction l with
  | nil => simp [relLst]
  | cons n l ih =>
    simp only [List.map_cons, relLst]
    refine ⟨[.int .u64 n], _, rfl, rfl, ?_, ih (fun m hm => h m (.tail _ hm))⟩
    simp only [T.rel, A.rel]
    exact ⟨_, rfl, ⟨rfl, h n (.head _)⟩, trivial⟩
theorem words_fn {id n : Nat} {c : Option Ix} {h : H} {rw : Bool} {ts : List T} {l : List Int} (hb : h.m.get id = some ⟨rw, .lst 1 ts⟩) (hf : freeTs ts = true) (hl : wordsS ts n = some l) :
    FnOK Try.prog 30 [.t (.a (.sl id [] 1 (.lit 0) (.lit n) c))] h (.t (.a (.sl h.next [] 1 (.lit 0) (.lit l.length) none))) ((h.see id).new ⟨true, litsT l⟩) := by
  intro S ν w vs hrd _ hm hargs
  match vs, hargs with
  | [v0], ⟨r0, _⟩ =>
    have r0 : (A.sl id [] 1 (.lit 0) (.lit n) c).rel ν v0 := r0
    simp only [A.rel] at r0
    obtain ⟨b, base, o, c', hid, rfl, ho, hlen, _⟩ := r0
    have hrd' : ∀ i, i ∈ (h.see id).rd → S i := hrd
    obtain ⟨r, base', cs, ty, fr, pre, us, post, q1, q2, q3, q4, q5, q6⟩ := (hm.seen id _ hb (see_seen hrd')).cells rfl
    rw [hid] at q1
    cases q1
    have hlen : n ≤ c' := hlen
    have hbs : b < w.heap.size := (Array.getElem?_eq_some_iff.1 q2).1
    have fin : ∀ (m : Nat) (hm2 : m = 1 ∨ m = 2) (hn : n = 8 * m) (g : Nat → Int) (hg : ∀ j, j < m → getR ts n (8 * j) = some (g j)) (hl2 : l = (List.range m).map g),
        Calls Try.prog 30 #[.slice (some ⟨b, o, none⟩) n c'] w (fun e w' => ∃ u ν', e = .returned u ∧ (V.t (.a (.sl h.next [] 1 (.lit 0) (.lit l.length) none))).rel ν' u ∧ Goes S ν w h ν' w' ((h.see id).new ⟨true, litsT l⟩)) := by
      intro m hm2 hn g hg hl2
      have ho : o = base := by
        have := ho (by omega)
        simpa [Ix.val, pathOff] using this
      subst ho
      subst hn
      refine (Ytcbijmamfbfelaa.Wor.words_any b o c' m hm2 g w hbs (fun j hj w1 hw1 => ?_)).mono ?_
      · have hk : IntKind.i64.wrap (Int.ofNat (8 * j)) = Int.ofNat (8 * j) := by
          have : j = 0 ∨ j = 1 := by omega
          rcases this with rfl | rfl <;> rfl
        have := get_any (hg j hj) hf hk q3 q4 q5 hlen w1 (hw1.trans q2)
        simpa using this
      · rintro e w' ⟨v, rfl, hown, hbel⟩
        obtain ⟨_, hcase⟩ := hown
        rcases hcase with ⟨_, e0⟩ | ⟨b', cap', cur, rfl, hge, hh, hncap, hcap, hsz, htake⟩
        · omega
        · have hll : l.length = m := by rw [hl2]; simp
          refine ⟨_, upd ν h.next (b', 0), rfl, ?_, ?_⟩
          · show (A.sl h.next [] 1 (.lit 0) (.lit l.length) none).rel _ _
            simp only [A.rel]
            exact ⟨b', 0, 0, cap', by simp [upd], by rw [hll]; rfl, fun _ => rfl, by rw [hll]; exact hncap, fun _ e => by cases e⟩
          · have hs := hm.see id
            have hm' : Mem S ν w (h.see id) := hs.mem
            refine hs.trans ?_
            refine goes_made (h := h.see id) (vs := Ytcbijmamfbfelaa.Wor.numsL g m) (post := cur.toList.drop m) hm' hbel hge hh (by rw [Nat.mul_one] at htake; rw [← htake, List.take_append_drop]) (fun ν' => ?_)
            have e1 : Ytcbijmamfbfelaa.Wor.numsL g m = l.map fun n => .int .u64 n := by rw [hl2, Ytcbijmamfbfelaa.Wor.numsL, List.map_map]; rfl
            rw [e1]
            refine nums_rel fun x hx => ?_
            rw [hl2] at hx
            simp only [List.mem_map, List.mem_range] at hx
            obtain ⟨j, hj, rfl⟩ := hx
            obtain ⟨_, _, _, _, _, hw⟩ := getR_some (hg j hj)
            exact hw
    unfold wordsS at hl
    split at hl
    · split at hl
      · rename_i a ha
        simp only [Option.some.injEq] at hl
        subst hl
        exact fin 1 (.inl rfl) rfl (fun _ => a) (fun j hj => by obtain rfl : j = 0 := by omega
                                                                exact ha) rfl
      · cases hl
    · split at hl
      · rename_i a ha
        split at hl
        · rename_i b2 hb2
          simp only [Option.some.injEq] at hl
          subst hl
          exact fin 2 (.inr rfl) rfl (fun j => if j = 0 then a else b2) (fun j hj => by
            match j, hj with
            | 0, _ => exact ha
            | 1, _ => exact hb2) rfl
        · cases hl
      · cases hl
    · cases hl

theorem wordsΓ_ok {Γ : Gam} (hΓ : ΓOK Try.prog Γ) : ΓOK Try.prog (wordsΓ Γ) where
  ok := by
    intro f args h r ok v h' hr hp hok
    unfold wordsΓ at hr
    split at hr
    · rename_i hg
      have hg := Go.WE.beq_true hg
      subst hg
      split at hr
      · split at hr
        · rename_i hb
          split at hr
          · rename_i hf
            split at hr
            · rename_i l hl
              cases hr
              simp only [R.pick, Option.some.injEq, Prod.mk.injEq] at hp
              obtain ⟨rfl, rfl, rfl⟩ := hp
              exact .inl ⟨enters30, words_fn hb hf hl⟩
            · cases hr
          · cases hr
        · cases hr
      · cases hr
    · exact hΓ.ok f args h r ok v h' hr hp hok
  pan := by
    intro f args h r ok v h' hr hp hok
    unfold wordsΓ at hr
    split at hr
    · repeat' split at hr
      all_goals first | (cases hr; simp [R.pickP] at hp) | cases hr
    · exact hΓ.pan f args h r ok v h' hr hp hok
  ext := by
    intro f args h r hr hlo
    unfold wordsΓ at hr
    split at hr
    · split at hr
      · rename_i id _ _
        repeat' split at hr
        all_goals first | (cases hr; exact (see_ext h id).trans (new_ext (h := h.see id) hlo _)) | cases hr
      · cases hr
    · exact hΓ.ext f args h r hr hlo

/-! ### laid, as a contract -/

def laidS : List V → Option T
  | [.t (.a (.lit .i64 m)), .t (.a (.lit .u64 fl))] => some (laidT m fl)
  | _ => none
theorem laid_ok {Γ : Gam} (hΓ : ΓOK Try.prog Γ) : ΓOK Try.prog (newΓ 4 laidS Γ) := by
  refine newΓ_ok (fun args t h => ?_) hΓ
  unfold laidS at h
  split at h
  · rename_i m fl
    cases h
    have he := laid_ev m fl
    unfold R.new1 at he
    split at he
    · rename_i ok id h hp
      split at he
      · rename_i b hb
        simp only [Option.some.injEq, Prod.mk.injEq] at he
        obtain ⟨rfl, rfl, rfl⟩ := he
        obtain ⟨h1, h2⟩ := evalF_fn (XH noΓ_ok) rfl hp rfl
        exact ⟨h1, fnOK_new h2 hb rfl rfl (fun ν vs hv => hv) rfl⟩
      · cases he
    · cases he
  · cases h

noncomputable def ΓH : Gam := newΓ 4 laidS (wordsΓ noΓ)
theorem ΓH_ok : ΓOK Try.prog ΓH := laid_ok (wordsΓ_ok noΓ_ok)
end Go.WE
