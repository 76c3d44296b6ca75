/- WE29: types that are made of numbers and bools: how values of them that come in are opened, and their equality. -/
import Derived.Test.YtljopbfbljkjoaaDoorWE28
import Derived.Laws.StructEq
import Derived.OpenShut
import Derived.ChangeArms
import Derived.ChangeKeysEq
import Derived.Laws.Externs
namespace Go.WE
set_option linter.unusedVariables false
open Go
open Go.RowKit (Below)

def kindsFs (rec : TypeId → Option (List (Option IntKind))) (size : TypeId → Option Nat) : List Field → Nat → Option (List (Option IntKind))
  | [], _ => some []
  | f :: fs, off => match rec f.type with
    | some ks => match Nat.beq f.offset off && (size f.type == some ks.length) && !(f.name == "_") with
      | true => match kindsFs rec size fs (off + ks.length) with
        | some r => some (ks ++ r)
        | none => none
      | false => none
    | none => none

/-- The cells of a type that is made of numbers (`some k`) and bools (`none`) alone. -/
def kindsOf (P : Program) : Nat → TypeId → Option (List (Option IntKind))
  | 0, _ => none
  | n + 1, t => match P.underlying t with
    | some (.int k) => some [some k]
    | some .bool => some [none]
    | some (.struct fs) => match P.stoodInHeld t with
      | true => none
      | false => match kindsFs (kindsOf P n) (sizeT P) fs.toList 0 with
        | some r => match Nat.beq (P.cellsOf t) r.length with
          | true => some r
          | false => none
        | none => none
    | some (.array m e) => match kindsOf P n e with
      | some ks => match (sizeT P e == some ks.length) && Nat.beq (P.cellsOf t) (m * ks.length) with
        | true => some (List.replicate m ks).flatten
        | false => none
      | none => none
    | _ => none

def Atoms : List (Option IntKind) → List Value → Prop
  | [], cs => cs = []
  | some k :: ks, cs => ∃ x cs', cs = .int k (vof k x) :: cs' ∧ Atoms ks cs'
  | none :: ks, cs => ∃ b cs', cs = .bool b :: cs' ∧ Atoms ks cs'

theorem Atoms.append : ∀ {k1 k2 c1 c2}, Atoms k1 c1 → Atoms k2 c2 → Atoms (k1 ++ k2) (c1 ++ c2)
  | [], _, _, _, h1, h2 => by simp only [Atoms] at h1; subst h1; exact h2
  | some k :: ks, _, _, _, ⟨x, cs', e, h⟩, h2 => by subst e; exact ⟨x, _, rfl, h.append h2⟩
  | none :: ks, _, _, _, ⟨x, cs', e, h⟩, h2 => by subst e; exact ⟨x, _, rfl, h.append h2⟩

theorem cellsOf_of_sizeT {P : Program} {t : TypeId} {n : Nat} (h : sizeT P t = some n) : P.cellsOf t = n := by
  unfold sizeT at h; unfold Program.cellsOf; rw [h]; rfl

theorem vof_of_wf {k : IntKind} {n : Int} (h : (Lit.int k n).wf = true) : ∃ x : BitVec 64, n = vof k x := by
  refine ⟨BitVec.ofInt 64 n, (vof_ofInt ?_).symm⟩
  simp only [Lit.wf, Bool.and_eq_true, decide_eq_true_eq] at h
  cases k <;> simp [IntKind.wrap, IntKind.bits, IntKind.signed, IntKind.min, IntKind.max] at h ⊢ <;> (try split) <;> omega

section
variable {H : Type} {enc : TypeId × Value → H} {P : Program} {w : World} {base : Nat} {spare : Nat → Bool} {held : Bool}

theorem open_kinds : ∀ (d : Nat) {t : TypeId} {ks : List (Option IntKind)} {fuel : Nat} {cs : List Value} {x}, kindsOf P d t = some ks →
    DataW.trod enc P w base spare held fuel t cs = some x → Atoms ks cs := by
  intro d
  induction d with
  | zero => intro t ks fuel cs x h; simp [kindsOf] at h
  | succ d ih =>
    intro t ks fuel cs x h ht
    unfold kindsOf at h
    split at h
    · rename_i k hk
      simp at h; subst h
      obtain ⟨n, rfl, _, hw⟩ := DataW.trod_int hk ht
      obtain ⟨y, rfl⟩ := vof_of_wf hw
      exact ⟨y, [], rfl, rfl⟩
    · rename_i hk
      simp at h; subst h
      obtain ⟨b, rfl, _⟩ := DataW.trod_bool hk ht
      exact ⟨b, [], rfl, rfl⟩
    · rename_i fs hk
      split at h
      · cases h
      split at h
      · rename_i r hr
        split at h
        · rename_i hc
          simp at h; subst h
          have hc := Nat.eq_of_beq_eq_true hc
          obtain ⟨xs, n, _, _, hl, hxs, hf⟩ := DataW.trod_struct hk ht
          have key : ∀ (l : List Field) (off : Nat) (r : List (Option IntKind)), kindsFs (kindsOf P d) (sizeT P) l off = some r →
              (∀ f ∈ l, ∃ x, DataW.trod enc P w base spare held n f.type ((cs.drop f.offset).take (P.cellsOf f.type)) = some x) → Atoms r ((cs.drop off).take r.length) := by
            intro l
            induction l with
            | nil => intro off r h _; simp [kindsFs] at h; subst h; simp [Atoms]
            | cons f l ihl =>
              intro off r h hall
              unfold kindsFs at h
              split at h
              · rename_i k1 h1
                split at h
                · rename_i hb
                  simp only [Bool.and_eq_true] at hb
                  have ho := Nat.eq_of_beq_eq_true hb.1.1
                  have hs : sizeT P f.type = some k1.length := by simpa using hb.1.2
                  split at h
                  · rename_i r' hr'
                    simp at h; subst h
                    obtain ⟨y, hy⟩ := hall f (by simp)
                    rw [cellsOf_of_sizeT hs, ho] at hy
                    have a1 := ih h1 hy
                    have a2 := ihl _ _ hr' (fun g hg => hall g (by simp [hg]))
                    have e : (cs.drop off).take (k1 ++ r').length = (cs.drop off).take k1.length ++ (cs.drop (off + k1.length)).take r'.length := by
                      rw [List.length_append, List.take_add, List.drop_drop]
                    rw [e]
                    exact a1.append a2
                  · cases h
                · cases h
              · cases h
          have := key _ _ _ hr (fun f hf' => by
            obtain ⟨i, hi, he⟩ := List.getElem_of_mem hf'
            have hi' : fs[i]? = some f := by
              rw [← Array.getElem?_toList]
              rw [List.getElem?_eq_getElem hi, he]
            have h2 := hf i f hi'
            have hlt : i < xs.length := by rw [hxs]; simpa using hi
            exact ⟨xs[i], by rw [h2, List.getElem?_eq_getElem hlt]⟩)
          have e : (cs.drop 0).take r.length = cs := by simp [← hc, ← hl]
          rwa [e] at this
        · cases h
      · cases h
    · rename_i m e hk
      split at h
      · rename_i k1 h1
        split at h
        · rename_i hb
          simp only [Bool.and_eq_true] at hb
          have hs : sizeT P e = some k1.length := by simpa using hb.1
          have hc := Nat.eq_of_beq_eq_true hb.2
          simp at h; subst h
          obtain ⟨xs, n, _, _, hl, hxs, hf⟩ := DataW.trod_array hk ht
          have h2 : ∀ i, i < m → Atoms k1 ((cs.drop (i * k1.length)).take k1.length) := by
            intro i hi
            have h3 := hf i hi
            rw [cellsOf_of_sizeT hs] at h3
            have hlt : i < xs.length := by omega
            rw [List.getElem?_eq_getElem hlt] at h3
            exact ih h1 h3
          have key : ∀ (m : Nat) (cs : List Value), cs.length = m * k1.length → (∀ i, i < m → Atoms k1 ((cs.drop (i * k1.length)).take k1.length)) → Atoms (List.replicate m k1).flatten cs := by
            intro m
            induction m with
            | zero => intro cs hl _; simp at hl; subst hl; simp [Atoms]
            | succ m ihm =>
              intro cs hl hall
              have a1 := hall 0 (by omega)
              have a2 := ihm (cs.drop k1.length) (by simp [hl, Nat.succ_mul]) (fun i hi => by
                have := hall (i + 1) (by omega)
                rw [List.drop_drop]
                rwa [Nat.succ_mul, Nat.add_comm] at this)
              have := a1.append a2
              simp at this
              rw [List.replicate_succ, List.flatten_cons]
              exact this
          exact key m cs (by rw [hl, hc]) h2
        · cases h
      · cases h
    · cases h
end

/-! ### equality -/

def valOf (P : Program) (t : TypeId) (xs : List Value) : Value :=
  match isAggT P t with
  | some true => .agg xs.toArray
  | _ => xs.headD undef

def eqKs (ks : List (Option IntKind)) : List Bool := ks.map Option.isNone

theorem eqVs_append : ∀ {s1 s2 : List Bool} {X Y : List Value} {r : Bool}, eqVs (s1 ++ s2) X Y = some r →
    ∃ r1 r2, eqVs s1 (X.take s1.length) (Y.take s1.length) = some r1 ∧ eqVs s2 (X.drop s1.length) (Y.drop s1.length) = some r2 ∧ r = (r1 && r2)
  | [], s2, X, Y, r, h => ⟨true, r, by simp [eqVs], by simpa using h, by simp⟩
  | s :: s1, s2, X, Y, r, h => by
    rw [List.cons_append] at h
    match s, X, Y with
    | false, .int k m :: xs, .int k' n :: ys =>
      simp only [eqVs] at h
      split at h
      · rename_i hk
        cases hr : eqVs (s1 ++ s2) xs ys with
        | none => simp [hr] at h
        | some r' =>
          simp [hr] at h; subst h
          obtain ⟨r1, r2, h1, h2, rfl⟩ := eqVs_append hr
          exact ⟨(m == n) && r1, r2, by simp [eqVs, hk, h1], by simpa using h2, by simp [Bool.and_assoc]⟩
      · cases h
    | true, .bool p :: xs, .bool q :: ys =>
      simp only [eqVs] at h
      cases hr : eqVs (s1 ++ s2) xs ys with
      | none => simp [hr] at h
      | some r' =>
        simp [hr] at h; subst h
        obtain ⟨r1, r2, h1, h2, rfl⟩ := eqVs_append hr
        exact ⟨(p == q) && r1, r2, by simp [eqVs, h1], by simpa using h2, by simp [Bool.and_assoc]⟩

theorem isAgg_of_kinds {P : Program} {d : Nat} {t : TypeId} {ks} (h : kindsOf P d t = some ks) : (isAggT P t = some true) ∨ (isAggT P t = some false ∧ ks.length = 1) := by
  cases d with
  | zero => simp [kindsOf] at h
  | succ d =>
    unfold kindsOf at h
    unfold isAggT
    split at h
    · rename_i k hk; simp at h; subst h; right; simp [hk]
    · rename_i hk; simp at h; subst h; right; simp [hk]
    · rename_i k hk; left; simp [hk]
    · rename_i k hk; left; simp [hk]
    · cases h

theorem run_underlyingP {P : Program} {w : World} {t : TypeId} {d : TypeDesc} (h : P.underlying t = some d) : (underlying t).run P w = .ok d w := by
  simp [underlying, h]

theorem run_part_kinds {P : Program} {w : World} {d : Nat} {t : TypeId} {ks} (h : kindsOf P d t = some ks) (hs : sizeT P t = some ks.length) (X : List Value) (off : Nat) (hlen : off + ks.length ≤ X.length) :
    (part t X.toArray off).run P w = .ok (valOf P t ((X.drop off).take ks.length)) w := by
  have hi : ∃ i, P.info? t = some i ∧ i.size = ks.length := by
    unfold sizeT at hs
    cases hi : P.info? t with
    | none => simp [hi] at hs
    | some i => simp [hi] at hs; exact ⟨i, rfl, hs⟩
  obtain ⟨i, hi, hsz⟩ := hi
  unfold valOf
  rcases isAgg_of_kinds h with ha | ⟨ha, h1⟩
  · rw [ha]
    have e : (isAgg t).run P w = .ok true w := by
      unfold isAggT at ha
      split at ha <;> simp at ha
      · rename_i e; simp [isAgg, run_underlyingP e]
      · rename_i e; simp [isAgg, run_underlyingP e]
    simp [part, Sem.run_bind, e, Go.sizeOf, typeInfo, hi, hsz]
  · rw [ha]
    have e : (isAgg t).run P w = .ok false w := by
      unfold isAggT at ha
      split at ha <;> simp at ha
      rename_i e h2 h3
      simp [isAgg, run_underlyingP h3]
    rw [h1] at hlen
    have hlt : off < X.length := by omega
    have hd : (X.drop off).take 1 = [X[off]] := by
      rw [List.drop_eq_getElem_cons hlt]; rfl
    simp [part, Sem.run_bind, e, h1, hd, hlt]

theorem eqVs_length : ∀ {s : List Bool} {X Y : List Value} {r : Bool}, eqVs s X Y = some r → X.length = s.length ∧ Y.length = s.length
  | [], [], [], _, _ => ⟨rfl, rfl⟩
  | [], _ :: _, _, _, h => by simp [eqVs] at h
  | [], [], _ :: _, _, h => by simp [eqVs] at h
  | s :: s1, X, Y, r, h => by
    match s, X, Y with
    | false, .int k m :: xs, .int k' n :: ys =>
      simp only [eqVs] at h
      split at h
      · cases hr : eqVs s1 xs ys with
        | none => simp [hr] at h
        | some r' => have := eqVs_length hr; simp [this.1, this.2]
      · cases h
    | true, .bool p :: xs, .bool q :: ys =>
      simp only [eqVs] at h
      cases hr : eqVs s1 xs ys with
      | none => simp [hr] at h
      | some r' => have := eqVs_length hr; simp [this.1, this.2]

theorem eqKs_length (ks : List (Option IntKind)) : (eqKs ks).length = ks.length := by simp [eqKs]

theorem eqVs_nil {X Y : List Value} {r : Bool} (h : eqVs [] X Y = some r) : r = true := by
  cases X <;> cases Y <;> simp [eqVs] at h <;> simp [h]

theorem equalIn_kinds {P : Program} {w : World} : ∀ (d : Nat) {t : TypeId} {ks : List (Option IntKind)}, kindsOf P d t = some ks →
    ∀ (D : Nat), d ≤ D → ∀ (xs ys : List Value) (r : Bool), eqVs (eqKs ks) xs ys = some r → (Op.equalIn D t (valOf P t xs) (valOf P t ys)).run P w = .ok r w := by
  intro d
  induction d with
  | zero => intro t ks h; simp [kindsOf] at h
  | succ d ih =>
    intro t ks h D hD xs ys r he
    obtain ⟨D, rfl⟩ : ∃ D', D = D' + 1 := ⟨D - 1, by omega⟩
    have hD : d ≤ D := by omega
    unfold kindsOf at h
    split at h
    · rename_i k hk
      simp at h; subst h
      have ha : isAggT P t = some false := by simp [isAggT, hk]
      simp only [valOf, ha]
      have hl := eqVs_length he
      obtain ⟨x, rfl⟩ := List.length_eq_one_iff.1 (show xs.length = 1 from hl.1)
      obtain ⟨y, rfl⟩ := List.length_eq_one_iff.1 (show ys.length = 1 from hl.2)
      have he : eqVs [false] [x] [y] = some r := he
      cases x <;> cases y <;> simp [eqVs] at he
      obtain ⟨rfl, rfl⟩ := he
      exact run_equalIn_int w D t _ _ _ _ hk
    · rename_i hk
      simp at h; subst h
      have ha : isAggT P t = some false := by simp [isAggT, hk]
      simp only [valOf, ha]
      have hl := eqVs_length he
      obtain ⟨x, rfl⟩ := List.length_eq_one_iff.1 (show xs.length = 1 from hl.1)
      obtain ⟨y, rfl⟩ := List.length_eq_one_iff.1 (show ys.length = 1 from hl.2)
      have he : eqVs [true] [x] [y] = some r := he
      cases x <;> cases y <;> simp [eqVs] at he
      subst he
      exact run_equalIn_bool' w D t _ _ hk
    · rename_i fs hk
      have ha : isAggT P t = some true := by simp [isAggT, hk]
      simp only [valOf, ha]
      split at h
      · cases h
      rename_i hst
      split at h
      · rename_i r0 hr
        split at h
        · rename_i hc
          simp at h; subst h
          have hf : P.fieldsOf t = fs := by simp [Program.fieldsOf, hk]
          rw [run_equalIn_struct w D t _ _ (by rw [hf]; exact hk) hst, hf]
          have hl := eqVs_length he
          rw [eqKs_length] at hl
          have key : ∀ (l : List Field) (off : Nat) (r1 : List (Option IntKind)) (r : Bool), kindsFs (kindsOf P d) (sizeT P) l off = some r1 → off + r1.length = xs.length →
              eqVs (eqKs r1) (xs.drop off) (ys.drop off) = some r → (Op.eqFields D xs.toArray ys.toArray l).run P w = .ok r w := by
            intro l
            induction l with
            | nil => intro off r1 r h _ he; simp [kindsFs] at h; subst h; rw [eqVs_nil he]; simp [Op.eqFields]
            | cons f l ihl =>
              intro off r1 r h hlen he
              unfold kindsFs at h
              split at h
              · rename_i k1 h1
                split at h
                · rename_i hb
                  simp only [Bool.and_eq_true] at hb
                  have ho := Nat.eq_of_beq_eq_true hb.1.1
                  have hs : sizeT P f.type = some k1.length := by simpa using hb.1.2
                  have hn : f.name ≠ "_" := by simpa using hb.2
                  split at h
                  · rename_i r' hr'
                    simp at h; subst h
                    rw [List.length_append] at hlen
                    have he' : eqVs (eqKs k1 ++ eqKs r') (xs.drop off) (ys.drop off) = some r := by simpa [eqKs] using he
                    obtain ⟨b1, b2, e1, e2, rfl⟩ := eqVs_append he'
                    rw [eqKs_length] at e1 e2
                    rw [List.drop_drop, List.drop_drop] at e2
                    simp only [Op.eqFields, hn, ne_eq, not_false_eq_true, if_true, Sem.run_bind, ho]
                    rw [run_part_kinds h1 hs xs off (by omega)]
                    simp only [Result.andThen_ok]
                    rw [run_part_kinds h1 hs ys off (by omega)]
                    simp only [Result.andThen_ok]
                    rw [ih h1 D hD _ _ _ e1]
                    simp only [Result.andThen_ok]
                    cases b1
                    · simp
                    · simp only [Bool.not_true, Bool.false_eq_true, if_false, Bool.true_and]
                      exact ihl _ _ _ hr' (by omega) e2
                  · cases h
                · cases h
              · cases h
          exact key _ 0 _ _ hr (by omega) (by simpa using he)
        · cases h
      · cases h
    · rename_i m e hk
      have ha : isAggT P t = some true := by simp [isAggT, hk]
      simp only [valOf, ha]
      split at h
      · rename_i k1 h1
        split at h
        · rename_i hb
          simp only [Bool.and_eq_true] at hb
          have hs : sizeT P e = some k1.length := by simpa using hb.1
          simp at h; subst h
          obtain ⟨i, hi⟩ : ∃ i, P.info? e = some i := by
            unfold sizeT at hs
            cases hi : P.info? e with
            | none => simp [hi] at hs
            | some i => exact ⟨i, rfl⟩
          rw [run_equalIn_array w D _ _ hk hi, cellsOf_of_sizeT hs]
          have hl := eqVs_length he
          rw [eqKs_length] at hl
          have hl2 : xs.length = m * k1.length := by rw [hl.1]; simp
          have hl3 : ys.length = m * k1.length := by rw [hl.2]; simp
          have key : ∀ (n : Nat) (j : Nat) (r : Bool), j + n = m →
              eqVs (eqKs (List.replicate n k1).flatten) (xs.drop (j * k1.length)) (ys.drop (j * k1.length)) = some r →
              (Op.eqItems D e k1.length xs.toArray ys.toArray (List.range' j n)).run P w = .ok r w := by
            intro n
            induction n with
            | zero => intro j r _ he; have e : r = true := eqVs_nil (by simpa [eqKs] using he); rw [e]; simp [Op.eqItems]
            | succ n ihn =>
              intro j r hj he
              rw [List.replicate_succ, List.flatten_cons] at he
              have he' : eqVs (eqKs k1 ++ eqKs (List.replicate n k1).flatten) (xs.drop (j * k1.length)) (ys.drop (j * k1.length)) = some r := by rw [← he]; simp [eqKs]
              obtain ⟨b1, b2, e1, e2, rfl⟩ := eqVs_append he'
              rw [eqKs_length] at e1 e2
              rw [List.drop_drop, List.drop_drop, ← Nat.succ_mul] at e2
              have hle : j * k1.length + k1.length ≤ m * k1.length := by
                rw [← Nat.succ_mul]; exact Nat.mul_le_mul_right _ (by omega)
              rw [List.range'_succ]
              simp only [Op.eqItems, Sem.run_bind]
              rw [run_part_kinds h1 hs xs _ (by omega)]
              simp only [Result.andThen_ok]
              rw [run_part_kinds h1 hs ys _ (by omega)]
              simp only [Result.andThen_ok]
              rw [ih h1 D hD _ _ _ e1]
              simp only [Result.andThen_ok]
              cases b1
              · simp
              · simp only [Bool.not_true, Bool.false_eq_true, if_false, Bool.true_and]
                exact ihn (j + 1) _ (by omega) e2
          rw [List.range_eq_range']
          exact key m 0 r (by omega) (by simpa using he)
        · cases h
      · cases h
    · cases h

def eqTab (l : List (TypeId × List Bool)) (t : TypeId) : Option (List Bool) :=
  match l with
  | [] => none
  | (u, s) :: r => match Nat.beq t u with
    | true => some s
    | false => eqTab r t

def eqTabOk (P : Program) (l : List (TypeId × List Bool)) : Bool :=
  l.all fun x => !P.eqGuardType P.depth x.1 && (isAggT P x.1 == some true) && (((kindsOf P 10 x.1).map eqKs) == some x.2)

theorem eqTab_some : ∀ {l : List (TypeId × List Bool)} {t s}, eqTab l t = some s → (t, s) ∈ l
  | [], _, _, h => by simp [eqTab] at h
  | (u, s') :: r, t, s, h => by
    unfold eqTab at h
    split at h
    · rename_i hb
      simp at h; subst h
      rw [Nat.eq_of_beq_eq_true hb]; simp
    · have := eqTab_some h; simp [this]

theorem eqOK_of {cx : Cx} {l : List (TypeId × List Bool)} (h : eqTabOk cx.P l = true) (hl : cx.eqT = eqTab l) : EqOK cx := by
  intro t sh xs ys r ht he w X Y
  rw [hl] at ht
  have hm := eqTab_some ht
  have h1 := List.all_eq_true.1 h _ hm
  simp only [Bool.and_eq_true, Bool.not_eq_true'] at h1
  obtain ⟨⟨hg, ha⟩, hk⟩ := h1
  have ha : isAggT cx.P t = some true := by simpa using ha
  cases hk' : kindsOf cx.P 10 t with
  | none => simp [hk'] at hk
  | some ks =>
    simp only [hk', Option.map_some] at hk
    have hk : eqKs ks = sh := by simpa using hk
    subst hk
    have := equalIn_kinds (w := w) 10 hk' 10000 (by omega) xs ys r he
    simp only [valOf, ha] at this
    constructor
    · rw [Sem.run_bind, run_eqGuard_agg w _ _ _ _ _ _ hg]
      simp only [Result.andThen_ok]
      rw [run_eql_struct, this]; rfl
    · rw [Sem.run_bind, run_eqGuard_agg w _ _ _ _ _ _ hg]
      simp only [Result.andThen_ok]
      rw [run_neq_struct, this]; rfl

/-! ### an argument is opened -/

theorem open_arg {H : Type} {enc : TypeId × Value → H} {P : Program} {w : World} {base base' : Nat} {spare : Nat → Bool} {held : Bool} {r : Reach} {t : TypeId} {v : Value} {d : DataW H} {ps : List MemPlace} {ks : List (Option IntKind)}
    (hk : kindsOf P 10 t = some ks) (hv : Value.okWide P w r base' t v) (h : DataW.Trod enc P w base spare held t v d ps) : ∃ cs, v = valOf P t cs ∧ Atoms ks cs := by
  obtain ⟨fuel, hf⟩ := h
  have ha := open_kinds 10 hk hf
  refine ⟨v.cells.toList, ?_, ha⟩
  unfold kindsOf at hk
  unfold valOf isAggT
  split at hk
  · rename_i k hu
    rw [hu]
    obtain ⟨n, rfl⟩ := WideShapes.okWide_int hu hv
    rfl
  · rename_i hu
    rw [hu]
    obtain ⟨n, rfl⟩ := WideShapes.okWide_bool hu hv
    rfl
  · rename_i fs hu
    rw [hu]
    obtain ⟨cs, rfl, _⟩ := WideShapes.okWide_struct hu hv
    simp [Value.cells]
  · rename_i m e hu
    rw [hu]
    simp only [Value.okWide, hu] at hv
    obtain ⟨cs, rfl, _⟩ := hv
    simp [Value.cells]
  · cases hk

theorem valOf_agg {P : Program} {t : TypeId} (h : isAggT P t = some true) (xs : List Value) : valOf P t xs = .agg xs.toArray := by unfold valOf; rw [h]
theorem valOf_one {P : Program} {t : TypeId} (h : isAggT P t = some false) (x : Value) (xs : List Value) : valOf P t (x :: xs) = x := by unfold valOf; rw [h]; rfl

/-! ### functions are entered -/

def entersAll (P : Program) : Bool := P.funcs.all fun fn => !(fn.name == "runtime.NumGoroutine")

theorem enters_of {P : Program} (h : entersAll P = true) : ∀ f fn, P.funcs[f]? = some fn → fn.body ≠ none → Enters P f := by
  intro f fn hf hb args w
  have hn : (fn.name == "runtime.NumGoroutine") = false := by
    have := Array.all_eq_true'.1 h fn (Array.mem_of_getElem? hf)
    simpa using this
  have hb : fn.body.isNone = false := by cases he : fn.body <;> simp_all
  simp only [callFunc, Sem.run_bind, run_program, Result.andThen_ok, hf, hn, hb, Bool.false_eq_true, if_false]
  rfl

end Go.WE
