/- The law WordBack, called: of a list of bytes that lies anywhere, of none. -/
import Derived.Test.YtnjjcklhpgfnjaaBackTrue
namespace Go.WE
set_option linter.unusedVariables false
open Go Go.Proofs
open Go.RowKit (Below)

/-- A memory that has a list alone, which is not written. -/
def nuL (b off : Nat) : Nu := fun i => if i = 0 then some (b, off) else none
theorem nuL_some {b off i r base : Nat} (h : nuL b off i = some (r, base)) : i = 0 ∧ r = b ∧ base = off := by
  unfold nuL at h
  split at h
  · cases h; exact ⟨by assumption, rfl, rfl⟩
  · cases h
theorem mem_one {b off : Nat} {W : World} (hb : b < W.heap.size) : Mem (fun _ => True) (nuL b off) W (hM [] 1) := by
  have hget : ∀ i x, (hM [] 1).m.get i = some x → False := fun i x e => by
    have := get_memT [] i x e
    cases this
  exact ⟨⟨fun i r b' e => by obtain ⟨_, rfl, _⟩ := nuL_some e; exact hb, fun i x e => (hget i x e).elim, fun i hi => by
    have hi : 1 ≤ i := hi
    unfold nuL
    rw [if_neg (by omega)], fun i x e => (hget i x e).elim, Nat.le_refl _, fun g hg => by cases hg⟩, fun i x e => (hget i x e).elim⟩
theorem cell_row {W : World} {b off n : Nat} {z : Nat → Int} (h0 : 0 < n) (hc : ∀ j, j < n → W.cell? ⟨b, off + j, none⟩ = some (.int .u8 (z j))) :
    ∃ cs ty fr, W.heap[b]? = some (.cells cs ty fr) ∧ ∀ j, j < n → cs[off + j]? = some (.int .u8 (z j)) := by
  have h := hc 0 h0
  unfold World.cell? at h
  cases hh : W.heap[b]? with
  | none => simp [hh] at h
  | some o =>
    cases o with
    | cells cs ty fr =>
      refine ⟨cs, ty, fr, rfl, fun j hj => ?_⟩
      have := hc j hj
      simpa [World.cell?, hh] using this
    | _ => simp [hh] at h
theorem mem_list {b off n : Nat} {W : World} {g : Nat → UU} (h0 : 0 < n) (hc : ∀ j, j < n → W.cell? ⟨b, off + j, none⟩ = some (.int .u8 (vof .u8 (g j)))) : Mem (fun _ => True) (nuL b off) W (hB n g) := by
  obtain ⟨cs, ty, fr, hh, hcs⟩ := cell_row h0 hc
  have hb : b < W.heap.size := (Array.getElem?_eq_some_iff.1 hh).1
  have hget : ∀ i x, (hB n g).m.get i = some x → i = 0 ∧ x = ⟨false, .arr 1 (.sym n) (.int .u8 g)⟩ := fun i x e => by
    have := get_memT _ i x e
    simpa using this
  refine ⟨⟨(fun i r b' e => by obtain ⟨_, rfl, _⟩ := nuL_some e; exact hb), (fun i x e hrw => by obtain ⟨_, rfl⟩ := hget i x e; cases hrw), (fun i hi => by
    have hi : 1 ≤ i := hi
    unfold nuL
    rw [if_neg (by omega)]), (fun i x e => by obtain ⟨rfl, _⟩ := hget i x e; exact Nat.lt_succ_self _), Nat.le_refl _, fun g hg => by cases hg⟩, fun i x e _ => ?_⟩
  obtain ⟨rfl, rfl⟩ := hget i x e
  have hlt : off + (n - 1) < cs.size := by
    have := hcs (n - 1) (by omega)
    exact (Array.getElem?_eq_some_iff.1 this).1
  refine ⟨b, off, cs, ty, fr, cs.toList.take off, (cs.toList.drop off).take n, (cs.toList.drop off).drop n, by simp [nuL], hh, ?_, by simp; omega, ?_, fun h => by cases h⟩
  · rw [List.append_assoc, List.take_append_drop, List.take_append_drop]
  · simp only [T.rel]
    refine ⟨by simp [Ix.val]; omega, fun j hj => ?_⟩
    have hj : j < n := hj
    simp only [Sh.rel]
    have h1 : cs.toList[off + j]? = some (.int .u8 (vof .u8 (g j))) := by rw [Array.getElem?_toList]; exact hcs j hj
    rw [Nat.one_mul, List.take_one, List.head?_drop, List.getElem?_take_of_lt hj, List.getElem?_drop, h1]
    rfl

/-- A call over such a memory leaves it as it is. -/
theorem top_list {f : FuncId} {args : List V} {v : V} {h h' : H} {b off : Nat} {W : World} {vs : List Value} (hf : FnOK Try.prog f args h v h') (hm : Mem (fun _ => True) (nuL b off) W h) (hro : ∀ x, h.m.get 0 = some x → x.rw = false) (hwr : h.wr = []) (hlo : 0 < h.lo) (hnx : 0 < h.next)
    (hargs : relV (nuL b off) args vs) : Calls Try.prog f vs.toArray W fun e w' => ∃ u ν', e = .returned u ∧ v.rel ν' u ∧ Below W.heap.size W w' := by
  refine (hf (fun _ => True) (nuL b off) W vs (fun _ _ => trivial) (fun _ _ => trivial) hm hargs).mono ?_
  rintro e w' ⟨u, ν', rfl, hu, g⟩
  refine ⟨u, ν', rfl, hu, ⟨g.frm.os, g.frm.tape, g.frm.output, g.frm.size, fun r hr => g.frm.block r hr fun i b' e => ?_⟩⟩
  obtain ⟨rfl, rfl, rfl⟩ := nuL_some e
  refine ⟨by rw [g.ext.lo]; exact hlo, fun hw => ?_⟩
  rcases g.ext.wrw 0 hw with h3 | ⟨x, h3, h4⟩ | h3
  · rw [hwr] at h3; cases h3
  · rw [hro x h3] at h4; cases h4
  · have h3 : h.next ≤ 0 := h3
    omega

theorem sl_rel {b off n cap : Nat} (hcap : n ≤ cap) : (slV 0 n none).rel (nuL b off) (.slice (some ⟨b, off, none⟩) n cap) := by
  show (A.sl 0 [] 1 (.lit 0) (.sym n) none).rel _ _
  simp only [A.rel]
  exact ⟨b, off, off, cap, by simp [nuL], rfl, fun _ => by simp [pathOff, Ix.val], hcap, fun _ e => by cases e⟩
theorem i_rel {ν : Nu} {k : IntKind} {x : UU} : (V.t (.a (.i k x))).rel ν (.int k (vof k x)) := by
  show (A.i k x).rel ν _
  simp only [A.rel]
theorem bool_of {ν : Nu} {p : Bool × Bool} (hp : p = (true, true)) {u : Value} (h : (V.t (.a (.b p.2))).rel ν u) : u = .bool true := by
  have h : (A.b p.2).rel ν u := h
  simp only [A.rel] at h
  rw [h, hp]

theorem back_list {b off n cap : Nat} {z : Nat → Int} {W : World} (hz : ∀ j, j < n → IntKind.u8.wrap (z j) = z j) (hn : n ≤ CC) (hcap : n ≤ cap) (hb : b < W.heap.size) (hc : ∀ j, j < n → W.cell? ⟨b, off + j, none⟩ = some (.int .u8 (z j))) (a s v : UU) :
    Calls Try.prog 9 #[.slice (some ⟨b, off, none⟩) n cap, .int .i64 (vof .i64 a), .int .i64 (vof .i64 s), .int .u64 (vof .u64 v)] W fun e w' => e = .returned (.bool true) ∧ Below W.heap.size W w' := by
  rcases Nat.eq_zero_or_pos n with h0 | h0
  · subst h0
    obtain ⟨e1, e2⟩ := v3B_true (a := a) (s := s)
    obtain ⟨h', hp⟩ := R.atV_some ((r3_c 0 a s v).trans (by rw [e1])) (r3_v 0 a s v)
    obtain ⟨_, h2⟩ := evalF_fn (XB Γ0_ok) rfl hp (show (v3B 0 a s).1 = true by rw [e2])
    refine (top_list (vs := [.slice (some ⟨b, off, none⟩) 0 cap, .int .i64 (vof .i64 a), .int .i64 (vof .i64 s), .int .u64 (vof .u64 v)]) h2 (mem_one hb) (fun x e => by have := get_memT [] 0 x e; cases this) rfl (by decide) (by decide) ⟨sl_rel hcap, i_rel, i_rel, i_rel, trivial⟩).mono ?_
    rintro e w' ⟨u, ν', rfl, hu, hbel⟩
    exact ⟨by rw [bool_of e2 hu], hbel⟩
  · have hg : ∀ j, j < n → W.cell? ⟨b, off + j, none⟩ = some (.int .u8 (vof .u8 (BitVec.ofInt 64 (z j)))) := fun j hj => by
      rw [vof_ofInt (hz j hj)]
      exact hc j hj
    have hro : ∀ x, (hB n (fun j => BitVec.ofInt 64 (z j))).m.get 0 = some x → x.rw = false := fun x e => by
      have := get_memT _ 0 x e
      simp at this
      rw [this]
    have hm := mem_list (g := fun j => BitVec.ofInt 64 (z j)) h0 hg
    cases hbad : pbad n a s
    · obtain ⟨k, hk, rfl, hf⟩ := bad_no hn hbad
      have e2 := backF_true (g := fun j => BitVec.ofInt 64 (z j)) (v := v) hk h0 hn hf
      have he : (evalF cxB (ΓB true) 400 20 9 [slV 0 n none, ui a, li k, .t (.a (.i .u64 v))] (hB n (fun j => BitVec.ofInt 64 (z j)))).res = some (.b (backF k (wantOf k v) n (fun j => BitVec.ofInt 64 (z j)) a v).1, .t (.a (.b (backF k (wantOf k v) n (fun j => BitVec.ofInt 64 (z j)) a v).2))) := by
        rcases size_cases hk with rfl | rfl | rfl | rfl
        · exact backF_1 n _ a v
        · exact backF_2 n _ a v
        · exact backF_4 n _ a v
        · exact backF_8 n _ a v
      obtain ⟨h', hp⟩ := R.res_some he
      obtain ⟨_, h2⟩ := evalF_fn (XB (ΓB_ok true)) rfl hp (show (backF k (wantOf k v) n _ a v).1 = true by rw [e2])
      have hl : (li k).rel (nuL b off) (.int .i64 (vof .i64 (KK (Int.ofNat k)))) := by
        show (A.lit .i64 (Int.ofNat k)).rel (nuL b off) _
        simp only [A.rel]
        rcases size_cases hk with rfl | rfl | rfl | rfl <;> exact ⟨rfl, by decide⟩
      refine (top_list (vs := [.slice (some ⟨b, off, none⟩) n cap, .int .i64 (vof .i64 a), .int .i64 (vof .i64 (KK (Int.ofNat k))), .int .u64 (vof .u64 v)]) h2 hm hro rfl (by show 0 < 1; decide) (by show 0 < 1; decide) ⟨sl_rel hcap, i_rel, hl, i_rel, trivial⟩).mono ?_
      rintro e w' ⟨u, ν', rfl, hu, hbel⟩
      exact ⟨by rw [bool_of e2 hu], hbel⟩
    · have e2 := backN_true (g := fun j => BitVec.ofInt 64 (z j)) (v := v) h0 hn hbad
      obtain ⟨h', hp⟩ := R.res_some (backN_ev n (fun j => BitVec.ofInt 64 (z j)) a s v)
      obtain ⟨_, h2⟩ := evalF_fn (XB (ΓB_ok false)) rfl hp (show (backN n _ a s v).1 = true by rw [e2])
      refine (top_list (vs := [.slice (some ⟨b, off, none⟩) n cap, .int .i64 (vof .i64 a), .int .i64 (vof .i64 s), .int .u64 (vof .u64 v)]) h2 hm hro rfl (by show 0 < 1; decide) (by show 0 < 1; decide) ⟨sl_rel hcap, i_rel, i_rel, i_rel, trivial⟩).mono ?_
      rintro e w' ⟨u, ν', rfl, hu, hbel⟩
      exact ⟨by rw [bool_of e2 hu], hbel⟩

theorem back_nil {W : World} (a s v : UU) : Calls Try.prog 9 #[.slice none 0 0, .int .i64 (vof .i64 a), .int .i64 (vof .i64 s), .int .u64 (vof .u64 v)] W fun e w' => e = .returned (.bool true) ∧ Below W.heap.size W w' := by
  obtain ⟨e1, e2⟩ := v4B_true (a := a) (s := s)
  obtain ⟨h', hp⟩ := R.atV_some ((r4_c a s v).trans (by rw [e1])) (r4_v a s v)
  have he : (evalF cxB ΓZ 400 20 9 [.t (.a .nils), ui a, ui s, .t (.a (.i .u64 v))] H.none).res = some (.b (v4B a s).1, .t (.a (.b (v4B a s).2))) := by
    unfold R.res
    unfold r4 at hp
    rw [hp]
  refine (top_calls (XB ΓZ_ok) rfl he (show (v4B a s).1 = true by rw [e2]) (vs := [.slice none 0 0, .int .i64 (vof .i64 a), .int .i64 (vof .i64 s), .int .u64 (vof .u64 v)]) ⟨by show (A.nils).rel nu0 _; simp only [A.rel], i_rel, i_rel, i_rel, trivial⟩ W).mono ?_
  rintro e w' ⟨u, ν', rfl, hu, hbel⟩
  exact ⟨by rw [bool_of e2 hu], hbel⟩
end Go.WE
