/- The law WordBytes, called: of a list of bytes that lies anywhere, of none. -/
import Derived.Test.YtnjjcklhpgfnjaaBytTrue
namespace Go.WE
set_option linter.unusedVariables false
open Go Go.Proofs
open Go.RowKit (Below)

theorem byt_list {b off n cap : Nat} {z : Nat → Int} {W : World} (hz : ∀ j, j < n → IntKind.u8.wrap (z j) = z j) (hn : n ≤ CC) (hcap : n ≤ cap) (hb : b < W.heap.size) (hc : ∀ j, j < n → W.cell? ⟨b, off + j, none⟩ = some (.int .u8 (z j))) (a s v : UU) :
    Calls Try.prog 8 #[.slice (some ⟨b, off, none⟩) n cap, .int .i64 (vof .i64 a), .int .i64 (vof .i64 s), .int .u64 (vof .u64 v)] W fun e w' => e = .returned (.bool true) ∧ Below W.heap.size W w' := by
  rcases Nat.eq_zero_or_pos n with h0 | h0
  · subst h0
    obtain ⟨h', hp⟩ := R.res_some (bytE_ev 0 a s v)
    obtain ⟨_, h2⟩ := evalF_fn (XB (ΓW_ok false)) rfl hp (show bytE 0 a s = true from bytE_true a s)
    refine (top_list (vs := [.slice (some ⟨b, off, none⟩) 0 cap, .int .i64 (vof .i64 a), .int .i64 (vof .i64 s), .int .u64 (vof .u64 v)]) h2 (mem_one hb) (fun x e => by have := get_memT [] 0 x e; cases this) rfl (by decide) (by decide) ⟨sl_rel hcap, i_rel, i_rel, i_rel, trivial⟩).mono ?_
    rintro e w' ⟨u, ν', rfl, hu, hbel⟩
    exact ⟨by rw [bool_of (p := (true, true)) rfl hu], hbel⟩
  · have hg : ∀ j, j < n → W.cell? ⟨b, off + j, none⟩ = some (.int .u8 (vof .u8 (BitVec.ofInt 64 (z j)))) := fun j hj => by
      rw [vof_ofInt (hz j hj)]
      exact hc j hj
    have hro : ∀ x, (hB n (fun j => BitVec.ofInt 64 (z j))).m.get 0 = some x → x.rw = false := fun x e => by
      have := get_memT _ 0 x e
      simp at this
      rw [this]
    have hm := mem_list (g := fun j => BitVec.ofInt 64 (z j)) h0 hg
    cases hbad : pbad n a s
    · obtain ⟨k, hk, rfl, hf⟩ := bad_no hn hbad
      have e2 := bytF_true (g := fun j => BitVec.ofInt 64 (z j)) (v := v) hk h0 hn hf
      have he : (evalF cxB (ΓW true) 400 20 8 [slV 0 n none, ui a, li k, .t (.a (.i .u64 v))] (hB n (fun j => BitVec.ofInt 64 (z j)))).res = some (.b (bytF k n (fun j => BitVec.ofInt 64 (z j)) a v).1, .t (.a (.b (bytF k n (fun j => BitVec.ofInt 64 (z j)) a v).2))) := by
        rcases size_cases hk with rfl | rfl | rfl | rfl
        · exact bytF_1 n _ a v
        · exact bytF_2 n _ a v
        · exact bytF_4 n _ a v
        · exact bytF_8 n _ a v
      obtain ⟨h', hp⟩ := R.res_some he
      obtain ⟨_, h2⟩ := evalF_fn (XB (ΓW_ok true)) rfl hp (show (bytF k n _ a v).1 = true by rw [e2])
      have hl : (li k).rel (nuL b off) (.int .i64 (vof .i64 (KK (Int.ofNat k)))) := by
        show (A.lit .i64 (Int.ofNat k)).rel (nuL b off) _
        simp only [A.rel]
        rcases size_cases hk with rfl | rfl | rfl | rfl <;> exact ⟨rfl, by decide⟩
      refine (top_list (vs := [.slice (some ⟨b, off, none⟩) n cap, .int .i64 (vof .i64 a), .int .i64 (vof .i64 (KK (Int.ofNat k))), .int .u64 (vof .u64 v)]) h2 hm hro rfl (by show 0 < 1; decide) (by show 0 < 1; decide) ⟨sl_rel hcap, i_rel, hl, i_rel, trivial⟩).mono ?_
      rintro e w' ⟨u, ν', rfl, hu, hbel⟩
      exact ⟨by rw [bool_of e2 hu], hbel⟩
    · have e2 := bytN_true (g := fun j => BitVec.ofInt 64 (z j)) (v := v) h0 hn hbad
      obtain ⟨h', hp⟩ := R.res_some (bytN_ev n (fun j => BitVec.ofInt 64 (z j)) a s v)
      obtain ⟨_, h2⟩ := evalF_fn (XB (ΓW_ok false)) rfl hp (show (bytN n _ a s v).1 = true by rw [e2])
      refine (top_list (vs := [.slice (some ⟨b, off, none⟩) n cap, .int .i64 (vof .i64 a), .int .i64 (vof .i64 s), .int .u64 (vof .u64 v)]) h2 hm hro rfl (by show 0 < 1; decide) (by show 0 < 1; decide) ⟨sl_rel hcap, i_rel, i_rel, i_rel, trivial⟩).mono ?_
      rintro e w' ⟨u, ν', rfl, hu, hbel⟩
      exact ⟨by rw [bool_of e2 hu], hbel⟩

theorem byt_nil {W : World} (a s v : UU) : Calls Try.prog 8 #[.slice none 0 0, .int .i64 (vof .i64 a), .int .i64 (vof .i64 s), .int .u64 (vof .u64 v)] W fun e w' => e = .returned (.bool true) ∧ Below W.heap.size W w' := by
  refine (top_calls (XB (ΓW_ok false)) rfl (bytZ_ev a s v) (show bytZ a s = true from bytZ_true a s) (vs := [.slice none 0 0, .int .i64 (vof .i64 a), .int .i64 (vof .i64 s), .int .u64 (vof .u64 v)]) ⟨by show (A.nils).rel nu0 _; simp only [A.rel], i_rel, i_rel, i_rel, trivial⟩ W).mono ?_
  rintro e w' ⟨u, ν', rfl, hu, hbel⟩
  exact ⟨by rw [bool_of (p := (true, true)) rfl hu], hbel⟩
end Go.WE
