/- frame.Read, walked. -/
import Derived.Test.YtljopbfbljkjoaaDoorLay
namespace Go.WE
set_option linter.unusedVariables false
set_option maxRecDepth 100000
open Go Go.Proofs Go.Proofs.YtljopbfbljkjoaaDoor.Eac
open Go.RowKit (Below)

/-- What is wrong with a byte. -/
def codeU (v : U) : U := cond (v == K 0) (K 15) (cond (v == K 2) (K 14) (K 0))
/-- .. with bytes. -/
def readN (g : Nat → U) (b : Nat) : Nat → U
  | 0 => K 0
  | n + 1 => cond (readN g b n == K 0) (codeU (g (b + n))) (readN g b n)

def msR (s : FSt) (x y : U) : List (Nat × Blk) := [(0, ⟨true, s.t⟩), (1, ⟨true, .a (.ptr 0 [])⟩), (2, ⟨true, .a (.lit .i64 0)⟩), (3, ⟨true, .a (.i .i64 x)⟩), (4, ⟨true, .a (.i .i64 y)⟩)]
def msQ (s : FSt) : List (Nat × Blk) := [(0, ⟨true, s.t⟩), (1, ⟨true, .a (.ptr 0 [])⟩), (2, ⟨true, .a (.lit .i64 0)⟩)]
def slR (x : U) : List (Nat × V) := [(3, pt 1), (6, pt 2), (7, one (.i .i64 x))]
def sr1 (x y : U) : List (Nat × V) := [(1, i64 x), (2, i64 y), (3, pt 1), (6, pt 2)]
def sr3 : List (Nat × V) := [(3, pt 1), (6, pt 2), (14, one (.fn 61 [.ptr 4 [], .ptr 3 []]))]
section
variable (s : FSt) (x y z : U)
theorem r0_ev : endOf fp17.km [1, 2, 3, 6] (evR r0 (sl0 x y) (ms0 s) 1).pick = some ⟨.nrm, .tt, sr1 x y⟩ := by kernel_rfl
theorem r0_m : memOf (evR r0 (sl0 x y) (ms0 s) 1).pick = some ((hM (msQ s) 3).m, (hM (msQ s) 3).next, (hM (msQ s) 3).gl) := by kernel_rfl
theorem r1_c : (evR r1 (sr1 x y) (msQ s) 3).cnd = some (!thereB x y) := by kernel_rfl
theorem r1_f : endOf fp17.km [1, 2, 3, 6] ((evR r1 (sr1 x y) (msQ s) 3).at false) = some ⟨.nrm, .tt, sr1 x y⟩ := by kernel_rfl
theorem r1_t : retOf Tryd.prog fp17.km Tryd.f17.results.toList ((evR r1 (sr1 x y) (msQ s) 3).at true) = some (.tt, .tt, one (.lit .i64 17)) := by kernel_rfl
theorem r1_w : ((evR r1 (sr1 x y) (msQ s) 3).at true).map (fun p => p.2.h.wr) = some [2] := by kernel_rfl
theorem r3_ev : endOf fp17.km [3, 6, 14] (evR r3 (sr1 x y) (msQ s) 3).pick = some ⟨.nrm, .tt, sr3⟩ := by kernel_rfl
theorem r3_m : memOf (evR r3 (sr1 x y) (msQ s) 3).pick = some ((hM (msR s x y) 5).m, (hM (msR s x y) 5).next, (hM (msR s x y) 5).gl) := by kernel_rfl
theorem rb_c : (evR rB (slR z) (msR s x y) 5).cnd = some (s.g z.toNat == K 0) := by kernel_rfl
theorem rb_c2 : (evR rB (slR z) (msR s x y) 5).nR.cnd = some (s.g z.toNat == K 2) := by kernel_rfl
def okR (z : U) : Bool := vB z 128 && wB z 128
theorem rb_0 : endM fp17.km [] [2] 5 ((evR rB (slR z) (msR s x y) 5).at true) = some ⟨.ret, .b (okR z), [], [(2, ⟨true, .a (.lit .i64 15)⟩)]⟩ := by kernel_rfl
theorem rb_2 : endM fp17.km [] [2] 5 ((evR rB (slR z) (msR s x y) 5).nR.at true) = some ⟨.ret, .b (okR z), [], [(2, ⟨true, .a (.lit .i64 14)⟩)]⟩ := by kernel_rfl
theorem rb_n : endM fp17.km [] [] 5 ((evR rB (slR z) (msR s x y) 5).nR.at false) = some ⟨.nrm, .b (okR z), [], []⟩ := by kernel_rfl
theorem rb_0w : ((evR rB (slR z) (msR s x y) 5).at true).map (fun p => p.2.h.wr) = some [2] := by kernel_rfl
theorem rb_2w : ((evR rB (slR z) (msR s x y) 5).nR.at true).map (fun p => p.2.h.wr) = some [2] := by kernel_rfl
theorem rb_nw : ((evR rB (slR z) (msR s x y) 5).nR.at false).map (fun p => p.2.h.wr) = some [] := by kernel_rfl
end
theorem okR_true : ∀ z : Fin 128, okR (BitVec.ofNat 64 z.val) = true := by decide +kernel

theorem body17 : Tryd.f17.body = some c17 := by kernel_rfl
theorem rA_eq : rA = .region 4 #[{ dst := some 7, op := .assign (.tmp 15), type := 3, pos := "frame.go:86", after := #[], guard := none }] false := by kernel_rfl
theorem r10_eq : r10 = .seq (.region 10 #[{ dst := none, op := .store 40 (.tmp 6) (.const (.int .i64 0)), type := 0, pos := "frame.go:94", after := #[], guard := none }] false) .ret := by kernel_rfl
theorem agg40 : isAggT Tryd.prog 40 = some false := by kernel_rfl
theorem code_cases (v : U) : codeU v = K 15 ∧ (v == K 0) = true ∨ codeU v = K 14 ∧ (v == K 0) = false ∧ (v == K 2) = true ∨ codeU v = K 0 ∧ (v == K 0) = false ∧ (v == K 2) = false := by
  unfold codeU
  cases h1 : v == K 0
  · cases h2 : v == K 2
    · exact .inr (.inr ⟨rfl, rfl, rfl⟩)
    · exact .inr (.inl ⟨rfl, rfl, rfl⟩)
  · exact .inl ⟨rfl, rfl⟩
theorem readN_good {g : Nat → U} {b : Nat} : ∀ n, b + n ≤ 128 → (∀ z, z ∈ upto b n → codeU (g z.1) = K 0) → readN g b n = K 0
  | 0, _, _ => rfl
  | n + 1, hb, h => by
    rw [upto_succ] at h
    have h1 := readN_good (g := g) (b := b) n (by omega) (fun z hz => h z (by simp [hz]))
    have h2 := h (bx (b + n)) (by simp)
    rw [bx_val (by omega)] at h2
    unfold readN
    rw [h1, h2]
    rfl
theorem readN_more {g : Nat → U} {b n : Nat} : ∀ m, n ≤ m → readN g b n ≠ K 0 → readN g b m = readN g b n
  | 0, h, hne => by
    obtain rfl : n = 0 := by omega
    rfl
  | m + 1, h, hne => by
    by_cases e : n = m + 1
    · rw [e]
    · have h1 := readN_more m (by omega) hne
      rw [readN, h1]
      have : (readN g b n == K 0) = false := beq_false_of_ne hne
      rw [this, cond_false]
theorem readN_bad {g : Nat → U} {b k n : Nat} {q : List Bx} {z : Bx} (hk : k ≤ n) (hb : b + n ≤ 128) (e : upto b k = q ++ [z]) (hq : ∀ u, u ∈ q → codeU (g u.1) = K 0) (hz : codeU (g z.1) ≠ K 0) : readN g b n = codeU (g z.1) := by
  cases k with
  | zero => simp [upto] at e
  | succ k =>
    rw [upto_succ] at e
    obtain ⟨rfl, e2⟩ := List.append_inj' e rfl
    simp only [List.cons.injEq, and_true] at e2
    subst e2
    have h1 := readN_good (g := g) (b := b) k (by omega) hq
    have h2 : readN g b (k + 1) = codeU (g (bx (b + k)).1) := by
      rw [readN, h1, bx_val (by omega)]
      rfl
    rw [readN_more n hk (by rw [h2]; exact hz), h2]

theorem st_ev (s : FSt) (x y : U) : ∃ r', evalStore Tryd.prog (hM (msR s x y) 5) 40 (.ptr 2 []) (.t (.a (.lit .i64 0))) = some r' ∧ okB r'.ok = true ∧ (r'.h.wr = [2] ∧ r'.h.m.get 2 = some ⟨true, .a (.lit .i64 0)⟩) := by
  have h : (match evalStore Tryd.prog (hM (msR s x y) 5) 40 (.ptr 2 []) (.t (.a (.lit .i64 0))) with
    | some r' => some (r'.ok, r'.h.wr, r'.h.m.get 2)
    | none => none) = some (.tt, [2], some ⟨true, .a (.lit .i64 0)⟩) := by kernel_rfl
  split at h
  · rename_i r' hr
    simp only [Option.some.injEq, Prod.mk.injEq] at h
    exact ⟨r', hr, by rw [h.1]; rfl, h.2.1, h.2.2⟩
  · cases h
theorem store_wp {o : Oper} {t : TypeId} {x y : Operand} {id : Nat} {P : Program} {F : Act → World → Prop} {Q : Exit → Act → World → Prop} {a : Act} {W W' : World} (ho : o.op = .store t x y) (hd : o.dst = none) (hg : o.guard = none) (hs : (Instr.storeAt t (a.eval x) (a.eval y)).run P W = .ok () W') (hF : F a W') :
    (Code.region id #[o] false).wp P (Exit.then F Q) a W := by
  refine wp_region_list ?_
  refine wpList_step' ?_
  have hw : Region.wanted o (yielded #[o] a.tmps) = true := by simp [Region.wanted, hg]
  rw [if_pos hw]
  refine wp_of_skip (w' := W') ?_ ?_
  · have : execOp a.eval o = (do Instr.storeAt t (a.eval x) (a.eval y); pure .skip) := by unfold execOp; rw [ho]
    rw [this, Sem.run_bind, hs]; rfl
  · unfold Act.put
    rw [hd]
    exact hF
set_option maxHeartbeats 1000000 in
theorem read_there {r : Nat} {s : FSt} {x y : U} {b n : Nat} (hb : b + n ≤ 128) (hx : vof .i64 x = (b : Int) - 128) (hy : vof .i64 y = (n : Int)) (ht : thereB x y = true) (w : World) (hh : Holds w r s.t) :
    Calls Tryd.prog 17 #[.pointer (some ⟨r, 0, none⟩), .int .i64 (vof .i64 x), .int .i64 (vof .i64 y)] w fun e w' => e = .returned (.int .i64 (vof .i64 (readN s.g b n))) ∧ Below w.heap.size w w' := by
  refine (callsIn_wide (n := 3)).1 (callsIn_of_wp_marks Tryd.func17 body17 trivial ?_)
  rw [c17_eq]
  have st : At fp17 (hM (ms0 s) 1) w (nuOne r) (sl0 x y) { tmps := #[.pointer (some ⟨r, 0, none⟩), .int .i64 (vof .i64 x), .int .i64 (vof .i64 y)] ++ Array.replicate (Tryd.f17.ntmps - 3) undef, defers := [] } w :=
    At.enterA (fp := fp17) (args := [pt 0, i64 x, i64 y]) (vs := [.pointer (some ⟨r, 0, none⟩), .int .i64 (vof .i64 x), .int .i64 (vof .i64 y)]) (mem_one hh) (args3 r x y) (show 3 ≤ 26 by decide)
  refine wpIn_seq (wpIn_wide.2 (wp_mono (At.growN (XK noΓ_ok) rfl (r0_ev s x y) (r0_m s x y) rfl rfl (by kernel_rfl) st) ?_))
  rintro e a1 w1 ⟨rfl, ν1, ⟨hle1, hnew1⟩, at1⟩
  refine wpIn_seq (wpIn_wide.2 (wp_mono (At.goB (XK noΓ_ok) rfl ((r1_c s x y).trans (by rw [ht]; rfl)) (r1_f s x y) rfl rfl (by kernel_rfl) (LessL.refl _) at1) ?_))
  rintro e a2 w2 ⟨rfl, at2⟩
  refine wpIn_seq (wpIn_seq (wpIn_wide.2 (wp_mono (At.growN (XK noΓ_ok) rfl (r3_ev s x y) (r3_m s x y) rfl rfl (by kernel_rfl) at2) ?_)))
  rintro e a3 w3 ⟨rfl, ν3, ⟨hle3, hnew3⟩, at3⟩
  refine wpIn_block ?_
  have h0 : ν3 0 = some (r, 0) := hle3 _ _ (hle1 _ _ rfl)
  have hm3 := at3.1.mem
  obtain ⟨Be, ve, n2, cE, rE⟩ := seen_cell1 (hm3.seen 2 ⟨true, .a (.lit .i64 0)⟩ rfl (.inl trivial))
  obtain ⟨Ba, va, n3, cA, rA'⟩ := seen_cell1 (hm3.seen 3 ⟨true, .a (.i .i64 x)⟩ rfl (.inl trivial))
  obtain ⟨Bn, vn, n4, cN, rN⟩ := seen_cell1 (hm3.seen 4 ⟨true, .a (.i .i64 y)⟩ rfl (.inl trivial))
  simp only [A.rel] at rA' rN
  subst rA' rN
  have hBe : w.heap.size ≤ Be := by
    cases h2 : ν1 2 with
    | none => exact hnew3 2 Be 0 h2 n2
    | some p =>
      have := hle3 _ _ h2
      rw [n2] at this
      cases this
      exact hnew1 2 Be 0 rfl h2
  have t14 := at3.1.slots 14 _ (.tail _ (.tail _ (.head _)))
  have t14 : (A.fn 61 [.ptr 4 [], .ptr 3 []]).rel ν3 _ := t14
  simp only [A.rel, relL] at t14
  obtain ⟨caps, e14, v3, us3, eu3, ⟨B3, base3, k3, rfl⟩, v2, us2, eu2, ⟨B2, base2, k2, rfl⟩, rfl⟩ := t14
  rw [n4] at k3
  cases k3
  rw [n3] at k2
  cases k2
  subst eu2
  have hcaps : caps = #[.pointer (some ⟨Bn, 0, none⟩), .pointer (some ⟨Ba, 0, none⟩)] := by
    apply Array.ext'
    rw [eu3]
    rfl
  subst hcaps
  have t3 := at3.1.slots 3 _ (.head _)
  have t6 := at3.1.slots 6 _ (.tail _ (.head _))
  have e6 : a3.tmps.getD 6 undef = .pointer (some ⟨Be, 0, none⟩) := by
    have t6 : (A.ptr 2 []).rel ν3 _ := t6
    simp only [A.rel] at t6
    obtain ⟨B, base, k6, e⟩ := t6
    rw [n2] at k6
    cases k6
    exact e
  have hBaL : Ba < w3.heap.size := hm3.nums.lt 3 Ba 0 n3
  have hBeL : Be < w3.heap.size := hm3.nums.lt 2 Be 0 n2
  have hsz := at3.1.size
  refine wpIn_rangeFunc_ownF (F := Fence.wide) (n := 3) (α := Bx) rfl (by omega) (gf := 61) (lb := #[.pointer (some ⟨Bn, 0, none⟩), .pointer (some ⟨Ba, 0, none⟩)]) e14 trivial enters61
    (each_stops Fence.wide 2 trivial rfl (by omega) Bn Ba b n hb w3 (by rw [cN, hy]) (by rw [cA, hx])) (fun h k => kpA_t h k) (kpA_b hBaL) (Below.refl _ _) (fun _ => rfl)
    (fun pre W => (∀ z, z ∈ pre → codeU (s.g z.1) = K 0) ∧ Below w3.heap.size w3 W)
    (fun c pre W => (c = .ret ∧ ∃ q z, pre = q ++ [z] ∧ (∀ u, u ∈ q → codeU (s.g u.1) = K 0) ∧ codeU (s.g z.1) ≠ K 0 ∧ W.cell? ⟨Be, 0, none⟩ = some (.int .i64 (vof .i64 (codeU (s.g z.1))))) ∧ But Be w3.heap.size w3 W)
    (fun _ _ _ _ hs hg hr => ⟨hs.1, hs.2.grown hg hs.2.size (fun k e => (hr k e).1)⟩)
    (fun c _ _ _ _ hs hg hr => ⟨⟨hs.1.1, by
      obtain ⟨q, z, h1, h2, h3, h4⟩ := hs.1.2
      exact ⟨q, z, h1, h2, h3, cell_kept h4 hg (fun k e => (hr k e).2)⟩⟩, hs.2.grown hg (Nat.le_refl _) (fun k e => (hr k e).1)⟩) ⟨fun z hz => (by cases hz), Below.refl _ _⟩
    (fun z => { tmps := (a3.tmps.setIfInBounds 15 (.int .i64 (z.1 : Int))).setIfInBounds 7 (.int .i64 (z.1 : Int)), defers := [] }) ?assign ?body ?done ?stop
  case assign =>
    intro l z W F hF
    rw [rA_eq]
    refine assign_in rfl rfl rfl ?_
    have ef : Array.foldl (fun t (x : Nat × Value) => match x with | (p, v) => t.setIfInBounds p v) a3.tmps (#[15].zip (encB z)) = a3.tmps.setIfInBounds 15 (.int .i64 (z.1 : Int)) := by
      simp [encB, Array.zip]
    have e16 : ((a3.tmps.setIfInBounds 15 (Value.int .i64 (z.1 : Int))).getD 15 undef) = .int .i64 (z.1 : Int) := by
      simp [Array.getD, hsz, fp17]
    simp only [ef, e16]
    exact hF
  case body =>
    rintro l pre z W ⟨hI1, hI2⟩ hlen
    have m4 := hm3.after hI2
    have hz : vof .i64 (BitVec.ofNat 64 z.1) = (z.1 : Int) := vof_bx ⟨z.1, z.2⟩
    have hzn : (BitVec.ofNat 64 z.1 : U).toNat = z.1 := (idx_facts ⟨z.1, z.2⟩).1
    have st4 : Stand fp17 ν3 (hM (msR s x y) 5) (slR (BitVec.ofNat 64 z.1)) { tmps := (a3.tmps.setIfInBounds 15 (.int .i64 (z.1 : Int))).setIfInBounds 7 (.int .i64 (z.1 : Int)), defers := [] } W := by
      refine ⟨m4, fun t v htv => ?_, by simp [hsz], rfl⟩
      simp only [slR, List.mem_cons, Prod.mk.injEq, List.not_mem_nil, or_false] at htv
      rcases htv with ⟨rfl, rfl⟩ | ⟨rfl, rfl⟩ | ⟨rfl, rfl⟩
      · have e3 : (((a3.tmps.setIfInBounds 15 (Value.int .i64 (z.1 : Int))).setIfInBounds 7 (.int .i64 (z.1 : Int))).getD 3 undef) = a3.tmps.getD 3 undef := by
          simp [Array.getD_eq_getD_getElem?]
        show (pt 1).rel ν3 _
        rw [e3]
        exact t3
      · have e3 : (((a3.tmps.setIfInBounds 15 (Value.int .i64 (z.1 : Int))).setIfInBounds 7 (.int .i64 (z.1 : Int))).getD 6 undef) = a3.tmps.getD 6 undef := by
          simp [Array.getD_eq_getD_getElem?]
        show (pt 2).rel ν3 _
        rw [e3]
        exact t6
      · have e7 : (((a3.tmps.setIfInBounds 15 (Value.int .i64 (z.1 : Int))).setIfInBounds 7 (.int .i64 (z.1 : Int))).getD 7 undef) = .int .i64 (z.1 : Int) := by
          simp [Array.getD_eq_getD_getElem?, hsz, fp17]
        show (i64 (BitVec.ofNat 64 z.1)).rel ν3 _
        rw [e7]
        show (A.i .i64 (BitVec.ofNat 64 z.1)).rel ν3 _
        simp only [A.rel]
        rw [hz]
    have hok := okR_true ⟨z.1, z.2⟩
    have bad : ∀ (n : Int) (p : Option (Ex × St)), IntKind.i64.wrap n = n → codeU (s.g z.1) = K n → codeU (s.g z.1) ≠ K 0 → (evR rB (slR (BitVec.ofNat 64 z.1)) (msR s x y) 5).pick = p →
        endM fp17.km [] [2] 5 p = some ⟨.ret, .b (okR (BitVec.ofNat 64 z.1)), [], [(2, ⟨true, .a (.lit .i64 n)⟩)]⟩ → p.map (fun p => p.2.h.wr) = some [2] →
        rB.wpIn (Rnd l) 1 Tryd.prog (ownPostK (KpA Ba) (fun pre W => (∀ z, z ∈ pre → codeU (s.g z.1) = K 0) ∧ Below w3.heap.size w3 W)
          (fun c pre W => (c = .ret ∧ ∃ q z, pre = q ++ [z] ∧ (∀ u, u ∈ q → codeU (s.g u.1) = K 0) ∧ codeU (s.g z.1) ≠ K 0 ∧ W.cell? ⟨Be, 0, none⟩ = some (.int .i64 (vof .i64 (codeU (s.g z.1))))) ∧ But Be w3.heap.size w3 W) (pre ++ [z]) W)
          { tmps := (a3.tmps.setIfInBounds 15 (.int .i64 (z.1 : Int))).setIfInBounds 7 (.int .i64 (z.1 : Int)), defers := [] } W := by
      intro m p hw hc hne hp he hwr
      obtain ⟨s', p1, p2, p3, p4, p5, p6, p7, p8⟩ := endM_some he
      rw [p1] at hp hwr
      have hwr : s'.h.wr = [2] := by simpa using hwr
      refine phaseIn (XK noΓ_ok) rfl (by kernel_rfl) hp (by rw [p2]; exact hok) (gl_none (by kernel_rfl)) (fun _ _ h => h) st4 ?_
      intro ν' a' W' e hc' hg he
      have he : e = .ret := he
      subst he
      have hbut := goes_butI (r := Be) m4.mark n2 (.inl hwr) hg
      have hcell : W'.cell? ⟨Be, 0, none⟩ = some (.int .i64 m) := by
        have h1 := hvals_mem p4 2 _ (.head _)
        obtain ⟨B, v, q1, q2, q3⟩ := seen_cell1 (hg.mem.seen 2 _ h1 (.inl (.inl trivial)))
        rw [hg.le _ _ n2] at q1
        cases q1
        simp only [A.rel] at q3
        rw [q2, q3.1]
      refine ⟨hbut.others ?_, ⟨rfl, pre, z, rfl, hI1, hne, by rw [hcell, hc, vof_ofInt hw]⟩, (But.of_below hI2).trans (hbut.le hI2.size)⟩
      exact cells_of_cell ((hI2.cell (p := ⟨Be, 0, none⟩) hBeL).trans cE)
    rcases code_cases (s.g z.1) with ⟨c1, c2⟩ | ⟨c1, c2, c3⟩ | ⟨c1, c2, c3⟩
    · have hcn := (rb_c s x y (BitVec.ofNat 64 z.1)).trans (by rw [hzn, c2])
      exact bad 15 _ rfl c1 (by rw [c1]; decide) (Out.at_pick hcn) (rb_0 s x y _) (rb_0w s x y _)
    · have hcn := (rb_c s x y (BitVec.ofNat 64 z.1)).trans (by rw [hzn, c2])
      have hcn2 := (rb_c2 s x y (BitVec.ofNat 64 z.1)).trans (by rw [hzn, c3])
      exact bad 14 _ rfl c1 (by rw [c1]; decide) ((Out.nR_pick hcn).trans (Out.at_pick hcn2)) (rb_2 s x y _) (rb_2w s x y _)
    · have hcn := (rb_c s x y (BitVec.ofNat 64 z.1)).trans (by rw [hzn, c2])
      have hcn2 := (rb_c2 s x y (BitVec.ofNat 64 z.1)).trans (by rw [hzn, c3])
      obtain ⟨s', p1, p2, p3, p4, p5, p6, p7, p8⟩ := endM_some (rb_n s x y (BitVec.ofNat 64 z.1))
      have hwr := rb_nw s x y (BitVec.ofNat 64 z.1)
      rw [p1] at hwr
      have hwr : s'.h.wr = [] := by simpa using hwr
      refine phaseIn (XK noΓ_ok) rfl (by kernel_rfl) (((Out.nR_pick hcn).trans (Out.at_pick hcn2)).trans p1) (by rw [p2]; exact hok) (gl_none (by kernel_rfl)) (fun _ _ h => h) st4 ?_
      intro ν' a' W' e hc' hg he
      have he : e = .normal := he
      subst he
      have hbel := goes_below hwr m4 hg
      refine ⟨?_, hbel.cell (p := ⟨Ba, 0, none⟩) (Nat.lt_of_lt_of_le hBaL hI2.size), fun u hu => ?_, hI2.trans (hbel.mono hI2.size)⟩
      · exact ⟨hbel.size, fun k o hk _ => (hbel.block k (Array.getElem?_eq_some_iff.1 hk).1).trans hk⟩
      · rcases List.mem_append.1 hu with h | h
        · exact hI1 u h
        · simp at h
          subst h
          exact c1
  case done =>
    rintro D xs W hD rfl ⟨hI1, hI2⟩ hK
    show r10.wpIn Fence.wide 3 Tryd.prog _ _ W
    rw [r10_eq]
    have m4 := hm3.after hI2
    obtain ⟨r', he', hrok, hrw⟩ : ∃ r', evalStore Tryd.prog (hM (msR s x y) 5) 40 (.ptr 2 []) (.t (.a (.lit .i64 0))) = some r' ∧ okB r'.ok = true ∧ (r'.h.wr = [2] ∧ r'.h.m.get 2 = some ⟨true, .a (.lit .i64 0)⟩) := st_ev s x y
    have hpr : (A.ptr 2 []).rel ν3 (.pointer (some ⟨Be, 0, none⟩)) := by
      simp only [A.rel]
      exact ⟨Be, 0, n2, rfl⟩
    obtain ⟨W', k1, _, k3⟩ := evalStore_sound (P := Tryd.prog) (w := W) he' hrok m4 (fun _ _ => trivial) hpr (y := .t (.a (.lit .i64 0))) (vy := .int .i64 0) (by show (A.lit .i64 0).rel ν3 _; simp only [A.rel]; exact ⟨trivial, rfl⟩)
    have hbut : But Be W.heap.size W W' := goes_butI (h := hM (msR s x y) 5) (r := Be) m4 n2 (.inl hrw.1) k3
    have hcell : W'.cell? ⟨Be, 0, none⟩ = some (.int .i64 0) := by
      obtain ⟨B, v, q1, q2, q3⟩ := seen_cell1 (k3.mem.seen 2 _ hrw.2 (.inl trivial))
      rw [n2] at q1
      cases q1
      simp only [A.rel] at q3
      rw [q2, q3.1]
    have hDl : D < W.heap.size := (Array.getElem?_eq_some_iff.1 hK).1
    have hK' : W'.heap[D]? = some (.deferred (some [])) := (hbut.block D hDl (by omega)).trans hK
    refine wpIn_seq (wpIn_wide.2 (store_wp (W' := W') rfl rfl rfl ?_ ?_))
    · show (Instr.storeAt 40 (a3.tmps.getD 6 undef) (.int .i64 0)).run Tryd.prog W = _
      rw [e6]
      exact k1
    refine wpIn_ret ?_
    refine ⟨by simp, .inl ⟨_, _, rfl, run_takeDeferred hK', ?_⟩⟩
    rw [show a3.defers = [] from at3.1.defers]
    have hbut2 := ((But.of_below hI2).trans (hbut.le hI2.size)).grown (grownBy_putObj' W' D (.deferred none)) (Nat.le_refl _) (fun k e => by cases e; exact hD)
    refine ⟨_, results_cell rfl e6 agg40 (cell_kept hcell (grownBy_putObj' W' D (.deferred none)) (fun k e => by cases e; exact ⟨_, hK', rfl⟩)), ?_, ?_⟩
    · rw [readN_good n hb hI1]; rfl
    · exact (at3.2).trans (hbut2.below at3.2.size hBe)
  case stop =>
    rintro D c pre W hD ⟨k, hk, rfl⟩ ⟨⟨rfl, q, z, e1, hq, hz, hcell⟩, hbut⟩ hK
    refine wpIn_ret ?_
    refine ⟨by simp, .inl ⟨_, _, rfl, run_takeDeferred hK, ?_⟩⟩
    rw [show a3.defers = [] from at3.1.defers]
    have hbut2 := hbut.grown (grownBy_putObj' W D (.deferred none)) (Nat.le_refl _) (fun k e => by cases e; exact hD)
    refine ⟨_, results_cell rfl e6 agg40 (cell_kept hcell (grownBy_putObj' W D (.deferred none)) (fun k e => by cases e; exact ⟨_, hK, rfl⟩)), ?_, ?_⟩
    · rw [readN_bad hk hb e1 hq hz]
    · exact (at3.2).trans (hbut2.below at3.2.size hBe)

theorem r1_e (s : FSt) (x y : U) : endM fp17.km [6] [2] 3 ((evR r1 (sr1 x y) (msQ s) 3).at true) = some ⟨.ret, .tt, [(6, pt 2)], [(2, ⟨true, .a (.lit .i64 17)⟩)]⟩ := by kernel_rfl
theorem read_not {r : Nat} {s : FSt} {x y : U} (ht : thereB x y = false) (w : World) (hh : Holds w r s.t) :
    Calls Tryd.prog 17 #[.pointer (some ⟨r, 0, none⟩), .int .i64 (vof .i64 x), .int .i64 (vof .i64 y)] w fun e w' => e = .returned (.int .i64 17) ∧ Below w.heap.size w w' := by
  refine calls_phases Tryd.func17 body17 ?_
  rw [c17_eq]
  have st : At fp17 (hM (ms0 s) 1) w (nuOne r) (sl0 x y) { tmps := #[.pointer (some ⟨r, 0, none⟩), .int .i64 (vof .i64 x), .int .i64 (vof .i64 y)] ++ Array.replicate (Tryd.f17.ntmps - 3) undef, defers := [] } w :=
    At.enterA (fp := fp17) (args := [pt 0, i64 x, i64 y]) (vs := [.pointer (some ⟨r, 0, none⟩), .int .i64 (vof .i64 x), .int .i64 (vof .i64 y)]) (mem_one hh) (args3 r x y) (show 3 ≤ 26 by decide)
  refine wp_seq (wp_mono (At.growN (XK noΓ_ok) rfl (r0_ev s x y) (r0_m s x y) rfl rfl (by kernel_rfl) st) ?_)
  rintro e a1 w1 ⟨rfl, ν1, ⟨hle1, hnew1⟩, at1⟩
  obtain ⟨s', p1, p2, p3, p4, p5, p6, p7, p8⟩ := endM_some (r1_e s x y)
  have hwr := r1_w s x y
  rw [p1] at hwr
  have hwr : s'.h.wr = [2] := by simpa using hwr
  have hm1 := at1.1.mem
  obtain ⟨Be, ve, n2, cE, rE⟩ := seen_cell1 (hm1.seen 2 ⟨true, .a (.lit .i64 0)⟩ rfl (.inl trivial))
  have hBe : w.heap.size ≤ Be := hnew1 2 Be 0 rfl n2
  refine wp_seq (WE.phase (XK noΓ_ok) rfl ((Out.at_pick ((r1_c s x y).trans (by rw [ht]; rfl))).trans p1) (by rw [p2]; rfl) (gl_none (by kernel_rfl)) at1.1 ?_)
  intro ν' a' W' e hc hg he
  have he : e = .ret := he
  subst he
  have hbut := goes_butI (r := Be) hm1.mark n2 (.inl hwr) hg
  have hcell : W'.cell? ⟨Be, 0, none⟩ = some (.int .i64 17) := by
    have h1 := hvals_mem p4 2 _ (.head _)
    obtain ⟨B, v, q1, q2, q3⟩ := seen_cell1 (hg.mem.seen 2 _ h1 (.inl (.inl trivial)))
    rw [hg.le _ _ n2] at q1
    cases q1
    simp only [A.rel] at q3
    rw [q2, q3.1]
  have e6 : a'.tmps.getD 6 undef = .pointer (some ⟨Be, 0, none⟩) := by
    have t6 := (hc.slots 6).1
    rw [vals_mem p3 6 _ (.head _)] at t6
    have t6 : (A.ptr 2 []).rel ν' _ := t6 trivial
    simp only [A.rel] at t6
    obtain ⟨B, base, k6, e⟩ := t6
    rw [hg.le _ _ n2] at k6
    cases k6
    exact e
  have hd : a'.defers = [] := by
    have := hc.defers
    rw [p5] at this
    cases hd : a'.defers with
    | nil => rfl
    | cons _ _ => rw [hd] at this; exact this.elim
  have hl : Leaves Tryd.prog Tryd.f17 a'.tmps (fun e w' => e = .returned (.int .i64 17) ∧ Below w.heap.size w w') a'.defers .returning W' := by
    rw [hd]
    exact ⟨_, results_cell rfl e6 agg40 hcell, rfl, at1.2.trans (hbut.below at1.2.size hBe)⟩
  exact hl
end Go.WE
