/- VE6: every operation that the evaluator carries out. -/
import Derived.Test.YtnjjcklhpgfnjaaVE5
namespace Go.VE
open Go
open Go.RowKit (Below)

section
variable {cx : Cx} {gw : GW} {call : CallE} {ν : Nu} {w : World} {a : Act} {o : Oper} {K : Act → World → Prop} {Q : Exit → Act → World → Prop}

theorem array_mapM_run {P : Program} {fs : Array Field} {pl : List (Nat × Nat)} (h : (fs.toList.mapM fun f => (do pure (f.offset, ← Go.sizeOf f.type) : Sem (Nat × Nat))).run P w = .ok pl w) :
    (fs.mapM fun f => (do pure (f.offset, ← Go.sizeOf f.type) : Sem (Nat × Nat))).run P w = .ok pl.toArray w := by
  rw [Array.mapM_eq_mapM_toList, Sem.run_map, h]; rfl

theorem relL_range {f : Nat → A} {g : Nat → Value} : ∀ (n k : Nat), (∀ j, (f j).rel ν (g j)) → relL ν ((List.range' k n).map f) ((List.range' k n).map g)
  | 0, _, _ => trivial
  | n + 1, k, h => by
    rw [List.range'_succ, List.map_cons, List.map_cons]
    exact ⟨h k, relL_range n (k + 1) h⟩

theorem litIx_int {x : V} {v : Value} {i : Nat} (h : litIx x = some i) (hx : x.rel ν v) : ∃ k, v = .int k (i : Int) := by
  unfold litIx at h
  split at h
  · split at h <;> simp at h
    subst h
    obtain ⟨rfl, _⟩ := hx
    exact ⟨_, rfl⟩
  · cases h

theorem blt_lt {a b : Nat} (h : Nat.blt a b = true) : a < b := by simp [Nat.blt] at h; omega

theorem strA_sound {ν : Nu} {s : ByteArray} {i ok z : A} {v : Value} (h : strA s i = some (ok, z)) (hok : okB ok = true) (hi : i.rel ν v) :
    ∃ (k : IntKind) (n : Int) (b : UInt8), v = .int k n ∧ 0 ≤ n ∧ s[n.toNat]? = some b ∧ z.rel ν (.int .u8 b.toNat) := by
  unfold strA at h
  split at h
  · rename_i k n
    split at h
    · rename_i m
      split at h
      · rename_i b hb
        simp at h
        obtain ⟨rfl, rfl⟩ := h
        exact ⟨k, _, b, hi.1, Int.natCast_nonneg m, hb, rfl, by simp [IntKind.wrap, IntKind.bits, IntKind.signed]; have := b.toNat_lt; omega⟩
      · cases h
    · cases h
  · rename_i k x
    split at h
    · cases h
    · rename_i hk
      simp at h
      obtain ⟨rfl, rfl⟩ := h
      have hv : v = .int k (vof k x) := hi
      have hn := vof_unsigned k x hk
      have hlt : (nrm k x).toNat < s.size := by
        split at hok
        · rename_i hc
          simp only [Bool.and_eq_true] at hc
          have e := kEq_true hc.1
          have h256 := Nat.le_of_ble_eq_true hc.2
          subst e
          have : (nrm .u8 x).toNat < 256 := by
            simp [nrm]
            omega
          omega
        · exact blt_lt (by simpa [okB] using hok)
      refine ⟨k, _, s[(nrm k x).toNat], hv, ?_, ?_, ?_⟩
      · rw [hn]; exact Int.natCast_nonneg _
      · rw [hn]; simp [hlt]
      · show Value.int .u8 _ = .int .u8 (vof .u8 _)
        have : (s[(nrm k x).toNat]).toNat < 256 := (s[(nrm k x).toNat]).toNat_lt
        congr 1
        simp only [strAt, hlt, getElem?_pos]
        unfold vof
        simp only [BitVec.toNat_ofNat]
        simp [IntKind.wrap, IntKind.bits, IntKind.signed]
        omega
  · cases h

theorem cutA_eq {id off n cap l h : Nat} {r : OpR} (he : cutA id off n cap l h = some r) :
    l ≤ h ∧ h ≤ cap ∧ r = ⟨.tt, .a (.sl id (match Nat.beq cap l with | true => off | false => off + l * n) (h - l) (cap - l)), none, []⟩ := by
  unfold cutA at he
  split at he
  · rename_i hb
    simp only [Bool.and_eq_true] at hb
    exact ⟨Nat.le_of_ble_eq_true hb.1, Nat.le_of_ble_eq_true hb.2, mkR_eq he⟩
  · cases he

/-- A bound of a slice, as a value. -/
def BndOK (v : Option Value) (n : Option Nat) : Prop := match v, n with
  | none, none => True
  | some v, some n => ∃ k, v = .int k (n : Int)
  | _, _ => False

theorem ixOpt_sound {a : Act} {ν : Nu} {G : Cond} {gt : Nat → Ent} (hG : holds a.tmps G) {x : Option Operand} {n : Option Nat} (h : ixOpt G gt x = some n) (hs : Slots ν a.tmps gt x.toList) :
    BndOK (x.map a.eval) n := by
  cases x with
  | none => simp [ixOpt] at h; subst h; trivial
  | some x =>
    simp only [ixOpt] at h
    split at h
    · rename_i m hm
      simp at h; subst h
      obtain ⟨vi, hvi, hli⟩ := bind_some hm
      exact litIx_int hli (opV_sound hvi hG trivial (hs.sub (by simp)))
    · cases h

theorem sliceBounds_run {P : Program} {w : World} {isS : Bool} {len cap : Nat} {lo hi : Option Value} {l h : Option Nat} (hl : BndOK lo l) (hh : BndOK hi h) (h1 : l.getD 0 ≤ h.getD len) (h2 : h.getD len ≤ cap) :
    (Instr.sliceBounds isS len cap lo hi none).run P w = .ok (l.getD 0, h.getD len, cap) w := by
  cases lo with
  | none => cases l with
    | some _ => exact hl.elim
    | none => cases hi with
      | none => cases h with
        | some _ => exact hh.elim
        | none => simp [Instr.sliceBounds]
      | some v => cases h with
        | none => exact hh.elim
        | some n =>
          obtain ⟨k, rfl⟩ := hh
          simp at h1 h2
          simp [Instr.sliceBounds, Instr.sliceBound, asIntOf]
          omega
  | some u => cases l with
    | none => exact hl.elim
    | some m =>
      obtain ⟨k', rfl⟩ := hl
      cases hi with
      | none => cases h with
        | some _ => exact hh.elim
        | none =>
          simp at h1 h2
          simp [Instr.sliceBounds, Instr.sliceBound, asIntOf]
          omega
      | some v => cases h with
        | none => exact hh.elim
        | some n =>
          obtain ⟨k, rfl⟩ := hh
          simp at h1 h2
          simp [Instr.sliceBounds, Instr.sliceBound, asIntOf, h1, h2]

theorem evalOp_sound (hE : EqOK cx) (hC : CallOK cx.P gw call) (hgw : gw.holds w) {sg : Sight} {G : Cond} {gt : Nat → Ent} {h : List HE} {id : Nat} {r : OpR}
    (he : evalOp cx call sg G gt h id o.op = some r) (hok : okB r.ok = true) (hG : holds a.tmps G) (hs : Slots ν a.tmps gt o.op.operands.toList)
    (hv : ∀ j, vis sg G h j = true → SeesAt ν h w j) (hm : Map ν w) (hid : ν id = none) (hK : Goes ν w sg.lo h id G a o K r) : o.wp cx.P a w K Q := by
  generalize hop : o.op = op at he hs
  cases op <;> simp only [evalOp] at he
  case move x =>
    obtain ⟨v, hx, he⟩ := bind_some he
    have e := mkR_eq he; subst e
    exact goes_value hm hK (by unfold execOp; rw [hop]; rfl) (opV_sound hx hG trivial (hs.sub (by simp [Op.operands])))
  case assign x =>
    obtain ⟨v, hx, he⟩ := bind_some he
    have e := mkR_eq he; subst e
    exact goes_value hm hK (by unfold execOp; rw [hop]; rfl) (opV_sound hx hG trivial (hs.sub (by simp [Op.operands])))
  case pick c x y =>
    have hex : ∀ p, a.eval c = .bool p → (execOp a.eval o).run cx.P w = .ok (.value (if p then a.eval x else a.eval y)) w := by
      intro p hp
      have : execOp a.eval o = (do pure (.value (if ← asBool (a.eval c) then a.eval x else a.eval y))) := by unfold execOp; rw [hop]
      rw [this, Sem.run_bind, hp]; rfl
    have hX : ∀ want, a.eval c = .bool want → holds a.tmps (pickC c want) := by
      intro want hw
      cases c with
      | tmp s => exact hw
      | _ => trivial
    unfold evalPick at he
    split at he
    · rename_i hc
      have hcv : a.eval c = .bool true := opV_sound hc hG trivial (hs.sub (by simp [Op.operands]))
      obtain ⟨v, hx, he⟩ := bind_some he
      have e := mkR_eq he; subst e
      exact goes_value hm hK (hex _ hcv) (opV_sound hx hG (hX _ hcv) (hs.sub (by simp [Op.operands])))
    · rename_i hc
      have hcv : a.eval c = .bool false := opV_sound hc hG trivial (hs.sub (by simp [Op.operands]))
      obtain ⟨v, hx, he⟩ := bind_some he
      have e := mkR_eq he; subst e
      exact goes_value hm hK (hex _ hcv) (opV_sound hx hG (hX _ hcv) (hs.sub (by simp [Op.operands])))
    · rename_i p hc
      have hcv : a.eval c = .bool p := opV_sound hc hG trivial (hs.sub (by simp [Op.operands]))
      split at he
      · rename_i va vb h1 h2
        have e := mkR_eq he; subst e
        refine goes_value hm hK (hex _ hcv) (mergeV_rel ?_)
        cases p
        · exact opV_sound h2 hG (hX _ hcv) (hs.sub (by simp [Op.operands]))
        · exact opV_sound h1 hG (hX _ hcv) (hs.sub (by simp [Op.operands]))
      · cases he
    · cases he
  case alloc t =>
    split at he
    · rename_i cs hz
      simp at he; subst he
      obtain ⟨v, hzr, hcs⟩ := run_zero' (ν := ν) (w := w) hz
      refine wp_of_value (w' := w.alloc (.cells v.cells t)) (v := .pointer (some ⟨w.heap.size, 0, none⟩)) ?_ (hK _ _ _ (Post.alloc hm hid hcs ⟨_, by simp [upd], rfl⟩))
      refine execOp_value (s := Instr.alloc t true (.tuple #[])) (by unfold execOp; rw [hop]) ?_
      rw [Instr.alloc, Sem.run_bind, hzr]
      simp [newVar, newRow]
    · cases he
  case box t x =>
    split at he
    · rename_i v hx
      split at he
      · rename_i cs hcs
        simp at he; subst he
        have hxv := opV_sound hx hG trivial (hs.sub (by simp [Op.operands]))
        obtain ⟨hcl, _⟩ := solidCells_rel hxv hcs
        refine wp_of_value (w' := w.alloc (.cells (a.eval x).cells t)) (v := .pointer (some ⟨w.heap.size, 0, none⟩)) ?_ (hK _ _ _ (Post.alloc hm hid hcl ⟨_, by simp [upd], rfl⟩))
        refine execOp_value (s := Instr.box t (a.eval x)) (by unfold execOp; rw [hop]) ?_
        simp [Instr.box, newVar, newRow]
      · cases he
    · cases he
  case build t parts =>
    split at he
    · rename_i ps z hp hz
      obtain ⟨zv, hzr, hzc⟩ := run_zero' (ν := ν) (w := w) hz
      have hps := opParts_sound hG hp (hs.sub (by simp [Op.operands]))
      have hsem : execOp a.eval o = (do pure (.value (← Instr.build t (parts.map fun (i, x) => (i, a.eval x))))) := by unfold execOp; rw [hop]
      have hlist : (parts.map fun (i, x) => (i, a.eval x)).toList = parts.toList.map fun (i, x) => (i, a.eval x) := by simp
      split at he
      · rename_i fields hu
        split at he
        · rename_i pl hpl
          obtain ⟨cs, hf, he⟩ := bind_some he
          have e := mkR_eq he; subst e
          obtain ⟨vs', h1, h2⟩ := fillA_sound (ν := ν) (fun i : Nat => pl[i]?) hf hps hzc
          refine goes_value hm hK (execOp_value hsem (v := .agg vs') ?_) ⟨vs', rfl, h2⟩
          rw [Instr.build, Sem.run_bind, hzr]
          simp only [Result.andThen_ok]
          rw [Sem.run_bind, run_underlying' hu]
          simp only [Result.andThen_ok]
          rw [Sem.run_bind, array_mapM_run (placesOf_sound hpl)]
          simp only [Result.andThen_ok]
          have e2 : (fun i : Nat => (pl.toArray)[i]?) = (fun i : Nat => pl[i]?) := by funext i; simp
          rw [hlist, e2, h1]
          rfl
        · cases he
      · rename_i len elem hu
        split at he
        · rename_i n hn
          obtain ⟨cs, hf, he⟩ := bind_some he
          have e := mkR_eq he; subst e
          obtain ⟨vs', h1, h2⟩ := fillA_sound (ν := ν) _ hf hps hzc
          refine goes_value hm hK (execOp_value hsem (v := .agg vs') ?_) ⟨vs', rfl, h2⟩
          rw [Instr.build, Sem.run_bind, hzr]
          simp only [Result.andThen_ok]
          rw [Sem.run_bind, run_underlying' hu]
          simp only [Result.andThen_ok]
          rw [Sem.run_bind, run_sizeOf' hn]
          simp only [Result.andThen_ok]
          rw [hlist, h1]
          rfl
        · cases he
      · cases he
    · cases he
  case buildSlice t len parts =>
    split at he
    · rename_i ps elem hp hu
      have hps := opParts_sound hG hp (hs.sub (by simp [Op.operands]))
      have hsem : execOp a.eval o = (do pure (.value (← Instr.buildSlice t len (parts.map fun (i, x) => (i, a.eval x))))) := by unfold execOp; rw [hop]
      have hlist : (parts.map fun (i, x) => (i, a.eval x)).toList = parts.toList.map fun (i, x) => (i, a.eval x) := by simp
      split at he
      · rename_i n z hn hz
        obtain ⟨zv, hzr, hzc⟩ := run_zero' (ν := ν) (w := w) hz
        split at he
        · rename_i hc
          simp only [Bool.and_eq_true] at hc
          obtain ⟨⟨⟨c1, c2⟩, c3⟩, c4⟩ := hc
          have c1 := Nat.eq_of_beq_eq_true c1
          have c2 := blt_lt c2
          have c3 := blt_lt c3
          have c4 := Nat.le_of_ble_eq_true c4
          split at he
          · rename_i cs hf
            simp at he; subst he
            have hlen := relL_length hzc
            simp at hlen
            have hr : relL ν ((List.range (len * n)).map fun j => z.getD (j % n) .poison) ((Array.range (len * n)).map (fun x => zv.cells[x % zv.cells.size]!)).toList := by
              rw [Array.toList_map, Array.toList_range, List.range_eq_range']
              refine relL_range _ _ (fun j => ?_)
              have := relL_get hzc (j % n)
              have e3 : zv.cells[j % zv.cells.size]! = zv.cells.toList.getD (j % n) undef := by
                have hlt : j % zv.cells.size < zv.cells.size := Nat.mod_lt _ (by omega)
                rw [show n = zv.cells.size from by omega]
                simp [hlt]
              rw [e3]; exact this
            obtain ⟨vs', h1, h2⟩ := fillA_sound (ν := ν) _ hf hps hr
            refine wp_of_value (w' := w.alloc (.cells vs' elem)) (v := .slice (some ⟨w.heap.size, 0, none⟩) len len) ?_ (hK _ _ _ (Post.alloc hm hid h2 ⟨_, by simp [upd], rfl⟩))
            refine execOp_value hsem ?_
            rw [Instr.buildSlice, Sem.run_bind, run_underlying' hu]
            simp only [Result.andThen_ok]
            rw [Sem.run_bind, run_sizeOf' hn]
            simp only [Result.andThen_ok]
            rw [if_neg (by omega), if_neg (by have := Nat.mul_pos c3 c2; omega)]
            rw [Sem.run_bind, hzr]
            simp only [Result.andThen_ok, Sem.run_bind, Sem.run_pure]
            rw [hlist, h1]
            simp [newRow]
          · cases he
        · cases he
      · cases he
    · cases he
  case load t x =>
    obtain ⟨v, hx, he⟩ := bind_some he
    obtain ⟨v', u, e, hr, hu⟩ := evalLoad_sound (ν := ν) (w := w) he hv (opV_sound hx hG trivial (hs.sub (by simp [Op.operands])))
    subst e
    exact goes_value hm hK (execOp_value (s := Instr.loadAt t (a.eval x)) (by unfold execOp; rw [hop]) hr) hu
  case store t x y =>
    split at he
    · rename_i ax ay h1 h2
      have hx := opV_sound h1 hG trivial (hs.sub (by simp [Op.operands]))
      have hy := opV_sound h2 hG trivial (hs.sub (by simp [Op.operands]))
      unfold evalStore at he
      split at he
      · rename_i j off
        split at he
        · rename_i c ty len cs n hcond hblk hcs hsz
          simp only [Bool.and_eq_true] at hcond
          split at he
          · rename_i hc
            simp only [Bool.and_eq_true] at hc
            have c1 := Nat.eq_of_beq_eq_true hc.1
            have c2 := Nat.le_of_ble_eq_true hc.2
            simp at he; subst he
            obtain ⟨c', ty', n', b, us, g1, g2, g3, g4, g5⟩ := hv j hcond.1
            rw [hblk] at g1; simp at g1; obtain ⟨rfl, rfl, rfl⟩ := g1
            obtain ⟨b', e1, hxv⟩ := hx
            rw [g2] at e1; simp at e1; subst e1
            obtain ⟨hcl, hone⟩ := solidCells_rel hy hcs
            have hl := relL_length hcl
            simp at hl
            refine wp_of_skip (w' := wset w b (.cells (setL us off (a.eval y).cells.toList) ty (0, 0))) ?_
              (hK _ _ _ (Post.store hm (Nat.le_of_ble_eq_true hcond.2) hblk g2 g3 g4 g5 hcl (by omega)))
            have hsem : execOp a.eval o = (do Instr.storeAt t (a.eval x) (a.eval y); pure .skip) := by unfold execOp; rw [hop]
            rw [hsem, Sem.run_bind, Instr.storeAt, hxv, Instr.sureAddr, Sem.run_bind]
            simp only [Sem.run_pure, Result.andThen_ok]
            rw [storeVar, Sem.run_bind, run_sizeOf' hsz]
            simp only [Result.andThen_ok]
            rw [if_neg (by omega), storeCells_run _ w b off 0 us ty g3 (by simp; omega) hone]
            rfl
          · cases he
        · cases he
      · cases he
    · cases he
  case nilCheck x =>
    split at he
    · rename_i j off hx
      have e := mkR_eq he; subst e
      obtain ⟨b, h1, h2⟩ := opV_sound hx hG trivial (hs.sub (by simp [Op.operands]))
      refine goes_value hm hK (v' := .pointer (some ⟨b, off, none⟩)) ?_ ⟨b, h1, rfl⟩
      unfold execOp; rw [hop]
      simp only [h2]; rfl
    · cases he
  case binOp op t x y t' =>
    split at he
    · rename_i ax ay h1 h2
      have hx := opV_sound h1 hG trivial (hs.sub (by simp [Op.operands]))
      have hy := opV_sound h2 hG trivial (hs.sub (by simp [Op.operands]))
      obtain ⟨v, v', ok, e, hr, hrel⟩ := evalBin_sound (w := w) hE he hok hx hy x y
      subst e
      refine wp_of_value (execOp_value (s := do eqGuard op t x y (a.eval x) (a.eval y); binOp op t (a.eval x) (a.eval y)) (by unfold execOp; rw [hop]) hr) (hK ν w v' (Post.same hm hrel))
    · cases he
  case unOp op t x =>
    split at he
    · rename_i y h1
      obtain ⟨z, hz, he⟩ := bind_some he
      have e := mkR_eq he; subst e
      have hx := opV_sound h1 hG trivial (hs.sub (by simp [Op.operands]))
      obtain ⟨v, hr, hrel⟩ := unA_sound (P := cx.P) (w := w) hz hx
      exact goes_value hm hK (execOp_value (s := Op.unary op (a.eval x)) (by unfold execOp; rw [hop]) hr) hrel
    · cases he
  case convert src dst x =>
    split at he
    · rename_i d k y hsrc hdst h1
      obtain ⟨z, hz, he⟩ := bind_some he
      have e := mkR_eq he; subst e
      have hx := opV_sound h1 hG trivial (hs.sub (by simp [Op.operands]))
      obtain ⟨k', n, hxv, hrel⟩ := convA_sound hz hx
      refine goes_value hm hK (execOp_value (s := convert src dst (a.eval x)) (by unfold execOp; rw [hop]) (v := .int k (k.wrap n)) ?_) hrel
      rw [convert, Sem.run_bind, run_underlying' hsrc]
      simp only [Result.andThen_ok]
      rw [Sem.run_bind, run_underlying' hdst]
      simp only [Result.andThen_ok, hxv]
      rfl
    · cases he
  case fieldAddr s x f =>
    split at he
    · rename_i fields j off hu h1
      split at he
      · rename_i fd hfd
        split at he
        · rename_i n hn
          have e := mkR_eq he; subst e
          obtain ⟨b, g1, g2⟩ := opV_sound h1 hG trivial (hs.sub (by simp [Op.operands]))
          refine goes_value hm hK (execOp_value (s := Instr.fieldAt s (a.eval x) f) (by unfold execOp; rw [hop]) (v := .pointer (some ⟨b, off + fd.offset, none⟩)) ?_) ⟨b, g1, rfl⟩
          rw [Instr.fieldAt, Sem.run_bind, run_underlying' hu]
          simp only [Result.andThen_ok, hfd]
          rw [Sem.run_bind, g2]
          simp only [Instr.sureAddr, Sem.run_pure, Result.andThen_ok]
          rw [Sem.run_bind, fieldPlace, Sem.run_bind, run_sizeOf' hn]
          simp only [Result.andThen_ok]
          rw [if_neg (by omega), add_addr]
          rfl
        · cases he
      · cases he
    · cases he
  case indexAddr t x ix =>
    split at he
    · rename_i len elem j off i hu h1 h2
      split at he
      · rename_i n hlt hn
        have hlt := blt_lt hlt
        have e := mkR_eq he; subst e
        obtain ⟨b, g1, g2⟩ := opV_sound h1 hG trivial (hs.sub (by simp [Op.operands]))
        obtain ⟨vi, hvi, hli⟩ := bind_some h2
        obtain ⟨k, hi⟩ := litIx_int hli (opV_sound hvi hG trivial (hs.sub (by simp [Op.operands])))
        refine goes_value hm hK (execOp_value (s := Instr.indexAt t (a.eval x) (a.eval ix)) (by unfold execOp; rw [hop]) (v := .pointer (some ⟨b, off + i * n, none⟩)) ?_) ⟨b, g1, rfl⟩
        rw [Instr.indexAt, Sem.run_bind, hi]
        simp only [asIntOf, Sem.run_pure, Result.andThen_ok]
        rw [Sem.run_bind, run_underlying' hu, g2]
        simp [Instr.sureAddr, run_underlying' hu, hlt, run_sizeOf' hn, add_addr]
      · cases he
    · rename_i elem j off len cap i hu h1 h2
      split at he
      · rename_i n hlt hn
        have hlt := blt_lt hlt
        have e := mkR_eq he; subst e
        obtain ⟨b, g1, g2⟩ := opV_sound h1 hG trivial (hs.sub (by simp [Op.operands]))
        obtain ⟨vi, hvi, hli⟩ := bind_some h2
        obtain ⟨k, hi⟩ := litIx_int hli (opV_sound hvi hG trivial (hs.sub (by simp [Op.operands])))
        refine goes_value hm hK (execOp_value (s := Instr.indexAt t (a.eval x) (a.eval ix)) (by unfold execOp; rw [hop]) (v := .pointer (some ⟨b, off + i * n, none⟩)) ?_) ⟨b, g1, rfl⟩
        rw [Instr.indexAt, Sem.run_bind, hi]
        simp only [asIntOf, Sem.run_pure, Result.andThen_ok]
        rw [Sem.run_bind, run_underlying' hu, g2]
        simp [run_underlying' hu, hlt, run_sizeOf' hn, add_addr]
      · cases he
    · cases he
  case index t x ix =>
    split at he
    · rename_i s i hu h1 h2
      split at he
      · rename_i ok' z hz
        simp at he; subst he
        have hx := opV_sound h1 hG trivial (hs.sub (by simp [Op.operands]))
        have hi := opV_sound h2 hG trivial (hs.sub (by simp [Op.operands]))
        obtain ⟨k, n, b, e1, e2, e3, e4⟩ := strA_sound hz hok hi
        refine goes_value (G := G) hm hK (execOp_value (s := Instr.index t (a.eval x) (a.eval ix)) (by unfold execOp; rw [hop]) (v := .int .u8 b.toNat) ?_) e4
        have hx : a.eval x = .string s := hx
        rw [Instr.index, Sem.run_bind, e1]
        simp only [asIntOf, Sem.run_pure, Result.andThen_ok]
        rw [Sem.run_bind, run_underlying' hu, hx]
        simp only [Result.andThen_ok]
        rw [if_pos e2, e3]
        rfl
      · cases he
    · cases he
  case slice t x lo hi mx =>
    cases mx with
    | some _ => cases he
    | none =>
    simp only at he
    split at he
    · rename_i elem id' off len cap l h' hu h1 h2 h3
      split at he
      · rename_i n hn
        obtain ⟨hlh, hhc, e⟩ := cutA_eq he
        subst e
        obtain ⟨b, g1, g2⟩ := opV_sound h1 hG trivial (hs.sub (by simp [Op.operands]))
        have b1 := ixOpt_sound (a := a) (ν := ν) hG h2 (hs.sub (by cases lo <;> cases hi <;> simp [Op.operands]))
        have b2 := ixOpt_sound (a := a) (ν := ν) hG h3 (hs.sub (by cases lo <;> cases hi <;> simp [Op.operands]))
        refine goes_value hm hK (execOp_value (s := Instr.sliceAt t (a.eval x) (lo.map a.eval) (hi.map a.eval) none) (by unfold execOp; rw [hop]; rfl)
          (v := .slice (some ⟨b, (match Nat.beq cap (l.getD 0) with | true => off | false => off + l.getD 0 * n), none⟩) (h'.getD len - l.getD 0) (cap - l.getD 0)) ?_) ⟨b, g1, rfl⟩
        rw [Instr.sliceAt, Sem.run_bind, run_underlying' hu, g2]
        simp only [Result.andThen_ok]
        rw [Instr.slice, Sem.run_bind, run_underlying' hu]
        simp only [Result.andThen_ok]
        rw [Sem.run_bind, sliceBounds_run b1 b2 hlh hhc]
        simp only [Result.andThen_ok]
        rw [Sem.run_bind, run_sizeOf' hn]
        simp only [Result.andThen_ok, Sem.run_pure]
        cases hb : Nat.beq cap (l.getD 0)
        · rw [if_neg (Nat.ne_of_beq_eq_false hb)]; simp [add_addr]
        · rw [if_pos (Nat.eq_of_beq_eq_true hb)]
      · cases he
    · rename_i n elem id' off l h' hu h1 h2 h3
      split at he
      · rename_i k hn
        obtain ⟨hlh, hhc, e⟩ := cutA_eq he
        subst e
        obtain ⟨b, g1, g2⟩ := opV_sound h1 hG trivial (hs.sub (by simp [Op.operands]))
        have b1 := ixOpt_sound (a := a) (ν := ν) hG h2 (hs.sub (by cases lo <;> cases hi <;> simp [Op.operands]))
        have b2 := ixOpt_sound (a := a) (ν := ν) hG h3 (hs.sub (by cases lo <;> cases hi <;> simp [Op.operands]))
        refine goes_value hm hK (execOp_value (s := Instr.sliceAt t (a.eval x) (lo.map a.eval) (hi.map a.eval) none) (by unfold execOp; rw [hop]; rfl)
          (v := .slice (some ⟨b, (match Nat.beq n (l.getD 0) with | true => off | false => off + l.getD 0 * k), none⟩) (h'.getD n - l.getD 0) (n - l.getD 0)) ?_) ⟨b, g1, rfl⟩
        rw [Instr.sliceAt, Sem.run_bind, run_underlying' hu, g2]
        simp only [Result.andThen_ok]
        rw [Sem.run_bind]
        simp only [Instr.sureAddr, Sem.run_pure, Result.andThen_ok]
        rw [Sem.run_bind, sliceBounds_run b1 b2 hlh hhc]
        simp only [Result.andThen_ok]
        rw [Sem.run_bind, run_sizeOf' hn]
        simp only [Result.andThen_ok, Sem.run_pure]
        cases hb : Nat.beq n (l.getD 0)
        · rw [if_neg (Nat.ne_of_beq_eq_false hb)]; simp [add_addr]
        · rw [if_pos (Nat.eq_of_beq_eq_true hb)]
      · cases he
    · cases he
  case extract x ix =>
    split at he
    · rename_i ws h1
      obtain ⟨vs, hxv, hrel⟩ := opV_sound h1 hG trivial (hs.sub (by simp [Op.operands]))
      split at he
      · rename_i y hy
        have e := mkR_eq he; subst e
        obtain ⟨v, hv1, hv2⟩ := relW_get hrel ix _ hy
        refine goes_value hm hK (execOp_value (s := Instr.extract (a.eval x) ix) (by unfold execOp; rw [hop]) (v := v) ?_) hv2
        simp at hv1
        simp [Instr.extract, hxv, hv1]
      · rename_i cs hy
        have e := mkR_eq he; subst e
        obtain ⟨v, hv1, hv2⟩ := relW_get hrel ix _ hy
        refine goes_value hm hK (execOp_value (s := Instr.extract (a.eval x) ix) (by unfold execOp; rw [hop]) (v := v) ?_) hv2
        simp at hv1
        simp [Instr.extract, hxv, hv1]
      · cases he
    · cases he
  case call c =>
    exact evalCall_sound hC hgw he hok hop hG (hs.sub (by simp [Op.operands])) hv hm hK
  all_goals cases he
end
end Go.VE
