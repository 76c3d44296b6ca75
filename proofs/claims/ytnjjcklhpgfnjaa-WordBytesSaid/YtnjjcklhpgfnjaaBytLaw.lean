/- The law WordBytes: numbers are got and put as the document says; of a list of any length. -/
import Derived.Test.YtnjjcklhpgfnjaaBytC
import Derived.Test.YtnjjcklhpgfnjaaBackTop
namespace Go.WE
set_option linter.unusedVariables false
set_option maxRecDepth 100000
open Go Go.Proofs

/-- A piece of a list whose length is written out. -/
def piece0Γ (Γ : Gam) : Gam := fun f args h => match Nat.beq f 42 with
  | true => match args with
    | [.t (.a (.sl id [] 1 (.lit 0) (.lit m) c)), .t (.a (.i .i64 a)), .t (.a (.i .i64 s))] => some (.leaf (.b (pbad m a s && Nat.ble m CC)) (.t (.a .nils)) h)
    | _ => Γ f args h
  | false => Γ f args h
theorem piece0Γ_ok {Γ : Gam} (hΓ : ΓOK Try.prog Γ) : ΓOK Try.prog (piece0Γ Γ) where
  ok := by
    intro f args h r ok v h' hr hp hok
    unfold piece0Γ at hr
    split at hr
    · rename_i hg
      have hg := Go.WE.beq_true hg
      subst hg
      split at hr
      · cases hr
        simp only [R.pick, Option.some.injEq, Prod.mk.injEq] at hp
        obtain ⟨rfl, rfl, rfl⟩ := hp
        have hok : (pbad _ _ _ && Nat.ble _ CC) = true := hok
        simp only [Bool.and_eq_true] at hok
        obtain ⟨h1, h2⟩ := piece_nil hok.1 (Nat.le_of_ble_eq_true hok.2) _ _
        refine .inl ⟨h1, ?_⟩
        intro S ν w vs hrd hwr hm hargs
        match vs, hargs with
        | [v0, v1, v2], ⟨r0, r1, r2, _⟩ =>
          refine h2 _ S ν w _ hrd hwr hm ⟨?_, r1, r2, trivial⟩
          exact r0
      · exact hΓ.ok _ args h r ok v h' hr hp hok
    · exact hΓ.ok f args h r ok v h' hr hp hok
  pan := by
    intro f args h r ok v h' hr hp hok
    unfold piece0Γ at hr
    split at hr
    · split at hr
      · cases hr; simp [R.pickP] at hp
      · exact hΓ.pan _ args h r ok v h' hr hp hok
    · exact hΓ.pan f args h r ok v h' hr hp hok
  ext := by
    intro f args h r hr hlo
    unfold piece0Γ at hr
    split at hr
    · split at hr
      · cases hr; exact Ext.refl _
      · exact hΓ.ext _ args h r hr hlo
    · exact hΓ.ext f args h r hr hlo
def ΓW (fit : Bool) : Gam := lentΓ (keptΓ (putΓ fit (thereΓ fit (piece0Γ (pieceΓ fit ΓL)))))
theorem ΓW_ok (fit : Bool) : ΓOK Try.prog (ΓW fit) := lentΓ_ok (keptΓ_ok (putΓ_ok (thereΓ_ok (piece0Γ_ok (pieceΓ_ok ΓL_ok)))))

def digW (g : Nat → UU) (a : UU) (i : Nat) : UU := nrm .u8 (g (0 + (a + KK (Int.ofNat i)).toNat))
def refW (g : Nat → UU) (a : UU) : Nat → Nat → UU
  | _, 0 => KK 0
  | i, 1 => KK 0 + digW g a i
  | i, m + 2 => KK 256 * refW g a (i + 1) (m + 1) + digW g a i
def pObl (n s : Nat) (a : UU) : Nat → Bool
  | 0 => fitB ((BitVec.ofNat 64 n).toNat - 0) a s && (Nat.ble ((BitVec.ofNat 64 n).toNat - 0) CC && isSize s)
  | k + 1 => pObl n s a k && Nat.blt (a.toNat + k) (n + 5)
def rObl (n s : Nat) (a : UU) : Nat → Bool
  | 0 => fitB n a s && (Nat.ble n CC && isSize s)
  | m + 1 => (rObl n s a m && ((!(BitVec.msb (a + KK (Int.ofNat (s - 1 - m))))) && Nat.blt (a + KK (Int.ofNat (s - 1 - m))).toNat n)) && Nat.blt (0 + (a + KK (Int.ofNat (s - 1 - m))).toNat) n
def keptO (n : Nat) : Bool := Nat.beq (n + 5) (n + 5) && (Nat.ble (n + 5) (n + 5) && (Nat.ble n n && Nat.ble n CC))
def cutO (n m : Nat) : Bool := (!(BitVec.msb (BitVec.ofNat 64 n))) && (Nat.ble 0 (BitVec.ofNat 64 n).toNat && Nat.ble (BitVec.ofNat 64 n).toNat m)
def newO (n : Nat) : Bool := Nat.blt 0 n && (Nat.beq n n && Nat.ble n CC)
/-- A number that fits. -/
def bytF (s n : Nat) (g : Nat → UU) (a v : UU) : Bool × Bool :=
  let t6 := cond (getB (lentB g n) a.toNat s != refW g a 0 s) true (!(true == true))
  let t7 := cond t6 true (!keptD n (lentB g n) g)
  let t10 := Nat.blt n (2 ^ 63)
  let t13 := (newO n && t10) && cutO n (n + 5)
  let t25 := (t13 && pObl n s a s) && rObl n s a s
  let t30 := cond t6 t25 (t25 && keptO n)
  let t33 := fitB n a s && (Nat.ble n CC && (isSize s && Nat.beq n n))
  let t35 := ((t30 && t33) && t10) && cutO n (n + 5)
  let t37 := (t35 && pObl n s a s) && keptO n
  let d2 := keptD n (xB (lentB g n) a.toNat v s) (putB g a.toNat s v)
  (cond t7 t30 (cond d2 t37 t37), cond t7 false (cond d2 true false))

theorem bytF_1 (n : Nat) (g : Nat → UU) (a v : UU) : (evalF cxB (ΓW true) 400 20 8 [slV 0 n none, ui a, li 1, .t (.a (.i .u64 v))] (hB n g)).res = some (.b (bytF 1 n g a v).1, .t (.a (.b (bytF 1 n g a v).2))) := by kernel_rfl
theorem bytF_2 (n : Nat) (g : Nat → UU) (a v : UU) : (evalF cxB (ΓW true) 400 20 8 [slV 0 n none, ui a, li 2, .t (.a (.i .u64 v))] (hB n g)).res = some (.b (bytF 2 n g a v).1, .t (.a (.b (bytF 2 n g a v).2))) := by kernel_rfl
theorem bytF_4 (n : Nat) (g : Nat → UU) (a v : UU) : (evalF cxB (ΓW true) 400 20 8 [slV 0 n none, ui a, li 4, .t (.a (.i .u64 v))] (hB n g)).res = some (.b (bytF 4 n g a v).1, .t (.a (.b (bytF 4 n g a v).2))) := by kernel_rfl
theorem bytF_8 (n : Nat) (g : Nat → UU) (a v : UU) : (evalF cxB (ΓW true) 400 20 8 [slV 0 n none, ui a, li 8, .t (.a (.i .u64 v))] (hB n g)).res = some (.b (bytF 8 n g a v).1, .t (.a (.b (bytF 8 n g a v).2))) := by kernel_rfl

/-- A number that does not fit. -/
def bytN (n : Nat) (g : Nat → UU) (a s v : UU) : Bool × Bool :=
  let d1 := keptD n (lentB g n) g
  let N := (BitVec.ofNat 64 n).toNat - 0
  let t2 := Nat.blt n (2 ^ 63)
  let t5 := (newO n && t2) && cutO n (n + 5)
  let t7 := pbad N a s && Nat.ble N CC
  let t8 := !thereD n a s
  let t10 := (t5 && t7) && (Nat.ble n CC && t8)
  let t14 := t10 && keptO n
  let t17 := Nat.blt 0 n && (Nat.ble n CC && (Nat.beq n n && t8))
  let t19 := ((t14 && t17) && t2) && cutO n (n + 5)
  let t20 := (t19 && t7) && keptO n
  (cond (!d1) t14 (cond d1 t20 t20), cond (!d1) false (cond d1 true false))
theorem bytN_ev (n : Nat) (g : Nat → UU) (a s v : UU) : (evalF cxB (ΓW false) 400 20 8 [slV 0 n none, ui a, ui s, .t (.a (.i .u64 v))] (hB n g)).res = some (.b (bytN n g a s v).1, .t (.a (.b (bytN n g a s v).2))) := by kernel_rfl


/-! ### an empty list, no list -/

def bytE (n : Nat) (a s : UU) : Bool :=
  let N := (BitVec.ofNat 64 n).toNat - 0
  let t0 := Nat.blt n (2 ^ 63)
  let t4 := (Nat.beq n 0 && t0) && cutO n 5
  let t6 := pbad N a s && Nat.ble N CC
  let t9 := (t4 && t6) && (Nat.ble n CC && !thereD n a s)
  let t10 := Nat.beq 5 5 && Nat.ble 5 5
  let t14 := (t9 && (Nat.beq n 0 && t10)) && (Nat.beq n 0 && !thereD 0 a s)
  (((t14 && t0) && cutO n 5) && t6) && t10
theorem bytE_ev (n : Nat) (a s v : UU) : (evalF cxB (ΓW false) 400 20 8 [slV 0 n none, ui a, ui s, .t (.a (.i .u64 v))] (hM [] 1)).res = some (.b (bytE n a s), .t (.a (.b true))) := by kernel_rfl
def bytZ (a s : UU) : Bool :=
  let t0 := pbad 0 a s && Nat.ble 0 CC
  let t2 := !thereD 0 a s
  let t3 := Nat.beq 5 5 && Nat.ble 5 5
  ((((((Nat.ble 0 5 && t0) && t2) && t3) && t2) && Nat.ble 0 5) && t0) && t3
theorem bytZ_ev (a s v : UU) : (evalF cxB (ΓW false) 400 20 8 [.t (.a .nils), ui a, ui s, .t (.a (.i .u64 v))] H.none).res = some (.b (bytZ a s), .t (.a (.b true))) := by kernel_rfl
end Go.WE
