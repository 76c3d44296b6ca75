/- HelperKnown: its text in phases. -/
import Derived.Test.YtcbijmamfbfelaaWordsC
namespace Go.WE
set_option linter.unusedVariables false
set_option maxRecDepth 100000
open Go Go.Proofs
open Go.RowKit (Below)

noncomputable def k3 : Code := bodyOf Try.prog 3
noncomputable def x0 : Code := k3.sA
noncomputable def x1 : Code := k3.sB.sA
noncomputable def x2 : Code := k3.sB.sB.sA
noncomputable def x3 : Code := k3.sB.sB.sB.sA
noncomputable def x4 : Code := k3.sB.sB.sB.sB.sA.sA
noncomputable def xl0 : Code := k3.sB.sB.sB.sB.sA.sB.inn.inn
noncomputable def xrest : Code := k3.sB.sB.sB.sB.sB
noncomputable def xh0 : Code := xl0.sA
noncomputable def x7 : Code := xl0.sB.sA.inn.sA
noncomputable def xl1 : Code := xl0.sB.sA.inn.sB.inn.inn
noncomputable def xi0 : Code := xl0.sB.sB
theorem k3_eq : k3 = .seq x0 (.seq x1 (.seq x2 (.seq x3 (.seq (.seq x4 (.block 0 (.loop xl0))) xrest)))) := by kernel_rfl
theorem xl0_eq : xl0 = .seq xh0 (.seq (.block 1 (.seq x7 (.block 2 (.loop xl1)))) xi0) := by kernel_rfl

def fp3 : Fp := ⟨6277101735387082177259996798390493387197429315860992868351, 292, 66, fun _ _ => none⟩
noncomputable def evK (c : Code) (l : List (Nat × V)) (ms : List (Nat × Blk)) (n : Nat) : Out := evalC cxH (evalF cxH ΓH 400 20) fp3 400 c (stOf l (hM ms n))
abbrev one (a : A) : V := .t (.a a)
abbrev slN (id s n : Nat) : V := one (.sl id [] s (.lit 0) (.lit n) (some (.lit n)))
def declT (k e w b i : Int) : T := .st [.a (.lit .i64 k), .a (.lit .i64 e), .a (.lit .i64 w), .a (.lit .i64 b), .a (.lit .i64 i)]
def declsT : T := .lst 5 [declT 1 4 1 0 0, declT 2 4 1 0 0, declT 3 4 2 0 0, declT 4 4 1 1 0, declT 5 4 1 0 0, declT 6 4 2 0 0, declT 7 4 1 0 0, declT 8 4 1 1 0, declT 9 4 1 0 1, declT 10 4 1 1 4]
def strT (l : List UInt8) : T := .a (.raw (.string ⟨⟨l⟩⟩))
def rightsT : T := .lst 1 [strT [], strT [76, 85], strT [76, 85], strT [85, 82], strT [76, 85, 68], strT [76, 85, 68], strT [80, 71, 81], strT [80, 71, 81], strT [80, 81], strT [76], strT [76]]
def u8T (n : Int) : T := .a (.lit .u8 n)
def namesT : T := .lst 1 [u8T 0, u8T 76, u8T 85, u8T 68, u8T 80, u8T 71, u8T 81, u8T 67, u8T 82]
def ms1 : List (Nat × Blk) := [(0, ⟨true, declsT⟩)]
def ms2 : List (Nat × Blk) := [(0, ⟨true, declsT⟩), (1, ⟨true, rightsT⟩)]
def msK : List (Nat × Blk) := [(0, ⟨true, declsT⟩), (1, ⟨true, rightsT⟩), (2, ⟨true, namesT⟩)]
def sA1 : List (Nat × V) := [(1, slN 0 5 10)]
def sA2 : List (Nat × V) := [(1, slN 0 5 10), (2, slN 1 1 11)]
def sA3 : List (Nat × V) := [(1, slN 0 5 10), (2, slN 1 1 11), (3, slN 2 1 9)]
def sK (m : Nat) : List (Nat × V) := [(1, slN 0 5 10), (2, slN 1 1 11), (3, slN 2 1 9), (4, one (.lit .i64 (Int.ofNat m)))]
def sN (m n : Nat) : List (Nat × V) := [(1, slN 0 5 10), (2, slN 1 1 11), (3, slN 2 1 9), (4, one (.lit .i64 (Int.ofNat m))), (5, one (.lit .i64 (Int.ofNat n)))]
theorem xe0 : endM fp3.km [] [] 0 (evK x0 [] [] 0).pick = some ⟨.nrm, .tt, [], []⟩ := by kernel_rfl
theorem xe1 : endM fp3.km [1] [0] 1 (evK x1 [] [] 0).pick = some ⟨.nrm, .tt, sA1, ms1⟩ := by kernel_rfl
theorem xe2 : endM fp3.km [1, 2] [0, 1] 2 (evK x2 sA1 ms1 1).pick = some ⟨.nrm, .tt, sA2, ms2⟩ := by kernel_rfl
theorem xe3 : endM fp3.km [1, 2, 3] [0, 1, 2] 3 (evK x3 sA2 ms2 2).pick = some ⟨.nrm, .tt, sA3, msK⟩ := by kernel_rfl
theorem xe4 : endM fp3.km [1, 2, 3, 4] [0, 1, 2] 3 (evK x4 sA3 msK 3).pick = some ⟨.nrm, .tt, sK 1, msK⟩ := by kernel_rfl
end Go.WE
