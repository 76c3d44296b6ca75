/- Each operation and comparison, at its own number. -/
import Derived.Test.YtnjjcklhpgfnjaaC
namespace Go.Proofs.Ytnjjcklhpgfnjaa.Con
open Go Go.VE
set_option linter.unusedVariables false
theorem jw16 (a b : U) : jumpV true (K 16) a b = (a == b) := by
  simp only [jumpV, cond_true, cond_false, jumpVW, show (K 16 == K 16) = true from by decide]
theorem jw32 (a b : U) : jumpV true (K 32) a b = (b.ult a) := by
  simp only [jumpV, cond_true, cond_false, jumpVW, show (K 32 == K 16) = false from by decide, show (K 32 == K 32) = true from by decide]
theorem jw48 (a b : U) : jumpV true (K 48) a b = (b.ule a) := by
  simp only [jumpV, cond_true, cond_false, jumpVW, show (K 48 == K 16) = false from by decide, show (K 48 == K 32) = false from by decide, show (K 48 == K 48) = true from by decide]
theorem jw64 (a b : U) : jumpV true (K 64) a b = ((a &&& b) != K 0) := by
  simp only [jumpV, cond_true, cond_false, jumpVW, show (K 64 == K 16) = false from by decide, show (K 64 == K 32) = false from by decide, show (K 64 == K 48) = false from by decide, show (K 64 == K 64) = true from by decide]
theorem jw80 (a b : U) : jumpV true (K 80) a b = (a != b) := by
  simp only [jumpV, cond_true, cond_false, jumpVW, show (K 80 == K 16) = false from by decide, show (K 80 == K 32) = false from by decide, show (K 80 == K 48) = false from by decide, show (K 80 == K 64) = false from by decide, show (K 80 == K 80) = true from by decide]
theorem jw96 (a b : U) : jumpV true (K 96) a b = (b.slt a) := by
  simp only [jumpV, cond_true, cond_false, jumpVW, show (K 96 == K 16) = false from by decide, show (K 96 == K 32) = false from by decide, show (K 96 == K 48) = false from by decide, show (K 96 == K 64) = false from by decide, show (K 96 == K 80) = false from by decide, show (K 96 == K 96) = true from by decide]
theorem jw112 (a b : U) : jumpV true (K 112) a b = (b.sle a) := by
  simp only [jumpV, cond_true, cond_false, jumpVW, show (K 112 == K 16) = false from by decide, show (K 112 == K 32) = false from by decide, show (K 112 == K 48) = false from by decide, show (K 112 == K 64) = false from by decide, show (K 112 == K 80) = false from by decide, show (K 112 == K 96) = false from by decide, show (K 112 == K 112) = true from by decide]
theorem jw160 (a b : U) : jumpV true (K 160) a b = (a.ult b) := by
  simp only [jumpV, cond_true, cond_false, jumpVW, show (K 160 == K 16) = false from by decide, show (K 160 == K 32) = false from by decide, show (K 160 == K 48) = false from by decide, show (K 160 == K 64) = false from by decide, show (K 160 == K 80) = false from by decide, show (K 160 == K 96) = false from by decide, show (K 160 == K 112) = false from by decide, show (K 160 == K 160) = true from by decide]
theorem jw176 (a b : U) : jumpV true (K 176) a b = (a.ule b) := by
  simp only [jumpV, cond_true, cond_false, jumpVW, show (K 176 == K 16) = false from by decide, show (K 176 == K 32) = false from by decide, show (K 176 == K 48) = false from by decide, show (K 176 == K 64) = false from by decide, show (K 176 == K 80) = false from by decide, show (K 176 == K 96) = false from by decide, show (K 176 == K 112) = false from by decide, show (K 176 == K 160) = false from by decide, show (K 176 == K 176) = true from by decide]
theorem jw192 (a b : U) : jumpV true (K 192) a b = (a.slt b) := by
  simp only [jumpV, cond_true, cond_false, jumpVW, show (K 192 == K 16) = false from by decide, show (K 192 == K 32) = false from by decide, show (K 192 == K 48) = false from by decide, show (K 192 == K 64) = false from by decide, show (K 192 == K 80) = false from by decide, show (K 192 == K 96) = false from by decide, show (K 192 == K 112) = false from by decide, show (K 192 == K 160) = false from by decide, show (K 192 == K 176) = false from by decide, show (K 192 == K 192) = true from by decide]
theorem jw208 (a b : U) : jumpV true (K 208) a b = (a.sle b) := by
  simp only [jumpV, cond_true, cond_false, jumpVW, show (K 208 == K 16) = false from by decide, show (K 208 == K 32) = false from by decide, show (K 208 == K 48) = false from by decide, show (K 208 == K 64) = false from by decide, show (K 208 == K 80) = false from by decide, show (K 208 == K 96) = false from by decide, show (K 208 == K 112) = false from by decide, show (K 208 == K 160) = false from by decide, show (K 208 == K 176) = false from by decide, show (K 208 == K 192) = false from by decide, show (K 208 == K 208) = true from by decide]
theorem jn16 (a b : U) : jumpV false (K 16) a b = (nrm .u32 a == nrm .u32 b) := by
  simp only [jumpV, cond_true, cond_false, jumpVN, show (K 16 == K 16) = true from by decide]
theorem jn32 (a b : U) : jumpV false (K 32) a b = ((nrm .u32 b).ult (nrm .u32 a)) := by
  simp only [jumpV, cond_true, cond_false, jumpVN, show (K 32 == K 16) = false from by decide, show (K 32 == K 32) = true from by decide]
theorem jn48 (a b : U) : jumpV false (K 48) a b = ((nrm .u32 b).ule (nrm .u32 a)) := by
  simp only [jumpV, cond_true, cond_false, jumpVN, show (K 48 == K 16) = false from by decide, show (K 48 == K 32) = false from by decide, show (K 48 == K 48) = true from by decide]
theorem jn64 (a b : U) : jumpV false (K 64) a b = (nrm .u32 (a &&& b) != nrm .u32 (K 0)) := by
  simp only [jumpV, cond_true, cond_false, jumpVN, show (K 64 == K 16) = false from by decide, show (K 64 == K 32) = false from by decide, show (K 64 == K 48) = false from by decide, show (K 64 == K 64) = true from by decide]
theorem jn80 (a b : U) : jumpV false (K 80) a b = (nrm .u32 a != nrm .u32 b) := by
  simp only [jumpV, cond_true, cond_false, jumpVN, show (K 80 == K 16) = false from by decide, show (K 80 == K 32) = false from by decide, show (K 80 == K 48) = false from by decide, show (K 80 == K 64) = false from by decide, show (K 80 == K 80) = true from by decide]
theorem jn96 (a b : U) : jumpV false (K 96) a b = ((nrm .i32 b).slt (nrm .i32 a)) := by
  simp only [jumpV, cond_true, cond_false, jumpVN, show (K 96 == K 16) = false from by decide, show (K 96 == K 32) = false from by decide, show (K 96 == K 48) = false from by decide, show (K 96 == K 64) = false from by decide, show (K 96 == K 80) = false from by decide, show (K 96 == K 96) = true from by decide]
theorem jn112 (a b : U) : jumpV false (K 112) a b = ((nrm .i32 b).sle (nrm .i32 a)) := by
  simp only [jumpV, cond_true, cond_false, jumpVN, show (K 112 == K 16) = false from by decide, show (K 112 == K 32) = false from by decide, show (K 112 == K 48) = false from by decide, show (K 112 == K 64) = false from by decide, show (K 112 == K 80) = false from by decide, show (K 112 == K 96) = false from by decide, show (K 112 == K 112) = true from by decide]
theorem jn160 (a b : U) : jumpV false (K 160) a b = ((nrm .u32 a).ult (nrm .u32 b)) := by
  simp only [jumpV, cond_true, cond_false, jumpVN, show (K 160 == K 16) = false from by decide, show (K 160 == K 32) = false from by decide, show (K 160 == K 48) = false from by decide, show (K 160 == K 64) = false from by decide, show (K 160 == K 80) = false from by decide, show (K 160 == K 96) = false from by decide, show (K 160 == K 112) = false from by decide, show (K 160 == K 160) = true from by decide]
theorem jn176 (a b : U) : jumpV false (K 176) a b = ((nrm .u32 a).ule (nrm .u32 b)) := by
  simp only [jumpV, cond_true, cond_false, jumpVN, show (K 176 == K 16) = false from by decide, show (K 176 == K 32) = false from by decide, show (K 176 == K 48) = false from by decide, show (K 176 == K 64) = false from by decide, show (K 176 == K 80) = false from by decide, show (K 176 == K 96) = false from by decide, show (K 176 == K 112) = false from by decide, show (K 176 == K 160) = false from by decide, show (K 176 == K 176) = true from by decide]
theorem jn192 (a b : U) : jumpV false (K 192) a b = ((nrm .i32 a).slt (nrm .i32 b)) := by
  simp only [jumpV, cond_true, cond_false, jumpVN, show (K 192 == K 16) = false from by decide, show (K 192 == K 32) = false from by decide, show (K 192 == K 48) = false from by decide, show (K 192 == K 64) = false from by decide, show (K 192 == K 80) = false from by decide, show (K 192 == K 96) = false from by decide, show (K 192 == K 112) = false from by decide, show (K 192 == K 160) = false from by decide, show (K 192 == K 176) = false from by decide, show (K 192 == K 192) = true from by decide]
theorem jn208 (a b : U) : jumpV false (K 208) a b = ((nrm .i32 a).sle (nrm .i32 b)) := by
  simp only [jumpV, cond_true, cond_false, jumpVN, show (K 208 == K 16) = false from by decide, show (K 208 == K 32) = false from by decide, show (K 208 == K 48) = false from by decide, show (K 208 == K 64) = false from by decide, show (K 208 == K 80) = false from by decide, show (K 208 == K 96) = false from by decide, show (K 208 == K 112) = false from by decide, show (K 208 == K 160) = false from by decide, show (K 208 == K 176) = false from by decide, show (K 208 == K 192) = false from by decide, show (K 208 == K 208) = true from by decide]
theorem jo16 : jumpOk (K 16) = true := by decide
theorem jo32 : jumpOk (K 32) = true := by decide
theorem jo48 : jumpOk (K 48) = true := by decide
theorem jo64 : jumpOk (K 64) = true := by decide
theorem jo80 : jumpOk (K 80) = true := by decide
theorem jo96 : jumpOk (K 96) = true := by decide
theorem jo112 : jumpOk (K 112) = true := by decide
theorem jo160 : jumpOk (K 160) = true := by decide
theorem jo176 : jumpOk (K 176) = true := by decide
theorem jo192 : jumpOk (K 192) = true := by decide
theorem jo208 : jumpOk (K 208) = true := by decide
theorem aw0 (a b : U) : aluV true (K 0) a b = a + b := by
  simp only [aluV, cond_true, cond_false, aluVW, show (K 0 == K 0) = true from by decide]
theorem an0 (a b : U) : aluV false (K 0) a b = nrm .u32 (a + b) := by
  simp only [aluV, cond_true, cond_false, aluVN, show (K 0 == K 0) = true from by decide]
theorem ao0 : aluOk (K 0) = true := by decide
theorem aw16 (a b : U) : aluV true (K 16) a b = a - b := by
  simp only [aluV, cond_true, cond_false, aluVW, show (K 16 == K 0) = false from by decide, show (K 16 == K 16) = true from by decide]
theorem an16 (a b : U) : aluV false (K 16) a b = nrm .u32 (a - b) := by
  simp only [aluV, cond_true, cond_false, aluVN, show (K 16 == K 0) = false from by decide, show (K 16 == K 16) = true from by decide]
theorem ao16 : aluOk (K 16) = true := by decide
theorem aw32 (a b : U) : aluV true (K 32) a b = a * b := by
  simp only [aluV, cond_true, cond_false, aluVW, show (K 32 == K 0) = false from by decide, show (K 32 == K 16) = false from by decide, show (K 32 == K 32) = true from by decide]
theorem an32 (a b : U) : aluV false (K 32) a b = nrm .u32 (a * b) := by
  simp only [aluV, cond_true, cond_false, aluVN, show (K 32 == K 0) = false from by decide, show (K 32 == K 16) = false from by decide, show (K 32 == K 32) = true from by decide]
theorem ao32 : aluOk (K 32) = true := by decide
theorem aw48 (a b : U) : aluV true (K 48) a b = cond (b == K 0) (K 0) (a / b) := by
  simp only [aluV, cond_true, cond_false, aluVW, show (K 48 == K 0) = false from by decide, show (K 48 == K 16) = false from by decide, show (K 48 == K 32) = false from by decide, show (K 48 == K 48) = true from by decide]
theorem an48 (a b : U) : aluV false (K 48) a b = nrm .u32 (cond (nrm .u32 b == nrm .u32 (K 0)) (K 0) (nrm .u32 a / nrm .u32 b)) := by
  simp only [aluV, cond_true, cond_false, aluVN, show (K 48 == K 0) = false from by decide, show (K 48 == K 16) = false from by decide, show (K 48 == K 32) = false from by decide, show (K 48 == K 48) = true from by decide]
theorem ao48 : aluOk (K 48) = true := by decide
theorem aw144 (a b : U) : aluV true (K 144) a b = cond (b == K 0) a (a % b) := by
  simp only [aluV, cond_true, cond_false, aluVW, show (K 144 == K 0) = false from by decide, show (K 144 == K 16) = false from by decide, show (K 144 == K 32) = false from by decide, show (K 144 == K 48) = false from by decide, show (K 144 == K 144) = true from by decide]
theorem an144 (a b : U) : aluV false (K 144) a b = nrm .u32 (cond (nrm .u32 b == nrm .u32 (K 0)) a (nrm .u32 a % nrm .u32 b)) := by
  simp only [aluV, cond_true, cond_false, aluVN, show (K 144 == K 0) = false from by decide, show (K 144 == K 16) = false from by decide, show (K 144 == K 32) = false from by decide, show (K 144 == K 48) = false from by decide, show (K 144 == K 144) = true from by decide]
theorem ao144 : aluOk (K 144) = true := by decide
theorem aw64 (a b : U) : aluV true (K 64) a b = a ||| b := by
  simp only [aluV, cond_true, cond_false, aluVW, show (K 64 == K 0) = false from by decide, show (K 64 == K 16) = false from by decide, show (K 64 == K 32) = false from by decide, show (K 64 == K 48) = false from by decide, show (K 64 == K 144) = false from by decide, show (K 64 == K 64) = true from by decide]
theorem an64 (a b : U) : aluV false (K 64) a b = nrm .u32 (a ||| b) := by
  simp only [aluV, cond_true, cond_false, aluVN, show (K 64 == K 0) = false from by decide, show (K 64 == K 16) = false from by decide, show (K 64 == K 32) = false from by decide, show (K 64 == K 48) = false from by decide, show (K 64 == K 144) = false from by decide, show (K 64 == K 64) = true from by decide]
theorem ao64 : aluOk (K 64) = true := by decide
theorem aw80 (a b : U) : aluV true (K 80) a b = a &&& b := by
  simp only [aluV, cond_true, cond_false, aluVW, show (K 80 == K 0) = false from by decide, show (K 80 == K 16) = false from by decide, show (K 80 == K 32) = false from by decide, show (K 80 == K 48) = false from by decide, show (K 80 == K 144) = false from by decide, show (K 80 == K 64) = false from by decide, show (K 80 == K 80) = true from by decide]
theorem an80 (a b : U) : aluV false (K 80) a b = nrm .u32 (a &&& b) := by
  simp only [aluV, cond_true, cond_false, aluVN, show (K 80 == K 0) = false from by decide, show (K 80 == K 16) = false from by decide, show (K 80 == K 32) = false from by decide, show (K 80 == K 48) = false from by decide, show (K 80 == K 144) = false from by decide, show (K 80 == K 64) = false from by decide, show (K 80 == K 80) = true from by decide]
theorem ao80 : aluOk (K 80) = true := by decide
theorem aw160 (a b : U) : aluV true (K 160) a b = a ^^^ b := by
  simp only [aluV, cond_true, cond_false, aluVW, show (K 160 == K 0) = false from by decide, show (K 160 == K 16) = false from by decide, show (K 160 == K 32) = false from by decide, show (K 160 == K 48) = false from by decide, show (K 160 == K 144) = false from by decide, show (K 160 == K 64) = false from by decide, show (K 160 == K 80) = false from by decide, show (K 160 == K 160) = true from by decide]
theorem an160 (a b : U) : aluV false (K 160) a b = nrm .u32 (a ^^^ b) := by
  simp only [aluV, cond_true, cond_false, aluVN, show (K 160 == K 0) = false from by decide, show (K 160 == K 16) = false from by decide, show (K 160 == K 32) = false from by decide, show (K 160 == K 48) = false from by decide, show (K 160 == K 144) = false from by decide, show (K 160 == K 64) = false from by decide, show (K 160 == K 80) = false from by decide, show (K 160 == K 160) = true from by decide]
theorem ao160 : aluOk (K 160) = true := by decide
theorem aw96 (a b : U) : aluV true (K 96) a b = a <<< (b % K 64).toNat := by
  simp only [aluV, cond_true, cond_false, aluVW, show (K 96 == K 0) = false from by decide, show (K 96 == K 16) = false from by decide, show (K 96 == K 32) = false from by decide, show (K 96 == K 48) = false from by decide, show (K 96 == K 144) = false from by decide, show (K 96 == K 64) = false from by decide, show (K 96 == K 80) = false from by decide, show (K 96 == K 160) = false from by decide, show (K 96 == K 96) = true from by decide]
theorem an96 (a b : U) : aluV false (K 96) a b = nrm .u32 (a <<< (nrm .u32 b % K 32).toNat) := by
  simp only [aluV, cond_true, cond_false, aluVN, show (K 96 == K 0) = false from by decide, show (K 96 == K 16) = false from by decide, show (K 96 == K 32) = false from by decide, show (K 96 == K 48) = false from by decide, show (K 96 == K 144) = false from by decide, show (K 96 == K 64) = false from by decide, show (K 96 == K 80) = false from by decide, show (K 96 == K 160) = false from by decide, show (K 96 == K 96) = true from by decide]
theorem ao96 : aluOk (K 96) = true := by decide
theorem aw112 (a b : U) : aluV true (K 112) a b = a >>> (b % K 64).toNat := by
  simp only [aluV, cond_true, cond_false, aluVW, show (K 112 == K 0) = false from by decide, show (K 112 == K 16) = false from by decide, show (K 112 == K 32) = false from by decide, show (K 112 == K 48) = false from by decide, show (K 112 == K 144) = false from by decide, show (K 112 == K 64) = false from by decide, show (K 112 == K 80) = false from by decide, show (K 112 == K 160) = false from by decide, show (K 112 == K 96) = false from by decide, show (K 112 == K 112) = true from by decide]
theorem an112 (a b : U) : aluV false (K 112) a b = nrm .u32 (nrm .u32 a >>> (nrm .u32 b % K 32).toNat) := by
  simp only [aluV, cond_true, cond_false, aluVN, show (K 112 == K 0) = false from by decide, show (K 112 == K 16) = false from by decide, show (K 112 == K 32) = false from by decide, show (K 112 == K 48) = false from by decide, show (K 112 == K 144) = false from by decide, show (K 112 == K 64) = false from by decide, show (K 112 == K 80) = false from by decide, show (K 112 == K 160) = false from by decide, show (K 112 == K 96) = false from by decide, show (K 112 == K 112) = true from by decide]
theorem ao112 : aluOk (K 112) = true := by decide
theorem aw192 (a b : U) : aluV true (K 192) a b = a.sshiftRight (b % K 64).toNat := by
  simp only [aluV, cond_true, cond_false, aluVW, show (K 192 == K 0) = false from by decide, show (K 192 == K 16) = false from by decide, show (K 192 == K 32) = false from by decide, show (K 192 == K 48) = false from by decide, show (K 192 == K 144) = false from by decide, show (K 192 == K 64) = false from by decide, show (K 192 == K 80) = false from by decide, show (K 192 == K 160) = false from by decide, show (K 192 == K 96) = false from by decide, show (K 192 == K 112) = false from by decide, show (K 192 == K 192) = true from by decide]
theorem an192 (a b : U) : aluV false (K 192) a b = nrm .u32 (nrm .i32 ((nrm .i32 a).sshiftRight (b % K 32).toNat)) := by
  simp only [aluV, cond_true, cond_false, aluVN, show (K 192 == K 0) = false from by decide, show (K 192 == K 16) = false from by decide, show (K 192 == K 32) = false from by decide, show (K 192 == K 48) = false from by decide, show (K 192 == K 144) = false from by decide, show (K 192 == K 64) = false from by decide, show (K 192 == K 80) = false from by decide, show (K 192 == K 160) = false from by decide, show (K 192 == K 96) = false from by decide, show (K 192 == K 112) = false from by decide, show (K 192 == K 192) = true from by decide]
theorem ao192 : aluOk (K 192) = true := by decide
theorem aw128 (a b : U) : aluV true (K 128) a b = 0#64 - a := by
  simp only [aluV, cond_true, cond_false, aluVW, show (K 128 == K 0) = false from by decide, show (K 128 == K 16) = false from by decide, show (K 128 == K 32) = false from by decide, show (K 128 == K 48) = false from by decide, show (K 128 == K 144) = false from by decide, show (K 128 == K 64) = false from by decide, show (K 128 == K 80) = false from by decide, show (K 128 == K 160) = false from by decide, show (K 128 == K 96) = false from by decide, show (K 128 == K 112) = false from by decide, show (K 128 == K 192) = false from by decide, show (K 128 == K 128) = true from by decide]
theorem an128 (a b : U) : aluV false (K 128) a b = nrm .u32 (0#64 - a) := by
  simp only [aluV, cond_true, cond_false, aluVN, show (K 128 == K 0) = false from by decide, show (K 128 == K 16) = false from by decide, show (K 128 == K 32) = false from by decide, show (K 128 == K 48) = false from by decide, show (K 128 == K 144) = false from by decide, show (K 128 == K 64) = false from by decide, show (K 128 == K 80) = false from by decide, show (K 128 == K 160) = false from by decide, show (K 128 == K 96) = false from by decide, show (K 128 == K 112) = false from by decide, show (K 128 == K 192) = false from by decide, show (K 128 == K 128) = true from by decide]
theorem ao128 : aluOk (K 128) = true := by decide
theorem aw176 (a b : U) : aluV true (K 176) a b = b := by
  simp only [aluV, cond_true, cond_false, aluVW, show (K 176 == K 0) = false from by decide, show (K 176 == K 16) = false from by decide, show (K 176 == K 32) = false from by decide, show (K 176 == K 48) = false from by decide, show (K 176 == K 144) = false from by decide, show (K 176 == K 64) = false from by decide, show (K 176 == K 80) = false from by decide, show (K 176 == K 160) = false from by decide, show (K 176 == K 96) = false from by decide, show (K 176 == K 112) = false from by decide, show (K 176 == K 192) = false from by decide, show (K 176 == K 128) = false from by decide, show (K 176 == K 176) = true from by decide]
theorem an176 (a b : U) : aluV false (K 176) a b = nrm .u32 b := by
  simp only [aluV, cond_true, cond_false, aluVN, show (K 176 == K 0) = false from by decide, show (K 176 == K 16) = false from by decide, show (K 176 == K 32) = false from by decide, show (K 176 == K 48) = false from by decide, show (K 176 == K 144) = false from by decide, show (K 176 == K 64) = false from by decide, show (K 176 == K 80) = false from by decide, show (K 176 == K 160) = false from by decide, show (K 176 == K 96) = false from by decide, show (K 176 == K 112) = false from by decide, show (K 176 == K 192) = false from by decide, show (K 176 == K 128) = false from by decide, show (K 176 == K 176) = true from by decide]
theorem ao176 : aluOk (K 176) = true := by decide
end Go.Proofs.Ytnjjcklhpgfnjaa.Con
