/- A part of a proof of the helpers' law; no condition of its own. -/
import Derived.Test.YtoeealkcacgcgaaGreatDoorS14
set_option linter.unusedVariables false
set_option maxRecDepth 100000
noncomputable section
namespace Go.WE
open Go Go.Proofs
open Go.RowKit (Below)
def w3:Code:=wb.inn.sA
def w4:Code:=wb.inn.sB.sA
def w9:Code:=wb.inn.sB.sB
theorem wb_eq:wb = .block 1 (.seq w3 (.seq w4 w9)):=by kernel_rfl
def sw1 (k:U) (n:Nat) (i:A):List (Nat×V):=[(0,pt 0),(1,i64 k),(2,byV n),(6,one i)]
def sw2 (k:U) (n:Nat) (i:U) (z:A):List (Nat×V):=[(0,pt 0),(1,i64 k),(2,byV n),(6,i64 i),(7,one z)]
def z8 (k:Nat) (g:Nat->U):Nat->U:=putN (8*k+7) (K 0) (putN (8*k+6) (K 0) (putN (8*k+5) (K 0) (putN (8*k+4) (K 0) (putN (8*k+3) (K 0) (putN (8*k+2) (K 0) (putN (8*k+1) (K 0) (putN (8*k) (K 0) g)))))))
def layQ4 (s:QF) (b:Nat):QF:=
 ⟨s.regs.map2 fun f j=>cond (s.how b==K 2) (f j) (f j),fun j=>cond (s.how b==K 2) (z8 (b / 8) s.how j) (s.how j),fun j=>cond (s.how b==K 2) (z8 (b / 8) s.b j) (s.b j),s.ptr.map2 fun f j=>cond (s.how b==K 2) (f j) (f j)⟩
def layQ9 (s:QF) (z:U) (v:U):QF:=⟨s.regs,putN z.toNat (K 1) s.how,putN z.toNat v s.b,s.ptr⟩
def okQ9 (i z:U) (n:Nat):Bool:=((!(BitVec.msb i)&&Nat.blt i.toNat n)&&Nat.blt (0+i.toNat) n)&&vB z 128&&wB z 128
section
variable (s:QF) (k i z:U) (n:Nat) (c:Nat->U)
theorem w0_ev:endM fp83.km [0,1,2,6] [0,1] 2 (ev83 w0 (sv0 k n) (msW s n c) 2).pick=some ⟨.nrm,.tt,sw1 k n (.lit .i64 0),msW s n c⟩:=by kernel_rfl
theorem wh_c:(ev83 wh (sw1 k n (.i .i64 i)) (msW s n c) 2).cnd=some (BitVec.slt i (BitVec.ofNat 64 n)):=by kernel_rfl
theorem wh_t:endM fp83.km [0,1,2,6] [0,1] 2 ((ev83 wh (sw1 k n (.i .i64 i)) (msW s n c) 2).at true)=some ⟨.nrm,.b (Nat.blt n (2 ^ 63)),sw1 k n (.i .i64 i),msW s n c⟩:=by kernel_rfl
theorem wh_f:endM fp83.km [] [0,1] 2 ((ev83 wh (sw1 k n (.i .i64 i)) (msW s n c) 2).at false)=some ⟨.exit 0,.b (Nat.blt n (2 ^ 63)),[],msW s n c⟩:=by kernel_rfl
theorem w3_ev:endM fp83.km [0,1,2,6,7] [0,1] 2 (ev83 w3 (sw1 k n (.i .i64 i)) (msW s n c) 2).pick=some ⟨.nrm,.tt,sw2 k n i (.i .i64 (K 128+k+i)),msW s n c⟩:=by kernel_rfl
theorem w9_ev:endM fp83.km [0,1,2,6] [0,1] 2 (ev83 w9 (sw2 k n i (.i .i64 z)) (msW s n c) 2).pick=some ⟨.nrm,.b (okQ9 i z n),sw1 k n (.i .i64 i),msW (layQ9 s z (c (0+i.toNat))) n c⟩:=by kernel_rfl
theorem wi_ev:endM fp83.km [0,1,2,6] [0,1] 2 (ev83 wi (sw1 k n (.i .i64 i)) (msW s n c) 2).pick=some ⟨.nrm,.tt,sw1 k n (.i .i64 (i+K 1)),msW s n c⟩:=by kernel_rfl
theorem w4_lit:∀b:Nat,b<128->endM fp83.km [0,1,2,6,7] [0,1] 2 (ev83 w4 (sw2 k n i (.lit .i64 (b:Nat))) (msW s n c) 2).pick=some ⟨.nrm,.tt,sw2 k n i (.lit .i64 (b:Nat)),msW (layQ4 s b) n c⟩
 | 0,_=>by kernel_rfl
 | 1,_=>by kernel_rfl
 | 2,_=>by kernel_rfl
 | 3,_=>by kernel_rfl
 | 4,_=>by kernel_rfl
 | 5,_=>by kernel_rfl
 | 6,_=>by kernel_rfl
 | 7,_=>by kernel_rfl
 | 8,_=>by kernel_rfl
 | 9,_=>by kernel_rfl
 | 10,_=>by kernel_rfl
 | 11,_=>by kernel_rfl
 | 12,_=>by kernel_rfl
 | 13,_=>by kernel_rfl
 | 14,_=>by kernel_rfl
 | 15,_=>by kernel_rfl
 | 16,_=>by kernel_rfl
 | 17,_=>by kernel_rfl
 | 18,_=>by kernel_rfl
 | 19,_=>by kernel_rfl
 | 20,_=>by kernel_rfl
 | 21,_=>by kernel_rfl
 | 22,_=>by kernel_rfl
 | 23,_=>by kernel_rfl
 | 24,_=>by kernel_rfl
 | 25,_=>by kernel_rfl
 | 26,_=>by kernel_rfl
 | 27,_=>by kernel_rfl
 | 28,_=>by kernel_rfl
 | 29,_=>by kernel_rfl
 | 30,_=>by kernel_rfl
 | 31,_=>by kernel_rfl
 | 32,_=>by kernel_rfl
 | 33,_=>by kernel_rfl
 | 34,_=>by kernel_rfl
 | 35,_=>by kernel_rfl
 | 36,_=>by kernel_rfl
 | 37,_=>by kernel_rfl
 | 38,_=>by kernel_rfl
 | 39,_=>by kernel_rfl
 | 40,_=>by kernel_rfl
 | 41,_=>by kernel_rfl
 | 42,_=>by kernel_rfl
 | 43,_=>by kernel_rfl
 | 44,_=>by kernel_rfl
 | 45,_=>by kernel_rfl
 | 46,_=>by kernel_rfl
 | 47,_=>by kernel_rfl
 | 48,_=>by kernel_rfl
 | 49,_=>by kernel_rfl
 | 50,_=>by kernel_rfl
 | 51,_=>by kernel_rfl
 | 52,_=>by kernel_rfl
 | 53,_=>by kernel_rfl
 | 54,_=>by kernel_rfl
 | 55,_=>by kernel_rfl
 | 56,_=>by kernel_rfl
 | 57,_=>by kernel_rfl
 | 58,_=>by kernel_rfl
 | 59,_=>by kernel_rfl
 | 60,_=>by kernel_rfl
 | 61,_=>by kernel_rfl
 | 62,_=>by kernel_rfl
 | 63,_=>by kernel_rfl
 | 64,_=>by kernel_rfl
 | 65,_=>by kernel_rfl
 | 66,_=>by kernel_rfl
 | 67,_=>by kernel_rfl
 | 68,_=>by kernel_rfl
 | 69,_=>by kernel_rfl
 | 70,_=>by kernel_rfl
 | 71,_=>by kernel_rfl
 | 72,_=>by kernel_rfl
 | 73,_=>by kernel_rfl
 | 74,_=>by kernel_rfl
 | 75,_=>by kernel_rfl
 | 76,_=>by kernel_rfl
 | 77,_=>by kernel_rfl
 | 78,_=>by kernel_rfl
 | 79,_=>by kernel_rfl
 | 80,_=>by kernel_rfl
 | 81,_=>by kernel_rfl
 | 82,_=>by kernel_rfl
 | 83,_=>by kernel_rfl
 | 84,_=>by kernel_rfl
 | 85,_=>by kernel_rfl
 | 86,_=>by kernel_rfl
 | 87,_=>by kernel_rfl
 | 88,_=>by kernel_rfl
 | 89,_=>by kernel_rfl
 | 90,_=>by kernel_rfl
 | 91,_=>by kernel_rfl
 | 92,_=>by kernel_rfl
 | 93,_=>by kernel_rfl
 | 94,_=>by kernel_rfl
 | 95,_=>by kernel_rfl
 | 96,_=>by kernel_rfl
 | 97,_=>by kernel_rfl
 | 98,_=>by kernel_rfl
 | 99,_=>by kernel_rfl
 | 100,_=>by kernel_rfl
 | 101,_=>by kernel_rfl
 | 102,_=>by kernel_rfl
 | 103,_=>by kernel_rfl
 | 104,_=>by kernel_rfl
 | 105,_=>by kernel_rfl
 | 106,_=>by kernel_rfl
 | 107,_=>by kernel_rfl
 | 108,_=>by kernel_rfl
 | 109,_=>by kernel_rfl
 | 110,_=>by kernel_rfl
 | 111,_=>by kernel_rfl
 | 112,_=>by kernel_rfl
 | 113,_=>by kernel_rfl
 | 114,_=>by kernel_rfl
 | 115,_=>by kernel_rfl
 | 116,_=>by kernel_rfl
 | 117,_=>by kernel_rfl
 | 118,_=>by kernel_rfl
 | 119,_=>by kernel_rfl
 | 120,_=>by kernel_rfl
 | 121,_=>by kernel_rfl
 | 122,_=>by kernel_rfl
 | 123,_=>by kernel_rfl
 | 124,_=>by kernel_rfl
 | 125,_=>by kernel_rfl
 | 126,_=>by kernel_rfl
 | 127,_=>by kernel_rfl
 | n+128,h=>absurd h (by omega)
end
end Go.WE
end
