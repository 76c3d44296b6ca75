/- VE1: a symbolic evaluator of the model's code: its values, its memory, its operations. -/
import Derived.WalkKit
namespace Go.VE
open Go

/-- Atoms. `lit` is a number that the evaluator knows, `i` one that is a term; likewise `tt`, `ff`, `b`. -/
inductive A where
  | poison
  | undef
  | lit (k : IntKind) (n : Int)
  | i (k : IntKind) (x : BitVec 64)
  | tt
  | ff
  | b (x : Bool)
  | nilp
  | ptr (id off : Nat)
  | nils
  | sl (id off len cap : Nat)
  | raw (v : Value)

inductive W where
  | a (x : A)
  | g (cs : List A)

inductive V where
  | a (x : A)
  | g (cs : List A)
  | t (ws : List W)

abbrev Cond := Option (Nat × Bool)

structure Ent where
  c : Cond
  v : V

/-- An entry of the memory's log. -/
inductive HE where
  | new (id : Nat) (c : Cond) (ty : TypeId) (cells : List A)
  | wr (id off : Nat) (x : A)

/-- `vars`: the slots that live on from one region to another; `tmps`: those of one region. -/
structure St where
  vars : List (Nat × Ent)
  tmps : List (Nat × Ent)
  heap : List HE
  next : Nat
  ok : A

structure OpR where
  ok : A
  v : V
  nb : Option (TypeId × List A)
  wr : List (Nat × Nat × A)

def condEq : Cond → Cond → Bool
  | none, none => true
  | some (a, x), some (b, y) => Nat.beq a b && (match x, y with | true, true => true | false, false => true | _, _ => false)
  | _, _ => false

def get : List (Nat × Ent) → Nat → Ent
  | [], _ => ⟨none, .a .poison⟩
  | (s', e) :: r, s => match Nat.beq s' s with | true => e | false => get r s

def readCell : List HE → Nat → Nat → A
  | [], _, _ => .poison
  | .new id' _ _ cells :: r, id, off => match Nat.beq id' id with | true => cells.getD off .poison | false => readCell r id off
  | .wr id' off' x :: r, id, off => match Nat.beq id' id && Nat.beq off' off with | true => x | false => readCell r id off

def blk : List HE → Nat → Option (Cond × TypeId × Nat)
  | [], _ => none
  | .new id' c ty cells :: r, id => match Nat.beq id' id with | true => some (c, ty, cells.length) | false => blk r id
  | .wr _ _ _ :: r, id => blk r id

/-- The part of a log that speaks of some blocks, their conditions struck. -/
def hsub (q : Nat → Bool) : List HE → List HE
  | [] => []
  | .new id _ ty cells :: r => match q id with | true => .new id none ty cells :: hsub q r | false => hsub q r
  | .wr id off x :: r => match q id with | true => .wr id off x :: hsub q r | false => hsub q r

def condOK (base : Nat) (G : Cond) (id : Nat) : Option (Cond × TypeId × Nat) → Bool
  | none => false
  | some (none, _) => true
  | some (some c, _) => Nat.ble base id && condEq (some c) G

/-! ### numbers -/

def nrm (k : IntKind) (x : BitVec 64) : BitVec 64 :=
  match k with
  | .u64 | .i64 => x
  | .u32 => (x.setWidth 32).setWidth 64
  | .i32 => (x.setWidth 32).signExtend 64
  | .u16 => (x.setWidth 16).setWidth 64
  | .i16 => (x.setWidth 16).signExtend 64
  | .u8 => (x.setWidth 8).setWidth 64
  | .i8 => (x.setWidth 8).signExtend 64

def A.bv : A → Option (IntKind × BitVec 64)
  | .lit k n => some (k, BitVec.ofInt 64 n)
  | .i k x => some (k, x)
  | _ => none

def A.bool? : A → Option Bool
  | .tt => some true
  | .ff => some false
  | .b x => some x
  | _ => none

def kEq (k k' : IntKind) : Bool := decide (k = k')

def ofDec (x : Bool) : A := match x with | true => .tt | false => .ff

def litOp (op : BinOp) (k : IntKind) (m : Int) (k' : IntKind) (n : Int) : Option (A × A) :=
  match op with
  | .shl => if n < 0 then none else some (.tt, .lit k (k.wrap (m * 2 ^ (min n.toNat k.bits))))
  | .shr => if n < 0 then none else some (.tt, .lit k (k.wrap (m.fdiv (2 ^ (min n.toNat k.bits)))))
  | _ => if kEq k k' then
    match op with
    | .add => some (.tt, .lit k (k.wrap (m + n)))
    | .sub => some (.tt, .lit k (k.wrap (m - n)))
    | .mul => some (.tt, .lit k (k.wrap (m * n)))
    | .quo => if n = 0 then none else some (.tt, .lit k (k.wrap (m.tdiv n)))
    | .rem => if n = 0 then none else some (.tt, .lit k (k.wrap (m.tmod n)))
    | .and => some (.tt, .lit k (k.wrap (BitVec.ofInt k.bits m &&& BitVec.ofInt k.bits n).toNat))
    | .or => some (.tt, .lit k (k.wrap (BitVec.ofInt k.bits m ||| BitVec.ofInt k.bits n).toNat))
    | .xor => some (.tt, .lit k (k.wrap (BitVec.ofInt k.bits m ^^^ BitVec.ofInt k.bits n).toNat))
    | .andNot => some (.tt, .lit k (k.wrap (BitVec.ofInt k.bits m &&& ~~~ BitVec.ofInt k.bits n).toNat))
    | .eql => some (.tt, ofDec (decide (m = n)))
    | .neq => some (.tt, ofDec (!decide (m = n)))
    | .lss => some (.tt, ofDec (decide (m < n)))
    | .leq => some (.tt, ofDec (decide (m ≤ n)))
    | .gtr => some (.tt, ofDec (decide (n < m)))
    | .geq => some (.tt, ofDec (decide (n ≤ m)))
    | _ => none
    else none

def symOp (op : BinOp) (k : IntKind) (x : BitVec 64) (k' : IntKind) (y : BitVec 64) : Option (A × A) :=
  match op with
  | .shl => some (match k'.signed with | true => .b (!(nrm k' y).msb) | false => .tt, .i k (x <<< (nrm k' y).toNat))
  | .shr => some (match k'.signed with | true => .b (!(nrm k' y).msb) | false => .tt,
      .i k (match k.signed with | true => (nrm k x).sshiftRight (nrm k' y).toNat | false => nrm k x >>> (nrm k' y).toNat))
  | _ => if kEq k k' then
    match op with
    | .add => some (.tt, .i k (x + y))
    | .sub => some (.tt, .i k (x - y))
    | .mul => some (.tt, .i k (x * y))
    | .quo => some (.b (nrm k y != 0#64), .i k (match k.signed with | true => (nrm k x).sdiv (nrm k y) | false => nrm k x / nrm k y))
    | .rem => some (.b (nrm k y != 0#64), .i k (match k.signed with | true => (nrm k x).srem (nrm k y) | false => nrm k x % nrm k y))
    | .and => some (.tt, .i k (x &&& y))
    | .or => some (.tt, .i k (x ||| y))
    | .xor => some (.tt, .i k (x ^^^ y))
    | .andNot => some (.tt, .i k (x &&& ~~~ y))
    | .eql => some (.tt, .b (nrm k x == nrm k y))
    | .neq => some (.tt, .b (nrm k x != nrm k y))
    | .lss => some (.tt, .b (match k.signed with | true => (nrm k x).slt (nrm k y) | false => (nrm k x).ult (nrm k y)))
    | .leq => some (.tt, .b (match k.signed with | true => (nrm k x).sle (nrm k y) | false => (nrm k x).ule (nrm k y)))
    | .gtr => some (.tt, .b (match k.signed with | true => (nrm k y).slt (nrm k x) | false => (nrm k y).ult (nrm k x)))
    | .geq => some (.tt, .b (match k.signed with | true => (nrm k y).sle (nrm k x) | false => (nrm k y).ule (nrm k x)))
    | _ => none
    else none

/-- A number that is known, as a divisor or as a shift's count. -/
def fineY (op : BinOp) : A → Bool
  | .lit _ n => match op with
    | .quo => !decide (n = 0)
    | .rem => !decide (n = 0)
    | .shl => decide (0 ≤ n)
    | .shr => decide (0 ≤ n)
    | _ => false
  | _ => false

def binInt (op : BinOp) (x y : A) : Option (A × A) :=
  match x, y with
  | .lit k m, .lit k' n => litOp op k m k' n
  | x, y => match x.bv, y.bv with
    | some (k, x'), some (k', y') => match symOp op k x' k' y' with
      | some (ok, z) => some (match fineY op y with | true => .tt | false => ok, z)
      | none => none
    | _, _ => none

/-- Are two cells the same: numbers (`false`), or bools (`true`)? -/
def eqA (s : Bool) (x y : A) : Option A :=
  match s with
  | false => match binInt .eql x y with
    | some (_, z) => some z
    | none => none
  | true => match x.bool?, y.bool? with
    | some p, some q => some (.b (p == q))
    | _, _ => none

def andA : A → A → Option A
  | .tt, y => some y
  | .ff, _ => some .ff
  | x, .tt => some x
  | x, y => match x.bool?, y.bool? with
    | some p, some q => some (.b (p && q))
    | _, _ => none

def eqL : List Bool → List A → List A → Option A
  | [], [], [] => some .tt
  | s :: sh, x :: xs, y :: ys => match eqA s x y, eqL sh xs ys with
    | some p, some q => andA p q
    | _, _ => none
  | _, _, _ => none

def notA : A → Option A
  | .tt => some .ff
  | .ff => some .tt
  | .b x => some (.b (!x))
  | _ => none

def unA (op : UnOp) (x : A) : Option A :=
  match op with
  | .not => notA x
  | .neg => match x with
    | .lit k n => some (.lit k (k.wrap (0 - n)))
    | .i k x => some (.i k (0#64 - x))
    | _ => none
  | .xor => match x with
    | .lit k n => some (.lit k (k.wrap (BitVec.ofInt k.bits (if k.signed then -1 else k.max) ^^^ BitVec.ofInt k.bits n).toNat))
    | .i k x => some (.i k (~~~ x))
    | _ => none
  | _ => none

def convA (k : IntKind) : A → Option A
  | .lit _ n => some (.lit k (k.wrap n))
  | .i k' x => some (.i k (nrm k' x))
  | _ => none

def minA (x y : A) : Option A :=
  match x, y with
  | .lit k m, .lit k' n => if kEq k k' then some (.lit k (if n < m then n else m)) else none
  | x, y => match x.bv, y.bv with
    | some (k, x), some (k', y) => if kEq k k' then
        some (.i k (bif (match k.signed with | true => (nrm k y).slt (nrm k x) | false => (nrm k y).ult (nrm k x)) then y else x)) else none
    | _, _ => none

def maxA (x y : A) : Option A :=
  match x, y with
  | .lit k m, .lit k' n => if kEq k k' then some (.lit k (if n > m then n else m)) else none
  | x, y => match x.bv, y.bv with
    | some (k, x), some (k', y) => if kEq k k' then
        some (.i k (bif (match k.signed with | true => (nrm k x).slt (nrm k y) | false => (nrm k x).ult (nrm k y)) then y else x)) else none
    | _, _ => none

/-! ### the ways meet -/

def natEq4 (a b c d a' b' c' d' : Nat) : Bool := Nat.beq a a' && Nat.beq b b' && Nat.beq c c' && Nat.beq d d'

def mergeInt (x : Bool) (a1 a2 : A) : A :=
  match a1.bv, a2.bv with
  | some (k, p), some (k', q) => if kEq k k' then .i k (bif x then p else q) else .poison
  | _, _ => .poison

def mergeBool (x : Bool) (a1 a2 : A) : A :=
  match a1.bool?, a2.bool? with
  | some p, some q => .b (bif x then p else q)
  | _, _ => mergeInt x a1 a2

def mergeA (x : Bool) (a1 a2 : A) : A :=
  match a1, a2 with
  | .lit k m, .lit k' n => if kEq k k' && decide (m = n) then .lit k m else mergeInt x (.lit k m) (.lit k' n)
  | .tt, .tt => .tt
  | .ff, .ff => .ff
  | .nilp, .nilp => .nilp
  | .nils, .nils => .nils
  | .undef, .undef => .undef
  | .ptr a b, .ptr c d => match Nat.beq a c && Nat.beq b d with | true => .ptr a b | false => .poison
  | .sl a b c d, .sl a' b' c' d' => match natEq4 a b c d a' b' c' d' with | true => .sl a b c d | false => .poison
  | a1, a2 => mergeBool x a1 a2

def mergeL (x : Bool) : List A → List A → Option (List A)
  | [], [] => some []
  | a1 :: r1, a2 :: r2 => match mergeL x r1 r2 with
    | some r => some (mergeA x a1 a2 :: r)
    | none => none
  | _, _ => none

def mergeW (x : Bool) : W → W → W
  | .a p, .a q => .a (mergeA x p q)
  | .g p, .g q => match mergeL x p q with
    | some r => .g r
    | none => .a .poison
  | _, _ => .a .poison

def mergeWs (x : Bool) : List W → List W → Option (List W)
  | [], [] => some []
  | a1 :: r1, a2 :: r2 => match mergeWs x r1 r2 with
    | some r => some (mergeW x a1 a2 :: r)
    | none => none
  | _, _ => none

def mergeV (x : Bool) : V → V → V
  | .a p, .a q => .a (mergeA x p q)
  | .g p, .g q => match mergeL x p q with
    | some r => .g r
    | none => .a .poison
  | .t p, .t q => match mergeWs x p q with
    | some r => .t r
    | none => .a .poison
  | _, _ => .a .poison

/-! ### the model's constants -/

def ofAtom : Value → A
  | .int k n => if k.wrap n = n then .lit k n else .poison
  | .bool x => ofDec x
  | .pointer none => .nilp
  | .slice none 0 0 => .nils
  | .tuple _ => .poison
  | .agg _ => .poison
  | v => .raw v

def ofAtoms (vs : List Value) : List A := vs.map ofAtom

def ofConst : Value → V
  | .agg vs => .g (ofAtoms vs.toList)
  | v => .a (ofAtom v)

def V.cells : V → Option (List A)
  | .a x => some [x]
  | .g cs => some cs
  | .t _ => none

/-! ### one operation -/

def opV (G X : Cond) (gt : Nat → Ent) : Operand → Option V
  | .tmp s => match (gt s).c with
    | none => some (gt s).v
    | some c => match condEq (some c) G || condEq (some c) X with
      | true => some (gt s).v
      | false => none
  | .const v => some (ofConst v)
  | .func f => some (.a (.raw (.func (.func f) #[] #[])))
  | .global g => some (.a (.raw (.pointer (some ⟨g, 0, none⟩))))

def opVs (G : Cond) (gt : Nat → Ent) : List Operand → Option (List V)
  | [] => some []
  | x :: xs => match opV G none gt x, opVs G gt xs with
    | some v, some vs => some (v :: vs)
    | _, _ => none

def readN (h : List HE) (id : Nat) : Nat → Nat → List A
  | _, 0 => []
  | off, n + 1 => readCell h id off :: readN h id (off + 1) n

def isAggT (P : Program) (t : TypeId) : Option Bool :=
  match P.underlying t with
  | some (.struct _) => some true
  | some (.array _ _) => some true
  | some _ => some false
  | none => none

def sizeT (P : Program) (t : TypeId) : Option Nat := (P.info? t).map (·.size)

def zeroT (P : Program) (t : TypeId) : Option (List A) :=
  match P.info? t with
  | some i => match i.zero with
    | some v => some (ofAtoms v.cells.toList)
    | none => none
  | none => none

def A.solid : A → Bool
  | .poison => false
  | .undef => false
  | .raw (.agg _) => false
  | .raw (.tuple _) => false
  | _ => true

def V.solidCells : V → Option (List A)
  | .a x => match x.solid with | true => some [x] | false => none
  | .g cs => match cs.all A.solid with | true => some cs | false => none
  | .t _ => none

def setMany (cells : List A) (off : Nat) : List A → List A
  | [] => cells
  | c :: cs => setMany (cells.set off c) (off + 1) cs

def fillA (place : Nat → Option (Nat × Nat)) (cells : List A) : List (Nat × V) → Option (List A)
  | [] => some cells
  | (i, v) :: rest => match v.solidCells, place i with
    | some vs, some (off, size) =>
      match Nat.beq vs.length size && Nat.ble (off + vs.length) cells.length with
      | true => fillA place (setMany cells off vs) rest
      | false => none
    | _, _ => none

def opParts (G : Cond) (gt : Nat → Ent) : List (Nat × Operand) → Option (List (Nat × V))
  | [] => some []
  | (i, x) :: xs => match opV G none gt x, opParts G gt xs with
    | some v, some vs => some ((i, v) :: vs)
    | _, _ => none

def placesOf (P : Program) : List Field → Option (List (Nat × Nat))
  | [] => some []
  | f :: fs => match sizeT P f.type, placesOf P fs with
    | some n, some r => some ((f.offset, n) :: r)
    | _, _ => none

def wrs (id : Nat) : Nat → List A → List (Nat × Nat × A)
  | _, [] => []
  | off, c :: cs => (id, off, c) :: wrs id (off + 1) cs

def litIx : V → Option Nat
  | .a (.lit _ n) => match n with
    | .ofNat m => some m
    | .negSucc _ => none
  | _ => none

/-- A bound that may be left out. -/
def ixOpt (G : Cond) (gt : Nat → Ent) : Option Operand → Option (Option Nat)
  | none => some none
  | some x => match (opV G none gt x).bind litIx with
    | some n => some (some n)
    | none => none

def foldA (f : A → A → Option A) : A → List V → Option A
  | x, [] => some x
  | x, .a y :: ys => match f x y with
    | some z => foldA f z ys
    | none => none
  | _, _ => none

def mkR (v : V) : Option OpR := some ⟨.tt, v, none, []⟩

def cutA (id off n cap l h : Nat) : Option OpR :=
  match Nat.ble l h && Nat.ble h cap with
  | true => mkR (.a (.sl id (match Nat.beq cap l with | true => off | false => off + l * n) (h - l) (cap - l)))
  | false => none

/-- What the evaluator leans on: the program; which types are structs or arrays of numbers (`false`) and bools (`true`) alone. -/
structure Cx where
  P : Program
  eqT : TypeId → Option (List Bool)
  /-- How often a loop is gone through at most. -/
  it : Nat := 66

abbrev CallE := FuncId → List V → List HE → Option (A × V)

def strAt (s : ByteArray) (x : BitVec 64) : BitVec 64 :=
  match s[x.toNat]? with
  | some b => BitVec.ofNat 64 b.toNat
  | none => 0#64

/-- A byte of a string. -/
def strA (s : ByteArray) : A → Option (A × A)
  | .lit _ n => match n with
    | .ofNat m => match s[m]? with
      | some b => some (.tt, .lit .u8 b.toNat)
      | none => none
    | .negSucc _ => none
  | .i k x => match k.signed with
    | true => none
    | false => some (match kEq k .u8 && Nat.ble 256 s.size with | true => .tt | false => .b (Nat.blt (nrm k x).toNat s.size), .i .u8 (strAt s (nrm k x)))
  | _ => none

/-- What an operation sees of memory: `base`, the first block's number that is made in its region; `q`, which of those. -/
structure Sight where
  base : Nat
  q : Nat → Bool
  lo : Nat

def vis (sg : Sight) (G : Cond) (h : List HE) (id : Nat) : Bool := sg.q id && condOK sg.base G id (blk h id)

/-- A slice that is held against nil. -/
def nilEq (P : Program) (t : TypeId) (x y : A) : Option Bool :=
  match P.underlying t with
  | some (.slice _) => match x, y with
    | .nils, .nils => some true
    | .sl _ _ _ _, .nils => some false
    | .nils, .sl _ _ _ _ => some false
    | _, _ => none
  | _ => none

def evalBin (cx : Cx) (op : BinOp) (t : TypeId) (x y : V) : Option OpR :=
  match x, y with
  | .a x, .a y => match binInt op x y with
    | some (ok, z) => some ⟨ok, .a z, none, []⟩
    | none => match nilEq cx.P t x y with
      | some e => match op with
        | .eql => mkR (.a (ofDec e))
        | .neq => mkR (.a (ofDec (!e)))
        | _ => none
      | none => match cx.P.underlying t, x.bool?, y.bool? with
      | some .bool, some p, some q => match op with
        | .eql => mkR (.a (.b (p == q)))
        | .neq => mkR (.a (.b (!(p == q))))
        | _ => none
      | _, _, _ => none
  | .g xs, .g ys => match cx.eqT t with
    | some sh => match eqL sh xs ys with
      | some z => match op with
        | .eql => mkR (.a z)
        | .neq => match notA z with
          | some z => mkR (.a z)
          | none => none
        | _ => none
      | none => none
    | none => none
  | _, _ => none

def evalCall (cx : Cx) (call : CallE) (sg : Sight) (G : Cond) (gt : Nat → Ent) (h : List HE) (c : Call) : Option OpR :=
  match opVs G gt c.args.toList with
  | none => none
  | some vs =>
    match c.callee with
    | .value f => match opV G none gt f with
      | some (.a (.raw (.func (.func f) first captured))) =>
        match Nat.beq first.size 0 && Nat.beq captured.size 0 with
        | true => match call f vs (hsub (vis sg G h) h) with
          | some (ok, v) => some ⟨ok, v, none, []⟩
          | none => none
        | false => none
      | _ => none
    | .builtin .len => match vs, c.argTypes[0]? with
      | [.a (.sl _ _ len _)], some t => match cx.P.underlying t with
        | some (.slice _) => match decide (IntKind.i64.wrap (len : Int) = (len : Int)) with
          | true => mkR (.a (.lit .i64 len))
          | false => none
        | _ => none
      | [.a .nils], some t => match cx.P.underlying t with
        | some (.slice _) => mkR (.a (.lit .i64 0))
        | _ => none
      | _, _ => none
    | .builtin .min => match vs with
      | .a x :: r => (foldA minA x r).bind fun z => mkR (.a z)
      | _ => none
    | .builtin .max => match vs with
      | .a x :: r => (foldA maxA x r).bind fun z => mkR (.a z)
      | _ => none
    | _ => none

def pickC (c : Operand) (want : Bool) : Cond :=
  match c with
  | .tmp s => some (s, want)
  | _ => none

def evalPick (G : Cond) (gt : Nat → Ent) (c a b : Operand) : Option OpR :=
  match opV G none gt c with
  | some (.a .tt) => (opV G (pickC c true) gt a).bind mkR
  | some (.a .ff) => (opV G (pickC c false) gt b).bind mkR
  | some (.a (.b x)) => match opV G (pickC c true) gt a, opV G (pickC c false) gt b with
    | some va, some vb => mkR (mergeV x va vb)
    | _, _ => none
  | _ => none

def evalLoad (P : Program) (sg : Sight) (G : Cond) (h : List HE) (t : TypeId) : V → Option OpR
  | .a (.ptr id off) => match vis sg G h id, blk h id with
    | true, some (_, _, len) => match isAggT P t with
      | some true => match sizeT P t with
        | some n => match Nat.ble (off + n) len with
          | true => mkR (.g (readN h id off n))
          | false => none
        | none => none
      | some false => match Nat.blt off len with
        | true => mkR (.a (readCell h id off))
        | false => none
      | none => none
    | _, _ => none
  | _ => none

def evalStore (P : Program) (sg : Sight) (G : Cond) (h : List HE) (t : TypeId) : V → V → Option OpR
  | .a (.ptr id off), x => match G, vis sg none h id && Nat.ble sg.lo id, blk h id, x.solidCells, sizeT P t with
    | none, true, some (_, _, len), some cs, some n => match Nat.beq cs.length n && Nat.ble (off + n) len with
      | true => some ⟨.tt, .a .undef, none, wrs id off cs⟩
      | false => none
    | _, _, _, _, _ => none
  | _, _ => none

def evalOp (cx : Cx) (call : CallE) (sg : Sight) (G : Cond) (gt : Nat → Ent) (h : List HE) (id : Nat) (op : Op) : Option OpR :=
  match op with
  | .move x => (opV G none gt x).bind mkR
  | .assign x => (opV G none gt x).bind mkR
  | .pick c a b => evalPick G gt c a b
  | .alloc t => match zeroT cx.P t with
    | some cs => some ⟨.tt, .a (.ptr id 0), some (t, cs), []⟩
    | none => none
  | .box t x => match opV G none gt x with
    | some v => match v.solidCells with
      | some cs => some ⟨.tt, .a (.ptr id 0), some (t, cs), []⟩
      | none => none
    | none => none
  | .build t parts => match opParts G gt parts.toList, zeroT cx.P t with
    | some ps, some z => match cx.P.underlying t with
      | some (.struct fields) => match placesOf cx.P fields.toList with
        | some pl => (fillA (pl[·]?) z ps).bind fun cs => mkR (.g cs)
        | none => none
      | some (.array _ elem) => match sizeT cx.P elem with
        | some n => (fillA (fun i => some (i * n, n)) z ps).bind fun cs => mkR (.g cs)
        | none => none
      | _ => none
    | _, _ => none
  | .buildSlice t len parts => match opParts G gt parts.toList, cx.P.underlying t with
    | some ps, some (.slice elem) => match sizeT cx.P elem, zeroT cx.P elem with
      | some n, some z => match Nat.beq z.length n && Nat.blt 0 n && Nat.blt 0 len && Nat.ble (len * n) 4096 with
        | true => match fillA (fun i => some (i * n, n)) ((List.range (len * n)).map fun j => z.getD (j % n) .poison) ps with
          | some cs => some ⟨.tt, .a (.sl id 0 len len), some (elem, cs), []⟩
          | none => none
        | false => none
      | _, _ => none
    | _, _ => none
  | .load t a => (opV G none gt a).bind (evalLoad cx.P sg G h t)
  | .store t a x => match opV G none gt a, opV G none gt x with
    | some a, some x => evalStore cx.P sg G h t a x
    | _, _ => none
  | .nilCheck x => match opV G none gt x with
    | some (.a (.ptr id off)) => mkR (.a (.ptr id off))
    | _ => none
  | .binOp op t x y _ => match opV G none gt x, opV G none gt y with
    | some x, some y => evalBin cx op t x y
    | _, _ => none
  | .unOp op _ x => match opV G none gt x with
    | some (.a x) => (unA op x).bind fun z => mkR (.a z)
    | _ => none
  | .convert src dst x => match cx.P.underlying src, cx.P.underlying dst, opV G none gt x with
    | some _, some (.int k), some (.a x) => (convA k x).bind fun z => mkR (.a z)
    | _, _, _ => none
  | .fieldAddr s x f => match cx.P.underlying s, opV G none gt x with
    | some (.struct fields), some (.a (.ptr id off)) => match fields[f]? with
      | some f => match sizeT cx.P f.type with
        | some (_ + 1) => mkR (.a (.ptr id (off + f.offset)))
        | _ => none
      | none => none
    | _, _ => none
  | .indexAddr t x ix => match cx.P.underlying t, opV G none gt x, (opV G none gt ix).bind litIx with
    | some (.array len elem), some (.a (.ptr id off)), some i => match Nat.blt i len, sizeT cx.P elem with
      | true, some n => mkR (.a (.ptr id (off + i * n)))
      | _, _ => none
    | some (.slice elem), some (.a (.sl id off len _)), some i => match Nat.blt i len, sizeT cx.P elem with
      | true, some n => mkR (.a (.ptr id (off + i * n)))
      | _, _ => none
    | _, _, _ => none
  | .slice t x lo hi mx => match mx with
    | some _ => none
    | none => match cx.P.underlying t, opV G none gt x, ixOpt G gt lo, ixOpt G gt hi with
      | some (.slice elem), some (.a (.sl id off len cap)), some l, some h => match sizeT cx.P elem with
        | some n => cutA id off n cap (l.getD 0) (h.getD len)
        | none => none
      | some (.array n elem), some (.a (.ptr id off)), some l, some h => match sizeT cx.P elem with
        | some k => cutA id off k n (l.getD 0) (h.getD n)
        | none => none
      | _, _, _, _ => none
  | .index t x ix => match cx.P.underlying t, opV G none gt x, opV G none gt ix with
    | some .string, some (.a (.raw (.string s))), some (.a i) => match strA s i with
      | some (ok, z) => some ⟨ok, .a z, none, []⟩
      | none => none
    | _, _, _ => none
  | .extract x ix => match opV G none gt x with
    | some (.t ws) => match ws[ix]? with
      | some (.a x) => mkR (.a x)
      | some (.g cs) => mkR (.g cs)
      | none => none
    | _ => none
  | .call c => evalCall cx call sg G gt h c
  | _ => none

/-! ### a region -/

def St.get (km : Nat) (st : St) (s : Nat) : Ent := match Nat.testBit km s with | true => VE.get st.vars s | false => VE.get st.tmps s

def St.put (km : Nat) (st : St) (d : Option Nat) (e : Ent) : St :=
  match d with
  | none => st
  | some d => match Nat.testBit km d with
    | true => { st with vars := (d, match e.c with | none => e | some _ => ⟨none, .a .poison⟩) :: st.vars }
    | false => { st with tmps := (d, e) :: st.tmps }

def dstOf (ops : List Oper) (j : Nat) : Option Nat :=
  match ops[j]? with
  | some o => o.dst
  | none => none

def pushW (h : List HE) : List (Nat × Nat × A) → List HE
  | [] => h
  | (id, off, x) :: r => pushW (.wr id off x :: h) r

def okB : A → Bool
  | .tt => true
  | .b x => x
  | _ => false

def andOk : A → A → A
  | .tt, y => y
  | x, .tt => x
  | x, y => .b (okB x && okB y)

def condOk (G : Cond) (gb : Bool) (ok : A) : A :=
  match G with
  | none => ok
  | some _ => match ok with
    | .tt => .tt
    | ok => .b (!gb || okB ok)

def mergeOk (x : Bool) : A → A → A
  | .tt, .tt => .tt
  | p, q => .b (bif x then okB p else okB q)

/-- Of a function: the slots that live on (`km`), how many there are, the first block's number of its own. -/
structure Fp where
  km : Nat
  nt : Nat
  lo : Nat
  it : Nat

def dstFine (nt : Nat) : Option Nat → Bool
  | none => true
  | some d => Nat.blt d nt

def OpR.heap (r : OpR) (id : Nat) (G : Cond) (h : List HE) : List HE :=
  match r.nb with
  | none => pushW h r.wr
  | some (ty, cs) => .new id G ty cs :: pushW h r.wr

/-- What an operation may write to: all (`none`), nothing, one block. -/
abbrev Lim := Option (Option Nat)

def limOK (lim : Lim) (j : Nat) : Bool :=
  match lim with
  | none => false
  | some none => true
  | some (some t) => !(Nat.beq j t)

def noWrOK (lim : Lim) (l : List (Nat × Nat × A)) : Bool :=
  match lim with
  | none => true
  | some t => match l with
    | [] => true
    | x :: r => match t with
      | none => false
      | some t => (x :: r).all fun x => Nat.beq x.1 t

/-- An operation is carried out: under a condition `G`, which holds if `gb`. -/
def runOp (cx : Cx) (call : CallE) (fp : Fp) (sg : Sight) (i : Nat) (noWr : Lim) (G : Cond) (gb : Bool) (st : St) (o : Oper) : Option St :=
  match evalOp cx call sg G (st.get fp.km) st.heap (sg.base + i) o.op with
  | none => none
  | some r => match noWrOK noWr r.wr with
    | false => none
    | true => some (({ st with ok := andOk st.ok (condOk G gb r.ok), heap := r.heap (sg.base + i) G st.heap } : St).put fp.km o.dst ⟨G, r.v⟩)

def stepOp (cx : Cx) (call : CallE) (fp : Fp) (sg : Sight) (i : Nat) (noWr : Lim) (ops : List Oper) (st : St) (o : Oper) : Option St :=
  match dstFine fp.nt o.dst with
  | false => none
  | true =>
  match o.guard with
  | none => runOp cx call fp sg i noWr none true st o
  | some (j, want) => match Nat.blt j i, dstOf ops j with
    | true, some sj =>
      match (st.get fp.km sj).v with
      | .a .tt => match (st.get fp.km sj).c with
        | none => match want with
          | true => runOp cx call fp sg i noWr none true st o
          | false => some (st.put fp.km o.dst ⟨none, .a .undef⟩)
        | some _ => runOp cx call fp sg i noWr (some (sj, want)) want st o
      | .a .ff => match (st.get fp.km sj).c with
        | none => match want with
          | false => runOp cx call fp sg i noWr none true st o
          | true => some (st.put fp.km o.dst ⟨none, .a .undef⟩)
        | some _ => runOp cx call fp sg i noWr (some (sj, want)) (!want) st o
      | .a (.b x) => runOp cx call fp sg i noWr (some (sj, want)) (match want with | true => x | false => !x) st o
      | _ => none
    | _, _ => none

def evalOps (cx : Cx) (call : CallE) (fp : Fp) (base : Nat) (qf : Nat → Nat → Bool) (lf : Nat → Lim) (ops : List Oper) : Nat → List Oper → St → Option St
  | _, [], st => some st
  | i, o :: rest, st => match stepOp cx call fp ⟨base, qf i, fp.lo⟩ i (lf i) ops st o with
    | none => none
    | some st' => evalOps cx call fp base qf lf ops (i + 1) rest st'

/-! ### a region that draws its order: what must be so of its edges -/

def allBelow (n : Nat) (p : Nat → Bool) : Bool := (List.range n).all p

def bitD (D : Array Nat) (i k : Nat) : Bool := Nat.testBit (D.getD i 0) k

def looks (ops : List Oper) (i : Nat) : List Nat :=
  match ops[i]? with
  | none => []
  | some o => (o.op.operands.toList.filterMap fun | .tmp t => some t | _ => none) ++
    (match o.guard with
     | none => []
     | some (j, _) => (dstOf ops j).toList)

def memB (x : Nat) (l : List Nat) : Bool := l.any fun y => Nat.beq x y

/-- Edges lead to elder operations; `D` says no more than they do. -/
def chkEdges (ops : List Oper) (D : Array Nat) : Bool :=
  allBelow ops.length fun i => match ops[i]? with
    | none => false
    | some o => o.after.toList.all (fun e => !Region.binds .any e || Nat.blt e.on i) &&
      allBelow ops.length fun k => !bitD D i k || o.after.toList.any fun e => Region.binds .any e && (Nat.beq e.on k || bitD D e.on k)

def optNe : Option Nat → Option Nat → Bool
  | some a, some b => !Nat.beq a b
  | _, _ => true

def chkDst (ops : List Oper) : Bool :=
  allBelow ops.length fun i => allBelow i fun j => optNe (dstOf ops i) (dstOf ops j)

/-- Who reads what another one writes waits for it, or that one for him. -/
def chkTmp (ops : List Oper) (D : Array Nat) : Bool :=
  allBelow ops.length fun i => let l := looks ops i; allBelow ops.length fun j => match dstOf ops j with
    | none => true
    | some x => Nat.beq i j || !memB x l || (match Nat.blt j i with | true => bitD D i j | false => bitD D j i)

def fullAt (D : Array Nat) (i : Nat) : Bool := allBelow i fun k => bitD D i k

/-- From which operation on all wait for all. -/
def tailFrom (n : Nat) (D : Array Nat) : Nat :=
  (List.range n).foldl (fun m i => match fullAt D i with | true => m | false => i + 1) 0

def chkFull (n m : Nat) (D : Array Nat) : Bool := allBelow n fun i => Nat.blt i m || fullAt D i

def qAll : Nat → Nat → Bool := fun _ _ => true

/-- What an operation of a region that draws sees of the region's own new blocks: those of the operations that it waits for. -/
def rawT (ops : List Oper) (i : Nat) : Option Nat :=
  match ops[i]? with
  | some o => match o.op with
    | .store _ (.tmp s) _ => (List.range i).find? fun k => match ops[k]? with
      | some p => match p.op, p.dst with
        | .alloc _, some d => Nat.beq d s
        | _, _ => false
      | none => false
    | _ => none
  | none => none

/-- Which operation's new block an operation ahead of `m` writes to. -/
def tgts (m : Nat) (ops : List Oper) : Array (Option Nat) := ((List.range m).map (rawT ops)).toArray

def tg (T : Array (Option Nat)) (i : Nat) : Option Nat := T.getD i none

def soleT (m : Nat) (T : Array (Option Nat)) (i k : Nat) : Bool := allBelow m fun j => Nat.beq j i || optNe (tg T j) (some k)

def chkT (m : Nat) (T : Array (Option Nat)) (D : Array Nat) : Bool := allBelow m fun i => match tg T i with
  | none => true
  | some k => Nat.blt k i && bitD D i k && soleT m T i k

def limD (m base : Nat) (T : Array (Option Nat)) (i : Nat) : Lim :=
  match Nat.blt i m with
  | true => some (match tg T i with | some k => some (base + k) | none => none)
  | false => none

def qDraw (m base : Nat) (D : Array Nat) (T : Array (Option Nat)) : Nat → Nat → Bool := fun i id =>
  match Nat.blt i m with
  | true => match Nat.blt id base with
    | true => true
    | false => bitD D i (id - base) && soleT m T i (id - base)
  | false => true

def evalRegion (cx : Cx) (call : CallE) (fp : Fp) (ops : List Oper) (draw : Bool) (st : St) : Option St :=
  match chkDst ops with
  | false => none
  | true =>
  match draw with
  | false => match evalOps cx call fp st.next qAll (fun _ => none) ops 0 ops { st with tmps := [] } with
    | none => none
    | some s => some { s with next := st.next + ops.length }
  | true =>
    match chkEdges ops (Region.before ops.toArray) && chkTmp ops (Region.before ops.toArray) &&
        chkFull ops.length (tailFrom ops.length (Region.before ops.toArray)) (Region.before ops.toArray) &&
        chkT (tailFrom ops.length (Region.before ops.toArray)) (tgts (tailFrom ops.length (Region.before ops.toArray)) ops) (Region.before ops.toArray) && cx.P.follows .mixedOrders with
    | false => none
    | true => match evalOps cx call fp st.next (qDraw (tailFrom ops.length (Region.before ops.toArray)) st.next (Region.before ops.toArray) (tgts (tailFrom ops.length (Region.before ops.toArray)) ops))
          (limD (tailFrom ops.length (Region.before ops.toArray)) st.next (tgts (tailFrom ops.length (Region.before ops.toArray)) ops)) ops 0 ops { st with tmps := [] } with
      | none => none
      | some s => some { s with next := st.next + ops.length }

/-! ### code -/

inductive Ex where
  | nrm
  | exit (id : Nat)
  | ret

inductive Out where
  | fail
  | leaf (e : Ex) (s : St)
  | node (x : Bool) (a b : Out)

def Out.bind (f : St → Out) : Out → Out
  | .fail => .fail
  | .leaf .nrm s => f s
  | .leaf e s => .leaf e s
  | .node x a b => .node x (a.bind f) (b.bind f)

/-- Does none of the ways go on? -/
def Out.noNrm : Out → Bool
  | .fail => true
  | .leaf .nrm _ => false
  | .leaf _ _ => true
  | .node _ a b => a.noNrm && b.noNrm

/-- The state of the one way that goes on, and when it is taken. -/
def Out.nrm? : Out → Option (Bool × St)
  | .fail => none
  | .leaf .nrm s => some (true, s)
  | .leaf _ _ => none
  | .node x a b => match b.noNrm with
    | true => match a.nrm? with
      | some (g, s) => some (x && g, s)
      | none => none
    | false => match a.noNrm with
      | true => match b.nrm? with
        | some (g, s) => some (!x && g, s)
        | none => none
      | false => none

/-- Without that way. -/
def Out.rest : Out → Option Out
  | .fail => some .fail
  | .leaf .nrm _ => none
  | .leaf e s => some (.leaf e s)
  | .node x a b => match a.rest, b.rest with
    | some a, some b => some (.node x a b)
    | some a, none => some a
    | none, some b => some b
    | none, none => none

def touchedV : Nat → List (Nat × Ent) → List Nat
  | 0, _ => []
  | _ + 1, [] => []
  | n + 1, (s, _) :: r => let l := touchedV n r; match memB s l with | true => l | false => s :: l

def mergeVars (x : Bool) (v1 v2 : List (Nat × Ent)) : List Nat → List (Nat × Ent) → List (Nat × Ent)
  | [], acc => acc
  | s :: r, acc => mergeVars x v1 v2 r ((s, ⟨none, match (get v1 s).c, (get v2 s).c with
      | none, none => mergeV x (get v1 s).v (get v2 s).v
      | _, _ => .a .poison⟩) :: acc)

def memB2 (x y : Nat) (l : List (Nat × Nat)) : Bool := l.any fun p => Nat.beq x p.1 && Nat.beq y p.2

def touchedH : Nat → List HE → List (Nat × Nat)
  | 0, _ => []
  | _ + 1, [] => []
  | n + 1, .new _ _ _ _ :: r => touchedH n r
  | n + 1, .wr id off _ :: r => let l := touchedH n r; match memB2 id off l with | true => l | false => (id, off) :: l

def mergeHeap (x : Bool) (next : Nat) (h1 h2 : List HE) : List (Nat × Nat) → List HE → List HE
  | [], acc => acc
  | (id, off) :: r, acc => match Nat.blt id next with
    | true => mergeHeap x next h1 h2 r (.wr id off (mergeA x (readCell h1 id off) (readCell h2 id off)) :: acc)
    | false => mergeHeap x next h1 h2 r acc

def unionN : List Nat → List Nat → List Nat
  | [], l => l
  | x :: r, l => match memB x l with | true => unionN r l | false => x :: unionN r l

def unionN2 : List (Nat × Nat) → List (Nat × Nat) → List (Nat × Nat)
  | [], l => l
  | (x, y) :: r, l => match memB2 x y l with | true => unionN2 r l | false => (x, y) :: unionN2 r l

def mergeSt (x : Bool) (base s1 s2 : St) : St where
  vars := mergeVars x s1.vars s2.vars (unionN (touchedV (s1.vars.length - base.vars.length) s1.vars) (touchedV (s2.vars.length - base.vars.length) s2.vars)) base.vars
  tmps := []
  heap := mergeHeap x base.next s1.heap s2.heap (unionN2 (touchedH (s1.heap.length - base.heap.length) s1.heap) (touchedH (s2.heap.length - base.heap.length) s2.heap)) base.heap
  next := Nat.max s1.next s2.next
  ok := mergeOk x s1.ok s2.ok

/-- Two ways, of each of which at most one goes on: they meet. -/
def join (x : Bool) (base : St) (a b : Out) : Out :=
  match a.nrm?, b.nrm? with
  | some (g1, s1), some (g2, s2) =>
    let s := mergeSt x base s1 s2
    match a.rest, b.rest with
    | none, none => .leaf .nrm s
    | some r, none => .node (bif x then g1 else true) (.leaf .nrm s) r
    | none, some r => .node (bif x then true else g2) (.leaf .nrm s) r
    | some r1, some r2 => .node (bif x then g1 else g2) (.leaf .nrm s) (.node x r1 r2)
  | _, _ => .node x a b

/-- Ways that leave a block go on behind it. -/
def Out.exits (id : Nat) : Out → Out
  | .fail => .fail
  | .leaf .nrm s => .leaf .nrm s
  | .leaf (.exit id') s => match Nat.beq id' id with | true => .leaf .nrm s | false => .leaf (.exit id') s
  | .leaf .ret s => .leaf .ret s
  | .node x a b => .node x (a.exits id) (b.exits id)

def Out.norm (base : St) : Out → Out
  | .fail => .fail
  | .leaf e s => .leaf e s
  | .node x a b => join x base (a.norm base) (b.norm base)

/-- A loop: what is not reached within so many rounds is left to be shown. -/
def loopE (f : St → Out) : Nat → St → Out
  | 0, s => .leaf .nrm { s with ok := .b false }
  | k + 1, s => (f s).bind (loopE f k)

def evalC (cx : Cx) (call : CallE) (fp : Fp) : Nat → Code → St → Out
  | 0, _, _ => .fail
  | n + 1, c, s => match c with
    | .skip => .leaf .nrm s
    | .region _ ops draw => match evalRegion cx call fp ops.toList draw s with
      | some s' => .leaf .nrm s'
      | none => .fail
    | .seq a b => (evalC cx call fp n a s).bind (evalC cx call fp n b)
    | .cond c x y => match opV none none (s.get fp.km) c with
      | some (.a .tt) => evalC cx call fp n x s
      | some (.a .ff) => evalC cx call fp n y s
      | some (.a (.b v)) => join v s (evalC cx call fp n x s) (evalC cx call fp n y s)
      | _ => .fail
    | .block id c => ((evalC cx call fp n c s).exits id).norm s
    | .loop c => loopE (evalC cx call fp n c) fp.it s
    | .exit id => .leaf (.exit id) s
    | .ret => .leaf .ret s
    | _ => .fail

/-! ### a function -/

def Out.val (res : St → Option V) : Out → Option (A × V)
  | .fail => none
  | .leaf (.exit _) _ => none
  | .leaf _ s => match res s with
    | some v => some (s.ok, v)
    | none => none
  | .node x a b => match a.val res, b.val res with
    | some (o1, v1), some (o2, v2) => some (mergeOk x o1 o2, mergeV x v1 v2)
    | _, _ => none

def resOne (P : Program) (km : Nat) (s : St) : ResultVar → Option V
  | .tmp t => match (s.get km t).c with
    | none => some (s.get km t).v
    | some _ => none
  | .cell a t => match opV none none (s.get km) (.tmp a) with
    | some v => match evalLoad P ⟨s.next, fun _ => true, 0⟩ none s.heap t v with
      | some r => some r.v
      | none => none
    | none => none

def resMany (P : Program) (km : Nat) (s : St) : List ResultVar → Option (List W)
  | [] => some []
  | r :: rs => match resOne P km s r, resMany P km s rs with
    | some (.a x), some ws => some (.a x :: ws)
    | some (.g cs), some ws => some (.g cs :: ws)
    | _, _ => none

def resOf (P : Program) (km : Nat) (rs : List ResultVar) (s : St) : Option V :=
  match rs with
  | [r] => resOne P km s r
  | rs => (resMany P km s rs).map .t

/-- The slots that are read in another region than the one in which they are written (or before). -/
def regMask : List Oper → (written acc : Nat) → Nat
  | [], _, acc => acc
  | o :: r, written, acc =>
    let acc := o.op.operands.toList.foldl (fun acc x => match x with
      | .tmp t => match Nat.testBit written t with | true => acc | false => acc ||| 1 <<< t
      | _ => acc) acc
    regMask r (match o.dst with | some d => written ||| 1 <<< d | none => written) acc

def codeMask : Code → Nat → Nat
  | .region _ ops _, acc => regMask ops.toList 0 acc
  | .seq a b, acc => codeMask b (codeMask a acc)
  | .cond c a b, acc => codeMask b (codeMask a (match c with | .tmp t => acc ||| 1 <<< t | _ => acc))
  | .block _ c, acc => codeMask c acc
  | .loop c, acc => codeMask c acc
  | _, acc => acc

def resMask : List ResultVar → Nat → Nat
  | [], acc => acc
  | .tmp t :: r, acc => resMask r (acc ||| 1 <<< t)
  | .cell t _ :: r, acc => resMask r (acc ||| 1 <<< t)

def maxId : List HE → Nat
  | [] => 0
  | .new id _ _ _ :: r => Nat.max (id + 1) (maxId r)
  | .wr id _ _ :: r => Nat.max (id + 1) (maxId r)

def params : Nat → List V → List (Nat × Ent)
  | _, [] => []
  | i, v :: r => (i, ⟨none, v⟩) :: params (i + 1) r

def A.ids (p : Nat → Bool) : A → Bool
  | .ptr id _ => p id
  | .sl id _ _ _ => p id
  | _ => true

def W.ids (p : Nat → Bool) : W → Bool
  | .a x => x.ids p
  | .g cs => cs.all (A.ids p)

def V.ids (p : Nat → Bool) : V → Bool
  | .a x => x.ids p
  | .g cs => cs.all (A.ids p)
  | .t ws => ws.all (W.ids p)

def inH (h : List HE) (id : Nat) : Bool := match blk h id with | none => false | some _ => true

def HE.ids (p : Nat → Bool) : HE → Bool
  | .new _ _ _ cells => cells.all (A.ids p)
  | .wr _ _ x => x.ids p

def fnMask (fn : Func) (c : Code) (args : List V) : Nat := resMask fn.results.toList (codeMask c (1 <<< args.length - 1))

/-- A function's text, at values, in a memory. -/
def evalFn (cx : Cx) (call : CallE) (fuel : Nat) (fn : Func) (args : List V) (h : List HE) : Option (A × V) :=
  match fn.body with
  | none => none
  | some c =>
    match Nat.ble args.length fn.ntmps && args.all (V.ids (inH h)) && h.all (HE.ids (inH h)) with
    | true => match (evalC cx call ⟨fnMask fn c args, fn.ntmps, maxId h, cx.it⟩ fuel c ⟨params 0 args, [], h, maxId h, .tt⟩).val (resOf cx.P (fnMask fn c args) fn.results.toList) with
      | some (ok, v) => match v.ids (inH h) with
        | true => some (ok, v)
        | false => none
      | none => none
    | false => none

/-- Contracts first; what has none is walked into. -/
def evalF (cx : Cx) (Γ : CallE) (fuel : Nat) : Nat → CallE
  | 0, _, _, _ => none
  | n + 1, f, args, h => match Γ f args h with
    | some r => some r
    | none => match cx.P.funcs[f]? with
      | some fn => evalFn cx (evalF cx Γ fuel n) fuel fn args h
      | none => none

end Go.VE
