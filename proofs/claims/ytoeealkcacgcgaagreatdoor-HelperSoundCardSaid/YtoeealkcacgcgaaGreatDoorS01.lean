/- A part of a proof of the helpers' law; no condition of its own. -/
import Derived.WalkKit
set_option linter.unusedVariables false
set_option maxRecDepth 100000
theorem Go.WE.oI {α} (a b : α) : (some a = some b) = (a = b) := Option.some.injEq a b
theorem Go.WE.pI {α β} (a : α) (b : β) (c : α) (d : β) : ((a, b) = (c, d)) = (a = c ∧ b = d) := Prod.mk.injEq a b c d
theorem Go.WE.bA (a b : Bool) : ((a && b) = true) = (a = true ∧ b = true) := Bool.and_eq_true a b
theorem Go.WE.nB {a b : Nat} (h : a ≤ b) : Nat.ble a b = true := Nat.ble_eq_true_of_le h
theorem Go.WE.nL {a b : Nat} (h : Nat.ble a b = true) : a ≤ b := Nat.le_of_ble_eq_true h
noncomputable section
namespace Go.WE
open Go
inductive Ix where
 | lit (n:Nat)
 | sym (n:Nat)
def Ix.val:Ix->Nat
 | .lit n=>n
 | .sym n=>n
inductive Step where
 | f (k off:Nat)
 | x (s:Nat) (i:Ix)
inductive A where
 | poison
 | undef
 | lit (k:IntKind) (n:Int)
 | i (k:IntKind) (x:BitVec 64)
 | tt
 | ff
 | b (x:Bool)
 | nilp
 | ptr (id:Nat) (p:List Step)
 | nils
 | sl (id:Nat) (p:List Step) (s:Nat) (st len:Ix) (cap:Option Ix)
 | nilf
 | fn (f:FuncId) (caps:List A)
 | iface (t:TypeId) (x:A)
 | raw (v:Value)
 | mapp (id:Nat)
inductive Sh where
 | int (k:IntKind) (g:Nat->BitVec 64)
 | bool (g:Nat->Bool)
 | st (fs:List Sh)
 | lit (k:IntKind) (n:Int)
 | ints (m:Nat) (k:IntKind) (g:Nat->Nat->BitVec 64)
 | bools (m:Nat) (g:Nat->Nat->Bool)
inductive T where
 | a (x:A)
 | st (fs:List T)
 | lst (s:Nat) (ts:List T)
 | arr (s:Nat) (n:Ix) (sh:Sh)
 | bad
 | mp (k:IntKind) (ks:List Int) (ts:List T)
inductive V where
 | t (x:T)
 | tup (xs:List T)
abbrev Cond:=Option (Nat×Bool)
structure Ent where
 c:Cond
 v:V
inductive Tr (α:Type) where
 | nil
 | node (v:Option α) (l r:Tr α)
def Tr.v {α:Type}:Tr α->Option α
 | .nil=>none
 | .node v _ _=>v
def Tr.l {α:Type}:Tr α->Tr α
 | .nil =>.nil
 | .node _ l _=>l
def Tr.r {α:Type}:Tr α->Tr α
 | .nil =>.nil
 | .node _ _ r=>r
def Tr.getF {α:Type}:Nat->Tr α->Nat->Option α
 | 0,_,_=>none
 | n+1,t,k=>match Nat.beq k 0 with
   | true=>t.v
   | false=>match Nat.beq (k % 2) 0 with
     | true=>Tr.getF n t.l (k / 2)
     | false=>Tr.getF n t.r (k / 2)
def Tr.setF {α:Type}:Nat->Tr α->Nat->Option α->Tr α
 | 0,t,_,_=>t
 | n+1,t,k,x=>match Nat.beq k 0 with
   | true =>.node x t.l t.r
   | false=>match Nat.beq (k % 2) 0 with
     | true =>.node t.v (Tr.setF n t.l (k / 2) x) t.r
     | false =>.node t.v t.l (Tr.setF n t.r (k / 2) x)
def Tr.get {α:Type} (t:Tr α) (k:Nat):Option α:=t.getF (Nat.log2 k+2) k
def Tr.set {α:Type} (t:Tr α) (k:Nat) (x:α):Tr α:=t.setF (Nat.log2 k+2) k (some x)
def Tr.del {α:Type} (t:Tr α) (k:Nat):Tr α:=t.setF (Nat.log2 k+2) k none
structure Blk where
 rw:Bool
 t:T
structure H where
 m:Tr Blk
 rd:List Nat
 wr:List Nat
 lo:Nat
 next:Nat
 gl:List Nat
def bitB (m n:Nat):Bool:=Nat.beq (Nat.land (Nat.shiftRight m n) 1) 1
def memB (x:Nat) (l:List Nat):Bool:=l.any fun y=>Nat.beq x y
def addN (x:Nat) (l:List Nat):List Nat:=match memB x l with|true=>l|false=>x::l
def noteB (lo id:Nat) (l:List Nat):List Nat:=match Nat.blt id lo with|true=>addN id l|false=>l
def noteAll (lo:Nat):List Nat->List Nat->List Nat
 | [],l=>l
 | x::r,l=>noteAll lo r (noteB lo x l)
def H.mark (h:H):H:={ h with rd:=[],wr:=[],lo:=h.next }
def H.back (h0 h:H):H:={ h with lo:=h0.lo,rd:=noteAll h0.lo h.rd h0.rd,wr:=noteAll h0.lo h.wr h0.wr }
def H.see (h:H) (id:Nat):H:={ h with rd:=noteB h.lo id h.rd }
def H.put (h:H) (id:Nat) (b:Blk):H:={ h with m:=h.m.set id b,wr:=noteB h.lo id h.wr }
def H.new (h:H) (b:Blk):H:={ h with m:=h.m.set h.next b,next:=h.next+1 }
structure St where
 vars:Tr Ent
 vd:List Nat
 tmps:List (Nat×Ent)
 h:H
 ok:A
 defs:List (FuncId×List V)
structure OpR where
 ok:A
 v:V
 h:H
def condEq:Cond->Cond->Bool
 | none,none=>true
 | some (a,x),some (b,y)=>Nat.beq a b&&(match x,y with|true,true=>true|false,false=>true|_,_=>false)
 | _,_=>false
def nrm (k:IntKind) (x:BitVec 64):BitVec 64:=
 match k with
 | .u64 | .i64=>x
 | .u32=>(x.setWidth 32).setWidth 64
 | .i32=>(x.setWidth 32).signExtend 64
 | .u16=>(x.setWidth 16).setWidth 64
 | .i16=>(x.setWidth 16).signExtend 64
 | .u8=>(x.setWidth 8).setWidth 64
 | .i8=>(x.setWidth 8).signExtend 64
def A.bv:A->Option (IntKind×BitVec 64)
 | .lit k n=>some (k,BitVec.ofInt 64 n)
 | .i k x=>some (k,x)
 | _=>none
def A.bool? : A->Option Bool
 | .tt=>some true
 | .ff=>some false
 | .b x=>some x
 | _=>none
def kEq (k k':IntKind):Bool:=decide (k=k')
def ofDec (x:Bool):A:=match x with|true =>.tt|false =>.ff
def litOp (op:BinOp) (k:IntKind) (m:Int) (k':IntKind) (n:Int):Option (A×A):=
 match op with
 | .shl=>if n<0 then none else some (.tt,.lit k (k.wrap (m*2 ^ (min n.toNat k.bits))))
 | .shr=>if n<0 then none else some (.tt,.lit k (k.wrap (m.fdiv (2 ^ (min n.toNat k.bits)))))
 | _=>if kEq k k' then
   match op with
   | .add=>some (.tt,.lit k (k.wrap (m+n)))
   | .sub=>some (.tt,.lit k (k.wrap (m-n)))
   | .mul=>some (.tt,.lit k (k.wrap (m*n)))
   | .quo=>if n=0 then none else some (.tt,.lit k (k.wrap (m.tdiv n)))
   | .rem=>if n=0 then none else some (.tt,.lit k (k.wrap (m.tmod n)))
   | .and=>some (.tt,.lit k (k.wrap (BitVec.ofInt k.bits m&&&BitVec.ofInt k.bits n).toNat))
   | .or=>some (.tt,.lit k (k.wrap (BitVec.ofInt k.bits m|||BitVec.ofInt k.bits n).toNat))
   | .xor=>some (.tt,.lit k (k.wrap (BitVec.ofInt k.bits m^^^BitVec.ofInt k.bits n).toNat))
   | .andNot=>some (.tt,.lit k (k.wrap (BitVec.ofInt k.bits m &&& ~~~ BitVec.ofInt k.bits n).toNat))
   | .eql=>some (.tt,ofDec (decide (m=n)))
   | .neq=>some (.tt,ofDec (!decide (m=n)))
   | .lss=>some (.tt,ofDec (decide (m<n)))
   | .leq=>some (.tt,ofDec (decide (m≤n)))
   | .gtr=>some (.tt,ofDec (decide (n<m)))
   | .geq=>some (.tt,ofDec (decide (n≤m)))
   | _=>none
   else none
def symOp (op:BinOp) (k:IntKind) (x:BitVec 64) (k':IntKind) (y:BitVec 64):Option (A×A):=
 match op with
 | .shl=>some (match k'.signed with|true =>.b (!(nrm k' y).msb)|false =>.tt,.i k (x<<<(nrm k' y).toNat))
 | .shr=>some (match k'.signed with|true =>.b (!(nrm k' y).msb)|false =>.tt,
    .i k (match k.signed with|true=>(nrm k x).sshiftRight (nrm k' y).toNat|false=>nrm k x>>>(nrm k' y).toNat))
 | _=>if kEq k k' then
   match op with
   | .add=>some (.tt,.i k (x+y))
   | .sub=>some (.tt,.i k (x-y))
   | .mul=>some (.tt,.i k (x*y))
   | .quo=>some (.b (nrm k y != 0#64),.i k (match k.signed with|true=>(nrm k x).sdiv (nrm k y)|false=>nrm k x / nrm k y))
   | .rem=>some (.b (nrm k y != 0#64),.i k (match k.signed with|true=>(nrm k x).srem (nrm k y)|false=>nrm k x % nrm k y))
   | .and=>some (.tt,.i k (x&&&y))
   | .or=>some (.tt,.i k (x|||y))
   | .xor=>some (.tt,.i k (x^^^y))
   | .andNot=>some (.tt,.i k (x &&& ~~~ y))
   | .eql=>some (.tt,.b (nrm k x==nrm k y))
   | .neq=>some (.tt,.b (nrm k x != nrm k y))
   | .lss=>some (.tt,.b (match k.signed with|true=>(nrm k x).slt (nrm k y)|false=>(nrm k x).ult (nrm k y)))
   | .leq=>some (.tt,.b (match k.signed with|true=>(nrm k x).sle (nrm k y)|false=>(nrm k x).ule (nrm k y)))
   | .gtr=>some (.tt,.b (match k.signed with|true=>(nrm k y).slt (nrm k x)|false=>(nrm k y).ult (nrm k x)))
   | .geq=>some (.tt,.b (match k.signed with|true=>(nrm k y).sle (nrm k x)|false=>(nrm k y).ule (nrm k x)))
   | _=>none
   else none
def fineY (op:BinOp):A->Bool
 | .lit _ n=>match op with
   | .quo => !decide (n=0)
   | .rem => !decide (n=0)
   | .shl=>decide (0≤n)
   | .shr=>decide (0≤n)
   | _=>false
 | _=>false
def binInt (op:BinOp) (x y:A):Option (A×A):=
 match x,y with
 | .lit k m,.lit k' n=>litOp op k m k' n
 | x,y=>match x.bv,y.bv with
   | some (k,x'),some (k',y')=>match symOp op k x' k' y' with
     | some (ok,z)=>some (match fineY op y with|true =>.tt|false=>ok,z)
     | none=>none
   | _,_=>none
def eqA (s:Bool) (x y:A):Option A:=
 match s with
 | false=>match binInt .eql x y with
   | some (_,z)=>some z
   | none=>none
 | true=>match x.bool?,y.bool? with
   | some p,some q=>some (.b (p==q))
   | _,_=>none
def andA:A->A->Option A
 | .tt,y=>some y
 | .ff,_=>some .ff
 | x,.tt=>some x
 | x,y=>match x.bool?,y.bool? with
   | some p,some q=>some (.b (p&&q))
   | _,_=>none
def eqL:List Bool->List A->List A->Option A
 | [],[],[]=>some .tt
 | s::sh,x::xs,y::ys=>match eqA s x y,eqL sh xs ys with
   | some p,some q=>andA p q
   | _,_=>none
 | _,_,_=>none
def notA:A->Option A
 | .tt=>some .ff
 | .ff=>some .tt
 | .b x=>some (.b (!x))
 | _=>none
def unA (op:UnOp) (x:A):Option A:=
 match op with
 | .not=>notA x
 | .neg=>match x with
   | .lit k n=>some (.lit k (k.wrap (0-n)))
   | .i k x=>some (.i k (0#64-x))
   | _=>none
 | .xor=>match x with
   | .lit k n=>some (.lit k (k.wrap (BitVec.ofInt k.bits (if k.signed then -1 else k.max)^^^BitVec.ofInt k.bits n).toNat))
   | .i k x=>some (.i k (~~~ x))
   | _=>none
 | _=>none
def convA (k:IntKind):A->Option A
 | .lit _ n=>some (.lit k (k.wrap n))
 | .i k' x=>some (.i k (nrm k' x))
 | _=>none
def minA (x y:A):Option A:=
 match x,y with
 | .lit k m,.lit k' n=>if kEq k k' then some (.lit k (if n<m then n else m)) else none
 | x,y=>match x.bv,y.bv with
   | some (k,x),some (k',y)=>if kEq k k' then
      some (.i k (bif (match k.signed with|true=>(nrm k y).slt (nrm k x)|false=>(nrm k y).ult (nrm k x)) then y else x)) else none
   | _,_=>none
def maxA (x y:A):Option A:=
 match x,y with
 | .lit k m,.lit k' n=>if kEq k k' then some (.lit k (if n>m then n else m)) else none
 | x,y=>match x.bv,y.bv with
   | some (k,x),some (k',y)=>if kEq k k' then
      some (.i k (bif (match k.signed with|true=>(nrm k x).slt (nrm k y)|false=>(nrm k x).ult (nrm k y)) then y else x)) else none
   | _,_=>none
def okB:A->Bool
 | .tt=>true
 | .b x=>x
 | _=>false
def andOk:A->A->A
 | .tt,y=>y
 | x,.tt=>x
 | .b p,.b q =>.b (p&&q)
 | x,y =>.b (okB x&&okB y)
mutual
def T.size:T->Option Nat
 | .a _=>some 1
 | .st fs=>sizeTs fs
 | .lst s ts=>some (s*ts.length)
 | .arr s n _=>match n with
   | .lit n=>some (s*n)
   | .sym _=>none
 | .bad=>none
 | .mp _ _ _=>none
def sizeTs:List T->Option Nat
 | []=>some 0
 | t::ts=>match t.size,sizeTs ts with
   | some n,some m=>some (n+m)
   | _,_=>none
end
mutual
def elemT:Sh->Nat->T
 | .int k g,n =>.a (.i k (g n))
 | .bool g,n =>.a (.b (g n))
 | .st fs,n =>.st (elemTs fs n)
 | .lit k m,_ =>.a (.lit k m)
 | .ints m k g,n =>.arr 1 (.lit m) (.int k (g n))
 | .bools m g,n =>.arr 1 (.lit m) (.bool (g n))
def elemTs:List Sh->Nat->List T
 | [],_=>[]
 | s::ss,n=>elemT s n::elemTs ss n
end
def mergeInt (x:Bool) (a1 a2:A):A:=
 match a1.bv,a2.bv with
 | some (k,p),some (k',q)=>match kEq k k' with
   | true =>.i k (bif x then p else q)
   | false =>.poison
 | _,_ =>.poison
def mergeBool (x:Bool) (a1 a2:A):A:=
 match a1.bool?,a2.bool? with
 | some p,some q =>.b (bif x then p else q)
 | _,_=>mergeInt x a1 a2
def ixEq:Ix->Ix->Bool
 | .lit a,.lit b=>Nat.beq a b
 | _,_=>false
def stepEq:Step->Step->Bool
 | .f a o,.f b o'=>Nat.beq a b&&Nat.beq o o'
 | .x s i,.x s' i'=>Nat.beq s s'&&ixEq i i'
 | _,_=>false
def pathEq:List Step->List Step->Bool
 | [],[]=>true
 | a::p,b::q=>stepEq a b&&pathEq p q
 | _,_=>false
def optIxEq:Option Ix->Option Ix->Bool
 | some a,some b=>ixEq a b
 | none,none=>true
 | _,_=>false
def mergeA (x:Bool) (a1 a2:A):A:=
 match a1,a2 with
 | .lit k m,.lit k' n=>match kEq k k'&&decide (m=n) with
   | true =>.lit k m
   | false=>mergeInt x (.lit k m) (.lit k' n)
 | .tt,.tt =>.tt
 | .ff,.ff =>.ff
 | .nilp,.nilp =>.nilp
 | .nils,.nils =>.nils
 | .nilf,.nilf =>.nilf
 | .undef,.undef =>.undef
 | .ptr a p,.ptr b q=>match Nat.beq a b&&pathEq p q with
   | true =>.ptr a p
   | false =>.poison
 | .sl a p s i l c,.sl b q s' i' l' c'=>match Nat.beq a b&&pathEq p q&&Nat.beq s s'&&ixEq i i'&&ixEq l l'&&optIxEq c c' with
   | true =>.sl a p s i l c
   | false =>.poison
 | a1,a2=>mergeBool x a1 a2
mutual
def mergeSh (x:Bool):Sh->Sh->Option Sh
 | .int k g,t=>match t with
   | .int k' g'=>match kEq k k' with
     | true=>some (.int k fun n=>bif x then g n else g' n)
     | false=>none
   | .lit k' m'=>match kEq k k' with
     | true=>some (.int k fun n=>bif x then g n else BitVec.ofInt 64 m')
     | false=>none
   | _=>none
 | .lit k m,t=>match t with
   | .int k' g'=>match kEq k k' with
     | true=>some (.int k fun n=>bif x then BitVec.ofInt 64 m else g' n)
     | false=>none
   | .lit k' m'=>match kEq k k' with
     | true=>match decide (m=m') with
       | true=>some (.lit k m)
       | false=>some (.int k fun _=>bif x then BitVec.ofInt 64 m else BitVec.ofInt 64 m')
     | false=>none
   | _=>none
 | .ints m k g,t=>match t with
   | .ints m' k' g'=>match Nat.beq m m'&&kEq k k' with
     | true=>some (.ints m k fun i j=>bif x then g i j else g' i j)
     | false=>none
   | _=>none
 | .bools m g,t=>match t with
   | .bools m' g'=>match Nat.beq m m' with
     | true=>some (.bools m fun i j=>bif x then g i j else g' i j)
     | false=>none
   | _=>none
 | .bool g,t=>match t with
   | .bool g'=>some (.bool fun n=>bif x then g n else g' n)
   | _=>none
 | .st fs,t=>match t with
   | .st gs=>match mergeShs x fs gs with
     | some r=>some (.st r)
     | none=>none
   | _=>none
def mergeShs (x:Bool):List Sh->List Sh->Option (List Sh)
 | [],us=>match us with
   | []=>some []
   | _::_=>none
 | t::ts,us=>match us with
   | []=>none
   | u::us=>match mergeSh x t u,mergeShs x ts us with
     | some r,some rs=>some (r::rs)
     | _,_=>none
end
mutual
def mergeT (x:Bool):T->T->T
 | .a p,t=>match t with
   | .a q =>.a (mergeA x p q)
   | _ =>.bad
 | .st fs,t=>match t with
   | .st gs=>match Nat.beq fs.length gs.length with
     | true =>.st (mergeTs x fs gs)
     | false =>.bad
   | _ =>.bad
 | .lst s ts,t=>match t with
   | .lst s' us=>match Nat.beq s s'&&Nat.beq ts.length us.length with
     | true =>.lst s (mergeTs x ts us)
     | false =>.bad
   | _ =>.bad
 | .arr s n sh,t=>match t with
   | .arr s' n' sh'=>match Nat.beq s s'&&ixEq n n' with
     | true=>match mergeSh x sh sh' with
       | some r =>.arr s n r
       | none =>.bad
     | false =>.bad
   | _ =>.bad
 | .bad,_ =>.bad
 | .mp _ _ _,_ =>.bad
def mergeTs (x:Bool):List T->List T->List T
 | [],_=>[]
 | t::ts,us=>match us with
   | []=>[]
   | u::us=>mergeT x t u::mergeTs x ts us
end
def mergeTL (x:Bool):List T->List T->Option (List T)
 | [],[]=>some []
 | a::r,b::s=>match mergeTL x r s with
   | some q=>some (mergeT x a b::q)
   | none=>none
 | _,_=>none
def mergeV (x:Bool):V->V->V
 | .t p,.t q =>.t (mergeT x p q)
 | .tup p,.tup q=>match mergeTL x p q with
   | some r =>.tup r
   | none =>.t .bad
 | _,_ =>.t .bad
def optEqN:Option Nat->Option Nat->Bool
 | some a,some b=>Nat.beq a b
 | _,_=>false
def muxT (n:Nat):Nat->List T->T
 | _,[] =>.bad
 | _,[t]=>t
 | j,t::ts=>mergeT (Nat.beq n j) t (muxT n (j+1) ts)
def subT:List Step->T->Option T
 | [],t=>some t
 | .f k off::p,.st fs=>match optEqN (sizeTs (fs.take k)) (some off) with
   | true=>match fs[k]? with
     | some t=>subT p t
     | none=>none
   | false=>none
 | .x s' i::p,.lst s ts=>match Nat.beq s s' with
   | false=>none
   | true=>match i with
     | .lit n=>match ts[n]? with
       | some t=>subT p t
       | none=>none
     | .sym n=>match ts.mapM (subT p) with
       | some us=>some (muxT n 0 us)
       | none=>none
 | .x s' i::p,.arr s _ sh=>match Nat.beq s s' with
   | true=>subT p (elemT sh i.val)
   | false=>none
 | _,_=>none
def allLit (k:IntKind) (c:Int):List T->Bool
 | []=>true
 | .a (.lit k' n)::r=>kEq k k'&&decide (c=n)&&allLit k c r
 | _::_=>false
def allFf:List T->Bool
 | []=>true
 | .a .ff::r=>allFf r
 | _::_=>false
def fnI (m:Nat) (k:IntKind):T->Option (Nat->BitVec 64)
 | .arr s n sh=>match Nat.beq s 1&&ixEq n (.lit m) with
   | true=>match sh with
     | .int k' h=>match kEq k k' with
       | true=>some h
       | false=>none
     | _=>none
   | false=>none
 | .lst s ts=>match Nat.beq s 1&&Nat.beq ts.length m with
   | true=>match ts with
     | .a (.lit k' c)::r=>match kEq k k'&&allLit k c r with
       | true=>some fun _=>BitVec.ofInt 64 c
       | false=>none
     | _=>none
   | false=>none
 | _=>none
def fnB (m:Nat):T->Option (Nat->Bool)
 | .arr s n sh=>match Nat.beq s 1&&ixEq n (.lit m) with
   | true=>match sh with
     | .bool h=>some h
     | _=>none
   | false=>none
 | .lst s ts=>match Nat.beq s 1&&Nat.beq ts.length m&&allFf ts with
   | true=>some fun _=>false
   | false=>none
 | _=>none
def setSh:Sh->Nat->T->Option Sh:=fun sh=>match sh with
 | .int k g=>fun n t=>match t with
   | .a x=>match x.bv with
     | some (k',y)=>match kEq k k' with
       | true=>some (.int k fun j=>bif Nat.beq j n then y else g j)
       | false=>none
     | none=>none
   | _=>none
 | .bool g=>fun n t=>match t with
   | .a x=>match x.bool? with
     | some y=>some (.bool fun j=>bif Nat.beq j n then y else g j)
     | none=>none
   | _=>none
 | .lit k m=>fun n t=>match t with
   | .a x=>match x with
     | .lit k' m'=>match kEq k k' with
       | true=>match decide (m=m') with
         | true=>some (.lit k m)
         | false=>some (.int k fun j=>bif Nat.beq j n then BitVec.ofInt 64 m' else BitVec.ofInt 64 m)
       | false=>none
     | .i k' y=>match kEq k k' with
       | true=>some (.int k fun j=>bif Nat.beq j n then y else BitVec.ofInt 64 m)
       | false=>none
     | _=>none
   | _=>none
 | .ints m k g=>fun n t=>match fnI m k t with
   | some h=>some (.ints m k fun i j=>bif Nat.beq i n then h j else g i j)
   | none=>none
 | .bools m g=>fun n t=>match fnB m t with
   | some h=>some (.bools m fun i j=>bif Nat.beq i n then h j else g i j)
   | none=>none
 | .st _=>fun _ _=>none
mutual
def setE:Sh->Nat->T->Option Sh
 | .int k g,n,t=>setSh (.int k g) n t
 | .bool g,n,t=>setSh (.bool g) n t
 | .lit k m,n,t=>setSh (.lit k m) n t
 | .ints m k g,n,t=>setSh (.ints m k g) n t
 | .bools m g,n,t=>setSh (.bools m g) n t
 | .st fs,n,t=>match t with
   | .st ts=>match setEs fs n ts with
     | some r=>some (.st r)
     | none=>none
   | _=>none
def setEs:List Sh->Nat->List T->Option (List Sh)
 | [],_,ts=>match ts with
   | []=>some []
   | _::_=>none
 | s::ss,n,ts=>match ts with
   | []=>none
   | t::ts=>match setE s n t,setEs ss n ts with
     | some r,some rs=>some (r::rs)
     | _,_=>none
end
def updT (v:T):List Step->T->Option T
 | [],t=>match optEqN t.size v.size with
   | true=>some v
   | false=>none
 | .f k off::p,.st fs=>match optEqN (sizeTs (fs.take k)) (some off) with
   | true=>match fs[k]? with
     | some t=>match updT v p t with
       | some u=>some (.st (fs.set k u))
       | none=>none
     | none=>none
   | false=>none
 | .x s' i::p,.lst s ts=>match Nat.beq s s' with
   | false=>none
   | true=>match i with
     | .lit n=>match ts[n]? with
       | some t=>match updT v p t with
         | some u=>some (.lst s (ts.set n u))
         | none=>none
       | none=>none
     | .sym n=>match ts.mapM (updT v p) with
       | some us=>some (.lst s (muxU n 0 us ts))
       | none=>none
 | .x s' i::p,.arr s n sh=>match Nat.beq s s' with
   | true=>match updT v p (elemT sh i.val) with
     | some u=>match setE sh i.val u with
       | some sh'=>some (.arr s n sh')
       | none=>none
     | none=>none
   | false=>none
 | _,_=>none
where
 muxU (n:Nat):Nat->List T->List T->List T
  | j,u::us,t::ts=>mergeT (Nat.beq n j) u t::muxU n (j+1) us ts
  | _,_,_=>[]
def pathOk:List Step->T->A
 | [],_ =>.tt
 | .f k _::p,.st fs=>match fs[k]? with
   | some t=>pathOk p t
   | none =>.tt
 | .x _ i::p,.lst _ ts=>match i with
   | .lit n=>match ts[n]? with
     | some t=>pathOk p t
     | none =>.tt
   | .sym n=>andOk (.b (Nat.blt n ts.length)) (ts.foldr (fun t a=>andOk (pathOk p t) a) .tt)
 | .x _ i::p,.arr _ n sh=>andOk (match i,n with
    | .lit a,.lit b=>ofDec (Nat.blt a b)
    | a,b =>.b (Nat.blt a.val b.val)) (pathOk p (elemT sh i.val))
 | _,_ =>.tt
def ofAtom:Value->A
 | .int k n=>if k.wrap n=n then .lit k n else .poison
 | .bool x=>ofDec x
 | .pointer none =>.nilp
 | .slice none 0 0 =>.nils
 | .nilFunc =>.nilf
 | .tuple _ =>.poison
 | .agg _ =>.poison
 | v =>.raw v
def isAggT (P:Program) (t:TypeId):Option Bool:=
 match P.underlying t with
 | some (.struct _)=>some true
 | some (.array _ _)=>some true
 | some _=>some false
 | none=>none
def sizeT (P:Program) (t:TypeId):Option Nat:=(P.info? t).map (·.size)
def chunks (k:Nat):Nat->List A->List (List A)
 | 0,_=>[]
 | n+1,cs=>cs.take k::chunks k n (cs.drop k)
mutual
def shapeT (P:Program):Nat->TypeId->List A->Option T
 | 0,_,_=>none
 | d+1,t,cs=>match P.underlying t with
   | some (.struct fields)=>match shapeFs P d fields.toList 0 cs with
     | some ts=>some (.st ts)
     | none=>none
   | some (.array n elem)=>match sizeT P elem with
     | some k=>match Nat.beq cs.length (n*k) with
       | true=>match shapeL P d elem (chunks k n cs) with
         | some ts=>some (.lst k ts)
         | none=>none
       | false=>none
     | none=>none
   | some _=>match cs with
     | [x]=>some (.a x)
     | _=>none
   | none=>none
def shapeFs (P:Program):Nat->List Field->Nat->List A->Option (List T)
 | 0,_,_,_=>none
 | d+1,fs,off,cs=>match fs with
   | []=>match cs with
     | []=>some []
     | _=>none
   | f::fs=>match sizeT P f.type with
     | some n=>match Nat.beq f.offset off&&Nat.ble n cs.length with
       | true=>match shapeT P d f.type (cs.take n),shapeFs P d fs (off+n) (cs.drop n) with
         | some t,some ts=>some (t::ts)
         | _,_=>none
       | false=>none
     | none=>none
def shapeL (P:Program):Nat->TypeId->List (List A)->Option (List T)
 | 0,_,_=>none
 | d+1,t,l=>match l with
   | []=>some []
   | cs::l=>match shapeT P d t cs,shapeL P d t l with
     | some t,some ts=>some (t::ts)
     | _,_=>none
end
def cellB:Value->Bool
 | .agg _=>false
 | .tuple _=>false
 | _=>true
def zeroT (P:Program) (t:TypeId):Option T:=
 match P.info? t with
 | some i=>match i.zero with
   | some v=>match v.cells.toList.all cellB with
     | true=>shapeT P 1000 t (v.cells.toList.map ofAtom)
     | false=>none
   | none=>none
 | none=>none
inductive Ex where
 | nrm
 | exit (id:Nat)
 | ret
 | pan (v:A)
inductive Out where
 | fail
 | leaf (e:Ex) (s:St)
 | node (x:Bool) (a b:Out)
abbrev DfrE:=FuncId->List V->Option A->H->Option (Option A×A×H)
structure Cx where
 P:Program
 eqT:TypeId->Option (List Bool)
 it:Nat:=66
 lam:FuncId->Nat->St->Option Out:=fun _ _ _=>none
 dfr:DfrE:=fun _ _ _ _=>none
 km:FuncId->Option Nat:=fun _=>none
 pin:Option Int:=none
 pinL:Option (Nat×List (Option Int)):=none
inductive R where
 | fail
 | leaf (ok:A) (v:V) (h:H)
 | pan (ok:A) (v:A) (h:H)
 | node (x:Bool) (a b:R)
abbrev CallE:=FuncId->List V->H->R
def R.pick:R->Option (A×V×H)
 | .fail=>none
 | .leaf ok v h=>some (ok,v,h)
 | .pan _ _ _=>none
 | .node x a b=>if x then a.pick else b.pick
def R.pickP:R->Option (A×A×H)
 | .fail=>none
 | .leaf _ _ _=>none
 | .pan ok v h=>some (ok,v,h)
 | .node x a b=>if x then a.pickP else b.pickP
def R.All (p:H->Prop):R->Prop
 | .fail=>True
 | .leaf _ _ h=>p h
 | .pan _ _ h=>p h
 | .node _ a b=>a.All p/\b.All p
def V.one:V->Option A
 | .t (.a x)=>some x
 | _=>none
def opV (G X:Cond) (gt:Nat->Ent):Operand->Option V
 | .tmp s=>match (gt s).c with
   | none=>some (gt s).v
   | some c=>match condEq (some c) G||condEq (some c) X with
     | true=>some (gt s).v
     | false=>none
 | .const v=>some (.t (.a (ofAtom v)))
 | .func f=>some (.t (.a (.fn f [])))
 | .global g=>some (.t (.a (.ptr g [])))
def opA (G:Cond) (gt:Nat->Ent) (x:Operand):Option A:=(opV G none gt x).bind V.one
def opVs (G:Cond) (gt:Nat->Ent):List Operand->Option (List V)
 | []=>some []
 | x::xs=>match opV G none gt x,opVs G gt xs with
   | some v,some vs=>some (v::vs)
   | _,_=>none
def opAs (G:Cond) (gt:Nat->Ent):List Operand->Option (List A)
 | []=>some []
 | x::xs=>match opA G gt x,opAs G gt xs with
   | some v,some vs=>some (v::vs)
   | _,_=>none
def opParts (G:Cond) (gt:Nat->Ent):List (Nat×Operand)->Option (List (Nat×V))
 | []=>some []
 | (i,x)::xs=>match opV G none gt x,opParts G gt xs with
   | some v,some vs=>some ((i,v)::vs)
   | _,_=>none
def A.solid:A->Bool
 | .poison=>false
 | .undef=>false
 | .raw (.agg _)=>false
 | .raw (.tuple _)=>false
 | _=>true
def V.cells:V->Option T
 | .t (.a x)=>match x.solid with|true=>some (.a x)|false=>none
 | .t u=>some u
 | .tup _=>none
def mkR (h:H) (v:V):Option OpR:=some ⟨.tt,v,h⟩
def mkA (h:H) (x:A):Option OpR:=some ⟨.tt,.t (.a x),h⟩
def ixOf (x:A) (n:Ix):Option (Ix×A):=
 match x with
 | .lit _ m=>match m with
   | .ofNat m=>match n with
     | .lit n=>match Nat.blt m n with
       | true=>some (.lit m,.tt)
       | false=>none
     | .sym n=>some (.lit m,.b (Nat.blt m n))
   | .negSucc _=>none
 | .i k x=>some (.sym (nrm k x).toNat,.b ((match k.signed with|true => !(nrm k x).msb|false=>true)&&Nat.blt (nrm k x).toNat n.val))
 | _=>none
def fitsT (P:Program) (t:TypeId) (u:T):Bool:=
 match isAggT P t with
 | some true=>match u with
   | .a _=>false
   | .bad=>false
   | u=>optEqN u.size (sizeT P t)
 | some false=>match u with
   | .a _=>true
   | _=>false
 | none=>false
def evalLoad (P:Program) (h:H) (t:TypeId):A->Option OpR
 | .ptr id p=>match h.m.get id with
   | some b=>match subT p b.t with
     | some u=>match fitsT P t u with
       | true=>some ⟨pathOk p b.t,.t u,h.see id⟩
       | false=>none
     | none=>none
   | none=>none
 | _=>none
def evalStore (P:Program) (h:H) (t:TypeId):A->V->Option OpR
 | .ptr id p,x=>match h.m.get id,x.cells with
   | some b,some v=>match b.rw&&optEqN v.size (sizeT P t) with
     | true=>match updT v p b.t with
       | some t'=>some ⟨pathOk p b.t,.t (.a .undef),(h.see id).put id ⟨true,t'⟩⟩
       | none=>none
     | false=>none
   | _,_=>none
 | _,_=>none
mutual
def flatT:T->Option (List A)
 | .a x=>some [x]
 | .st fs=>flatTs fs
 | .lst _ ts=>flatTs ts
 | .arr _ _ _=>none
 | .bad=>none
 | .mp _ _ _=>none
def flatTs:List T->Option (List A)
 | []=>some []
 | t::ts=>match flatT t,flatTs ts with
   | some a,some b=>some (a++b)
   | _,_=>none
end
def nilEq (P:Program) (t:TypeId) (x y:A):Option Bool:=
 match P.underlying t with
 | some (.slice _)=>match x,y with
   | .nils,.nils=>some true
   | .sl _ _ _ _ _ _,.nils=>some false
   | .nils,.sl _ _ _ _ _ _=>some false
   | _,_=>none
 | some (.pointer _)=>match x,y with
   | .nilp,.nilp=>some true
   | .ptr _ _,.nilp=>some false
   | .nilp,.ptr _ _=>some false
   | _,_=>none
 | some (.func _ _ _)=>match x,y with
   | .nilf,.nilf=>some true
   | .fn _ _,.nilf=>some false
   | .nilf,.fn _ _=>some false
   | _,_=>none
 | _=>none
def eqRes (h:H) (op:BinOp) (z:A):Option OpR:=
 match op with
 | .eql=>mkA h z
 | .neq=>match notA z with
   | some z=>mkA h z
   | none=>none
 | _=>none
def aggB:T->Bool
 | .a _=>false
 | _=>true
def evalBinA (P:Program) (h:H) (op:BinOp) (t:TypeId) (x y:A):Option OpR:=
 match binInt op x y with
 | some (ok,z)=>some ⟨ok,.t (.a z),h⟩
 | none=>match nilEq P t x y with
   | some e=>eqRes h op (ofDec e)
   | none=>match P.underlying t,x.bool?,y.bool? with
     | some .bool,some p,some q=>eqRes h op (.b (p==q))
     | _,_,_=>none
def evalBinG (h:H) (op:BinOp) (sh:Option (List Bool)) (x y:Option (List A)):Option OpR:=
 match sh,x,y with
 | some sh,some xs,some ys=>match eqL sh xs ys with
   | some z=>eqRes h op z
   | none=>none
 | _,_,_=>none
def evalBin (cx:Cx) (h:H) (op:BinOp) (t:TypeId):V->V->Option OpR
 | .t (.a x),.t (.a y)=>evalBinA cx.P h op t x y
 | .t x,.t y=>match aggB x&&aggB y with
   | true=>evalBinG h op (cx.eqT t) (flatT x) (flatT y)
   | false=>none
 | _,_=>none
def foldA (f:A->A->Option A):A->List V->Option A
 | x,[]=>some x
 | x,.t (.a y)::ys=>match f x y with
   | some z=>foldA f z ys
   | none=>none
 | _,_=>none
def ixInt:Ix->A
 | .lit n =>.lit .i64 n
 | .sym n =>.i .i64 (BitVec.ofNat 64 n)
def ixSmall:Ix->A
 | .lit n=>ofDec (decide (IntKind.i64.wrap (n:Int)=(n:Int)))
 | .sym n =>.b (Nat.blt n (2 ^ 63))
def toIx (x:A):Option (Ix×A):=
 match x with
 | .lit _ m=>match m with
   | .ofNat m=>some (.lit m,.tt)
   | .negSucc _=>none
 | .i k x=>some (.sym (nrm k x).toNat,match k.signed with|true =>.b (!(nrm k x).msb)|false =>.tt)
 | _=>none
def leIx (a b:Ix):A:=match a,b with
 | .lit a,.lit b=>ofDec (Nat.ble a b)
 | a,b =>.b (Nat.ble a.val b.val)
def subIx:Ix->Ix->Ix
 | .lit a,.lit b =>.lit (a-b)
 | a,b =>.sym (a.val-b.val)
def ixAdd:Ix->Ix->Ix
 | .lit a,.lit b =>.lit (a+b)
 | a,b =>.sym (a.val+b.val)
def capOr:Option Ix->Ix->Ix
 | some c,_=>c
 | none,l=>l
def elemsT (t:T) (p:List Step) (s:Nat) (st:Ix):Nat->Nat->Option (List T)
 | 0,_=>some []
 | n+1,j=>match subT (p++[.x s (ixAdd st (.lit j))]) t,elemsT t p s st n (j+1) with
   | some u,some us=>some (u::us)
   | _,_=>none
def elemsOk (t:T) (p:List Step) (s:Nat) (st:Ix):Nat->Nat->A
 | 0,_ =>.tt
 | n+1,j=>andOk (pathOk (p++[.x s (ixAdd st (.lit j))]) t) (elemsOk t p s st n (j+1))
def putElems (t:T) (p:List Step) (s:Nat) (st:Ix):List T->Nat->Option T
 | [],_=>some t
 | u::us,j=>match updT u (p++[.x s (ixAdd st (.lit j))]) t with
   | some t'=>putElems t' p s st us (j+1)
   | none=>none
def putOk (t:T) (p:List Step) (s:Nat) (st:Ix):List T->Nat->A
 | [],_ =>.tt
 | u::us,j=>match updT u (p++[.x s (ixAdd st (.lit j))]) t with
   | some t'=>andOk (pathOk (p++[.x s (ixAdd st (.lit j))]) t) (putOk t' p s st us (j+1))
   | none =>.tt
def notMp:T->Bool
 | .mp _ _ _=>false
 | .bad=>false
 | _=>true
def readSl (h:H) (n:Nat):A->Option (List T×A×H)
 | .sl id p s st len _=>match h.m.get id with
   | some b=>match notMp b.t with
     | true=>match elemsT b.t p s st n 0 with
       | some us=>some (us,andOk (leIx (.lit n) len) (elemsOk b.t p s st n 0),h.see id)
       | none=>none
     | false=>none
   | none=>none
 | .nils=>match n with
   | 0=>some ([],.tt,h)
   | _+1=>none
 | _=>none
def writeSl (h:H) (us:List T) (id:Nat) (p:List Step) (s:Nat) (st:Ix):Option (A×H):=
 match h.m.get id with
 | some b=>match b.rw&&notMp b.t with
   | true=>match us.all fun u=>optEqN u.size (some s) with
     | true=>match putElems b.t p s st us 0 with
       | some t'=>some (putOk b.t p s st us 0,(h.see id).put id ⟨true,t'⟩)
       | none=>none
     | false=>none
   | false=>none
 | none=>none
def evAppend (P:Program) (h:H) (t:TypeId) (x y:A):Option OpR:=
 match P.underlying t,x,y with
 | some (.slice elem),.sl id p s st len (some cap),.sl id2 p2 s2 st2 (.lit n) cap2=>match sizeT P elem,Nat.beq s s2 with
   | some k,true=>match Nat.beq k s,readSl h n (.sl id2 p2 s2 st2 (.lit n) cap2) with
     | true,some (us,o1,h1)=>match writeSl h1 us id p s (ixAdd st len) with
       | some (o2,h2)=>some ⟨andOk (leIx (ixAdd len (.lit n)) cap) (andOk o1 o2),.t (.a (.sl id p s st (ixAdd len (.lit n)) (some cap))),h2⟩
       | none=>none
     | _,_=>none
   | _,_=>none
 | _,_,_=>none
def grows (x y:A):Option (Nat×Nat×Nat):=match x,y with
 | .nils,.sl _ _ _ _ (.lit n) _=>some (0,0,n)
 | .sl _ _ _ _ (.lit l) (some (.lit c)),.sl _ _ _ _ (.lit n) _=>some (l,c,n)
 | _,_=>none
def strideOk:A->Nat->Bool
 | .sl _ _ s _ _ _,k=>Nat.beq k s
 | _,_=>true
def zeroSz (P:Program) (t:TypeId) (k:Nat):Bool:=match zeroT P t with
 | some z=>optEqN z.size (some k)
 | none=>false
def evGrow (P:Program) (h:H) (t:TypeId) (x y:A) (l c n:Nat):Option OpR:=
 match P.underlying t with
 | some (.slice elem)=>match sizeT P elem,(P.info? elem).map (·.bytes) with
   | some k,some b=>match Nat.blt c (l+n)&&(Nat.ble (l+n) 4096&&(Nat.ble b 4096&&(zeroSz P elem k&&(strideOk x k&&strideOk y k)))) with
     | true=>match readSl h l x with
       | some (us0,o0,h0)=>match readSl h0 n y with
         | some (us1,o1,h1)=>match (us0++us1).all fun u=>optEqN u.size (some k) with
           | true=>some ⟨andOk o0 o1,.t (.a (.sl h1.next [] k (.lit 0) (.lit (l+n)) none)),h1.new ⟨true,.lst k (us0++us1)⟩⟩
           | false=>none
         | none=>none
       | none=>none
     | false=>none
   | _,_=>none
 | _=>none
def evAppendG (P:Program) (h:H) (t:TypeId) (x y:A):Option OpR:=
 match grows x y with
 | some (l,c,n)=>match Nat.blt c (l+n) with
   | true=>evGrow P h t x y l c n
   | false=>evAppend P h t x y
 | none=>evAppend P h t x y
def evCopy (P:Program) (h:H) (t:TypeId) (x y:A):Option OpR:=
 match P.underlying t,x,y with
 | some (.slice elem),.sl _ _ _ _ _ _,.nils=>match sizeT P elem with
   | some _=>some ⟨.tt,.t (.a (.lit .i64 0)),h⟩
   | none=>none
 | some (.slice elem),.sl id p s st (.lit m) _,.sl id2 p2 s2 st2 (.lit n) cap2=>match sizeT P elem,Nat.beq s s2&&Nat.ble (Nat.min n m) 4096 with
   | some k,true=>match Nat.beq k s,readSl h (Nat.min n m) (.sl id2 p2 s2 st2 (.lit n) cap2) with
     | true,some (us,o1,h1)=>match writeSl h1 us id p s st with
       | some (o2,h2)=>some ⟨andOk o1 o2,.t (.a (.lit .i64 (Nat.min n m:Nat))),h2⟩
       | none=>none
     | _,_=>none
   | _,_=>none
 | _,_,_=>none
def evalBuiltin (P:Program) (h:H) (b:Builtin) (vs:List V) (ts:Array TypeId):Option OpR:=
 match b with
 | .append=>match vs,ts[0]?,(ts[1]?).bind P.underlying with
   | [.t (.a x),.t (.a y)],some t,some (.slice _)=>evAppendG P h t x y
   | _,_,_=>none
 | .copy=>match vs,ts[0]? with
   | [.t (.a x),.t (.a y)],some t=>evCopy P h t x y
   | _,_=>none
 | .len=>match vs,(ts[0]?).bind P.underlying with
   | [.t (.a (.sl _ _ _ _ len _))],some (.slice _)=>some ⟨ixSmall len,.t (.a (ixInt len)),h⟩
   | [.t (.a .nils)],some (.slice _)=>mkA h (.lit .i64 0)
   | [.t (.a (.raw (.string s)))],some .string=>match decide (IntKind.i64.wrap (s.size:Int)=(s.size:Int)) with
     | true=>mkA h (.lit .i64 s.size)
     | false=>none
   | _,_=>none
 | .min=>match vs with
   | .t (.a x)::r=>(foldA minA x r).bind (mkA h)
   | _=>none
 | .max=>match vs with
   | .t (.a x)::r=>(foldA maxA x r).bind (mkA h)
   | _=>none
 | _=>none
def R.one:R->Option OpR
 | .leaf ok v h=>some ⟨ok,v,h⟩
 | _=>none
def evalCall (cx:Cx) (call:CallE) (G:Cond) (gt:Nat->Ent) (h:H) (c:Call):Option OpR:=
 match opVs G gt c.args.toList with
 | none=>none
 | some vs=>
   match c.callee with
   | .value f=>match opA G gt f with
     | some (.fn f caps)=>(call f (vs++caps.map fun x =>.t (.a x)) h).one
     | _=>none
   | .builtin b=>evalBuiltin cx.P h b vs c.argTypes
   | _=>none
def pickC (c:Operand) (want:Bool):Cond:=
 match c with
 | .tmp s=>some (s,want)
 | _=>none
def evalPick (h:H) (G:Cond) (gt:Nat->Ent) (c a b:Operand):Option OpR:=
 match opA G gt c with
 | some .tt=>(opV G (pickC c true) gt a).bind (mkR h)
 | some .ff=>(opV G (pickC c false) gt b).bind (mkR h)
 | some (.b x)=>match opV G (pickC c true) gt a,opV G (pickC c false) gt b with
   | some va,some vb=>mkR h (mergeV x va vb)
   | _,_=>none
 | _=>none
def placesOf (P:Program):List Field->Option (List (Nat×Nat))
 | []=>some []
 | f::fs=>match sizeT P f.type,placesOf P fs with
   | some n,some r=>some ((f.offset,n)::r)
   | _,_=>none
def mkAgg (h:H) (t:T):Option OpR:=match aggB t with
 | true=>mkR h (.t t)
 | false=>none
def putParts (pl:Nat->Option (Nat×Nat)) (mk:Nat->Nat->Step):T->List (Nat×V)->Option T
 | z,[]=>some z
 | z,(i,v)::r=>match v.cells,pl i with
   | some t,some (off,n)=>match optEqN t.size (some n) with
     | true=>match pathOk [mk i off] z with
       | .tt=>match updT t [mk i off] z with
         | some z'=>putParts pl mk z' r
         | none=>none
       | _=>none
     | false=>none
   | _,_=>none
def ixOpt (G:Cond) (gt:Nat->Ent):Option Operand->Option (Option A)
 | none=>some none
 | some x=>match opA G gt x with
   | some n=>some (some n)
   | none=>none
def strAt (s:ByteArray) (x:BitVec 64):BitVec 64:=
 match s[x.toNat]? with
 | some b=>BitVec.ofNat 64 b.toNat
 | none=>0#64
def strA (s:ByteArray):A->Option (A×A)
 | .lit _ n=>match n with
   | .ofNat m=>match s[m]? with
     | some b=>some (.tt,.lit .u8 b.toNat)
     | none=>none
   | .negSucc _=>none
 | .i k x=>match k.signed with
   | true=>none
   | false=>some (match kEq k .u8&&Nat.ble 256 s.size with|true =>.tt|false =>.b (Nat.blt (nrm k x).toNat s.size),.i .u8 (strAt s (nrm k x)))
 | _=>none
def evAlloc (cx:Cx) (h:H) (t:TypeId):Option OpR:=
 match zeroT cx.P t with
 | some z=>some ⟨.tt,.t (.a (.ptr h.next [])),h.new ⟨true,z⟩⟩
 | none=>none
def evBox (P:Program) (h:H) (t:TypeId):Option V->Option OpR
 | some v=>match v.cells with
   | some v=>match optEqN v.size (sizeT P t) with
     | true=>some ⟨.tt,.t (.a (.ptr h.next [])),h.new ⟨true,v⟩⟩
     | false=>none
   | none=>none
 | none=>none
def evBuild2 (cx:Cx) (h:H) (ps:List (Nat×V)) (z:T):TypeDesc->Option OpR
 | .struct fields=>match placesOf cx.P fields.toList with
   | some pl=>(putParts (pl[·]?) .f z ps).bind (mkAgg h)
   | none=>none
 | .array _ elem=>match sizeT cx.P elem with
   | some n=>(putParts (fun i=>some (i*n,n)) (fun i _ =>.x n (.lit i)) z ps).bind (mkAgg h)
   | none=>none
 | _=>none
def evBuild (cx:Cx) (h:H) (t:TypeId) (ps:Option (List (Nat×V))):Option OpR:=
 match ps with
 | some ps=>match zeroT cx.P t with
   | some z=>match cx.P.underlying t with
     | some d=>evBuild2 cx h ps z d
     | none=>none
   | none=>none
 | none=>none
def evBuildSlice2 (h:H) (elem:TypeId) (len:Nat) (ps:List (Nat×V)) (n:Nat) (z:T):Option OpR:=
 match Nat.blt 0 n&&Nat.blt 0 len&&Nat.ble (len*n) 4096&&optEqN z.size (some n) with
 | true=>match putParts (fun i=>some (i*n,n)) (fun i _ =>.x n (.lit i)) (.lst n (List.replicate len z)) ps with
   | some cs=>some ⟨.tt,.t (.a (.sl h.next [] n (.lit 0) (.lit len) (some (.lit len)))),h.new ⟨true,cs⟩⟩
   | none=>none
 | false=>none
def evBuildSlice (cx:Cx) (h:H) (t:TypeId) (len:Nat) (ps:Option (List (Nat×V))):Option OpR:=
 match ps with
 | some ps=>match cx.P.underlying t with
   | some (.slice elem)=>match sizeT cx.P elem with
     | some n=>match zeroT cx.P elem with
       | some z=>evBuildSlice2 h elem len ps n z
       | none=>none
     | none=>none
   | _=>none
 | none=>none
def evStore (cx:Cx) (h:H) (t:TypeId) (a:Option A) (x:Option V):Option OpR:=
 match a with
 | some a=>match x with
   | some x=>evalStore cx.P h t a x
   | none=>none
 | none=>none
def evNilCheck (h:H):Option A->Option OpR
 | some (.ptr id p)=>mkA h (.ptr id p)
 | _=>none
def evBin (cx:Cx) (h:H) (op:BinOp) (t:TypeId) (x y:Option V):Option OpR:=
 match x with
 | some x=>match y with
   | some y=>evalBin cx h op t x y
   | none=>none
 | none=>none
def evUn (h:H) (op:UnOp) (x:Option A):Option OpR:=
 match x with
 | some x=>(unA op x).bind (mkA h)
 | none=>none
def evConv (cx:Cx) (h:H) (src dst:TypeId) (x:Option A):Option OpR:=
 match x with
 | some x=>match cx.P.underlying src with
   | some _=>match cx.P.underlying dst with
     | some (.int k)=>(convA k x).bind (mkA h)
     | _=>none
   | none=>none
 | none=>none
def evMakeFunc (h:H) (fn:Fn) (first:List Operand) (cs:Option (List A)):Option OpR:=
 match fn with
 | .func f=>match first with
   | []=>match cs with
     | some cs=>match cs.all A.solid with
       | true=>mkA h (.fn f cs)
       | false=>none
     | none=>none
   | _::_=>none
 | _=>none
def evFieldAddr (cx:Cx) (h:H) (s:TypeId) (f:Nat) (x:Option A):Option OpR:=
 match x with
 | some (.ptr id p)=>match cx.P.underlying s with
   | some (.struct fields)=>match fields[f]? with
     | some f'=>match sizeT cx.P f'.type with
       | some (_+1)=>mkA h (.ptr id (p++[.f f f'.offset]))
       | _=>none
     | none=>none
   | _=>none
 | _=>none
def evField (cx:Cx) (h:H) (s:TypeId) (f:Nat) (x:Option V):Option OpR:=
 match x with
 | some (.t t)=>match cx.P.underlying s with
   | some (.struct fields)=>match fields[f]? with
     | some f'=>match subT [.f f f'.offset] t with
       | some u=>match fitsT cx.P f'.type u with
         | true=>some ⟨pathOk [.f f f'.offset] t,.t u,h⟩
         | false=>none
       | none=>none
     | none=>none
   | _=>none
 | _=>none
def evIndexAddr2 (cx:Cx) (h:H) (x i:A):TypeDesc->Option OpR
 | .array len elem=>match x with
   | .ptr id p=>match ixOf i (.lit len) with
     | some (j,ok)=>match sizeT cx.P elem with
       | some n=>some ⟨ok,.t (.a (.ptr id (p++[.x n j]))),h⟩
       | none=>none
     | none=>none
   | _=>none
 | .slice elem=>match x with
   | .sl id p s st len _=>match ixOf i len with
     | some (j,ok)=>match sizeT cx.P elem with
       | some n=>match Nat.beq n s with
         | true=>some ⟨ok,.t (.a (.ptr id (p++[.x n (ixAdd st j)]))),h⟩
         | false=>none
       | none=>none
     | none=>none
   | _=>none
 | _=>none
def evIndexAddr (cx:Cx) (h:H) (t:TypeId) (x i:Option A):Option OpR:=
 match x with
 | some x=>match i with
   | some i=>match cx.P.underlying t with
     | some d=>evIndexAddr2 cx h x i d
     | none=>none
   | none=>none
 | none=>none
def evIndex2 (cx:Cx) (h:H) (x:V) (i:A):TypeDesc->Option OpR
 | .string=>match x with
   | .t (.a (.raw (.string s)))=>match strA s i with
     | some (ok,z)=>some ⟨ok,.t (.a z),h⟩
     | none=>none
   | _=>none
 | .array len elem=>match x with
   | .t t=>match ixOf i (.lit len) with
     | some (j,ok)=>match sizeT cx.P elem with
       | some n=>match subT [.x n j] t with
         | some u=>match fitsT cx.P elem u with
           | true=>some ⟨andOk ok (pathOk [.x n j] t),.t u,h⟩
           | false=>none
         | none=>none
       | none=>none
     | none=>none
   | _=>none
 | _=>none
def evIndex (cx:Cx) (h:H) (t:TypeId) (x:Option V) (i:Option A):Option OpR:=
 match x with
 | some x=>match i with
   | some i=>match cx.P.underlying t with
     | some d=>evIndex2 cx h x i d
     | none=>none
   | none=>none
 | none=>none
def evExtract (h:H) (ix:Nat):Option V->Option OpR
 | some (.tup ws)=>match ws[ix]? with
   | some t=>mkR h (.t t)
   | none=>none
 | _=>none
def evMove (h:H):Option V->Option OpR
 | some v=>mkR h v
 | none=>none
def boundOpt (d:Ix):Option (Option A)->Option (Ix×A)
 | none=>some (d,.tt)
 | some none=>none
 | some (some x)=>toIx x
def evSlice2 (cx:Cx) (h:H) (x:A) (lo hi:Option (Option A)):TypeDesc->Option OpR
 | .slice elem=>match x,sizeT cx.P elem with
   | .sl id p s st len cap,some n=>match Nat.beq n s,boundOpt (.lit 0) lo,boundOpt len hi with
     | true,some (l,o1),some (u,o2)=>
       some ⟨andOk (andOk o1 o2) (andOk (leIx l u) (leIx u (capOr cap len))),.t (.a (.sl id p s (ixAdd st l) (subIx u l) (cap.map fun c=>subIx c l))),h⟩
     | _,_,_=>none
   | _,_=>none
 | .array n elem=>match x,sizeT cx.P elem,boundOpt (.lit 0) lo,boundOpt (.lit n) hi with
   | .ptr id p,some s,some (l,o1),some (u,o2)=>
     some ⟨andOk (andOk o1 o2) (andOk (leIx l u) (leIx u (.lit n))),.t (.a (.sl id p s l (subIx u l) (some (subIx (.lit n) l)))),h⟩
   | _,_,_,_=>none
 | _=>none
def optA (G:Cond) (gt:Nat->Ent):Option Operand->Option (Option A)
 | none=>none
 | some x=>some (opA G gt x)
def evSlice (cx:Cx) (h:H) (t:TypeId) (x:Option A) (lo hi:Option (Option A)) (mx:Option Operand):Option OpR:=
 match x,mx with
 | some x,none=>match cx.P.underlying t with
   | some d=>evSlice2 cx h x lo hi d
   | none=>none
 | _,_=>none
def bytesT (P:Program) (t:TypeId):Option Nat:=(P.info? t).map (·.bytes)
def evMakeSlice (cx:Cx) (h:H) (t:TypeId) (l c:Option A):Option OpR:=
 match l,c with
 | some l,some (.lit _ (.ofNat c))=>match toIx l,cx.P.underlying t with
   | some (l,o),some (.slice elem)=>match sizeT cx.P elem,zeroT cx.P elem,bytesT cx.P elem with
     | some s,some z,some b=>match Nat.blt 0 s&&Nat.ble c 4096&&Nat.ble b 4096&&optEqN z.size (some s) with
       | true=>some ⟨andOk o (leIx l (.lit c)),.t (.a (.sl h.next [] s (.lit 0) l (some (.lit c)))),h.new ⟨true,.lst s (List.replicate c z)⟩⟩
       | false=>none
     | _,_,_=>none
   | _,_=>none
 | _,_=>none
def evIface (cx:Cx) (h:H) (t:TypeId):Option A->Option OpR
 | some x=>match isAggT cx.P t,x.solid with
   | some false,true=>match cx.P.underlying t with
     | some (.interface _)=>none
     | _=>mkA h (.iface t x)
   | _,_=>none
 | none=>none
def mapTy (P:Program) (t:TypeId):Option (IntKind×TypeId):=
 match P.underlying t with
 | some (.map kt e)=>match P.underlying kt with
   | some (.int k)=>some (k,e)
   | _=>none
 | _=>none
def hintOk:Option Operand->Bool
 | none=>true
 | some (.const (.int _ _))=>true
 | _=>false
def evMakeMap (cx:Cx) (h:H) (t:TypeId) (hint:Option Operand):Option OpR:=
 match hintOk hint,mapTy cx.P t with
 | true,some (k,_)=>some ⟨.tt,.t (.a (.mapp h.next)),h.new ⟨true,.mp k [] []⟩⟩
 | _,_=>none
def zeroV (P:Program) (t:TypeId):Option T:=
 match zeroT P t,(P.info? t).bind (·.zero) with
 | some (.a x),some v=>match cellB v with
   | true=>some (.a x)
   | false=>none
 | some (.st fs),some (.agg _)=>some (.st fs)
 | some (.lst s ts),some (.agg _)=>some (.lst s ts)
 | _,_=>none
def findK (n:Int):List Int->List T->Option T
 | k::ks,t::ts=>match decide (n=k) with
   | true=>some t
   | false=>findK n ks ts
 | _,_=>none
def evMapUpdate (cx:Cx) (h:H) (t:TypeId) (m key:Option A) (v:Option V):Option OpR:=
 match m,key,v,mapTy cx.P t with
 | some (.mapp id),some (.lit k n),some (.t u),some (k1,_)=>match h.m.get id with
   | some b=>match b.t with
     | .mp k2 ks ts=>match b.rw&&kEq k k1&&kEq k k2 && !(ks.any fun j=>decide (n=j)) with
       | true=>some ⟨.tt,.t (.a .undef),(h.see id).put id ⟨true,.mp k2 (ks++[n]) (ts++[u])⟩⟩
       | false=>none
     | _=>none
   | none=>none
 | _,_,_,_=>none
def lookRes (h:H) (ok:Bool) (u:T) (found:Bool):OpR:=
 match ok with
 | true=>⟨.tt,.tup [u,.a (ofDec found)],h⟩
 | false=>⟨.tt,.t u,h⟩
def evLookup0 (cx:Cx) (h:H) (t:TypeId) (m key:Option A) (ok:Bool):Option OpR:=
 match m,key,mapTy cx.P t with
 | some (.mapp id),some (.lit k n),some (k1,e)=>match h.m.get id with
   | some b=>match b.t with
     | .mp k2 ks ts=>match kEq k k1&&kEq k k2 with
       | true=>match findK n ks ts with
         | some u=>some (lookRes (h.see id) ok u true)
         | none=>match zeroV cx.P e with
           | some z=>some (lookRes (h.see id) ok z false)
           | none=>none
       | false=>none
     | _=>none
   | none=>none
 | _,_,_=>none
def pinKey (cx:Cx) (key:Option A):Option A×A:=match key with
 | some (.i k x)=>match cx.pin with
   | some n=>match decide (k.wrap n=n) with
     | true=>(some (.lit k n),.b (x==BitVec.ofInt 64 n))
     | false=>(none,.tt)
   | none=>(none,.tt)
 | y=>(y,.tt)
def evLookup (cx:Cx) (h:H) (t:TypeId) (m key:Option A) (ok:Bool):Option OpR:=
 match pinKey cx key with
 | (key,o)=>match evLookup0 cx h t m key ok with
   | some r=>some { r with ok:=o }
   | none=>none
def pinA:Option Int->A->A×A
 | some n,.i k x=>match decide (k.wrap n=n) with
   | true=>(.b (x==BitVec.ofInt 64 n),.lit k n)
   | false=>(.tt,.i k x)
 | _,a=>(.tt,a)
def pinTs:List (Option Int)->List T->A×List T
 | k::ks,.a x::ts=>(andOk (pinA k x).1 (pinTs ks ts).1,.a (pinA k x).2::(pinTs ks ts).2)
 | _,ts=>(.tt,ts)
def lastF:List Step->Option Nat
 | []=>none
 | .f k _::p=>match p with
   | []=>some k
   | _::_=>lastF p
 | .x _ _::p=>lastF p
def pinV (ks:List (Option Int)) (p:List Step):V->A×V
 | .t (.a x)=>match lastF p with
   | some i=>((pinA (ks.getD i none) x).1,.t (.a (pinA (ks.getD i none) x).2))
   | none=>(.tt,.t (.a x))
 | .t (.st ts)=>((pinTs ks ts).1,.t (.st (pinTs ks ts).2))
 | v=>(.tt,v)
def evLoad (cx:Cx) (h:H) (t:TypeId):Option A->Option OpR
 | some a=>match evalLoad cx.P h t a with
   | some r=>match cx.pinL,a with
     | some (id,ks),.ptr id' p=>match Nat.beq id id' with
       | true=>some ⟨andOk r.ok (pinV ks p r.v).1,(pinV ks p r.v).2,r.h⟩
       | false=>some r
     | _,_=>some r
   | none=>none
 | none=>none
def evalOp (cx:Cx) (call:CallE) (G:Cond) (gt:Nat->Ent) (h:H) (op:Op):Option OpR:=
 match op with
 | .move x=>evMove h (opV G none gt x)
 | .assign x=>evMove h (opV G none gt x)
 | .pick c a b=>evalPick h G gt c a b
 | .alloc t=>evAlloc cx h t
 | .box t x=>evBox cx.P h t (opV G none gt x)
 | .build t parts=>evBuild cx h t (opParts G gt parts.toList)
 | .buildSlice t len parts=>evBuildSlice cx h t len (opParts G gt parts.toList)
 | .load t a=>evLoad cx h t (opA G gt a)
 | .store t a x=>evStore cx h t (opA G gt a) (opV G none gt x)
 | .nilCheck x=>evNilCheck h (opA G gt x)
 | .binOp op t x y _=>evBin cx h op t (opV G none gt x) (opV G none gt y)
 | .unOp op _ x=>evUn h op (opA G gt x)
 | .convert src dst x=>evConv cx h src dst (opA G gt x)
 | .makeFunc fn first captured=>evMakeFunc h fn first.toList (opAs G gt captured.toList)
 | .fieldAddr s x f=>evFieldAddr cx h s f (opA G gt x)
 | .field s x f=>evField cx h s f (opV G none gt x)
 | .indexAddr t x ix=>evIndexAddr cx h t (opA G gt x) (opA G gt ix)
 | .index t x ix=>evIndex cx h t (opV G none gt x) (opA G gt ix)
 | .extract x ix=>evExtract h ix (opV G none gt x)
 | .makeInterface t x=>evIface cx h t (opA G gt x)
 | .slice t x lo hi mx=>evSlice cx h t (opA G gt x) (optA G gt lo) (optA G gt hi) mx
 | .makeSlice t l c=>evMakeSlice cx h t (opA G gt l) (opA G gt c)
 | .makeMap t r=>evMakeMap cx h t r
 | .mapUpdate t m k x=>evMapUpdate cx h t (opA G gt m) (opA G gt k) (opV G none gt x)
 | .insert t m k x=>evMapUpdate cx h t (opA G gt m) (opA G gt k) (opV G none gt x)
 | .lookup t m k ok=>evLookup cx h t (opA G gt m) (opA G gt k) ok
 | .call c=>evalCall cx call G gt h c
 | _=>none
def R.ofOpt:Option OpR->R
 | some r =>.leaf r.ok r.v r.h
 | none =>.fail
def evalCallR (cx:Cx) (call:CallE) (gt:Nat->Ent) (h:H) (c:Call):R:=
 match opVs none gt c.args.toList with
 | none =>.fail
 | some vs=>
   match c.callee with
   | .value f=>match opA none gt f with
     | some (.fn f caps)=>call f (vs++caps.map fun x =>.t (.a x)) h
     | _ =>.fail
   | .builtin b=>R.ofOpt (evalBuiltin cx.P h b vs c.argTypes)
   | _ =>.fail
def evalPanic (h:H):Option A->R
 | some (.iface t x) =>.pan .tt (.iface t x) h
 | _ =>.fail
def getT (l:List (Nat×Ent)) (s:Nat):Ent:=
 match l with
 | []=>⟨none,.t (.a .poison)⟩
 | (s',e)::r=>match Nat.beq s' s with|true=>e|false=>getT r s
def St.get (km:Nat) (st:St) (s:Nat):Ent:=match bitB km s with
 | true=>match st.vars.get s with
   | some e=>e
   | none=>⟨none,.t (.a .poison)⟩
 | false=>getT st.tmps s
def St.put (km:Nat) (st:St) (d:Option Nat) (e:Ent):St:=
 match d with
 | none=>st
 | some d=>match bitB km d with
   | true=>{ st with vars:=st.vars.set d (match e.c with|none=>e|some _=>⟨none,.t (.a .poison)⟩),vd:=d::st.vd }
   | false=>{ st with tmps:=(d,e)::st.tmps }
def dstOf (ops:List Oper) (j:Nat):Option Nat:=
 match ops[j]? with
 | some o=>o.dst
 | none=>none
def condOk (G:Cond) (gb:Bool) (ok:A):A:=
 match G with
 | none=>ok
 | some _=>match ok with
   | .tt =>.tt
   | .b x =>.b (!gb||x)
   | ok =>.b (!gb||okB ok)
def mergeOk (x:Bool):A->A->A
 | .tt,.tt =>.tt
 | .tt,.b q =>.b (bif x then true else q)
 | .b p,.tt =>.b (bif x then p else true)
 | .b p,.b q =>.b (bif x then p else q)
 | p,q =>.b (bif x then okB p else okB q)
structure Fp where
 km:Nat
 nt:Nat
 it:Nat
 lam:Nat->St->Option Out
def dstFine (nt:Nat):Option Nat->Bool
 | none=>true
 | some d=>Nat.blt d nt
def preC (G:Cond) (h:H):H:=
 match G with
 | none=>h
 | some _=>h.mark
def plainA (n:Nat):A->Bool
 | .ptr id _=>Nat.blt id n
 | .sl id _ _ _ _ _=>Nat.blt id n
 | .fn _ caps=>match caps with|[]=>true|_::_=>false
 | .iface _ _=>false
 | .mapp id=>Nat.blt id n
 | _=>true
def plainTs (n:Nat):List T->Bool
 | []=>true
 | .a x::r=>plainA n x&&plainTs n r
 | _::r=>plainTs n r
def plainV (n:Nat):V->Bool
 | .t (.a x)=>plainA n x
 | .t _=>true
 | .tup ts=>plainTs n ts
def underC (G:Cond) (h h':H) (v:V):Option H:=
 match G with
 | none=>some h'
 | some _=>match h'.wr with
   | []=>match plainV h.next v with
     | true=>some { h with rd:=noteAll h.lo h'.rd h.rd,next:=h'.next }
     | false=>none
   | _::_=>none
def runOp (cx:Cx) (call:CallE) (fp:Fp) (G:Cond) (gb:Bool) (st:St) (o:Oper):Option St:=
 match evalOp cx call G (st.get fp.km) (preC G st.h) o.op with
 | none=>none
 | some r=>match underC G st.h r.h r.v with
   | none=>none
   | some h=>some (({ st with ok:=andOk st.ok (condOk G gb r.ok),h:=h }:St).put fp.km o.dst ⟨G,r.v⟩)
def stepG2 (cx:Cx) (call:CallE) (fp:Fp) (sj:Nat) (want:Bool) (st:St) (o:Oper) (c:Cond) (x:Bool):Option St:=
 match c with
 | none=>match want with
   | true=>match x with
     | true=>runOp cx call fp none true st o
     | false=>some (st.put fp.km o.dst ⟨none,.t (.a .undef)⟩)
   | false=>match x with
     | true=>some (st.put fp.km o.dst ⟨none,.t (.a .undef)⟩)
     | false=>runOp cx call fp none true st o
 | some _=>runOp cx call fp (some (sj,want)) (x==want) st o
def stepG1 (cx:Cx) (call:CallE) (fp:Fp) (sj:Nat) (want:Bool) (st:St) (o:Oper) (e:Ent):Option St:=
 match e.v with
 | .t (.a x)=>match x with
   | .tt=>stepG2 cx call fp sj want st o e.c true
   | .ff=>stepG2 cx call fp sj want st o e.c false
   | .b x=>runOp cx call fp (some (sj,want)) (match want with|true=>x|false => !x) st o
   | .undef=>some (st.put fp.km o.dst ⟨none,.t (.a .undef)⟩)
   | _=>none
 | _=>none
def stepG (cx:Cx) (call:CallE) (fp:Fp) (i:Nat) (ops:List Oper) (st:St) (o:Oper) (j:Nat) (want:Bool):Option St:=
 match Nat.blt j i with
 | true=>match dstOf ops j with
   | some sj=>stepG1 cx call fp sj want st o (st.get fp.km sj)
   | none=>none
 | false=>none
def stepOp (cx:Cx) (call:CallE) (fp:Fp) (i:Nat) (ops:List Oper) (st:St) (o:Oper):Option St:=
 match dstFine fp.nt o.dst with
 | false=>none
 | true=>match o.guard with
   | none=>runOp cx call fp none true st o
   | some (j,want)=>stepG cx call fp i ops st o j want
def R.toOut (fp:Fp) (st:St) (o:Oper):R->Out
 | .fail =>.fail
 | .leaf ok v h =>.leaf .nrm (({ st with ok:=andOk st.ok ok,h:=h }:St).put fp.km o.dst ⟨none,v⟩)
 | .pan ok v h =>.leaf (.pan v) { st with ok:=andOk st.ok ok,h:=h }
 | .node x a b =>.node x (a.toOut fp st o) (b.toOut fp st o)
def evalDefer (gt:Nat->Ent) (c:Call):Option (FuncId×List V):=
 match opVs none gt c.args.toList with
 | none=>none
 | some vs=>match c.callee with
   | .value f=>match opA none gt f with
     | some (.fn f caps)=>some (f,vs++caps.map fun x =>.t (.a x))
     | _=>none
   | _=>none
def runR (cx:Cx) (call:CallE) (fp:Fp) (st:St) (o:Oper):Out:=
 match o.op with
 | .call c=>(evalCallR cx call (st.get fp.km) st.h c).toOut fp st o
 | .panic x=>(evalPanic st.h (opA none (st.get fp.km) x)).toOut fp st o
 | .defer c=>match evalDefer (st.get fp.km) c with
   | some d =>.leaf .nrm (({ st with defs:=d::st.defs }:St).put fp.km o.dst ⟨none,.t (.a .undef)⟩)
   | none =>.fail
 | _=>match runOp cx call fp none true st o with
   | some s =>.leaf .nrm s
   | none =>.fail
def eqBool:Bool->Bool->Bool
 | true,true=>true
 | false,false=>true
 | _,_=>false
def knowE (sj:Nat) (want:Bool) (e:Ent):Ent:=
 match e.c with
 | none=>e
 | some (s,w)=>match Nat.beq s sj with
   | true=>match eqBool w want with
     | true=>⟨none,e.v⟩
     | false=>⟨none,.t (.a .undef)⟩
   | false=>e
def knowT (sj:Nat) (want:Bool):List (Nat×Ent)->List (Nat×Ent)
 | []=>[]
 | (s,e)::r=>(s,knowE sj want e)::knowT sj want r
def St.know (km:Nat) (st:St) (sj:Nat) (want:Bool):St:=
 ({ st with tmps:=knowT sj want st.tmps }:St).put km (some sj) ⟨none,.t (.a (ofDec want))⟩
def skipO (fp:Fp) (st:St) (o:Oper):Out :=.leaf .nrm (st.put fp.km o.dst ⟨none,.t (.a .undef)⟩)
def runIf (cx:Cx) (call:CallE) (fp:Fp) (go:Bool) (st:St) (o:Oper):Out:=
 match go with
 | true=>runR cx call fp st o
 | false=>skipO fp st o
def splitG (cx:Cx) (call:CallE) (fp:Fp) (sj:Nat) (want:Bool) (st:St) (o:Oper) (x:Bool):Out:=
 .node x (runIf cx call fp (eqBool true want) (st.know fp.km sj true) o) (runIf cx call fp (eqBool false want) (st.know fp.km sj false) o)
def isCall:Op->Bool
 | .call _=>true
 | .panic _=>true
 | .store _ _ _=>true
 | _=>false
def Out.ofSt:Option St->Out
 | some s =>.leaf .nrm s
 | none =>.fail
def stepS3 (cx:Cx) (call:CallE) (fp:Fp) (sj:Nat) (want:Bool) (st:St) (o:Oper) (e:Ent) (x:Bool):Out:=
 match isCall o.op with
 | true=>splitG cx call fp sj want st o x
 | false=>match stepG1 cx call fp sj want st o e with
   | some s =>.leaf .nrm s
   | none=>splitG cx call fp sj want st o x
def stepS2a (cx:Cx) (call:CallE) (fp:Fp) (sj:Nat) (want:Bool) (st:St) (o:Oper) (e:Ent):Out:=
 match e.c with
 | none=>match e.v with
   | .t (.a x)=>match x with
     | .tt=>runIf cx call fp (eqBool true want) st o
     | .ff=>runIf cx call fp (eqBool false want) st o
     | .b x=>stepS3 cx call fp sj want st o e x
     | .undef=>Out.ofSt (stepG1 cx call fp sj want st o e)
     | _ =>.fail
   | _ =>.fail
 | some _=>Out.ofSt (stepG1 cx call fp sj want st o e)
def stepS2 (cx:Cx) (call:CallE) (fp:Fp) (sj:Nat) (want:Bool) (st:St) (o:Oper) (e:Ent):Out:=
 match e.c with
 | none=>stepS2a cx call fp sj want st o e
 | some (s',_)=>match isCall o.op && !Nat.beq s' sj with
   | true=>match (st.get fp.km s').c,(st.get fp.km s').v with
     | none,.t (.a (.b y)) =>.node y
       (stepS2a cx call fp sj want (st.know fp.km s' true) o ((st.know fp.km s' true).get fp.km sj))
       (stepS2a cx call fp sj want (st.know fp.km s' false) o ((st.know fp.km s' false).get fp.km sj))
     | _,_=>stepS2a cx call fp sj want st o e
   | false=>stepS2a cx call fp sj want st o e
def stepS (cx:Cx) (call:CallE) (fp:Fp) (i:Nat) (ops:List Oper) (st:St) (o:Oper):Out:=
 match dstFine fp.nt o.dst with
 | false =>.fail
 | true=>match o.guard with
   | none=>runR cx call fp st o
   | some (j,want)=>match Nat.blt j i with
     | true=>match dstOf ops j with
       | some sj=>stepS2 cx call fp sj want st o (st.get fp.km sj)
       | none =>.fail
     | false =>.fail
def Out.bind (f:St->Out):Out->Out
 | .fail =>.fail
 | .leaf .nrm s=>f s
 | .leaf e s =>.leaf e s
 | .node x a b =>.node x (a.bind f) (b.bind f)
def evalOps (cx:Cx) (call:CallE) (fp:Fp) (ops:List Oper):Nat->List Oper->St->Out
 | _,[],st =>.leaf .nrm st
 | i,o::rest,st=>(stepS cx call fp i ops st o).bind (evalOps cx call fp ops (i+1) rest)
structure Ft where
 rd:List Nat
 wr:List Nat
 lo:Nat
 hi:Nat
def evalOpsD (cx:Cx) (call:CallE) (fp:Fp) (ops:List Oper):Nat->List Oper->St->Option (St×List Ft)
 | _,[],st=>some (st,[])
 | i,o::rest,st=>match stepOp cx call fp i ops { st with h:=st.h.mark } o with
   | none=>none
   | some st'=>match evalOpsD cx call fp ops (i+1) rest { st' with h:=st.h.back st'.h } with
     | none=>none
     | some (s,l)=>some (s,⟨st'.h.rd,st'.h.wr,st.h.next,st'.h.next⟩::l)
def plainP:A->Bool
 | .iface _ (.lit _ _)=>true
 | .iface _ (.i _ _)=>true
 | _=>false
def evalPanOp (cx:Cx) (call:CallE) (fp:Fp) (st:St) (o:Oper):Option (A×A×H):=
 match o.guard,o.op with
 | none,.call c=>match evalCallR cx call (st.get fp.km) st.h.mark c with
   | .pan ok v h=>some (ok,v,h)
   | _=>none
 | _,_=>none
def waitsP (D:Array Nat) (i:Nat):Option (Nat×A)->Bool
 | some (p,_)=>bitB (D.getD i 0) p
 | none=>false
def St.stall (km:Nat) (st:St) (o:Oper) (ok:A) (rd:List Nat):St:=
 ({ st with ok:=andOk st.ok ok,h:={ st.h.mark with rd:=rd } }:St).put km o.dst ⟨none,.t (.a .poison)⟩
def stepP (cx:Cx) (call:CallE) (fp:Fp) (ops:List Oper) (D:Array Nat) (i:Nat) (o:Oper) (q:Option (Nat×A)) (st:St):Option (Option (Nat×A)×St):=
 match waitsP D i q with
 | true=>some (q,st.stall fp.km o .tt [])
 | false=>match stepOp cx call fp i ops { st with h:=st.h.mark } o with
   | some st'=>some (q,st')
   | none=>match q with
     | some _=>none
     | none=>match evalPanOp cx call fp st o with
       | some (ok,v,h)=>match h.wr,plainP v with
         | [],true=>some (some (i,v),st.stall fp.km o ok h.rd)
         | _,_=>none
       | none=>none
def evalOpsP (cx:Cx) (call:CallE) (fp:Fp) (ops:List Oper) (D:Array Nat):Nat->List Oper->Option (Nat×A)->St->Option (St×List Ft×Nat×A)
 | _,[],q,st=>match q with
   | none=>none
   | some (p,v)=>some (st,[],p,v)
 | i,o::rest,q,st=>match stepP cx call fp ops D i o q st with
   | none=>none
   | some (q',st')=>match st'.h.wr with
     | []=>match evalOpsP cx call fp ops D (i+1) rest q' { st' with h:=st.h.back st'.h } with
       | none=>none
       | some (s,l,r)=>some (s,⟨st'.h.rd,st'.h.wr,st.h.next,st'.h.next⟩::l,r)
     | _=>none
def allBelow (n:Nat) (p:Nat->Bool):Bool:=(List.range n).all p
def bitD (D:Array Nat) (i k:Nat):Bool:=bitB (D.getD i 0) k
def looks (ops:List Oper) (i:Nat):List Nat:=
 match ops[i]? with
 | none=>[]
 | some o=>(o.op.operands.toList.filterMap fun | .tmp t=>some t|_=>none) ++
   (match o.guard with
    | none=>[]
    | some (j,_)=>(dstOf ops j).toList)
def chkEdges (ops:List Oper) (D:Array Nat):Bool:=
 allBelow ops.length fun i=>match ops[i]? with
  | none=>false
  | some o=>o.after.toList.all (fun e => !Region.binds .any e||Nat.blt e.on i) &&
    allBelow ops.length fun k => !bitD D i k||o.after.toList.any fun e=>Region.binds .any e&&(Nat.beq e.on k||bitD D e.on k)
def optNe:Option Nat->Option Nat->Bool
 | some a,some b => !Nat.beq a b
 | _,_=>true
def chkDst (ops:List Oper):Bool:=
 allBelow ops.length fun i=>allBelow i fun j=>optNe (dstOf ops i) (dstOf ops j)
def chkTmp (ops:List Oper) (D:Array Nat):Bool:=
 allBelow ops.length fun i=>let l:=looks ops i;allBelow ops.length fun j=>match dstOf ops j with
  | none=>true
  | some x=>Nat.beq i j || !memB x l||(match Nat.blt j i with|true=>bitD D i j|false=>bitD D j i)
def chkPair (a b:Ft):Bool:=
 a.wr.all (fun id => !memB id b.rd && !memB id b.wr)&&b.wr.all (fun id => !memB id a.rd && !(Nat.ble a.lo id&&Nat.blt id a.hi)) &&
  b.rd.all fun id => !(Nat.ble a.lo id&&Nat.blt id a.hi)
def chkFts (D:Array Nat):Nat->List Ft->Bool
 | _,[]=>true
 | i,a::r=>chkFrom i (i+1) a r&&chkFts D (i+1) r
where
 chkFrom (i:Nat):Nat->Ft->List Ft->Bool
  | _,_,[]=>true
  | j,a,b::r=>(bitD D j i||chkPair a b)&&chkFrom i (j+1) a r
def Out.noNrm:Out->Bool
 | .fail=>true
 | .leaf .nrm _=>false
 | .leaf _ _=>true
 | .node _ a b=>a.noNrm&&b.noNrm
def Out.nrm? : Out->Option (Bool×St)
 | .fail=>none
 | .leaf .nrm s=>some (true,s)
 | .leaf _ _=>none
 | .node x a b=>match b.noNrm with
   | true=>match a.nrm? with
     | some (g,s)=>some (x&&g,s)
     | none=>none
   | false=>match a.noNrm with
     | true=>match b.nrm? with
       | some (g,s)=>some (!x&&g,s)
       | none=>none
     | false=>none
def Out.rest:Out->Option Out
 | .fail=>some .fail
 | .leaf .nrm _=>none
 | .leaf e s=>some (.leaf e s)
 | .node x a b=>match a.rest,b.rest with
   | some a,some b=>some (.node x a b)
   | some a,none=>some a
   | none,some b=>some b
   | none,none=>none
def touched:Nat->List Nat->List Nat->List Nat
 | 0,_,acc=>acc
 | _+1,[],acc=>acc
 | n+1,s::r,acc=>touched n r (addN s acc)
def entAt (v:Tr Ent) (s:Nat):Ent:=match v.get s with
 | some e=>e
 | none=>⟨none,.t (.a .poison)⟩
def mergeVars (x:Bool) (v1 v2:Tr Ent):List Nat->Tr Ent->List Nat->Tr Ent×List Nat
 | [],v,vd=>(v,vd)
 | s::r,v,vd=>mergeVars x v1 v2 r (v.set s ⟨none,match (entAt v1 s).c,(entAt v2 s).c with
    | none,none=>mergeV x (entAt v1 s).v (entAt v2 s).v
    | _,_ =>.t (.a .poison)⟩) (s::vd)
def mergeBlks (x:Bool) (m1 m2:Tr Blk):List Nat->Tr Blk->Tr Blk
 | [],m=>m
 | id::r,m=>mergeBlks x m1 m2 r (match m1.get id,m2.get id with
    | some b1,some b2=>m.set id ⟨b1.rw&&b2.rw,mergeT x b1.t b2.t⟩
    | _,_=>m.del id)
def unionN:List Nat->List Nat->List Nat
 | [],l=>l
 | x::r,l=>unionN r (addN x l)
def mergeH (x:Bool) (h0 h1 h2:H):H:=
 { m:=mergeBlks x h1.m h2.m (unionN h1.wr h2.wr) h0.m,rd:=unionN h1.rd h2.rd,wr:=unionN h1.wr h2.wr,lo:=h0.lo,next:=Nat.max h1.next h2.next,gl:=h0.gl }
def touchedSt (base s1 s2:St):List Nat:=touched (s1.vd.length-base.vd.length) s1.vd (touched (s2.vd.length-base.vd.length) s2.vd [])
def mergeSt (x:Bool) (base s1 s2:St):St:=
 match mergeVars x s1.vars s2.vars (touchedSt base s1 s2) base.vars base.vd with
 | (v,vd)=>{ vars:=v,vd:=vd,tmps:=[],ok:=mergeOk x s1.ok s2.ok,h:=mergeH x base.h s1.h s2.h,defs:=base.defs }
def saysV:V->Bool
 | .t (.a x)=>match x with | .poison=>false | .undef=>false|_=>true
 | .t .bad=>false
 | _=>true
def fineA (n:Nat):A->Bool
 | .poison=>false
 | .ptr id _=>Nat.blt id n
 | .sl id _ _ _ _ _=>Nat.blt id n
 | .mapp id=>Nat.blt id n
 | _=>true
def fineTs (n:Nat):List T->Bool
 | []=>true
 | .a x::r=>fineA n x&&fineTs n r
 | .bad::_=>false
 | _::r=>fineTs n r
def fineV (n:Nat):V->Bool
 | .t (.a x)=>fineA n x
 | .t .bad=>false
 | .t _=>true
 | .tup ts=>fineTs n ts
def mayV (n:Nat) (p q m:V):Bool:=match fineV n m with
 | true=>true
 | false=>match saysV p with
   | true => !saysV q
   | false=>true
def mayVars (n:Nat) (v1 v2 v:Tr Ent):List Nat->Bool
 | []=>true
 | s::r=>mayV n (entAt v1 s).v (entAt v2 s).v (entAt v s).v&&mayVars n v1 v2 v r
def mayBlks (n:Nat) (m1 m2 m:Tr Blk):List Nat->Bool
 | []=>true
 | id::r=>(match m1.get id,m2.get id,m.get id with
    | some b1,some b2,some b=>mayV n (.t b1.t) (.t b2.t) (.t b.t)
    | _,_,_=>true)&&mayBlks n m1 m2 m r
def joinOK (base:St):Bool:=match base.h.m.get 2 with
 | some ⟨_,.lst s []⟩ => !(Nat.beq s 7777)
 | _=>true
def mayMeet (base s1 s2 s:St):Bool:=
 joinOK base&&(Nat.beq s1.defs.length base.defs.length&&Nat.beq s2.defs.length base.defs.length&&mayVars base.h.next s1.vars s2.vars s.vars (touchedSt base s1 s2) &&
  mayBlks base.h.next s1.h.m s2.h.m s.h.m s.h.wr)
def join (x:Bool) (base:St) (a b:Out):Out:=
 match a.nrm?,b.nrm? with
 | some (g1,s1),some (g2,s2)=>
   match mayMeet base s1 s2 (mergeSt x base s1 s2) with
   | false =>.node x a b
   | true=>match a.rest,b.rest with
     | none,none =>.leaf .nrm (mergeSt x base s1 s2)
     | some r,none =>.node (bif x then g1 else true) (.leaf .nrm (mergeSt x base s1 s2)) r
     | none,some r =>.node (bif x then true else g2) (.leaf .nrm (mergeSt x base s1 s2)) r
     | some r1,some r2 =>.node (bif x then g1 else g2) (.leaf .nrm (mergeSt x base s1 s2)) (.node x r1 r2)
 | _,_ =>.node x a b
def Out.exits (id:Nat):Out->Out
 | .fail =>.fail
 | .leaf e s=>match e with
   | .exit id'=>match Nat.beq id' id with|true =>.leaf .nrm s|false =>.leaf (.exit id') s
   | e =>.leaf e s
 | .node x a b =>.node x (a.exits id) (b.exits id)
def Out.norm (base:St):Out->Out
 | .fail =>.fail
 | .leaf e s =>.leaf e s
 | .node x a b=>join x base (a.norm base) (b.norm base)
def St.mark (s:St):St:={ s with h:=s.h.mark }
def Out.back (h0:H):Out->Out
 | .fail =>.fail
 | .leaf e s =>.leaf e { s with h:=h0.back s.h }
 | .node x a b =>.node x (a.back h0) (b.back h0)
def R.back (h0:H):R->R
 | .fail =>.fail
 | .leaf o v h =>.leaf o v (h0.back h)
 | .pan o v h =>.pan o v (h0.back h)
 | .node x a b =>.node x (a.back h0) (b.back h0)
def St.unset (km:Nat):List Oper->St->St
 | [],st=>st
 | o::r,st=>St.unset km r (st.put km o.dst ⟨none,.t (.a .poison)⟩)
def evalRegionP (cx:Cx) (call:CallE) (fp:Fp) (ops:List Oper) (st:St):Out:=
 match evalOpsP cx call fp ops (Region.before ops.toArray) 0 ops none { st with tmps:=[] } with
 | none =>.fail
 | some (s,l,_,v)=>match chkFts (Region.before ops.toArray) 0 l with
   | false =>.fail
   | true =>.leaf (.pan v) (St.unset fp.km ops { st with tmps:=[],ok:=s.ok,h:={ st.h with rd:=s.h.rd } })
def evalRegion (cx:Cx) (call:CallE) (fp:Fp) (ops:List Oper) (draw:Bool) (st:St):Out:=
 match chkDst ops with
 | false =>.fail
 | true=>
 match draw with
 | false=>match ops.any fun o=>isCall o.op with
   | true=>((evalOps cx call fp ops 0 ops { st.mark with tmps:=[] }).norm { st.mark with tmps:=[] }).back st.h
   | false=>evalOps cx call fp ops 0 ops { st with tmps:=[] }
 | true=>
   match chkEdges ops (Region.before ops.toArray)&&chkTmp ops (Region.before ops.toArray)&&cx.P.follows .mixedOrders with
   | false =>.fail
   | true=>match evalOpsD cx call fp ops 0 ops { st with tmps:=[] } with
     | none=>evalRegionP cx call fp ops st
     | some (s,l)=>match chkFts (Region.before ops.toArray) 0 l with
       | false =>.fail
       | true =>.leaf .nrm s
def loopE (f:St->Out):Nat->St->Out
 | 0,s =>.leaf .nrm { s with ok :=.b false }
 | k+1,s=>(f s).bind (loopE f k)
def evalC (cx:Cx) (call:CallE) (fp:Fp):Nat->Code->St->Out
 | 0,_,_ =>.fail
 | n+1,c,s=>match c with
   | .skip =>.leaf .nrm s
   | .region _ ops draw=>evalRegion cx call fp ops.toList draw s
   | .seq a b=>(evalC cx call fp n a s).bind (evalC cx call fp n b)
   | .cond c x y=>match opV none none (s.get fp.km) c with
     | some (.t (.a .tt))=>evalC cx call fp n x s
     | some (.t (.a .ff))=>evalC cx call fp n y s
     | some (.t (.a (.b v)))=>(join v s.mark (evalC cx call fp n x s.mark) (evalC cx call fp n y s.mark)).back s.h
     | _ =>.fail
   | .block id c=>match fp.lam id s with
     | some o=>o
     | none=>(((evalC cx call fp n c s.mark).exits id).norm s.mark).back s.h
   | .loop c=>loopE (evalC cx call fp n c) fp.it s
   | .exit id =>.leaf (.exit id) s
   | .ret =>.leaf .ret s
   | _ =>.fail
def resOne (P:Program) (km:Nat) (s:St):ResultVar->Option (A×T×H)
 | .tmp t=>match (s.get km t).c,(s.get km t).v with
   | none,.t u=>some (.tt,u,s.h)
   | _,_=>none
 | .cell a t=>match opA none (s.get km) (.tmp a) with
   | some v=>match evalLoad P s.h t v with
     | some r=>match r.v with
       | .t u=>some (r.ok,u,r.h)
       | .tup _=>none
     | none=>none
   | none=>none
def resMany (P:Program) (km:Nat) (s:St):List ResultVar->Option (A×List T×H)
 | []=>some (.tt,[],s.h)
 | r::rs=>match resOne P km s r with
   | some (o1,x,h)=>match resMany P km { s with h:=h } rs with
     | some (o2,ws,h)=>some (andOk o1 o2,x::ws,h)
     | none=>none
   | none=>none
def resOf (P:Program) (km:Nat) (rs:List ResultVar) (s:St):Option (A×V×H):=
 match rs with
 | [r]=>match resOne P km s r with
   | some (o,x,h)=>some (o,.t x,h)
   | none=>none
 | rs=>match resMany P km s rs with
   | some (o,ws,h)=>some (o,.tup ws,h)
   | none=>none
def runDefs (dfr:DfrE):List (FuncId×List V)->Option A->A->H->Option (Option A×A×H)
 | [],u,ok,h=>some (u,ok,h)
 | (f,vs)::ds,u,ok,h=>match dfr f vs u h with
   | some (u',ok',h')=>runDefs dfr ds u' (andOk ok ok') h'
   | none=>none
def St.done (v:V) (h:H) (ok:A):St:=⟨Tr.set .nil 0 ⟨none,v⟩,[0],[],h,ok,[]⟩
def leave (cx:Cx) (km:Nat) (rs:List ResultVar) (s:St) (u:Option A):Out:=
 match runDefs cx.dfr s.defs u s.ok s.h with
 | none =>.fail
 | some (none,ok,h)=>match resOf cx.P km rs { s with ok:=ok,h:=h,defs:=[] } with
   | some (o,v,h') =>.leaf .nrm (St.done v h' (andOk ok o))
   | none =>.fail
 | some (some v,ok,h) =>.leaf (.pan v) ⟨.nil,[],[],h,ok,[]⟩
def Out.leaves (cx:Cx) (km:Nat) (rs:List ResultVar):Out->Out
 | .fail =>.fail
 | .leaf e s=>match e with
   | .nrm=>leave cx km rs s none
   | .ret=>leave cx km rs s none
   | .pan v=>leave cx km rs s (some v)
   | .exit _ =>.fail
 | .node x a b =>.node x (a.leaves cx km rs) (b.leaves cx km rs)
def Out.toR:Out->R
 | .fail =>.fail
 | .leaf e s=>match e with
   | .nrm =>.leaf s.ok (entAt s.vars 0).v s.h
   | .pan v =>.pan s.ok v s.h
   | _ =>.fail
 | .node x a b =>.node x a.toR b.toR
def regMask:List Oper->(written acc:Nat)->Nat
 | [],_,acc=>acc
 | o::r,written,acc=>
   let acc:=o.op.operands.toList.foldl (fun acc x=>match x with
    | .tmp t=>match bitB written t with|true=>acc|false=>acc|||1<<<t
    | _=>acc) acc
   regMask r (match o.dst with|some d=>written|||1<<<d|none=>written) acc
def codeMask:Code->Nat->Nat
 | .region _ ops _,acc=>regMask ops.toList 0 acc
 | .seq a b,acc=>codeMask b (codeMask a acc)
 | .cond c a b,acc=>codeMask b (codeMask a (match c with | .tmp t=>acc|||1<<<t|_=>acc))
 | .block _ c,acc=>codeMask c acc
 | .loop c,acc=>codeMask c acc
 | _,acc=>acc
def resMask:List ResultVar->Nat->Nat
 | [],acc=>acc
 | .tmp t::r,acc=>resMask r (acc|||1<<<t)
 | .cell t _::r,acc=>resMask r (acc|||1<<<t)
def regGl:List Oper->List Nat->List Nat
 | [],acc=>acc
 | o::r,acc=>regGl r (o.op.operands.toList.foldl (fun acc x=>match x with | .global g=>addN g acc|_=>acc) acc)
def codeGl:Code->List Nat->List Nat
 | .region _ ops _,acc=>regGl ops.toList acc
 | .seq a b,acc=>codeGl b (codeGl a acc)
 | .cond c a b,acc=>codeGl b (codeGl a (match c with | .global g=>addN g acc|_=>acc))
 | .block _ c,acc=>codeGl c acc
 | .loop c,acc=>codeGl c acc
 | _,acc=>acc
def params:Nat->List V->Tr Ent->Tr Ent
 | _,[],v=>v
 | i,x::r,v=>params (i+1) r (v.set i ⟨none,x⟩)
def fnMask (cx:Cx) (f:FuncId) (fn:Func) (c:Code) (args:List V):Nat:=match cx.km f with
 | some m=>m
 | none=>resMask fn.results.toList (codeMask c (1<<<args.length-1))
def St.enter (v:Tr Ent) (h:H):St:=⟨v,[],[],h.mark,.tt,[]⟩
def evalFn (cx:Cx) (call:CallE) (fuel:Nat) (f:FuncId) (fn:Func) (args:List V) (h:H):R:=
 match fn.body with
 | none =>.fail
 | some c=>
   match Nat.ble args.length fn.ntmps&&(codeGl c []).all (fun g=>memB g h.gl) with
   | true=>((((evalC cx call ⟨fnMask cx f fn c args,fn.ntmps,cx.it,cx.lam f⟩ fuel c (St.enter (params 0 args .nil) h)).leaves cx (fnMask cx f fn c args) fn.results.toList).norm (St.enter .nil h)).toR).back h
   | false =>.fail
def evalF (cx:Cx) (Γ:FuncId->List V->H->Option R) (fuel:Nat):Nat->CallE
 | 0,_,_,_ =>.fail
 | n+1,f,args,h=>match Γ f args h with
   | some r=>r
   | none=>match cx.P.funcs[f]? with
     | some fn=>evalFn cx (evalF cx Γ fuel n) fuel f fn args h
     | none =>.fail
end Go.WE
end
