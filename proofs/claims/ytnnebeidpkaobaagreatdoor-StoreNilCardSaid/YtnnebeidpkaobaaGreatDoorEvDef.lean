/- A deterministic evaluator of the model's code over abstract values: definitions. -/
import GoSem.Core.Machine
import GoSem.Dispatch
set_option linter.unusedVariables false
set_option linter.unusedSimpArgs false
set_option linter.unusedSectionVars false
namespace Go.Ev

/-- Abstract values. Slices that nobody writes are values ('sl': rows of cells); those that are written are references into a block ('sref'). -/
inductive EV where
  | bool (b : Bool)
  | int (k : IntKind) (n : Int)
  | str (s : ByteArray)
  | nilptr
  | ptr (b g off : Nat)
  | cptr (mr : Nat) (cs : List EV)
  | nilsl
  | esl
  | sl (mr : Nat) (clip : Bool) (sz : Nat) (rows : List (List EV))
  | sref (b g off n sz : Nat)
  | fn (f : Fn) (first captured : List EV)
  | nilfn
  | iface (t : TypeId) (v : EV)
  | niliface
  | agg (cs : List EV)
  | tup (vs : List EV)
  | dead
  deriving Inhabited

mutual
/-- A bound on the blocks that a value leads to. -/
def EV.refs : EV → Nat
  | .ptr b _ _ => b + 1
  | .sref b _ _ _ _ => b + 1
  | .cptr m _ => m
  | .sl m _ _ _ => m
  | .fn _ a b => max (refsL a) (refsL b)
  | .iface _ v => v.refs
  | .agg cs => refsL cs
  | .tup vs => refsL vs
  | _ => 0
def refsL : List EV → Nat
  | [] => 0
  | v :: vs => max v.refs (refsL vs)
end

mutual
def EV.beq : EV → EV → Bool
  | .bool a, .bool b => a == b
  | .int k a, .int j b => k == j && a == b
  | .str a, .str b => a.data.toList == b.data.toList
  | .nilptr, .nilptr => true
  | .ptr b g o, .ptr b' g' o' => b == b' && g == g' && o == o'
  | .cptr m a, .cptr n b => m == n && beqL a b
  | .nilsl, .nilsl => true
  | .esl, .esl => true
  | .sl m r z a, .sl n q y b => m == n && r == q && z == y && beqLL a b
  | .sref b g o n s, .sref b' g' o' n' s' => b == b' && g == g' && o == o' && n == n' && s == s'
  | .fn f a b, .fn f' a' b' => f == f' && beqL a a' && beqL b b'
  | .nilfn, .nilfn => true
  | .iface t v, .iface t' v' => t == t' && v.beq v'
  | .niliface, .niliface => true
  | .agg a, .agg b => beqL a b
  | .tup a, .tup b => beqL a b
  | .dead, .dead => true
  | _, _ => false
def beqL : List EV → List EV → Bool
  | [], [] => true
  | a :: as, b :: bs => a.beq b && beqL as bs
  | _, _ => false
def beqLL : List (List EV) → List (List EV) → Bool
  | [], [] => true
  | a :: as, b :: bs => beqL a b && beqLL as bs
  | _, _ => false
end

/-- A block of the abstract heap: a variable's cells, or an array's. -/
structure Blk where
  gen : Nat
  /-- An array (its slices' capacity reaches to the end of its room), not a variable. -/
  arr : Bool
  /-- Never written again. -/
  frz : Bool
  cells : List EV
  deriving Inhabited

structure St where
  h : List Blk
  keep : Nat
  deriving Inhabited

/-- The kinds of cells that '==' compares. -/
inductive CK where
  | bool | int | str

/-- What is asked of types. -/
structure TI where
  desc : TypeDesc
  size : Nat
  bytes : Nat
  zero : Option Value
  /-- '==' of such structs goes cell by cell: the cells' kinds. -/
  eqKs : Option (List CK)

structure Ctx where
  ti : TypeId → Option TI
  fn : FuncId → Option Func
  /-- Appends, makes and conversions whose array is written later. -/
  mutated : FuncId → Nat → Nat → Bool
  /-- Functions that take slices as references. -/
  byref : FuncId → Bool
  /-- Functions that hand slices back as references. -/
  retref : FuncId → Bool
  /-- Slices' types that are stored as references. -/
  refTy : TypeId → Bool
  /-- Functions that are answered otherwise. -/
  prim : FuncId → Option Nat
  glob : Nat → Option (List EV)
  /-- Slots that are given up ahead of a region. -/
  kill : FuncId → Nat → Option (List Nat)
  /-- Functions that are handed no references, and hand none back: they run on a heap of their own. -/
  pure : FuncId → Bool

def undefE : EV := .tup []

/-- A constant's value. -/
def ofV : Value → Option EV
  | .bool b => some (.bool b)
  | .int k n => some (.int k n)
  | .string s => some (.str s)
  | .pointer none => some .nilptr
  | .slice none 0 0 => some .nilsl
  | .nilFunc => some .nilfn
  | .nilIface => some .niliface
  | .func f a b => if a.size = 0 ∧ b.size = 0 then some (.fn f [] []) else none
  | .tuple a => if a.size = 0 then some (.tup []) else none
  | _ => none

def ofVs : List Value → Option (List EV)
  | [] => some []
  | v :: vs => match ofV v, ofVs vs with
    | some a, some as => some (a :: as)
    | _, _ => none

/-- A zero value. -/
def ofZ : Value → Option EV
  | .agg cs => (ofVs cs.toList).map .agg
  | v => ofV v

def EV.cells : EV → List EV
  | .agg cs => cs
  | v => [v]

def lget {α : Type} : List α → Nat → Option α
  | [], _ => none
  | a :: _, 0 => some a
  | _ :: l, n + 1 => lget l n

def lset {α : Type} : List α → Nat → α → List α
  | [], _, _ => []
  | _ :: l, 0, x => x :: l
  | a :: l, n + 1, x => a :: lset l n x

def lsetN {α : Type} (l : List α) (n : Nat) : List α → List α
  | [] => l
  | x :: xs => lsetN (lset l n x) (n + 1) xs

/-- Rows of so many cells. -/
def chunk {α : Type} (sz : Nat) : Nat → List α → List (List α)
  | 0, _ => []
  | n + 1, l => l.take sz :: chunk sz n (l.drop sz)

def refsLL : List (List EV) → Nat
  | [] => 0
  | r :: rs => max (refsL r) (refsLL rs)

def St.blk (s : St) (b g : Nat) : Option Blk :=
  match lget s.h b with
  | some k => if k.gen == g then some k else none
  | none => none

/-- The rows of a slice. -/
def rowsOf (s : St) : EV → Option (List (List EV))
  | .nilsl | .esl => some []
  | .sl _ _ _ rows => some rows
  | .sref b g off n sz => match s.blk b g with
    | some k => if off + n * sz ≤ k.cells.length then some (chunk sz n (k.cells.drop off)) else none
    | none => none
  | _ => none

/-- Are a slice's elements of so many cells? -/
def EV.szIs (z : Nat) : EV → Bool
  | .nilsl | .esl => true
  | .sl _ _ sz _ => sz == z
  | .sref _ _ _ _ sz => sz == z
  | .str _ => z == 1
  | _ => false

def lenE : EV → Option Nat
  | .nilsl | .esl => some 0
  | .sl _ _ _ rows => some rows.length
  | .sref _ _ _ n _ => some n
  | .str s => some s.size
  | _ => none

/-- A frame's slots, as a tree. -/
inductive Tree where
  | leaf (v : EV)
  | node (l r : Tree)
  deriving Inhabited

def Tree.get : Tree → Nat → EV
  | .leaf v, _ => v
  | .node l r, n => match Nat.beq (Nat.mod n 2) 0 with
    | true => l.get (Nat.div n 2)
    | false => r.get (Nat.div n 2)

def Tree.set : Tree → Nat → EV → Tree
  | .leaf _, _, v => .leaf v
  | .node l r, n, v => match Nat.beq (Nat.mod n 2) 0 with
    | true => .node (l.set (Nat.div n 2) v) r
    | false => .node l (r.set (Nat.div n 2) v)

/-- A tree of so many levels; the leaf of place n has the n-th value, if there is one. -/
def Tree.mk (vs : List EV) : Nat → Nat → Nat → Tree
  | 0, i, _ => .leaf ((lget vs i).getD undefE)
  | d + 1, i, st => .node (Tree.mk vs d i (Nat.mul 2 st)) (Tree.mk vs d (Nat.add i st) (Nat.mul 2 st))

structure Tm where
  size : Nat
  t : Tree
  deriving Inhabited

def tmGet (tm : Tm) (t : Nat) : EV := match Nat.ble (Nat.succ t) tm.size with
  | true => tm.t.get t
  | false => undefE

def tmSet (tm : Tm) (t : Nat) (v : EV) : Tm := match Nat.ble (Nat.succ t) tm.size with
  | true => { tm with t := tm.t.set t v }
  | false => tm

/-- Levels for so many slots. -/
def levels (n : Nat) : Nat := if n ≤ 16 then 4 else if n ≤ 32 then 5 else if n ≤ 64 then 6 else if n ≤ 128 then 7 else if n ≤ 256 then 8 else if n ≤ 4096 then 12 else n

def tmNew (args : List EV) (n : Nat) : Tm := { size := n, t := Tree.mk args (levels n) 0 1 }

def EV.isDead : EV → Bool
  | .dead => true
  | _ => false

def evalO (C : Ctx) (tm : Tm) : Operand → Option EV
  | .tmp t => some (tmGet tm t)
  | .const v => ofV v
  | .global g => (C.glob g).map fun cs => .cptr 0 cs
  | .func f => some (.fn (.func f) [] [])

def evalL (C : Ctx) (tm : Tm) : List Operand → Option (List EV)
  | [] => some []
  | x :: xs => match evalO C tm x, evalL C tm xs with
    | some v, some vs => some (v :: vs)
    | _, _ => none

def evalOpt (C : Ctx) (tm : Tm) : Option Operand → Option (Option EV)
  | none => some none
  | some x => (evalO C tm x).map some

def bytesRows (s : ByteArray) : List (List EV) := s.data.toList.map fun b => [.int .u8 b.toNat]

/-- A slice that was a reference becomes a value: its block is never written again. -/
def freezeV (s : St) : EV → Option (EV × St)
  | .sref b g off n sz => match s.blk b g with
    | some k =>
      if off + n * sz ≤ k.cells.length then
        let rows := chunk sz n (k.cells.drop off)
        some (.sl (refsLL rows) false sz rows, { s with h := lset s.h b { k with frz := true } })
      else none
    | none => none
  | .dead => none
  | v => some (v, s)

def freezeL (s : St) : List EV → Option (List EV × St)
  | [] => some ([], s)
  | v :: vs => match freezeV s v with
    | some (v, s) => match freezeL s vs with
      | some (vs, s) => some (v :: vs, s)
      | none => none
    | none => none

/-- Nothing in it is a reference into a block that may be written. -/
def EV.plain : EV → Bool
  | .sref .. | .dead => false
  | _ => true

/- Operations on numbers and texts. -/

def inI64 (k : IntKind) (n : Int) : Int := k.wrap n

def arithE (op : BinOp) (k : IntKind) (a b : Int) : Option EV :=
  match op with
  | .add => some (.int k (k.wrap (a + b)))
  | .sub => some (.int k (k.wrap (a - b)))
  | .mul => some (.int k (k.wrap (a * b)))
  | .quo => if b = 0 then none else some (.int k (k.wrap (a.tdiv b)))
  | .rem => if b = 0 then none else some (.int k (a.tmod b))
  | .and => some (.int k (k.wrap (BitVec.ofInt k.bits a &&& BitVec.ofInt k.bits b).toNat))
  | .or => some (.int k (k.wrap (BitVec.ofInt k.bits a ||| BitVec.ofInt k.bits b).toNat))
  | .xor => some (.int k (k.wrap (BitVec.ofInt k.bits a ^^^ BitVec.ofInt k.bits b).toNat))
  | .andNot => some (.int k (k.wrap (BitVec.ofInt k.bits a &&& ~~~(BitVec.ofInt k.bits b)).toNat))
  | .eql => some (.bool (a == b))
  | .neq => some (.bool (a != b))
  | .lss => some (.bool (decide (a < b)))
  | .leq => some (.bool (decide (a ≤ b)))
  | .gtr => some (.bool (decide (a > b)))
  | .geq => some (.bool (decide (a ≥ b)))
  | _ => none

def shiftE (op : BinOp) (k : IntKind) (a b : Int) : Option EV :=
  if b < 0 then none else
  match op with
  | .shl => some (.int k (k.wrap (a * 2 ^ (min b.toNat k.bits))))
  | .shr => some (.int k (a.fdiv (2 ^ (min b.toNat k.bits))))
  | _ => none

def strE (op : BinOp) (x y : ByteArray) : Option EV :=
  match op with
  | .add => if x.size + y.size ≤ 2 ^ 62 then some (.str (x ++ y)) else none
  | .eql => some (.bool (x.toList == y.toList))
  | .neq => some (.bool !(x.toList == y.toList))
  | .lss => some (.bool (Op.bytesLess x.toList y.toList))
  | .leq => some (.bool (Op.bytesLess x.toList y.toList || x.toList == y.toList))
  | .gtr => some (.bool !(Op.bytesLess x.toList y.toList || x.toList == y.toList))
  | .geq => some (.bool !(Op.bytesLess x.toList y.toList))
  | _ => none

/-- Equality of parts that are told by their cells. -/
def cellEq : CK → EV → EV → Option Bool
  | .bool, .bool a, .bool b => some (a == b)
  | .int, .int k a, .int j b => if k = j then some (a == b) else none
  | .str, .str a, .str b => some (a.toList == b.toList)
  | _, _, _ => none

def cellsEq : List CK → List EV → List EV → Option Bool
  | [], [], [] => some true
  | k :: ks, a :: as, b :: bs => match cellEq k a b, cellsEq ks as bs with
    | some x, some y => some (x && y)
    | _, _ => none
  | _, _, _ => none

def eqD (i : TI) (x y : EV) : Option Bool :=
  match i.desc, x, y with
  | .bool, .bool a, .bool b => some (a == b)
  | .pointer _, .nilptr, .nilptr => some true
  | .pointer _, .nilptr, .ptr .. | .pointer _, .ptr .., .nilptr | .pointer _, .nilptr, .cptr .. | .pointer _, .cptr .., .nilptr => some false
  | .slice _, .nilsl, .nilsl => some true
  | .slice _, .nilsl, .esl | .slice _, .esl, .nilsl | .slice _, .nilsl, .sl .. | .slice _, .sl .., .nilsl | .slice _, .nilsl, .sref .. | .slice _, .sref .., .nilsl => some false
  | .func .., .nilfn, .nilfn => some true
  | .func .., .nilfn, .fn .. | .func .., .fn .., .nilfn => some false
  | .interface _, .niliface, .iface .. | .interface _, .iface .., .niliface => some false
  | _, .agg xs, .agg ys => match i.eqKs with
    | some ks => cellsEq ks xs ys
    | none => none
  | _, _, _ => none

def eqE (C : Ctx) (t : TypeId) (x y : EV) : Option Bool :=
  match C.ti t with
  | some i => eqD i x y
  | none => none

def binE (C : Ctx) (op : BinOp) (t : TypeId) (x y : EV) : Option EV :=
  match x, y with
  | .int k a, .int j b =>
    match op with
    | .shl | .shr => shiftE op k a b
    | _ => if k = j then arithE op k a b else none
  | .str a, .str b => strE op a b
  | x, y =>
    match op with
    | .eql => (eqE C t x y).map .bool
    | .neq => (eqE C t x y).map fun b => .bool (!b)
    | _ => none

def unE (op : UnOp) (x : EV) : Option EV :=
  match op, x with
  | .neg, .int k n => some (.int k (k.wrap (0 - n)))
  | .xor, .int k n => arithE .xor k (if k.signed then -1 else k.max) n
  | .not, .bool b => some (.bool !b)
  | _, _ => none

def bytesOf : List (List EV) → Option (List UInt8)
  | [] => some []
  | [.int .u8 n] :: rest => (bytesOf rest).map (UInt8.ofNat n.toNat :: ·)
  | _ => none

def elemTI (C : Ctx) (t : TypeId) : Option (TypeId × TI) :=
  match C.ti t with
  | some i => match i.desc with
    | .slice e => (C.ti e).map fun j => (e, j)
    | _ => none
  | none => none

/-- The model's own limits, far off. -/
def roomOk (n bytes : Nat) : Bool := decide (n * bytes ≤ 2 ^ 44) && decide (n ≤ 2 ^ 44) && decide (bytes ≤ 2 ^ 20)

def newBlk (s : St) (arr : Bool) (cells : List EV) : Nat × St :=
  (s.h.length, { s with h := s.h ++ [{ gen := 0, arr, frz := false, cells }] })

def convE (C : Ctx) (mt : Bool) (src dst : TypeId) (x : EV) (s : St) : Option (EV × St) :=
  match C.ti src, C.ti dst with
  | some a, some d =>
    match d.desc, x with
    | .int k, .int _ n => some (.int k (k.wrap n), s)
    | .string, .str x => some (.str x, s)
    | .slice e, .str x => match C.ti e with
      | some ei => if ei.desc matches .int .u8 then
          if x.size ≤ 2 ^ 44 then
            if mt || ei.size != 1 then none else some (.sl 0 false 1 (bytesRows x), s)
          else none
        else none
      | none => none
    | .string, x => match a.desc with
      | .slice e => match C.ti e with
        | some ei => if ei.desc matches .int .u8 then (if x.szIs 1 then rowsOf s x else none).bind fun r => (bytesOf r).map fun l => (.str ⟨l.toArray⟩, s) else none
        | none => none
      | _ => none
    | _, _ => none
  | _, _ => none

/-- Cells from a place on. -/
def readAt (s : St) (a : EV) (n : Nat) : Option (List EV) :=
  match a with
  | .ptr b g off => match s.blk b g with
    | some k => if off + n ≤ k.cells.length then some ((k.cells.drop off).take n) else none
    | none => none
  | .cptr _ cs => if n ≤ cs.length then some (cs.take n) else none
  | _ => none

def isAggD : TypeDesc → Bool
  | .struct _ | .array _ _ => true
  | _ => false

def loadE (C : Ctx) (t : TypeId) (a : EV) (s : St) : Option EV :=
  match C.ti t with
  | some i =>
    if isAggD i.desc then (readAt s a i.size).map .agg
    else match readAt s a 1 with
      | some [v] => some v
      | _ => none
  | none => none

/-- True of every list; to ask it makes the kernel reckon the values out. -/
def seqV : EV → Bool
  | .int _ (.ofNat n) => Nat.ble 0 n
  | .int _ (.negSucc n) => Nat.ble 0 n
  | .bool true => true
  | .bool false => true
  | _ => true

def seqL : List EV → Bool
  | [] => true
  | v :: vs => seqV v && seqL vs

def seqH : List Blk → Bool
  | [] => true
  | _ :: ks => seqH ks

/-- A cell's value. -/
def EV.isCell : EV → Bool
  | .agg _ | .tup _ | .dead => false
  | _ => true

/-- Cells written into a block. -/
def writeE (s : St) (b g off : Nat) (cs : List EV) : Option St :=
  match s.blk b g with
  | some k =>
    if k.frz then none
    else if off + cs.length ≤ k.cells.length then
      (if cs.all EV.isCell && seqL (lsetN k.cells off cs) && seqH s.h then
        some { h := lset s.h b { k with cells := lsetN k.cells off cs }, keep := if refsL cs ≤ b + 1 then s.keep else max s.keep (refsL cs) }
      else none)
    else none
  | none => none

def storeE (C : Ctx) (t : TypeId) (a v : EV) (s : St) : Option St :=
  match C.ti t, a with
  | some i, .ptr b g off =>
    match (if C.refTy t then (match v with | .dead => none | _ => some (v, s)) else freezeV s v) with
    | some (v, s) => if v.cells.length = i.size then writeE s b g off v.cells else none
    | none => none
  | _, _ => none

def asIndex (i : EV) (n : Nat) : Option Nat :=
  match i with
  | .int _ i => if 0 ≤ i ∧ i < n then some i.toNat else none
  | _ => none

def fieldOf (C : Ctx) (t : TypeId) (f : Nat) : Option (Nat × TI) :=
  match C.ti t with
  | some i => match i.desc with
    | .struct fs => match fs.toList[f]? with
      | some fd => (C.ti fd.type).map fun j => (fd.offset, j)
      | none => none
    | _ => none
  | none => none

def addE : EV → Nat → Option EV
  | .ptr b g off, n => some (.ptr b g (off + n))
  | .cptr m cs, n => if n ≤ cs.length then some (.cptr m (cs.drop n)) else none
  | _, _ => none

def fieldAddrE (C : Ctx) (t : TypeId) (x : EV) (f : Nat) : Option EV :=
  match fieldOf C t f with
  | some (off, j) => if j.size = 0 then none else addE x off
  | none => none

def partE (i : TI) (cs : List EV) (off : Nat) : Option EV :=
  if isAggD i.desc then (if off + i.size ≤ cs.length then some (.agg ((cs.drop off).take i.size)) else none) else lget cs off

def fieldE (C : Ctx) (t : TypeId) (x : EV) (f : Nat) : Option EV :=
  match fieldOf C t f, x with
  | some (off, j), .agg cs => partE j cs off
  | _, _ => none

def indexAddrE (C : Ctx) (t : TypeId) (x i : EV) : Option EV :=
  match C.ti t with
  | some ti => match ti.desc with
    | .array len e => match asIndex i len, C.ti e with
      | some k, some j => addE x (k * j.size)
      | _, _ => none
    | .slice e => match C.ti e with
      | some j => if x.szIs j.size then
          match x with
          | .sl m _ _ rows => match asIndex i rows.length with
            | some k => (lget rows k).map fun r => .cptr m r
            | none => none
          | .sref b g off n sz => (asIndex i n).map fun k => .ptr b g (off + k * sz)
          | _ => none
        else none
      | none => none
    | _ => none
  | none => none

def indexE (C : Ctx) (t : TypeId) (x i : EV) : Option EV :=
  match C.ti t, x with
  | some ti, .agg cs => match ti.desc with
    | .array len e => match asIndex i len, C.ti e with
      | some k, some j => partE j cs (k * j.size)
      | _, _ => none
    | _ => none
  | some ti, .str s => match ti.desc with
    | .string => match asIndex i s.size with
      | some k => (s.data.toList[k]?).map fun b => .int .u8 b.toNat
      | none => none
    | _ => none
  | _, _ => none

def boundE (x : EV) (y : Nat) : Option Nat :=
  match x with
  | .int _ i => if 0 ≤ i ∧ i ≤ y then some i.toNat else none
  | _ => none

def boundsE (len : Nat) (lo hi : Option EV) : Option (Nat × Nat) :=
  match (match hi with | some v => boundE v len | none => some len) with
  | some h => match (match lo with | some v => boundE v h | none => some 0) with
    | some l => some (l, h)
    | none => none
  | none => none

/-- A part of what a reference refers to; the empty part at the end has no place. -/
def refAt (b g off l h sz len : Nat) : Option EV :=
  if l = 0 ∨ off + l * sz < len then some (.sref b g (off + l * sz) (h - l) sz)
  else if h = l then some .esl else none

/-- A part of a slice. -/
def sliceS (x : EV) (lo hi mx : Option EV) (s : St) : Option EV :=
  match x, mx with
  | .nilsl, none => (boundsE 0 lo hi).map fun _ => .nilsl
  | .nilsl, some mv => match boundE mv 0, hi with
    | some _, some _ => (boundsE 0 lo hi).map fun _ => .nilsl
    | _, _ => none
  | .sl m r z rows, none => (boundsE rows.length lo hi).map fun (l, h) => .sl m (r && h == rows.length) z ((rows.drop l).take (h - l))
  | .sl m _ z rows, some mv => match boundE mv rows.length, hi with
    | some c, some _ => (boundsE c lo hi).map fun (l, h) => .sl m (h == c) z ((rows.drop l).take (h - l))
    | _, _ => none
  | .sref b g off n sz, none => match s.blk b g with
    | some k =>
      if k.arr && decide (0 < sz) then
        match (match hi with | some v => boundE v ((k.cells.length - off) / sz) | none => some n) with
        | some h => match (match lo with | some v => boundE v h | none => some 0) with
          | some l => refAt b g off l h sz k.cells.length
          | none => none
        | none => none
      else none
    | none => none
  | .sref b g off n sz, some mv => match s.blk b g, hi with
    | some k, some _ =>
      if k.arr && decide (0 < sz) then
        match boundE mv ((k.cells.length - off) / sz) with
        | some c => if off + c * sz = k.cells.length then (boundsE c lo hi).bind fun (l, h) => refAt b g off l h sz k.cells.length else none
        | none => none
      else none
    | _, _ => none
  | _, _ => none

def sliceE (C : Ctx) (t : TypeId) (x : EV) (lo hi mx : Option EV) (s : St) : Option EV :=
  match C.ti t with
  | some ti => match ti.desc, x, mx with
    | .string, .str s, none => (boundsE s.size lo hi).map fun (l, h) => .str (s.extract l h)
    | .slice e, x, mx => match C.ti e with
      | some j => if x.szIs j.size then sliceS x lo hi mx s else none
      | none => none
    | .array n e, .ptr b g off, none => match C.ti e, s.blk b g with
      | some j, some k => if k.arr then none else (boundsE n lo hi).bind fun (l, h) => if l = 0 ∨ l < n then some (.sref b g (off + l * j.size) (h - l) j.size) else if h = l then some .esl else none
      | _, _ => none
    | _, _, _ => none
  | none => none

def fillE (place : Nat → Option (Nat × Nat)) (cells : List EV) : List (Nat × EV) → Option (List EV)
  | [] => some cells
  | (i, v) :: rest => match place i with
    | some (off, size) => if v.cells.length = size ∧ off + size ≤ cells.length then fillE place (lsetN cells off v.cells) rest else none
    | none => none

def zeroE (i : TI) : Option EV := i.zero.bind ofZ

def placesE (C : Ctx) : List Field → Option (List (Nat × Nat))
  | [] => some []
  | f :: fs => match C.ti f.type, placesE C fs with
    | some j, some r => some ((f.offset, j.size) :: r)
    | _, _ => none

def buildE (C : Ctx) (t : TypeId) (parts : List (Nat × EV)) : Option EV :=
  match C.ti t with
  | some ti => match zeroE ti with
    | some z => match ti.desc with
      | .struct fs => match placesE C fs.toList with
        | some pl => (fillE (fun i => lget pl i) z.cells parts).map .agg
        | none => none
      | .array _ e => match C.ti e with
        | some j => (fillE (fun i => some (i * j.size, j.size)) z.cells parts).map .agg
        | none => none
      | _ => none
    | none => none
  | none => none

def fillRows (sz : Nat) (rows : List (List EV)) : List (Nat × EV) → Option (List (List EV))
  | [] => some rows
  | (i, v) :: rest => if v.cells.length = sz ∧ i < rows.length then fillRows sz (lset rows i v.cells) rest else none

def buildSliceE (C : Ctx) (mt : Bool) (t : TypeId) (len : Nat) (parts : List (Nat × EV)) (s : St) : Option (EV × St) :=
  match elemTI C t with
  | some (_, j) => match zeroE j with
    | some z =>
      if len * j.size ≤ 2 ^ 24 ∧ z.cells.length = j.size then
        match fillRows j.size (List.replicate len z.cells) parts with
        | some rows =>
          if mt then let r := newBlk s true rows.flatten; some (.sref r.1 0 0 len j.size, r.2)
          else some (.sl (refsLL rows) true j.size rows, s)
        | none => none
      else none
    | none => none
  | none => none

def makeSliceE (C : Ctx) (t : TypeId) (l c : EV) (s : St) : Option (EV × St) :=
  match elemTI C t, l, c with
  | some (_, j), .int .i64 l, .int .i64 c => match zeroE j with
    | some z =>
      if 0 ≤ l ∧ l ≤ c ∧ roomOk c.toNat j.bytes ∧ z.cells.length = j.size then
        let r := newBlk s true (List.replicate c.toNat z.cells).flatten
        some (.sref r.1 0 0 l.toNat j.size, r.2)
      else none
    | none => none
  | _, _, _ => none

def srcRows (s : St) : EV → Option (List (List EV))
  | .str b => some (bytesRows b)
  | x => rowsOf s x

def lenS : EV → Option Nat
  | .str _ => none
  | x => lenE x

/-- What is appended: rows. -/
def newRows (C : Ctx) (j : TI) (xt : Option TypeId) (x : EV) (s : St) : Option (List (List EV)) :=
  match xt.bind C.ti with
  | some ti =>
    match ti.desc with
    | .int _ => match x, zeroE j with
      | .int .i64 n, some z => if 0 ≤ n ∧ n ≤ 2 ^ 44 ∧ z.cells.length = j.size ∧ roomOk n.toNat j.bytes then some (List.replicate n.toNat z.cells) else none
      | _, _ => none
    | _ => if x.szIs j.size then srcRows s x else none
  | none => none

def zeroOk (j : TI) : Bool := match zeroE j with
  | some z => Nat.beq z.cells.length j.size
  | none => false

def appendE (C : Ctx) (ts : List TypeId) (base x : EV) (s : St) : Option (EV × St) :=
  match ts[0]?.bind (elemTI C) with
  | some (_, j) => match newRows C j ts[1]? x s with
    | some rows =>
      match base with
      | .esl => if rows.length = 0 then some (.esl, s) else none
      | .nilsl =>
        if rows.length = 0 then some (.nilsl, s)
        else if roomOk rows.length j.bytes && zeroOk j then some (.sref s.h.length 0 0 rows.length j.size, (newBlk s true rows.flatten).2)
        else none
      | .sl m r z old =>
        if rows.length = 0 then some (.sl m r z old, s)
        else if r && decide (z = j.size) && roomOk (old.length + rows.length) j.bytes && zeroOk j then
          some (.sref s.h.length 0 0 (old.length + rows.length) j.size, (newBlk s true (old ++ rows).flatten).2)
        else none
      | .sref b g off len sz => match s.blk b g with
        | some k =>
          if rows.length = 0 then some (.sref b g off len sz, s)
          else if k.arr && !k.frz && decide (sz = j.size) && roomOk (len + rows.length) j.bytes && zeroOk j && decide (0 < sz) then
            if off + len * sz = k.cells.length then
              (if rows.flatten.all EV.isCell && seqH s.h then some (.sref b (g + 1) 0 (len + rows.length) sz, { h := lset s.h b { gen := g + 1, arr := true, frz := false, cells := k.cells.drop off ++ rows.flatten }, keep := if refsLL rows ≤ b + 1 then s.keep else max s.keep (refsLL rows) }) else none)
            else if off + (len + rows.length) * sz ≤ k.cells.length then
              match writeE s b g (off + len * sz) rows.flatten with
              | some s => some (.sref b g off (len + rows.length) sz, s)
              | none => none
            else none
          else none
        | none => none
      | _ => none
    | none => none
  | none => none

def copyE (C : Ctx) (ts : List TypeId) (dst src : EV) (s : St) : Option (EV × St) :=
  match ts[0]?.bind (elemTI C) with
  | some (_, j) =>
    if dst.szIs j.size && src.szIs j.size then
      match srcRows s src, lenS dst with
      | some rows, some d =>
        if min rows.length d = 0 then some (.int .i64 0, s)
        else match dst with
          | .sref b g off _ _ => match writeE s b g off (rows.take (min rows.length d)).flatten with
            | some s => some (.int .i64 (min rows.length d : Nat), s)
            | none => none
          | _ => none
      | _, _ => none
    else none
  | none => none

def clearE (C : Ctx) (t : TypeId) (x : EV) (s : St) : Option (EV × St) :=
  match elemTI C t, lenS x with
  | some (_, j), some n =>
    if n = 0 then some (.tup [], s)
    else match x, zeroE j with
      | .sref b g off _ sz, some z =>
        if sz = j.size ∧ z.cells.length = j.size then
          match writeE s b g off (List.replicate n z.cells).flatten with
          | some s => some (.tup [], s)
          | none => none
        else none
      | _, _ => none
  | _, _ => none

def maxE (m : Bool) : EV → List EV → Option EV
  | x, [] => some x
  | .int k x, .int _ y :: rest => maxE m (.int k (if m then (if y > x then y else x) else (if y < x then y else x))) rest
  | _, _ => none

def builtinE (C : Ctx) (b : Builtin) (ts : List TypeId) (args : List EV) (s : St) : Option (EV × St) :=
  match b, args with
  | .len, [x] => match ts[0]?.bind C.ti with
    | some i => match i.desc, x with
      | .array n _, _ => some (.int .i64 n, s)
      | .string, .str b => some (.int .i64 b.size, s)
      | .slice _, .str _ => none
      | .slice _, x => (lenE x).map fun (n : Nat) => (.int .i64 n, s)
      | _, _ => none
    | none => none
  | .append, [a, x] => appendE C ts a x s
  | .copy, [d, x] => copyE C ts d x s
  | .clear, [x] => match ts[0]? with
    | some t => clearE C t x s
    | none => none
  | .max, x :: rest => match x with
    | .int .. => (maxE true x rest).map fun v => (v, s)
    | _ => none
  | .min, x :: rest => match x with
    | .int .. => (maxE false x rest).map fun v => (v, s)
    | _ => none
  | _, _ => none

/- Calls. -/

abbrev CallE := FuncId → List EV → St → Option (EV × St)

def callV (C : Ctx) (call : CallE) (f : EV) (args : List EV) (s : St) : Option (EV × St) :=
  match f with
  | .fn (.func g) first captured =>
    if C.byref g then call g (first ++ args ++ captured) s
    else match freezeL s args with
      | some (args, s) => call g (first ++ args ++ captured) s
      | none => none
  | _ => none

def partsE (C : Ctx) (tm : Tm) : List (Nat × Operand) → Option (List (Nat × EV))
  | [] => some []
  | (i, x) :: rest => match evalO C tm x, partsE C tm rest with
    | some v, some vs => some ((i, v) :: vs)
    | _, _ => none

def freezeP (s : St) : List (Nat × EV) → Option (List (Nat × EV) × St)
  | [] => some ([], s)
  | (i, v) :: vs => match freezeV s v with
    | some (v, s) => match freezeP s vs with
      | some (vs, s) => some ((i, v) :: vs, s)
      | none => none
    | none => none

section ops
variable (C : Ctx) (tm : Tm) (s : St)

abbrev Res2 := Option (EV × St)

def just (s : St) (v : Option EV) : Res2 := match v with | some v => some (v, s) | none => none

def pickE (c a b : Operand) : Res2 :=
  match evalO C tm c with
  | some (.bool true) => just s (evalO C tm a)
  | some (.bool false) => just s (evalO C tm b)
  | _ => none

def allocE (t : TypeId) : Res2 :=
  match (C.ti t).bind zeroE with
  | some z => some (.ptr s.h.length 0 0, (newBlk s false z.cells).2)
  | none => none

def boxE (t : TypeId) (x : Operand) : Res2 :=
  match C.ti t, (evalO C tm x).bind (freezeV s) with
  | some i, some (v, s) => if v.cells.length = i.size then some (.ptr s.h.length 0 0, (newBlk s false v.cells).2) else none
  | _, _ => none

def buildO (t : TypeId) (ps : List (Nat × Operand)) : Res2 :=
  match (partsE C tm ps).bind (freezeP s) with
  | some (ps, s) => just s (buildE C t ps)
  | none => none

def buildSliceO (mt : Bool) (t : TypeId) (n : Nat) (ps : List (Nat × Operand)) : Res2 :=
  match (partsE C tm ps).bind (freezeP s) with
  | some (ps, s) => buildSliceE C mt t n ps s
  | none => none

def loadO (t : TypeId) (a : Operand) : Res2 := just s ((evalO C tm a).bind fun a => loadE C t a s)

def storeO (t : TypeId) (a x : Operand) : Res2 :=
  match evalO C tm a, evalO C tm x with
  | some a, some v => match storeE C t a v s with
    | some s => some (undefE, s)
    | none => none
  | _, _ => none

def nilCheckO (x : Operand) : Res2 :=
  match evalO C tm x with
  | some (.ptr b g o) => some (.ptr b g o, s)
  | some (.cptr m cs) => some (.cptr m cs, s)
  | some (.fn (.func g) a b) => some (.fn (.func g) a b, s)
  | _ => none

def binO (op : BinOp) (t : TypeId) (x y : Operand) : Res2 :=
  match evalO C tm x, evalO C tm y with
  | some x, some y => just s (binE C op t x y)
  | _, _ => none

def isIfaceD : TypeDesc → Bool
  | .interface _ => true
  | _ => false

def makeInterfaceO (t : TypeId) (x : Operand) : Res2 :=
  match C.ti t, (evalO C tm x).bind (freezeV s) with
  | some i, some (v, s) => if isIfaceD i.desc then none else some (.iface t v, s)
  | _, _ => none

def makeFuncO (fn : Fn) (a b : List Operand) : Res2 :=
  match evalL C tm a, evalL C tm b with
  | some a, some b => some (.fn fn a b, s)
  | _, _ => none

def makeSliceO (t : TypeId) (l c : Operand) : Res2 :=
  match evalO C tm l, evalO C tm c with
  | some l, some c => makeSliceE C t l c s
  | _, _ => none

def sliceO (t : TypeId) (x : Operand) (lo hi mx : Option Operand) : Res2 :=
  match evalO C tm x, evalOpt C tm lo, evalOpt C tm hi, evalOpt C tm mx with
  | some x, some lo, some hi, some mx => just s (sliceE C t x lo hi mx s)
  | _, _, _, _ => none

def indexAddrO (t : TypeId) (x i : Operand) : Res2 :=
  match evalO C tm x, evalO C tm i with
  | some x, some i => just s (indexAddrE C t x i)
  | _, _ => none

def indexO (t : TypeId) (x i : Operand) : Res2 :=
  match evalO C tm x, evalO C tm i with
  | some x, some i => just s (indexE C t x i)
  | _, _ => none

def extractO (t : Operand) (i : Nat) : Res2 :=
  match evalO C tm t with
  | some (.tup vs) => just s (lget vs i)
  | _ => none

def callO (call : CallE) (c : Call) : Res2 :=
  match c.callee with
  | .builtin b => match evalL C tm c.args.toList with
    | some args => builtinE C b c.argTypes.toList args s
    | none => none
  | .value g => match evalO C tm g, evalL C tm c.args.toList with
    | some g, some args => callV C call g args s
    | _, _ => none
  | .invoke _ _ => none
end ops

/-- One operation: its value, and the state behind it. -/
def opE (C : Ctx) (call : CallE) (f : FuncId) (rid idx : Nat) (o : Oper) (tm : Tm) (s : St) : Res2 :=
  match o.op with
  | .move x => just s (evalO C tm x)
  | .assign x => just s (evalO C tm x)
  | .pick c a b => pickE C tm s c a b
  | .alloc t => allocE C s t
  | .box t x => boxE C tm s t x
  | .build t ps => buildO C tm s t ps.toList
  | .buildSlice t n ps => buildSliceO C tm s (C.mutated f rid idx) t n ps.toList
  | .load t a => loadO C tm s t a
  | .store t a x => storeO C tm s t a x
  | .nilCheck x => nilCheckO C tm s x
  | .binOp op t x y _ => binO C tm s op t x y
  | .unOp op _ x => just s ((evalO C tm x).bind (unE op))
  | .convert a b x => (evalO C tm x).bind fun x => convE C (C.mutated f rid idx) a b x s
  | .makeInterface t x => makeInterfaceO C tm s t x
  | .makeFunc fn a b => makeFuncO C tm s fn a.toList b.toList
  | .makeSlice t l c => makeSliceO C tm s t l c
  | .slice t x lo hi mx => sliceO C tm s t x lo hi mx
  | .fieldAddr t x k => just s ((evalO C tm x).bind fun x => fieldAddrE C t x k)
  | .field t x k => just s ((evalO C tm x).bind fun x => fieldE C t x k)
  | .indexAddr t x i => indexAddrO C tm s t x i
  | .index t x i => indexO C tm s t x i
  | .extract t i => extractO C tm s t i
  | .call c => callO C tm s call c
  | _ => none

/- Code. -/

inductive Ex where
  | normal
  | exit (id : Nat)
  | ret
  deriving DecidableEq, Repr, Inhabited

def putE (tm : Tm) (dst : Option Tmp) (v : EV) : Tm :=
  match dst with
  | some d => tmSet tm d v
  | none => tm

def wantedE (ops : List Oper) (tm : Tm) (o : Oper) : Option Bool :=
  match o.guard with
  | none => some true
  | some (j, want) => match (ops[j]?).bind (·.dst) with
    | some d => match tmGet tm d with
      | .bool b => some (b == want)
      | .dead => none
      | _ => some false
    | none => some false

def seqT (tm : Tm) : Option Tmp → Bool
  | some d => seqV (tmGet tm d)
  | none => true

/-- Operations, one behind the other. -/
def runOps (C : Ctx) (call : CallE) (f : FuncId) (rid : Nat) (ops : List Oper) : Nat → List Oper → Tm → St → Option (Tm × St)
  | _, [], tm, s => some (tm, s)
  | i, o :: rest, tm, s =>
    match wantedE ops tm o with
    | some true => match opE C call f rid i o tm s with
      | some (v, s) => match seqV v && seqT (putE tm o.dst v) o.dst with
        | true => runOps C call f rid ops (i + 1) rest (putE tm o.dst v) s
        | false => none
      | none => none
    | some false => runOps C call f rid ops (i + 1) rest (putE tm o.dst undefE) s
    | none => none

/- Regions that draw their order. -/

def isHeavy (H : Nat → Bool) (i : Nat) (o : Oper) : Bool :=
  match o.op with
  | .build .. | .buildSlice .. | .makeInterface .. | .convert .. => H i
  | .store .. | .box .. | .makeSlice .. => true
  | .call { callee := .builtin b, .. } => match b with
    | .len | .max | .min => false
    | _ => true
  | .call _ => true
  | _ => false

def isAlloc (o : Oper) : Bool :=
  match o.op with
  | .alloc _ => true
  | _ => false

def isRead (o : Oper) : Bool :=
  match o.op with
  | .load .. | .slice .. | .convert .. => true
  | _ => false

def tmpsOf (o : Oper) : List Tmp := o.op.operands.toList.filterMap fun x => match x with | .tmp t => some t | _ => none

/-- What an operation looks at: its operands' slots, and its guard's. -/
def looks (ops : List Oper) (o : Oper) : List Tmp :=
  tmpsOf o ++ (match o.guard with
    | some (g, _) => match (ops[g]?).bind (·.dst) with
      | some d => [d]
      | none => []
    | none => [])

def meets (H : Nat → Bool) (ops : List Oper) (i j : Nat) (x y : Oper) : Bool :=
  (isHeavy H i x && isHeavy H j y) ||
  (match x.dst with | some d => (looks ops y).contains d || (match y.dst with | some e => d == e | none => false) | none => false) ||
  (match y.dst with | some d => (looks ops x).contains d | none => false)

def anyBind (e : Edge) : Bool := match e.ground with | .textOnly _ | .gcOnly _ => false | _ => true

/-- For each operation the ones that come ahead of it in every order (a mask). -/
def masks : List Oper → List Nat → List Nat
  | [], acc => acc
  | o :: os, acc => masks os (acc ++ [o.after.toList.foldl (fun m e => if anyBind e then Nat.lor m (Nat.lor (Nat.pow 2 e.on) ((lget acc e.on).getD 0)) else m) 0])

def ahead (ms : List Nat) (i j : Nat) : Bool := match lget ms j with | some m => Nat.testBit m i | none => false

def drawOk (H : Nat → Bool) (ops : List Oper) (ms : List Nat) : Bool :=
  (List.range ops.length).all fun j => match ops[j]? with
    | some y => (y.after.toList.all fun e => !anyBind e || decide (e.on < j)) && (!isAlloc y || y.guard.isNone) &&
      (List.range j).all fun i => match ops[i]? with
        | some x => !meets H ops i j x y || ahead ms i j
        | none => true
    | none => true

/-- An operand that is a reference into a block that may be written. -/
def hasRef (C : Ctx) (tm : Tm) (o : Oper) : Bool :=
  o.op.operands.toList.any fun x => match evalO C tm x with
    | some v => !v.plain
    | none => true

/-- An operation of a drawn region that leaves the state as it is. -/
def lightOk (C : Ctx) (tm : Tm) (o : Oper) : Bool :=
  match o.op with
  | .build .. | .makeInterface .. | .buildSlice .. => !hasRef C tm o
  | _ => true

/-- A reading operation, as it went: its place, the slots ahead of it, its value. -/
structure Rd where
  idx : Nat
  o : Oper
  tm : Tm
  v : EV

/-- Zero blocks for a drawn region's new variables. -/
def preAlloc (C : Ctx) : List Oper → St → Option St
  | [], s => some s
  | o :: os, s => match o.op with
    | .alloc t => match (C.ti t).bind zeroE with
      | some z => preAlloc C os (newBlk s false z.cells).2
      | none => none
    | _ => preAlloc C os s

/-- In the order of the text; n: the next new variable's block. -/
def runDraw (C : Ctx) (call : CallE) (f : FuncId) (rid : Nat) (ops : List Oper) : Nat → Nat → List Oper → Tm → St → List St → List Rd → Option (Tm × List St × List Rd)
  | _, _, [], tm, s, hs, rs => some (tm, s :: hs, rs)
  | i, n, o :: rest, tm, s, hs, rs =>
    if isAlloc o then runDraw C call f rid ops (i + 1) (n + 1) rest (putE tm o.dst (.ptr n 0 0)) s hs rs
    else match wantedE ops tm o with
    | some true => match opE C call f rid i o tm s with
      | some (v, s') => match seqV v && seqT (putE tm o.dst v) o.dst with
        | true =>
          if isHeavy (C.mutated f rid) i o then runDraw C call f rid ops (i + 1) n rest (putE tm o.dst v) s' (s :: hs) rs
          else if lightOk C tm o then runDraw C call f rid ops (i + 1) n rest (putE tm o.dst v) s hs (if isRead o then ⟨i, o, tm, v⟩ :: rs else rs)
          else none
        | false => none
      | none => none
    | some false =>
      if isHeavy (C.mutated f rid) i o then runDraw C call f rid ops (i + 1) n rest (putE tm o.dst undefE) s (s :: hs) rs
      else runDraw C call f rid ops (i + 1) n rest (putE tm o.dst undefE) s hs rs
    | none => none

/-- The states between heavy operations in which a reading may come: from place lo to place hi. -/
def window (H : Nat → Bool) (ops : List Oper) (ms : List Nat) (j : Nat) : Nat × Nat :=
  let hv := (List.range ops.length).filter fun i => match ops[i]? with | some o => isHeavy H i o | none => false
  ((hv.filter fun i => ahead ms i j).length, (hv.filter fun i => !ahead ms j i).length)

def readsOk (C : Ctx) (call : CallE) (f : FuncId) (rid : Nat) (ops : List Oper) (ms : List Nat) (hs : List St) : List Rd → Bool
  | [] => true
  | r :: rs =>
    let w := window (C.mutated f rid) ops ms r.idx
    (((hs.take (w.2 + 1)).drop w.1).all fun s => match opE C call f rid r.idx r.o r.tm s with
      | some (v, _) => v.beq r.v
      | none => false) && readsOk C call f rid ops ms hs rs

def drawE (C : Ctx) (call : CallE) (f : FuncId) (rid : Nat) (ops : List Oper) (tm : Tm) (s : St) : Option (Tm × St) :=
  if drawOk (C.mutated f rid) ops (masks ops []) then
    match preAlloc C ops s with
    | some s0 => match runDraw C call f rid ops 0 s.h.length ops tm s0 [] [] with
      | some (tm', s' :: hs, rs) => if readsOk C call f rid ops (masks ops []) (s' :: hs).reverse rs then some (tm', s') else none
      | _ => none
    | none => none
  else none

def loopE (body : Tm → St → Option (Ex × Tm × St)) : Nat → Tm → St → Option (Ex × Tm × St)
  | 0, _, _ => none
  | n + 1, tm, s => match body tm s with
    | some (.normal, tm, s) => loopE body n tm s
    | r => r

def tmKill (tm : Tm) : List Nat → Tm
  | [] => tm
  | t :: ts => tmKill (tmSet tm t .dead) ts

/-- A bound on the blocks that the slots lead to. -/
def Tree.refs : Tree → Nat
  | .leaf v => v.refs
  | .node l r => max l.refs r.refs

/-- Ahead of a region: slots are given up, and the blocks that nobody refers to then. -/
def tidy (C : Ctx) (f : FuncId) (n0 rid : Nat) (tm : Tm) (s : St) : Tm × St :=
  match C.kill f rid with
  | none => (tm, s)
  | some l => (tmKill tm l, { s with h := s.h.take (max (max n0 s.keep) (tmKill tm l).t.refs) })

def exec (C : Ctx) (call : CallE) (fuel : Nat) (f : FuncId) (n0 : Nat) : Code → Tm → St → Option (Ex × Tm × St)
  | .skip, tm, s => some (.normal, tm, s)
  | .region id ops draw, tm, s =>
    match (if draw then drawE C call f id ops.toList (tidy C f n0 id tm s).1 (tidy C f n0 id tm s).2 else runOps C call f id ops.toList 0 ops.toList (tidy C f n0 id tm s).1 (tidy C f n0 id tm s).2) with
    | some (tm, s) => some (.normal, tm, s)
    | none => none
  | .seq a b, tm, s => match exec C call fuel f n0 a tm s with
    | some (.normal, tm, s) => exec C call fuel f n0 b tm s
    | r => r
  | .cond c a b, tm, s => match evalO C tm c with
    | some (.bool true) => exec C call fuel f n0 a tm s
    | some (.bool false) => exec C call fuel f n0 b tm s
    | _ => none
  | .block id b, tm, s => match exec C call fuel f n0 b tm s with
    | some (.exit id', tm, s) => if id' = id then some (.normal, tm, s) else some (.exit id', tm, s)
    | r => r
  | .loop b, tm, s => loopE (fun tm s => exec C call fuel f n0 b tm s) fuel tm s
  | .exit id, tm, s => some (.exit id, tm, s)
  | .ret, tm, s => some (.ret, tm, s)
  | _, _, _ => none

def resOne (C : Ctx) (tm : Tm) (s : St) : ResultVar → Option EV
  | .tmp t => some (tmGet tm t)
  | .cell a t => loadE C t (tmGet tm a) s

def resAll (C : Ctx) (tm : Tm) (s : St) : List ResultVar → Option (List EV)
  | [] => some []
  | r :: rs => match resOne C tm s r, resAll C tm s rs with
    | some v, some vs => some (v :: vs)
    | _, _ => none

/-- What is left of a state behind a call: what is referred to. -/
def cut (n : Nat) (v : EV) (s : St) : St := { s with h := s.h.take (max (max n s.keep) v.refs) }

def finish (C : Ctx) (f : FuncId) (fn : Func) (n : Nat) (tm : Tm) (s : St) : Option (EV × St) :=
  match resAll C tm s fn.results.toList with
  | some [v] =>
    if C.retref f then (if v.isDead then none else some (v, cut n v s))
    else (freezeV s v).map fun (v, s) => (v, cut n v s)
  | some vs =>
    if C.retref f then some (.tup vs, cut n (.tup vs) s)
    else (freezeL s vs).map fun (vs, s) => (.tup vs, cut n (.tup vs) s)
  | none => none

/-- A function that is handed no references runs on a heap of its own. -/
def callPure (C : Ctx) (call : CallE) (fuel : Nat) (f : FuncId) (fn : Func) (c : Code) (args : List EV) : Option EV :=
  match exec C call fuel f 0 c (tmNew args (max args.length fn.ntmps)) { h := [], keep := 0 } with
  | some (.exit _, _, _) => none
  | some (_, tm, s') => match finish C f fn 0 tm s' with
    | some (v, _) => if Nat.beq v.refs 0 then some v else none
    | none => none
  | none => none

def callFull (C : Ctx) (call : CallE) (fuel : Nat) (f : FuncId) (fn : Func) (c : Code) (args : List EV) (s : St) : Option (EV × St) :=
  match exec C call fuel f s.h.length c (tmNew args (max args.length fn.ntmps)) s with
  | some (.exit _, _, _) => none
  | some (_, tm, s') => finish C f fn s.h.length tm s'
  | none => none

def callE (C : Ctx) (prim : CallE → Nat → FuncId → List EV → St → Option (EV × St)) : Nat → CallE
  | 0, _, _, _ => none
  | n + 1, f, args, s =>
    match C.prim f with
    | some k => prim (callE C prim n) k f args s
    | none => match C.fn f with
      | some fn => match fn.body with
        | some c =>
          if C.pure f && Nat.beq (refsL args) 0 then
            match callPure C (callE C prim n) n f fn c args with
            | some v => some (v, s)
            | none => none
          else callFull C (callE C prim n) n f fn c args s
        | none => none
      | none => none
end Go.Ev
