/-
  AHE, 1: an abstract evaluator for loaded Go code: the definitions. No theorem of a program stands here.
-/
import Derived.RangeFuncLeaves
import Derived.OrdersIn
import Derived.Below
import Derived.Laws.Cells
import Derived.Laws.IdiomCopy
namespace Go.Ahe

/-- A map from numbers, as a tree. -/
inductive Tr (α : Type) where
  | nl
  | n (l : Tr α) (v : Option α) (r : Tr α)

def Tr.get {α : Type} : Tr α → Nat → Option α
  | .nl, _ => none
  | .n l v r, k => bif Nat.beq k 0 then v else bif Nat.beq (k % 2) 1 then l.get (k / 2) else r.get (k / 2 - 1)

def Tr.left {α : Type} : Tr α → Tr α | .nl => .nl | .n l _ _ => l
def Tr.here {α : Type} : Tr α → Option α | .nl => none | .n _ v _ => v
def Tr.right {α : Type} : Tr α → Tr α | .nl => .nl | .n _ _ r => r

def Tr.put {α : Type} (x : α) : Nat → Tr α → Nat → Tr α
  | 0, t, _ => t
  | f + 1, t, k => bif Nat.beq k 0 then .n t.left (some x) t.right
    else bif Nat.beq (k % 2) 1 then .n (put x f t.left (k / 2)) t.here t.right
    else .n t.left t.here (put x f t.right (k / 2 - 1))

def Tr.set {α : Type} (t : Tr α) (k : Nat) (x : α) : Tr α := t.put x (k + 1) k

/-- A frame's temporaries. -/
structure Env where
  size : Nat
  t : Tr Value

/-- What a temporary holds; none: not known. -/
def Env.get (e : Env) (k : Nat) : Option Value := bif Nat.blt k e.size then e.t.get k else none
def Env.set (e : Env) (k : Nat) (v : Value) : Option Env := bif Nat.blt k e.size then some ⟨e.size, e.t.set k v⟩ else none
def Env.put (e : Env) (d : Option Nat) (v : Value) : Option Env := match d with | none => some e | some k => e.set k v
def Env.ofArgs (size : Nat) (args : List Value) : Env :=
  ⟨size, (args.foldl (fun (p : Nat × Tr Value) v => (p.1 + 1, p.2.set p.1 v)) (0, .nl)).2⟩

/-- What lies behind an id. -/
inductive Ob where
  | cells (cs : List Value) (ro : Bool)
  | map (es : List (Value × Value × Nat)) (clock : Nat)
  | iter (m : Option Nat) (since : Nat) (seen : List Nat) (stepped : Nat)
  | loop (st : LoopState) (pend : Option Code) (env : Env) (ps : List Tmp) (assign body : Code)
  | dead

def Ob.wr : Ob → Bool
  | .cells _ ro => !ro
  | .dead => false
  | _ => true

structure Hp where
  objs : Tr Ob
  next : Nat
  floor : Nat

def Hp.get (H : Hp) (i : Nat) : Option Ob := H.objs.get i
def Hp.new (H : Hp) (o : Ob) : Hp := ⟨H.objs.set H.next o, H.next + 1, H.floor⟩
/-- A write to an object that may be written. -/
def Hp.upd (H : Hp) (i : Nat) (o : Ob) : Option Hp := bif Nat.ble H.floor i then some ⟨H.objs.set i o, H.next, H.floor⟩ else none
def Hp.raised (H : Hp) : Hp := ⟨H.objs, H.next, H.next⟩
def Hp.lowered (H : Hp) (f : Nat) : Hp := ⟨H.objs, H.next, f⟩

/-- What is known of a type: as the program's table has it. -/
inductive TK where
  | bool | int (k : IntKind) | string | pointer (e : TypeId) | slice (e : TypeId) | array (n : Nat) (e : TypeId)
  | map (k e : TypeId) | struct (fs : List (Nat × TypeId × Bool)) | func | other
structure TI where
  kind : TK
  size : Nat
  bytes : Nat
  zero : List Value

def TI.agg (t : TI) : Bool := match t.kind with | .struct _ => true | .array _ _ => true | _ => false

/-- What a function is. -/
structure AF where
  code : Code
  ntmps : Nat
  results : List ResultVar
  /-- its calls leave no trace: what they make is dropped -/
  pure : Bool
  /-- its calls write to nothing that is there: they only make what is new -/
  fr : Bool

structure Ctx where
  /-- how numbers are told apart: 'decide (x < y)', 'decide (x = y)' -/
  lt : Int → Int → Bool
  eqi : Int → Int → Bool
  T : TypeId → Option TI
  fn : FuncId → Option AF
  ext : FuncId → List Value → Hp → Option (Value × Hp)

/-- A value that is no aggregate: of one cell. -/
def oneCell : Value → Bool
  | .agg _ => false
  | .tuple _ => false
  | _ => true

def cellsOf : Value → List Value
  | .agg cs => cs.toList
  | v => [v]

/-- A value without addresses, at the top. -/
def plainCell : Value → Bool
  | .bool _ => true
  | .int _ _ => true
  | .string _ => true
  | .pointer none => true
  | .slice none 0 0 => true
  | .map none => true
  | .nilFunc => true
  | .nilIface => true
  | _ => false
/-- A value without addresses (two levels: aggregates of cells, tuples of these). -/
def plainV1 : Value → Bool
  | .agg cs => cs.toList.all plainCell
  | v => plainCell v
def plainV : Value → Bool
  | .tuple vs => vs.toList.all plainV1
  | v => plainV1 v

def opV (e : Env) : Operand → Option Value
  | .tmp t => e.get t
  | .const v => bif plainV v then some v else none
  | .func f => some (.func (.func f) #[] #[])
  | .global _ => none

def opVs (e : Env) : List Operand → Option (List Value)
  | [] => some []
  | x :: xs => match opV e x, opVs e xs with
    | some v, some vs => some (v :: vs)
    | _, _ => none

def opVo (e : Env) : Option Operand → Option (Option Value)
  | none => some none
  | some x => (opV e x).map some

/-- n cells from off on. -/
def lrange (cs : List Value) (off n : Nat) : Option (List Value) :=
  bif Nat.ble (off + n) cs.length then some ((cs.drop off).take n) else none
/-- cells put from off on. -/
def lput (cs : List Value) (off : Nat) (vs : List Value) : Option (List Value) :=
  bif Nat.ble (off + vs.length) cs.length then some (cs.take off ++ vs ++ cs.drop (off + vs.length)) else none

def readCells (H : Hp) (i off n : Nat) : Option (List Value) :=
  match H.get i with
  | some (.cells cs _) => lrange cs off n
  | _ => none

def writeCells (H : Hp) (i off : Nat) (vs : List Value) : Option Hp :=
  match H.get i with
  | some (.cells cs false) => bif vs.all oneCell then (lput cs off vs).bind fun cs' => H.upd i (.cells cs' false) else none
  | _ => none

def one? : List Value → Option Value
  | [v] => some v
  | _ => none

def loadE (ti : TI) (a : Value) (H : Hp) : Option Value :=
  match a with
  | .pointer (some ⟨i, o, none⟩) =>
    match ti.agg with
    | true => (readCells H i o ti.size).map fun cs => .agg cs.toArray
    | false => (readCells H i o 1).bind one?
  | _ => none

def storeE (ti : TI) (a v : Value) (H : Hp) : Option Hp :=
  match a with
  | .pointer (some ⟨i, o, none⟩) =>
    bif Nat.beq (cellsOf v).length ti.size then writeCells H i o (cellsOf v) else none
  | _ => none

/-- a part of an aggregate's cells -/
def partE (ti : TI) (cs : List Value) (off : Nat) : Option Value :=
  match ti.agg with
  | true => (lrange cs off ti.size).map fun xs => .agg xs.toArray
  | false => cs[off]?

def fillE (place : Nat → Option (Nat × Nat)) (cs : List Value) : List (Nat × Value) → Option (List Value)
  | [] => some cs
  | (i, v) :: rest => match place i with
    | none => none
    | some (off, size) => bif Nat.beq (cellsOf v).length size then (lput cs off (cellsOf v)).bind fun cs' => fillE place cs' rest else none

def partsE (e : Env) : List (Nat × Operand) → Option (List (Nat × Value))
  | [] => some []
  | (i, x) :: r => match opV e x, partsE e r with
    | some v, some vs => some ((i, v) :: vs)
    | _, _ => none

def repeatL (zero : List Value) : Nat → List Value
  | 0 => []
  | n + 1 => zero ++ repeatL zero n

def buildE (C : Ctx) (t : TypeId) (parts : List (Nat × Value)) : Option Value :=
  match C.T t with
  | some ti => match ti.kind with
    | .struct fs => (fillE (fun i => (fs[i]?).bind fun f => (C.T f.2.1).map fun ft => (f.1, ft.size)) ti.zero parts).map fun cs => .agg cs.toArray
    | .array _ el => (C.T el).bind fun et => (fillE (fun i => some (i * et.size, et.size)) ti.zero parts).map fun cs => .agg cs.toArray
    | _ => none
  | none => none

def buildSliceE (C : Ctx) (t : TypeId) (len : Nat) (parts : List (Nat × Value)) (H : Hp) : Option (Value × Hp) :=
  match C.T t with
  | some ti => match ti.kind with
    | .slice el => (C.T el).bind fun et =>
      bif Nat.ble (len * et.size) 16777216 && Nat.ble 1 et.size && Nat.beq et.zero.length et.size then
        (fillE (fun i => some (i * et.size, et.size)) (repeatL et.zero len) parts).map fun cs =>
          (.slice (some ⟨H.next, 0, none⟩) len len, H.new (.cells cs false))
      else none
    | _ => none
  | none => none

def bitsE (op : BinOp) (k : IntKind) (x y : Int) : Option Value :=
  let a := BitVec.ofInt k.bits x
  let b := BitVec.ofInt k.bits y
  match op with
  | .and => some (.int k (k.wrap (a &&& b).toNat))
  | .or => some (.int k (k.wrap (a ||| b).toNat))
  | .xor => some (.int k (k.wrap (a ^^^ b).toNat))
  | .andNot => some (.int k (k.wrap (a &&& ~~~b).toNat))
  | _ => none

def intBin (lt eq : Int → Int → Bool) (op : BinOp) (k : IntKind) (x y : Int) : Option Value :=
  match op with
  | .add => some (.int k (k.wrap (x + y)))
  | .sub => some (.int k (k.wrap (x - y)))
  | .mul => some (.int k (k.wrap (x * y)))
  | .quo => if y = 0 then none else some (.int k (k.wrap (x.tdiv y)))
  | .rem => if y = 0 then none else some (.int k (x.tmod y))
  | .eql => some (.bool (eq x y))
  | .neq => some (.bool (!eq x y))
  | .lss => some (.bool (lt x y))
  | .leq => some (.bool (!lt y x))
  | .gtr => some (.bool (lt y x))
  | .geq => some (.bool (!lt x y))
  | op => bitsE op k x y

def shiftE (op : BinOp) (k : IntKind) (x : Int) (y : Int) : Option Value :=
  if y < 0 then none else
    match op with
    | .shl => some (.int k (k.wrap (x * 2 ^ (min y.toNat k.bits))))
    | .shr => some (.int k (x.fdiv (2 ^ (min y.toNat k.bits))))
    | _ => none

/-- Equality of values of a type, whose leaves are numbers, bools, strings; pointers against nil. -/
def eqIn (C : Ctx) : Nat → TypeId → Value → Value → Option Bool
  | 0, _, _, _ => none
  | d + 1, t, x, y => match C.T t with
    | none => none
    | some ti => match ti.kind, x, y with
      | .bool, .bool a, .bool b => some (a == b)
      | .int _, .int k a, .int k' b => if k = k' then some (C.eqi a b) else none
      | .string, .string a, .string b => some (a == b)
      | .pointer _, .pointer none, .pointer b => some b.isNone
      | .pointer _, .pointer _, .pointer none => some false
      | .slice _, .slice none _ _, .slice b _ _ => some b.isNone
      | .slice _, .slice _ _ _, .slice none _ _ => some false
      | .map _ _, .map none, .map b => some b.isNone
      | .map _ _, .map _, .map none => some false
      | .func, .nilFunc, .nilFunc => some true
      | .func, .nilFunc, .func _ _ _ => some false
      | .func, .func _ _ _, .nilFunc => some false
      | .struct fs, .agg xs, .agg ys => eqFs (eqIn C d) fs xs.toList ys.toList
      | .array n e, .agg xs, .agg ys => (C.T e).bind fun et => eqEs (eqIn C d) e et.size xs.toList ys.toList n 0
      | _, _, _ => none
where
  eqFs (eq : TypeId → Value → Value → Option Bool) : List (Nat × TypeId × Bool) → List Value → List Value → Option Bool
    | [], _, _ => some true
    | (off, ft, blank) :: fs, xs, ys =>
      match blank with
      | true => eqFs eq fs xs ys
      | false => match C.T ft with
        | none => none
        | some fti => match partE fti xs off, partE fti ys off with
          | some a, some b => (eq ft a b).bind fun u => (eqFs eq fs xs ys).map fun v => u && v
          | _, _ => none
  eqEs (eq : TypeId → Value → Value → Option Bool) (e : TypeId) (size : Nat) (xs ys : List Value) : Nat → Nat → Option Bool
    | 0, _ => some true
    | n + 1, i => match C.T e with
      | none => none
      | some et => match partE et xs (i * size), partE et ys (i * size) with
        | some a, some b => (eq e a b).bind fun u => (eqEs eq e size xs ys n (i + 1)).map fun v => u && v
        | _, _ => none

def binE (C : Ctx) (op : BinOp) (t : TypeId) (x y : Value) : Option Value :=
  match x, y with
  | .int k a, .int k' b =>
    match op with
    | .shl => shiftE .shl k a b
    | .shr => shiftE .shr k a b
    | op => if k = k' then intBin C.lt C.eqi op k a b else none
  | .string a, .string b =>
    match op with
    | .add => bif Nat.ble (a.size + b.size) 9223372036854775807 then some (.string (a ++ b)) else none
    | .eql => some (.bool (a.toList == b.toList))
    | .neq => some (.bool (!(a.toList == b.toList)))
    | .lss => some (.bool (Op.bytesLess a.toList b.toList))
    | _ => none
  | x, y =>
    match op with
    | .eql => (eqIn C 30 t x y).map .bool
    | .neq => (eqIn C 30 t x y).map fun b => .bool !b
    | _ => none

def unE (op : UnOp) (x : Value) : Option Value :=
  match op, x with
  | .neg, .int k n => some (.int k (k.wrap (0 - n)))
  | .xor, .int k n => bitsE .xor k (if k.signed then -1 else k.max) n
  | .not, .bool b => some (.bool !b)
  | _, _ => none

def convE (C : Ctx) (src dst : TypeId) (x : Value) : Option Value :=
  match C.T src, C.T dst with
  | some _, some d => match d.kind, x with
    | .int k, .int _ n => some (.int k (k.wrap n))
    | .string, .string s => some (.string s)
    | _, _ => none
  | _, _ => none

def nat? (v : Value) : Option Nat :=
  match v with
  | .int _ n => if 0 ≤ n then some n.toNat else none
  | _ => none

def nato? : Option Value → Option (Option Nat)
  | none => some none
  | some v => (nat? v).map some

/-- bounds of a slice expression over a length and a capacity (unknown: only what is within the known). -/
def sliceB (len cap : Nat) (low high max : Option Nat) : Option (Nat × Nat × Nat) :=
  let m := max.getD cap
  let h := high.getD len
  let l := low.getD 0
  bif Nat.ble m cap && Nat.ble h m && Nat.ble l h && (high.isSome || max.isNone) then some (l, h, m) else none

def sliceE (C : Ctx) (t : TypeId) (x : Value) (low high max : Option Nat) : Option Value :=
  match C.T t with
  | none => none
  | some ti => match ti.kind, x with
    | .string, .string s => match max with
      | none => (sliceB s.size s.size low high none).map fun b => .string (s.extract b.1 b.2.1)
      | some _ => none
    | .slice el, .slice none 0 0 => (C.T el).bind fun _ => (sliceB 0 0 low high max).map fun _ => .slice none 0 0
    | .slice el, .slice (some ⟨i, o, sp⟩) len cap => (C.T el).bind fun et => (sliceB len cap low high max).bind fun b =>
      match sp, max with
      | none, _ => some (.slice (some ⟨i, if b.2.2 = b.1 then o else o + b.1 * et.size, none⟩) (b.2.1 - b.1) (b.2.2 - b.1))
      | some sz, none => bif Nat.beq sz et.size then some (.slice (some ⟨i, o + b.1 * et.size, some sz⟩) (b.2.1 - b.1) (b.2.2 - b.1)) else none
      | some _, some _ => bif Nat.blt b.1 b.2.2 then some (.slice (some ⟨i, o + b.1 * et.size, none⟩) (b.2.1 - b.1) (b.2.2 - b.1)) else none
    | .array n el, .pointer (some ⟨i, o, none⟩) => (C.T el).bind fun et => (sliceB n n low high max).map fun b =>
      .slice (some ⟨i, if b.2.2 = b.1 then o else o + b.1 * et.size, none⟩) (b.2.1 - b.1) (b.2.2 - b.1)
    | _, _ => none

def indexAddrE (C : Ctx) (t : TypeId) (x ix : Value) : Option Value :=
  match C.T t, nat? ix with
  | some ti, some k => match ti.kind, x with
    | .array n el, .pointer (some ⟨i, o, none⟩) => (C.T el).bind fun et =>
      bif Nat.blt k n then some (.pointer (some ⟨i, o + k * et.size, none⟩)) else none
    | .slice el, .slice (some ⟨i, o, _⟩) len _ => (C.T el).bind fun et =>
      bif Nat.blt k len then some (.pointer (some ⟨i, o + k * et.size, none⟩)) else none
    | _, _ => none
  | _, _ => none

def indexE (C : Ctx) (t : TypeId) (x ix : Value) : Option Value :=
  match C.T t, nat? ix with
  | some ti, some k => match ti.kind, x with
    | .array n el, .agg cs => (C.T el).bind fun et => bif Nat.blt k n then partE et cs.toList (k * et.size) else none
    | .string, .string s => (s[k]?).map fun b => .int .u8 b.toNat
    | _, _ => none
  | _, _ => none

def fieldE (C : Ctx) (t : TypeId) (x : Value) (f : Nat) : Option Value :=
  match C.T t with
  | some ti => match ti.kind, x with
    | .struct fs, .agg cs => (fs[f]?).bind fun fd => (C.T fd.2.1).bind fun ft => partE ft cs.toList fd.1
    | _, _ => none
  | none => none

def fieldAddrE (C : Ctx) (t : TypeId) (x : Value) (f : Nat) : Option Value :=
  match C.T t with
  | some ti => match ti.kind, x with
    | .struct fs, .pointer (some ⟨i, o, none⟩) => (fs[f]?).bind fun fd => (C.T fd.2.1).bind fun ft =>
      bif Nat.ble 1 ft.size then some (.pointer (some ⟨i, o + fd.1, none⟩)) else none
    | _, _ => none
  | none => none

def extractE (x : Value) (k : Nat) : Option Value :=
  match x with
  | .tuple vs => vs.toList[k]?
  | _ => none

def makeSliceE (C : Ctx) (t : TypeId) (l c : Value) (H : Hp) : Option (Value × Hp) :=
  match C.T t, nat? l, nat? c with
  | some ti, some len, some cap => match ti.kind with
    | .slice el => (C.T el).bind fun et =>
      bif Nat.ble (et.bytes * cap) 140737488355328 && Nat.ble len cap && Nat.ble cap 9223372036854775807 && Nat.ble 1 et.size && Nat.beq et.zero.length et.size then
        some (.slice (some ⟨H.next, 0, none⟩) len cap, H.new (.cells (repeatL et.zero cap) false))
      else none
    | _ => none
  | _, _, _ => none

/-- Keys that are told apart at sight. -/
def keyEq : Value → Value → Option Bool
  | .int k a, .int k' b => if k = k' then some (decide (a = b)) else none
  | .string a, .string b => some (a == b)
  | .bool a, .bool b => some (a == b)
  | _, _ => none

def findE (C : Ctx) (t : TypeId) (k : Value) : List (Value × Value × Nat) → Nat → Option (Option (Nat × Value))
  | [], _ => some none
  | e :: es, i => match eqIn C 30 t k e.1 with
    | some true => some (some (i, e.2.1))
    | some false => findE C t k es (i + 1)
    | none => none

def mapOf (x : Value) (H : Hp) : Option (Option (Nat × List (Value × Value × Nat) × Nat)) :=
  match x with
  | .map none => some none
  | .map (some i) => match H.get i with
    | some (.map es ck) => some (some (i, es, ck))
    | _ => none
  | _ => none

def zeroV (ti : TI) : Option Value :=
  match ti.agg with
  | true => some (.agg ti.zero.toArray)
  | false => one? ti.zero

/-- A key of a kind that a map of the evaluator may have: numbers, strings, bools, and structs of these. -/
def keyOk (v : Value) : Bool := match v with
  | .int _ _ => true | .string _ => true | .bool _ => true
  | .agg cs => cs.toList.all fun v => match v with | .int _ _ => true | .string _ => true | .bool _ => true | _ => false
  | _ => false

def scalarK : TK → Bool
  | .int _ => true
  | .string => true
  | .bool => true
  | _ => false
/-- A type of keys: scalars, or a struct of scalars. -/
def flatKey (C : Ctx) (t : TypeId) : Bool := match C.T t with
  | none => false
  | some ti => match ti.kind with
    | .struct fs => fs.all fun f => match C.T f.2.1 with
      | some fi => scalarK fi.kind
      | none => false
    | k => scalarK k
/-- A key that fits its type. -/
def keyFit (C : Ctx) (t : TypeId) (k : Value) : Bool := keyOk k && (flatKey C t && (match eqIn C 30 t k k with | some true => true | _ => false))

def entriesOf (m : Option (Nat × List (Value × Value × Nat) × Nat)) : List (Value × Value × Nat) := match m with
  | none => []
  | some p => p.2.1
def isAggV : Value → Bool
  | .agg _ => true
  | _ => false

def okV (ok : Bool) (v : Value) (b : Bool) : Value := match ok with
  | true => .tuple #[v, .bool b]
  | false => v

def lookupE (C : Ctx) (t : TypeId) (x k : Value) (ok : Bool) (H : Hp) : Option Value :=
  match C.T t with
  | none => none
  | some ti => match ti.kind with
    | .map kt et => (C.T et).bind fun eti => (mapOf x H).bind fun m => bif keyFit C kt k then
        (findE C kt k (entriesOf m) 0).bind fun r =>
          (match r with | some (_, v) => some v | none => zeroV eti).map fun v => okV ok v r.isSome
      else none
    | _ => none

def cellEq : Value → Value → Bool
  | .bool a, .bool b => a == b
  | .int k a, .int k' b => decide (k = k') && decide (a = b)
  | .string a, .string b => a == b
  | .pointer a, .pointer b => decide (a = b)
  | .slice a n c, .slice a' n' c' => decide (a = a') && (Nat.beq n n' && Nat.beq c c')
  | .map a, .map b => decide (a = b)
  | .nilFunc, .nilFunc => true
  | _, _ => false
def cellsEq : List Value → List Value → Bool
  | [], [] => true
  | x :: xs, y :: ys => cellEq x y && cellsEq xs ys
  | _, _ => false
def setAt (es : List (Value × Value × Nat)) (i : Nat) (k v : Value) : List (Value × Value × Nat) :=
  match es, i with
  | [], _ => []
  | (_, _, b) :: r, 0 => (k, v, b) :: r
  | e :: r, i + 1 => e :: setAt r i k v

def mapPutE (C : Ctx) (t : TypeId) (x k v : Value) (H : Hp) : Option Hp :=
  match C.T t with
  | none => none
  | some ti => match ti.kind with
    | .map kt _ => (mapOf x H).bind fun m => match m with
      | none => none
      | some (i, es, ck) => bif keyFit C kt k then
        (findE C kt k es 0).bind fun r => match r with
          | some (j, _) => match es[j]? with
            | some e => bif cellsEq (cellsOf e.1) (cellsOf k) && (isAggV e.1 == isAggV k) then H.upd i (.map (setAt es j k v) ck) else none
            | none => none
          | none => H.upd i (.map (es ++ [(k, v, ck)]) (ck + 1))
        else none
    | _ => none

def minE : List Value → Option Value
  | [.int k a, .int _ b] => some (.int k (if b < a then b else a))
  | _ => none
def maxE : List Value → Option Value
  | [.int k a, .int _ b] => some (.int k (if b > a then b else a))
  | _ => none

def lenE (C : Ctx) (t : TypeId) (x : Value) (H : Hp) : Option Value :=
  match C.T t with
  | none => none
  | some ti => match ti.kind, x with
    | .string, .string s => some (.int .i64 s.size)
    | .array n _, _ => some (.int .i64 n)
    | .slice _, .slice _ n _ => some (.int .i64 n)
    | .map _ _, x => (mapOf x H).map fun m => .int .i64 (match m with | none => 0 | some p => p.2.1.length : Nat)
    | _, _ => none

/-- The cells of a slice, or of a string as bytes. -/
def firstCellsE (size n : Nat) (x : Value) (H : Hp) : Option (List Value) :=
  match x with
  | .slice none _ _ => bif Nat.beq n 0 then some [] else none
  | .slice (some ⟨i, o, _⟩) _ _ => bif Nat.beq n 0 then some [] else readCells H i o (n * size)
  | .string s => some (((s.extract 0 n).data.toList).map fun b => .int .u8 b.toNat)
  | _ => none

def lenOfE : Value → Option Nat
  | .slice _ n _ => some n
  | .string s => some s.size
  | _ => none

/-- How many are appended; a number stands for so many zero elements. -/
def addedE (x : Value) : Option Nat :=
  match x with
  | .int .i64 _ => nat? x
  | _ => lenOfE x

def newCellsE (et : TI) (n : Nat) (x : Value) (H : Hp) : Option (List Value) :=
  match x with
  | .int _ _ => some (repeatL et.zero n)
  | _ => firstCellsE et.size n x H

def appendE (C : Ctx) (ts tx : TypeId) (s x : Value) (H : Hp) : Option (Value × Hp) :=
  match C.T ts, C.T tx with
  | some ti, some tj => match ti.kind, tj.kind, x with
    | .slice el, .slice _, .slice _ _ _ => appendTo C el s x H
    | .slice el, .int _, .int .i64 n => (C.T el).bind fun et => bif decide (n ≤ 4294967296) && (Nat.ble et.bytes 65536 && Nat.beq et.zero.length et.size) then appendTo C el s x H else none
    | _, _, _ => none
  | _, _ => none
where
  appendTo (C : Ctx) (el : TypeId) (s x : Value) (H : Hp) : Option (Value × Hp) :=
    (C.T el).bind fun et => (addedE x).bind fun n =>
      match s with
      | .slice base len cap =>
        bif Nat.ble (len + n) cap then
          match base with
          | none => some (s, H)
          | some ⟨i, o, _⟩ => (newCellsE et n x H).bind fun new => bif Nat.beq n 0 then some (s, H) else
            (writeCells H i (o + len * et.size) new).map fun H' => (.slice base (len + n) cap, H')
        else bif Nat.ble 1 et.size && Nat.ble 1 et.bytes && Nat.ble ((2 * (len + n) + 768) * et.bytes) 281474976710656 && Nat.beq et.zero.length et.size then
          (firstCellsE et.size len s H).bind fun old => (newCellsE et n x H).bind fun new =>
            match base with
            | some ⟨i, o, some sz⟩ => match H.get i with
              | some (.cells cs false) => bif (Nat.beq sz et.size && new.all oneCell) && (Nat.ble 1 cap && Nat.ble cs.length (o + (len + n) * et.size)) then ((H.new (.cells (old ++ new) false)).upd i .dead).map fun H1 => (.slice (some ⟨H.next, 0, some et.size⟩) (len + n) (len + n), H1) else none
              | _ => none
            | _ => some (.slice (some ⟨H.next, 0, some et.size⟩) (len + n) (len + n), H.new (.cells (old ++ new) false))
        else none
      | _ => none

def copyE (C : Ctx) (td : TypeId) (d s : Value) (H : Hp) : Option (Value × Hp) :=
  match C.T td with
  | none => none
  | some ti => match ti.kind, d with
    | .slice el, .slice base dl _ => (C.T el).bind fun et => (lenOfE s).bind fun sl =>
      (firstCellsE et.size (Nat.min sl dl) s H).bind fun cs =>
        match base, cs with
        | some ⟨i, o, _⟩, c :: cs => (writeCells H i o (c :: cs)).map fun H' => (.int .i64 (Nat.min sl dl : Nat), H')
        | _, [] => some (.int .i64 (Nat.min sl dl : Nat), H)
        | none, _ => some (.int .i64 (Nat.min sl dl : Nat), H)
    | _, _ => none

def eraseE (es : List (Value × Value × Nat)) (i : Nat) : List (Value × Value × Nat) := es.eraseIdx i

def deleteE (C : Ctx) (t : TypeId) (x k : Value) (H : Hp) : Option Hp :=
  match C.T t with
  | none => none
  | some ti => match ti.kind with
    | .map kt _ => (mapOf x H).bind fun m => bif keyFit C kt k then match m with
      | none => some H
      | some (i, es, ck) => (findE C kt k es 0).bind fun r => match r with
          | some (j, _) => H.upd i (.map (eraseE es j) ck)
          | none => H.upd i (.map es ck)
      else none
    | _ => none

def clearE (C : Ctx) (t : TypeId) (x : Value) (H : Hp) : Option Hp :=
  match C.T t with
  | none => none
  | some ti => match ti.kind, x with
    | .slice el, .slice base len _ => (C.T el).bind fun et =>
      match base with
      | none => bif Nat.beq len 0 then some H else none
      | some ⟨i, o, _⟩ => bif Nat.beq len 0 then some H else
        bif Nat.beq et.zero.length et.size then writeCells H i o (repeatL et.zero len) else none
    | .map _ _, x => (mapOf x H).bind fun m => match m with
      | none => some H
      | some (i, _, ck) => H.upd i (.map [] ck)
    | _, _ => none

/-- 'm[k] op= x', its first half: the entry, made if it is not there; what it holds, and its stamp. -/
def mapEntryE (C : Ctx) (t : TypeId) (x k : Value) (H : Hp) : Option (Value × Hp) :=
  match C.T t with
  | none => none
  | some ti => match ti.kind with
    | .map kt et => (C.T et).bind fun eti => (mapOf x H).bind fun m => match m with
      | none => none
      | some (i, es, ck) => bif keyFit C kt k then
        (findE C kt k es 0).bind fun r => match r with
          | some (j, v) => (es[j]?).bind fun e => bif !(cellsEq (cellsOf e.1) (cellsOf k) && (isAggV e.1 == isAggV k)) then none else (H.upd i (.map (setAt es j k e.2.1) ck)).map fun H' => (.tuple #[v, .int .i64 e.2.2], H')
          | none => (zeroV eti).bind fun z => (H.upd i (.map (es ++ [(k, z, ck)]) (ck + 1))).map fun H' => (.tuple #[z, .int .i64 ck], H')
        else none
    | _ => none

def stampAt (es : List (Value × Value × Nat)) (b : Nat) (v : Value) : Option (List (Value × Value × Nat)) :=
  match es with
  | [] => none
  | (k, u, c) :: r => bif Nat.beq c b then some ((k, v, c) :: r) else (stampAt r b v).map fun r' => (k, u, c) :: r'

def entryStoreE (x st v : Value) (H : Hp) : Option Hp :=
  (mapOf x H).bind fun m => match m with
    | none => none
    | some (i, es, ck) => (nat? st).bind fun b => (stampAt es b v).bind fun es' => H.upd i (.map es' ck)

def capE (C : Ctx) (t : TypeId) (x : Value) : Option Value :=
  match C.T t with
  | none => none
  | some ti => match ti.kind, x with
    | .slice _, .slice none _ c => some (.int .i64 c)
    | .slice _, .slice (some ⟨_, _, none⟩) _ c => some (.int .i64 c)
    | _, _ => none

def builtinE (C : Ctx) (b : Builtin) (ts : List TypeId) (args : List Value) (H : Hp) : Option (Value × Hp) :=
  match b, ts, args with
  | .len, [t], [x] => (lenE C t x H).map fun v => (v, H)
  | .cap, [t], [x] => (capE C t x).map fun v => (v, H)
  | .append, [ts, tx], [s, x] => appendE C ts tx s x H
  | .copy, [td, _], [d, s] => copyE C td d s H
  | .min, _, args => (minE args).map fun v => (v, H)
  | .max, _, args => (maxE args).map fun v => (v, H)
  | .clear, [t], [x] => (clearE C t x H).map fun H' => (.tuple #[], H')
  | .delete, [t, _], [m, k] => (deleteE C t m k H).map fun H' => (.tuple #[], H')
  | _, _, _ => none

/-- A map's iterator: only where at most one way is open. -/
def nextE (x : Value) (H : Hp) : Option (Value × Hp) :=
  match x with
  | .pointer (some ⟨r, 0, none⟩) => match H.get r with
    | some (.iter none _ _ _) => some (.tuple #[.bool false], H)
    | some (.iter (some m) since seen last) => match H.get m with
      | some (.map es ck) =>
        bif !seen.isEmpty && !es.isEmpty && es.all (fun e => Nat.ble last e.2.2) then none else
        match es.filter (fun e => !seen.contains e.2.2) with
        | [] => some (.tuple #[.bool false], H)
        | [e] => bif Nat.blt e.2.2 since then (H.upd r (.iter (some m) since (seen ++ [e.2.2]) ck)).map fun H' => (.tuple #[.bool true, e.1, e.2.1], H') else none
        | _ => none
      | _ => none
    | _ => none
  | _ => none

/-- What stands at the iterator's last step. -/
def entryE (x : Value) (H : Hp) : Option Value :=
  match x with
  | .pointer (some ⟨r, 0, none⟩) => match H.get r with
    | some (.iter (some m) _ seen last) => match seen.getLast?, H.get m with
      | some b, some (.map es ck) => bif Nat.beq ck last then (match es.find? (fun e => Nat.beq e.2.2 b) with
        | some e => some (.tuple #[e.1, e.2.1])
        | none => none) else none
      | _, _ => none
    | _ => none
  | _ => none

def rangeE (C : Ctx) (t : TypeId) (x : Value) (H : Hp) : Option (Value × Hp) :=
  match C.T t with
  | none => none
  | some ti => match ti.kind with
    | .map _ _ => (mapOf x H).map fun m =>
      (.pointer (some ⟨H.next, 0, none⟩), H.new (match m with | none => .iter none 0 [] 0 | some (i, _, ck) => .iter (some i) ck [] ck))
    | _ => none

/-- The function values that may be called. -/
def calleeE (v : Value) (args : List Value) : Option (Fn × List Value) :=
  match v with
  | .func (.func f) first cap => some (.func f, first.toList ++ args ++ cap.toList)
  | .func (.yield l) first _ => some (.yield l, first.toList ++ args)
  | _ => none

abbrev CallE := Fn → List Value → Hp → Option (Value × Hp)

/-- One operation. -/
def opE (C : Ctx) (call : CallE) (o : Op) (type : TypeId) (e : Env) (H : Hp) : Option (Value × Hp) :=
  let pure (v : Option Value) : Option (Value × Hp) := match v with | some v => some (v, H) | none => none
  let unit (h : Option Hp) : Option (Value × Hp) := match h with | some h => some (.tuple #[], h) | none => none
  match o with
  | .move x => pure (opV e x)
  | .assign x => pure (opV e x)
  | .pick c a b => match opV e c with
    | some (.bool true) => pure (opV e a)
    | some (.bool false) => pure (opV e b)
    | _ => none
  | .alloc t => (C.T t).bind fun ti => some (.pointer (some ⟨H.next, 0, none⟩), H.new (.cells ti.zero false))
  | .box _ x => (opV e x).bind fun v => some (.pointer (some ⟨H.next, 0, none⟩), H.new (.cells (cellsOf v) false))
  | .build t ps => pure ((partsE e ps.toList).bind fun ps => buildE C t ps)
  | .buildSlice t n ps => (partsE e ps.toList).bind fun ps => buildSliceE C t n ps H
  | .load t a => pure ((opV e a).bind fun a => (C.T t).bind fun ti => loadE ti a H)
  | .store t a x => unit ((opV e a).bind fun a => (opV e x).bind fun v => (C.T t).bind fun ti => storeE ti a v H)
  | .nilCheck x => pure ((opV e x).bind fun v => match v with
    | .pointer (some a) => some (.pointer (some a))
    | .func (.func f) a b => some (.func (.func f) a b)
    | .func (.yield f) a b => some (.func (.yield f) a b)
    | _ => none)
  | .binOp op t x y _ => pure ((opV e x).bind fun a => (opV e y).bind fun b => binE C op t a b)
  | .unOp op _ x => pure ((opV e x).bind fun a => unE op a)
  | .convert s d x => pure ((opV e x).bind fun a => convE C s d a)
  | .makeFunc fn first cap => pure ((opVs e first.toList).bind fun a => (opVs e cap.toList).bind fun b => match fn with
    | .func f => some (.func (.func f) a.toArray b.toArray)
    | _ => none)
  | .makeMap _ r => (opVo e r).bind fun r => match r with
    | none => some (.map (some H.next), H.new (.map [] 0))
    | some _ => none
  | .makeSlice t l c => (opV e l).bind fun l => (opV e c).bind fun c => makeSliceE C t l c H
  | .slice t x lo hi mx => pure ((opV e x).bind fun v => (opVo e lo).bind fun lo => (opVo e hi).bind fun hi => (opVo e mx).bind fun mx =>
      (nato? lo).bind fun lo => (nato? hi).bind fun hi => (nato? mx).bind fun mx => sliceE C t v lo hi mx)
  | .fieldAddr t x f => pure ((opV e x).bind fun v => fieldAddrE C t v f)
  | .field t x f => pure ((opV e x).bind fun v => fieldE C t v f)
  | .indexAddr t x i => pure ((opV e x).bind fun v => (opV e i).bind fun i => indexAddrE C t v i)
  | .index t x i => pure ((opV e x).bind fun v => (opV e i).bind fun i => indexE C t v i)
  | .lookup t x k ok => pure ((opV e x).bind fun v => (opV e k).bind fun k => lookupE C t v k ok H)
  | .mapUpdate t m k x => unit ((opV e m).bind fun m => (opV e k).bind fun k => (opV e x).bind fun v => mapPutE C t m k v H)
  | .insert t m k x => unit ((opV e m).bind fun m => (opV e k).bind fun k => (opV e x).bind fun v => mapPutE C t m k v H)
  | .mapEntry t m k => (opV e m).bind fun m => (opV e k).bind fun k => mapEntryE C t m k H
  | .entryStore _ m st x => unit ((opV e m).bind fun m => (opV e st).bind fun st => (opV e x).bind fun v => entryStoreE m st v H)
  | .range t x => (opV e x).bind fun v => rangeE C t v H
  | .next it false => (opV e it).bind fun v => nextE v H
  | .entry it => pure ((opV e it).bind fun v => entryE v H)
  | .extract t k => pure ((opV e t).bind fun v => extractE v k)
  | .call c => (opVs e c.args.toList).bind fun args => match c.callee with
    | .builtin b => builtinE C b c.argTypes.toList args H
    | .value f => (opV e f).bind fun fv => (calleeE fv args).bind fun p => call p.1 p.2 H
    | .invoke _ _ => none
  | _ => let _ := type; none

/-- Is a guarded operation wanted? -/
def wantE (ops : Array Oper) (o : Oper) (e : Env) : Option Bool :=
  match o.guard with
  | none => some true
  | some (j, want) => match (ops[j]?).bind (·.dst) with
    | none => some false
    | some t => match e.get t with
      | some (.bool b) => some (b == want)
      | some _ => some false
      | none => none

/-- A region's operations in the text's order. -/
def opsE (C : Ctx) (call : CallE) (ops : Array Oper) : List Oper → Env → Hp → Option (Env × Hp)
  | [], e, H => some (e, H)
  | o :: r, e, H => match wantE ops o e with
    | some true => match opE C call o.op o.type e H with
      | some (v, H') => match e.put o.dst v with
        | some e' => opsE C call ops r e' H'
        | none => none
      | none => none
    | some false => match e.put o.dst (.tuple #[]) with
      | some e' => opsE C call ops r e' H
      | none => none
    | none => none

/-- Operations that neither read nor write memory. -/
def pureOp : Op → Bool
  | .move _ | .assign _ | .pick _ _ _ | .build _ _ | .unOp _ _ _ | .convert _ _ _ | .makeFunc _ _ _ | .slice _ _ _ _ _ | .fieldAddr _ _ _ | .field _ _ _
  | .indexAddr _ _ _ | .index _ _ _ | .extract _ _ | .nilCheck _ | .binOp _ _ _ _ _ => true
  | .call c => match c.callee with
    | .builtin .min => true
    | .builtin .max => true
    | _ => false
  | _ => false

/-- Operations that may write to what is there. -/
def writerOp : Op → Bool
  | .store _ _ _ | .mapUpdate _ _ _ _ | .insert _ _ _ _ | .mapEntry _ _ _ | .entryStore _ _ _ _ | .next _ _ => true
  | .call c => match c.callee with
    | .builtin .append => true
    | .builtin .copy => true
    | .builtin .delete => true
    | .builtin .clear => true
    | .value _ => true
    | _ => false
  | _ => false

/-- Operations that only read memory, by one look. -/
def readerOp : Op → Bool
  | .load _ _ | .lookup _ _ _ _ => true
  | .call c => match c.callee with
    | .builtin .len => true
    | _ => false
  | _ => false

def valEq1 : Value → Value → Bool
  | .agg a, .agg b => cellsEq a.toList b.toList
  | x, y => cellEq x y
def valsEq : List Value → List Value → Bool
  | [], [] => true
  | x :: xs, y :: ys => valEq1 x y && valsEq xs ys
  | _, _ => false
def valEq : Value → Value → Bool
  | .tuple a, .tuple b => valsEq a.toList b.toList
  | x, y => valEq1 x y

/-- What stands ahead of each operation, as bits. -/
def maskE (acc : List Nat) : List Edge → Nat
  | [] => 0
  | e :: r => bif Region.binds .any e then 2 ^ e.on ||| ((acc[e.on]?).getD 0 ||| maskE acc r) else maskE acc r
def masks : List Oper → List Nat → List Nat
  | [], acc => acc
  | o :: r, acc => masks r (acc ++ [maskE acc o.after.toList])

/-- Operations i, j stand in the text's order. -/
def ordB (ms : List Nat) (i j : Nat) : Bool := bif Nat.blt i j then ((ms[j]?).getD 0).testBit i else ((ms[i]?).getD 0).testBit j

/-- Operation i may write to what was there: all that are not pure are ordered with it, or only look. -/
def mayWrite (ms : List Nat) (i : Nat) : List Oper → Nat → Bool
  | [], _ => true
  | x :: r, j => (Nat.beq i j || (pureOp x.op || (readerOp x.op || ordB ms i j))) && mayWrite ms i r (j + 1)

/-- A call that leaves no trace. -/
def pureCall (C : Ctx) : Op → Bool
  | .call c => match c.callee with
    | .value (.func f) => match C.fn f with
      | some a => a.pure
      | none => false
    | _ => false
  | _ => false

/-- A call that only makes what is new. -/
def mkCall (C : Ctx) : Op → Bool
  | .call c => match c.callee with
    | .value (.func f) => match C.fn f with
      | some a => !a.pure && a.fr
      | none => false
    | _ => false
  | _ => false

def isW (C : Ctx) (ms : List Nat) (ops : List Oper) (i : Nat) (o : Oper) : Bool := writerOp o.op && (!(pureCall C o.op) && mayWrite ms i ops 0)

/-- Where an operation's guard lies. -/
def guardT (ops : List Oper) (o : Oper) : Option Tmp := match o.guard with
  | none => none
  | some (j, _) => (ops[j]?).bind (·.dst)

def usesT (ops : List Oper) (o : Oper) (t : Tmp) : Bool :=
  (match guardT ops o with | some u => Nat.beq u t | none => false) || o.op.operands.toList.any fun x => match x with | .tmp u => Nat.beq u t | _ => false

/-- Operation j and all others: edges go back; no other writes its temporary; who writes one of its operands is ordered with it. -/
def regOk1 (ops : List Oper) (ms : List Nat) (j : Nat) (o : Oper) : List Oper → Nat → Bool
  | [], _ => true
  | x :: r, i => (Nat.beq i j || (match x.dst with
      | none => true
      | some t => !(match o.dst with | some u => Nat.beq u t | none => false) && (!(usesT ops o t) || ordB ms i j))) && regOk1 ops ms j o r (i + 1)
def regOk (ops : List Oper) (ms : List Nat) : List Oper → Nat → Bool
  | [], _ => true
  | o :: r, j => ((o.after.toList.all fun e => !(Region.binds .any e) || Nat.blt e.on j) && regOk1 ops ms j o ops 0) && regOk ops ms r (j + 1)

/-- What has been read: the operation's place, itself, the frame, the value. -/
structure Seen where
  at_ : Nat
  op : Oper
  env : Env
  val : Value

/-- It reads the same behind a write by operation i. -/
def stillSame (C : Ctx) (call : CallE) (ms : List Nat) (i : Nat) (H : Hp) : List Seen → Bool
  | [] => true
  | s :: r => (ordB ms i s.at_ || (match opE C call s.op.op s.op.type s.env H with
    | some (v, _) => valEq v s.val
    | none => false)) && stillSame C call ms i H r

/-- It would have read the same ahead of the writes that it isn't ordered with. -/
def wasSame (C : Ctx) (call : CallE) (ms : List Nat) (j : Nat) (o : Oper) (e : Env) (v : Value) : List (Nat × Hp) → Bool
  | [] => true
  | (i, H) :: r => (ordB ms i j || (match opE C call o.op o.type e H with
    | some (u, _) => valEq u v
    | none => false)) && wasSame C call ms j o e v r

/-- The walk of a region that draws its order. -/
structure DS where
  env : Env
  hp : Hp
  seen : List Seen
  ws : List (Nat × Hp)
  val : Value

def stepD (C : Ctx) (call : CallE) (ops : Array Oper) (ms : List Nat) (i : Nat) (o : Oper) (s : DS) : Option DS :=
  match wantE ops o s.env with
  | none => none
  | some false => match s.env.put o.dst (.tuple #[]) with
    | some e => some ⟨e, s.hp, s.seen, s.ws, .tuple #[]⟩
    | none => none
  | some true => match isW C ms ops.toList i o with
    | true => match opE C call o.op o.type s.env s.hp with
      | some (v, H') => match stillSame C call ms i H' s.seen, s.env.put o.dst v with
        | true, some e => some ⟨e, H', s.seen, (i, s.hp) :: s.ws, v⟩
        | _, _ => none
      | none => none
    | false => match opE C call o.op o.type s.env s.hp.raised with
      | some (v, H') => match readerOp o.op with
        | true => match wasSame C call ms i o s.env v s.ws, s.env.put o.dst v with
          | true, some e => some ⟨e, H'.lowered s.hp.floor, ⟨i, o, s.env, v⟩ :: s.seen, s.ws, v⟩
          | _, _ => none
        | false => match s.env.put o.dst v with
          | some e => some ⟨e, H'.lowered s.hp.floor, s.seen, s.ws, v⟩
          | none => none
      | none => none

def runD (C : Ctx) (call : CallE) (ops : Array Oper) (ms : List Nat) : List Oper → Nat → DS → Option DS
  | [], _, s => some s
  | o :: r, i, s => match stepD C call ops ms i o s with
    | some s' => runD C call ops ms r (i + 1) s'
    | none => none

/-- A region that draws its order, walked in the text's order. -/
def opsD (C : Ctx) (call : CallE) (ops : Array Oper) (e : Env) (H : Hp) : Option (Env × Hp) :=
  match regOk ops.toList (masks ops.toList []) ops.toList 0 with
  | true => match runD C call ops (masks ops.toList []) ops.toList 0 ⟨e, H, [], [], .tuple #[]⟩ with
    | some s => some (s.env, s.hp)
    | none => none
  | false => none

/-- How a piece of code is left. -/
inductive Rs where
  | nx (e : Env) (H : Hp)
  | ex (id : Nat) (e : Env) (H : Hp)
  | rt (e : Env) (H : Hp)

def Rs.then (f : Env → Hp → Option Rs) : Option Rs → Option Rs
  | some (.nx e H) => f e H
  | r => r

def Rs.block (id : Nat) : Option Rs → Option Rs
  | some (.ex j e H) => bif Nat.beq j id then some (.nx e H) else some (.ex j e H)
  | r => r

def loopE (f : Env → Hp → Option Rs) : Nat → Env → Hp → Option Rs
  | 0, _, _ => none
  | n + 1, e, H => match f e H with
    | some (.nx e H) => loopE f n e H
    | r => r

/-- How many rounds a loop may take. -/
def rounds : Nat := 4611686018427387904

/-- What is done behind a range over a function: the jump that a round left. -/
def afterLoop (l : Nat) (e : Env) (H : Hp) : Option Rs :=
  match H.get l with
  | some (.loop st pend _ _ _ _) => match st with
    | .busy => none
    | _ => (H.upd l .dead).bind fun H' => match pend with
      | none => some (.nx e H')
      | some (.exit id) => some (.ex id e H')
      | some .ret => some (.rt e H')
      | _ => none
  | _ => none

/-! ### What a range over a function takes along of its frame: what its body reads and does not write. -/
def addT (t : Nat) (l : List Nat) : List Nat := bif l.any (Nat.beq t) then l else t :: l
def opT (x : Operand) (l : List Nat) : List Nat := match x with | .tmp t => addT t l | _ => l
def opsT (xs : List Operand) (l : List Nat) : List Nat := xs.foldl (fun l x => opT x l) l
def operT (os : List Oper) (l : List Nat) : List Nat := os.foldl (fun l o => opsT o.op.operands.toList l) l
def dstT (os : List Oper) (l : List Nat) : List Nat := os.foldl (fun l o => match o.dst with | some t => t :: l | none => l) l
/-- The temporaries that code reads. -/
noncomputable def codeR (c : Code) : List Nat → List Nat :=
  Code.rec (motive := fun _ => List Nat → List Nat)
    (fun l => l) (fun _ ops _ l => operT ops.toList l) (fun _ _ a b l => b (a l)) (fun x _ _ a b l => b (a (opT x l))) (fun _ _ b l => b l) (fun _ b l => b l) (fun f _ _ _ a b l => b (a (opT f l)))
    (fun _ l => l) (fun _ b l => b l) (fun _ l => l) (fun _ l => l) (fun l => l) (fun _ l => l) c
/-- .. that it writes. -/
noncomputable def codeW (c : Code) : List Nat → List Nat :=
  Code.rec (motive := fun _ => List Nat → List Nat)
    (fun l => l) (fun _ ops _ l => dstT ops.toList l) (fun _ _ a b l => b (a l)) (fun _ _ _ a b l => b (a l)) (fun _ _ b l => b l) (fun _ b l => b l) (fun _ ps _ _ a b l => b (a (ps.toList ++ l)))
    (fun _ l => l) (fun _ b l => b l) (fun _ l => l) (fun _ l => l) (fun l => l) (fun _ l => l) c
noncomputable def takes (n : Nat) (ps : List Nat) (a b : Code) : List Nat :=
  let w := codeW b (codeW a ps)
  let r := codeR b (codeR a [])
  (List.range n).filter fun t => r.any (Nat.beq t) && !(w.any (Nat.beq t))
/-- These of a frame's temporaries. -/
def keepT (t : Tr Value) : List Nat → Tr Value → Tr Value
  | [], u => u
  | k :: ks, u => keepT t ks (match t.get k with | some v => u.set k v | none => u)
noncomputable def Env.keep (e : Env) (ks : List Nat) : Env := ⟨e.size, keepT e.t ks .nl⟩

noncomputable def evC (C : Ctx) (call : CallE) (c : Code) : Env → Hp → Option Rs :=
  Code.rec (motive := fun _ => Env → Hp → Option Rs)
    (fun e H => some (.nx e H))
    (fun _ ops draw e H => match draw with
      | false => match opsE C call ops ops.toList e H with
        | some (e', H') => some (.nx e' H')
        | none => none
      | true => match opsD C call ops e H with
        | some (e', H') => some (.nx e' H')
        | none => none)
    (fun _ _ ia ib e H => Rs.then ib (ia e H))
    (fun x _ _ ia ib e H => match opV e x with
      | some (.bool true) => ia e H
      | some (.bool false) => ib e H
      | _ => none)
    (fun id _ ib e H => Rs.block id (ib e H))
    (fun _ ib e H => loopE ib rounds e H)
    (fun f ps assign body _ _ e H => (opV e f).bind fun fv => (calleeE fv [.func (.yield H.next) #[] #[]]).bind fun p =>
      match p.1 with
      | .func g => match C.fn g, call (.func g) p.2 (H.new (.loop .ready none (e.keep (takes e.size ps.toList assign body)) ps.toList assign body)) with
        | some _, some (_, H') => afterLoop H.next e H'
        | _, _ => none
      | _ => none)
    (fun id e H => some (.ex id e H))
    (fun _ _ _ _ => none)
    (fun _ e H => some (.nx e H))
    (fun _ _ _ => none)
    (fun e H => some (.rt e H))
    (fun _ _ _ => none)
    c

def resE (C : Ctx) (e : Env) (H : Hp) : ResultVar → Option Value
  | .tmp t => e.get t
  | .cell a t => (e.get a).bind fun av => (C.T t).bind fun ti => loadE ti av H

def resEs (C : Ctx) (e : Env) (H : Hp) : List ResultVar → Option (List Value)
  | [] => some []
  | r :: rs => match resE C e H r, resEs C e H rs with
    | some v, some vs => some (v :: vs)
    | _, _ => none

def resultE (C : Ctx) (e : Env) (H : Hp) (rs : List ResultVar) : Option Value :=
  match resEs C e H rs with
  | some [v] => some v
  | some vs => some (.tuple vs.toArray)
  | none => none

/-- A body of a function, from its arguments on. -/
noncomputable def bodyE (C : Ctx) (call : CallE) (a : AF) (args : List Value) (H : Hp) : Option (Value × Hp) :=
  bif Nat.ble args.length a.ntmps then
    match evC C call a.code (Env.ofArgs a.ntmps args) H with
    | some (.nx e H') => (resultE C e H' a.results).map fun v => (v, H')
    | some (.rt e H') => (resultE C e H' a.results).map fun v => (v, H')
    | _ => none
  else none

def zipSet : List (Tmp × Value) → Env → Option Env
  | [], e => some e
  | (t, v) :: r, e => (e.set t v).bind fun e' => zipSet r e'

/-- A round of a range over a function. -/
noncomputable def roundE (C : Ctx) (call : CallE) (l : Nat) (args : List Value) (H : Hp) : Option (Value × Hp) :=
  match H.get l with
  | some (.loop _ _ env ps a b) =>
    bif Nat.beq args.length ps.length then
      (zipSet (ps.zip args) env).bind fun e0 =>
      match evC C call a e0 H with
      | some (.nx e1 H1) => match H1.get l with
        | some (.loop .ready pend env1 ps1 a1 b1) => (H1.upd l (.loop .busy pend env1 ps1 a1 b1)).bind fun H2 =>
          let leave (H3 : Hp) (j : Option Code) : Option (Value × Hp) := match H3.get l with
            | some (.loop _ _ env3 ps3 a3 b3) =>
              (H3.upd l (.loop (match j with | none => .ready | some _ => .done) j env3 ps3 a3 b3)).map fun H4 => (.bool (match j with | none => true | some _ => false), H4)
            | _ => none
          match evC C call b e1 H2 with
          | some (.nx _ H3) => leave H3 none
          | some (.ex id _ H3) => leave H3 (some (.exit id))
          | some (.rt _ H3) => leave H3 (some .ret)
          | none => none
        | _ => none
      | _ => none
    else none
  | _ => none

/-- The heap of a call that leaves no trace: without addresses among its arguments it needs none. -/
def Hp.fresh (H : Hp) (args : List Value) : Hp := bif args.all plainV then ⟨.nl, 0, 0⟩ else H.raised

/-- Calls, to a depth. -/
noncomputable def evF (C : Ctx) : Nat → Fn → List Value → Hp → Option (Value × Hp)
  | 0, _, _, _ => none
  | d + 1, fn, args, H => match fn with
    | .func f => match C.ext f args H with
      | some r => some r
      | none => match C.fn f with
        | none => none
        | some a => match a.pure with
          | false => match a.fr with
            | false => bodyE C (evF C d) a args H
            | true => (bodyE C (evF C d) a args H.raised).map fun p => (p.1, p.2.lowered H.floor)
          | true => match bodyE C (evF C d) a args (H.fresh args) with
            | some (v, _) => bif plainV v then some (v, H) else none
            | none => none
    | .yield l => roundE C (evF C d) l args H
    | _ => none

end Go.Ahe
/-
  AHE, 2: what the tables of a context say of the program: 'mkTI', 'mkAF', and the fitting of a context to a program.
-/
namespace Go.Ahe

def mkKind (P : Program) (t : TypeId) : TypeDesc → Option TK
  | .bool => some .bool
  | .int k => some (.int k)
  | .string => some .string
  | .pointer e => some (.pointer e)
  | .slice e => some (.slice e)
  | .array n e => bif P.eqGuardType P.depth t then none else some (.array n e)
  | .map k e => some (.map k e)
  | .struct fs => bif P.eqGuardType P.depth t || P.stoodInHeld t || !(fs.toList.all fun f => (P.info? f.type).isSome) then none else some (.struct (fs.toList.map fun f => (f.offset, f.type, f.name == "_")))
  | .func _ _ _ => some .func
  | _ => some .other

def mkTI (P : Program) (t : TypeId) : Option TI :=
  match P.info? t with
  | none => none
  | some i => match P.underlying t, i.zero with
    | some d, some z => bif z.cells.toList.all plainCell then (mkKind P t d).bind fun k => bif TI.agg ⟨k, i.size, i.bytes, z.cells.toList⟩ == isAggV z then some ⟨k, i.size, i.bytes, z.cells.toList⟩ else none else none
    | _, _ => none

def mkAF (P : Program) (pure mk : Bool) (f : FuncId) : Option AF :=
  match P.funcs[f]? with
  | none => none
  | some fn => match fn.body with
    | none => none
    | some c => bif fn.name == "runtime.NumGoroutine" then none else some ⟨c, fn.ntmps, fn.results.toList, pure, mk⟩

/-- A context fits a program. -/
structure Fits (C : Ctx) (P : Program) : Prop where
  lt : C.lt = fun x y => decide (x < y)
  eqi : C.eqi = fun x y => decide (x = y)
  types : ∀ t ti, C.T t = some ti → mkTI P t = some ti
  funcs : ∀ f a, C.fn f = some a → mkAF P a.pure a.fr f = some a
  mixed : P.follows .mixedOrders = true

end Go.Ahe
/-
  AHE, 3: how an abstract heap stands to a world: embeddings of ids into blocks, related values, related heaps, and what a step may change.
-/
namespace Go.Ahe

theorem nbeq_f {a b : Nat} (h : a ≠ b) : Nat.beq a b = false := by
  cases hb : Nat.beq a b with
  | false => rfl
  | true => exact absurd (Nat.eq_of_beq_eq_true hb) h
theorem nbeq_t {a b : Nat} (h : a = b) : Nat.beq a b = true := by subst h; exact Nat.beq_refl a

/-! ### Trees -/
section
variable {α : Type}
theorem Tr.get_e (k : Nat) : (Tr.nl : Tr α).get k = none := rfl
theorem Tr.get_parts (t : Tr α) (k : Nat) : t.get k = if k = 0 then t.here else if k % 2 = 1 then t.left.get (k / 2) else t.right.get (k / 2 - 1) := by
  cases t with
  | nl => simp [Tr.get, Tr.here, Tr.left, Tr.right]
  | n l v r =>
    rw [Tr.get]
    simp only [Tr.here, Tr.left, Tr.right]
    by_cases h0 : k = 0
    · subst h0; rfl
    · have hb : Nat.beq k 0 = false := nbeq_f h0
      rw [hb, cond_false, if_neg h0]
      by_cases h1 : k % 2 = 1
      · have : Nat.beq (k % 2) 1 = true := nbeq_t h1
        rw [this, cond_true, if_pos h1]
      · have : Nat.beq (k % 2) 1 = false := nbeq_f h1
        rw [this, cond_false, if_neg h1]

theorem Tr.get_put (x : α) : ∀ (f : Nat) (t : Tr α) (k j : Nat), k < f → (Tr.put x f t k).get j = if j = k then some x else t.get j := by
  intro f
  induction f with
  | zero => intro t k j h; omega
  | succ f ih =>
    intro t k j h
    rw [Tr.put]
    by_cases h0 : k = 0
    · subst h0
      have hb : Nat.beq 0 0 = true := rfl
      rw [hb, cond_true, Tr.get_parts, Tr.get_parts t j]
      simp only [Tr.here, Tr.left, Tr.right]
      by_cases hj : j = 0 <;> simp [hj]
    · have hb : Nat.beq k 0 = false := nbeq_f h0
      rw [hb, cond_false]
      by_cases h1 : k % 2 = 1
      · have hb1 : Nat.beq (k % 2) 1 = true := nbeq_t h1
        rw [hb1, cond_true, Tr.get_parts, Tr.get_parts t j]
        simp only [Tr.here, Tr.left, Tr.right]
        by_cases hj : j = 0
        · subst hj; rw [if_pos rfl, if_pos rfl, if_neg (by omega)]
        · rw [if_neg hj, if_neg hj]
          by_cases hj1 : j % 2 = 1
          · rw [if_pos hj1, if_pos hj1, ih _ _ _ (by omega)]
            by_cases e : j = k
            · rw [if_pos e, if_pos (by rw [e])]
            · rw [if_neg e, if_neg (by omega)]
          · rw [if_neg hj1, if_neg hj1, if_neg (by omega)]
      · have hb1 : Nat.beq (k % 2) 1 = false := nbeq_f h1
        rw [hb1, cond_false, Tr.get_parts, Tr.get_parts t j]
        simp only [Tr.here, Tr.left, Tr.right]
        by_cases hj : j = 0
        · subst hj; rw [if_pos rfl, if_pos rfl, if_neg (by omega)]
        · rw [if_neg hj, if_neg hj]
          by_cases hj1 : j % 2 = 1
          · rw [if_pos hj1, if_pos hj1, if_neg (by omega)]
          · rw [if_neg hj1, if_neg hj1, ih _ _ _ (by omega)]
            by_cases e : j = k
            · rw [if_pos e, if_pos (by rw [e])]
            · rw [if_neg e, if_neg (by omega)]

theorem Tr.get_set (t : Tr α) (k : Nat) (x : α) (j : Nat) : (t.set k x).get j = if j = k then some x else t.get j :=
  Tr.get_put x (k + 1) t k j (by omega)
end

/-! ### Heaps -/
theorem Hp.get_new (H : Hp) (o : Ob) (j : Nat) : (H.new o).get j = if j = H.next then some o else H.get j := Tr.get_set _ _ _ _
@[simp] theorem Hp.next_new (H : Hp) (o : Ob) : (H.new o).next = H.next + 1 := id rfl
@[simp] theorem Hp.floor_new (H : Hp) (o : Ob) : (H.new o).floor = H.floor := id rfl
theorem Hp.upd_some {H H' : Hp} {i : Nat} {o : Ob} (h : H.upd i o = some H') : H.floor ≤ i ∧ H'.next = H.next ∧ H'.floor = H.floor ∧ ∀ j, H'.get j = if j = i then some o else H.get j := by
  unfold Hp.upd at h
  cases hb : Nat.ble H.floor i with
  | false => rw [hb, cond_false] at h; cases h
  | true =>
    rw [hb, cond_true] at h
    cases h
    exact ⟨Nat.le_of_ble_eq_true hb, rfl, rfl, fun j => Tr.get_set _ _ _ _⟩
@[simp] theorem Hp.get_raised (H : Hp) (j : Nat) : H.raised.get j = H.get j := rfl
@[simp] theorem Hp.get_lowered (H : Hp) (f j : Nat) : (H.lowered f).get j = H.get j := rfl

/-! ### Frames -/
theorem Env.set_some {e e' : Env} {k : Nat} {v : Value} (h : e.set k v = some e') : k < e.size ∧ e'.size = e.size ∧ ∀ j, e'.get j = if j = k then some v else e.get j := by
  unfold Env.set at h
  cases hb : Nat.blt k e.size with
  | false => rw [hb, cond_false] at h; cases h
  | true =>
    rw [hb, cond_true] at h
    cases h
    refine ⟨by simpa using hb, rfl, fun j => ?_⟩
    unfold Env.get
    simp only [Tr.get_set]
    by_cases e : j = k
    · subst e; simp [hb]
    · simp [e]
theorem Env.get_some {e : Env} {k : Nat} {v : Value} (h : e.get k = some v) : k < e.size ∧ e.t.get k = some v := by
  unfold Env.get at h
  cases hb : Nat.blt k e.size with
  | false => rw [hb, cond_false] at h; cases h
  | true => rw [hb, cond_true] at h; exact ⟨by simpa using hb, h⟩
theorem Env.get_of {e : Env} {k : Nat} {v : Value} (h1 : k < e.size) (h2 : e.t.get k = some v) : e.get k = some v := by
  unfold Env.get
  have : Nat.blt k e.size = true := by simpa using h1
  rw [this, cond_true, h2]

/-! ### Values -/
/-- Where ids lie: a block, an offset; and how many cells the blocks have. -/
structure Emb where
  at_ : Nat → Option (Nat × Nat)
  sz : Nat → Nat
instance : CoeFun Emb fun _ => Nat → Option (Nat × Nat) := ⟨Emb.at_⟩

mutual
inductive VR (ι : Emb) : Value → Value → Prop
  | bool (b : Bool) : VR ι (.bool b) (.bool b)
  | int (k : IntKind) (n : Int) : VR ι (.int k n) (.int k n)
  | string (s : ByteArray) : VR ι (.string s) (.string s)
  | nilp : VR ι (.pointer none) (.pointer none)
  | ptr {i o b p : Nat} (h : ι i = some (b, p)) : VR ι (.pointer (some ⟨i, o, none⟩)) (.pointer (some ⟨b, p + o, none⟩))
  | nils : VR ι (.slice none 0 0) (.slice none 0 0)
  | slice {i o b p l c : Nat} (h : ι i = some (b, p)) : VR ι (.slice (some ⟨i, o, none⟩) l c) (.slice (some ⟨b, p + o, none⟩) l c)
  | sliceU {i o b p q l c c' z : Nat} (h : ι i = some (b, p)) (hl : l ≤ c) (hc : c ≤ c') (hq : c = 0 ∨ q = p + o) (he : c' = 0 ∨ q + c' * z = ι.sz b) : VR ι (.slice (some ⟨i, o, some z⟩) l c) (.slice (some ⟨b, q, none⟩) l c')
  | nilm : VR ι (.map none) (.map none)
  | map {i b p : Nat} (h : ι i = some (b, p)) : VR ι (.map (some i)) (.map (some b))
  | func {f : FuncId} {a a' c c' : Array Value} (ha : VRs ι a.toList a'.toList) (hc : VRs ι c.toList c'.toList) : VR ι (.func (.func f) a c) (.func (.func f) a' c')
  | yield {l b p : Nat} (h : ι l = some (b, p)) : VR ι (.func (.yield l) #[] #[]) (.func (.yield b) #[] #[])
  | nilf : VR ι .nilFunc .nilFunc
  | nili : VR ι .nilIface .nilIface
  | agg {a a' : Array Value} (h : VRs ι a.toList a'.toList) : VR ι (.agg a) (.agg a')
  | tuple {a a' : Array Value} (h : VRs ι a.toList a'.toList) : VR ι (.tuple a) (.tuple a')
inductive VRs (ι : Emb) : List Value → List Value → Prop
  | nil : VRs ι [] []
  | cons {v v' : Value} {l l' : List Value} (h : VR ι v v') (t : VRs ι l l') : VRs ι (v :: l) (v' :: l')
end

def Emb.le (ι ι' : Emb) : Prop := ∀ i b p, ι i = some (b, p) → ι' i = some (b, p) ∧ ι'.sz b = ι.sz b

mutual
theorem VR.mono {ι ι' : Emb} (hm : ι.le ι') {v v' : Value} : VR ι v v' → VR ι' v v'
  | .bool b => .bool b
  | .int k n => .int k n
  | .string s => .string s
  | .nilp => .nilp
  | .ptr h => .ptr (hm _ _ _ h).1
  | .nils => .nils
  | .slice h => .slice (hm _ _ _ h).1
  | .sliceU h hl hc hq he => .sliceU (hm _ _ _ h).1 hl hc hq (by rw [(hm _ _ _ h).2]; exact he)
  | .nilm => .nilm
  | .map h => .map (hm _ _ _ h).1
  | .func ha hc => .func (VRs.mono hm ha) (VRs.mono hm hc)
  | .yield h => .yield (hm _ _ _ h).1
  | .nilf => .nilf
  | .nili => .nili
  | .agg h => .agg (VRs.mono hm h)
  | .tuple h => .tuple (VRs.mono hm h)
theorem VRs.mono {ι ι' : Emb} (hm : ι.le ι') {l l' : List Value} : VRs ι l l' → VRs ι' l l'
  | .nil => .nil
  | .cons h t => .cons (VR.mono hm h) (VRs.mono hm t)
end

theorem VRs.length {ι : Emb} : ∀ {l l' : List Value}, VRs ι l l' → l.length = l'.length
  | _, _, .nil => rfl
  | _, _, .cons _ t => by simp [t.length]

theorem VRs.get? {ι : Emb} : ∀ {l l' : List Value}, VRs ι l l' → ∀ {k : Nat} {v : Value}, l[k]? = some v → ∃ v', l'[k]? = some v' ∧ VR ι v v'
  | _, _, .nil, k, v, h => by simp at h
  | _, _, .cons (v' := v') hv t, k, v, h => by
    cases k with
    | zero => simp at h; subst h; exact ⟨v', rfl, hv⟩
    | succ k => simp at h; obtain ⟨u, hu, hr⟩ := t.get? h; exact ⟨u, by simpa using hu, hr⟩

theorem VRs.of_get {ι : Emb} : ∀ {l l' : List Value}, l.length = l'.length → (∀ (k : Nat) (v : Value), l[k]? = some v → ∃ v', l'[k]? = some v' ∧ VR ι v v') → VRs ι l l'
  | [], [], _, _ => .nil
  | [], _ :: _, h, _ => by simp at h
  | _ :: _, [], h, _ => by simp at h
  | a :: l, b :: l', h, hh => by
    obtain ⟨u, hu, hr⟩ := hh 0 a rfl
    simp at hu; subst hu
    exact .cons hr (VRs.of_get (by simpa using h) fun k v hk => by
      obtain ⟨u, hu, hr⟩ := hh (k + 1) v (by simpa using hk)
      exact ⟨u, by simpa using hu, hr⟩)

theorem VRs.append {ι : Emb} : ∀ {a a' b b' : List Value}, VRs ι a a' → VRs ι b b' → VRs ι (a ++ b) (a' ++ b')
  | _, _, _, _, .nil, h => h
  | _, _, _, _, .cons hv t, h => .cons hv (t.append h)

theorem VRs.take {ι : Emb} : ∀ {a a' : List Value} (n : Nat), VRs ι a a' → VRs ι (a.take n) (a'.take n)
  | _, _, 0, _ => by simpa using VRs.nil
  | _, _, _ + 1, .nil => .nil
  | _, _, n + 1, .cons hv t => .cons hv (t.take n)

theorem VRs.drop {ι : Emb} : ∀ {a a' : List Value} (n : Nat), VRs ι a a' → VRs ι (a.drop n) (a'.drop n)
  | _, _, 0, h => h
  | _, _, _ + 1, .nil => .nil
  | _, _, n + 1, .cons _ t => t.drop n

theorem VRs.one {ι : Emb} {v v' : Value} (h : VR ι v v') : VRs ι [v] [v'] := .cons h .nil

/-- A plain value stands for itself. -/
theorem VR.plainCell {ι : Emb} {v : Value} (h : plainCell v = true) : VR ι v v := by
  cases v with
  | bool b => exact .bool b
  | int k n => exact .int k n
  | string s => exact .string s
  | pointer a => cases a with
    | none => exact .nilp
    | some a => cases h
  | slice a l c => cases a with
    | none => cases l with
      | zero => cases c with
        | zero => exact .nils
        | succ c => cases h
      | succ l => cases h
    | some a => cases h
  | map r => cases r with
    | none => exact .nilm
    | some a => cases h
  | nilFunc => exact .nilf
  | nilIface => exact .nili
  | _ => cases h

theorem VRs.plain {ι : Emb} {f : Value → Bool} (hf : ∀ v, f v = true → VR ι v v) : ∀ {l : List Value}, l.all f = true → VRs ι l l
  | [], _ => .nil
  | v :: l, h => by
    simp only [List.all_cons, Bool.and_eq_true] at h
    exact .cons (hf v h.1) (VRs.plain hf h.2)

theorem VR.plainV1 {ι : Emb} {v : Value} (h : plainV1 v = true) : VR ι v v := by
  cases v with
  | agg cs => exact .agg (VRs.plain (fun v => VR.plainCell) h)
  | _ => exact VR.plainCell h

theorem VR.plainV {ι : Emb} {v : Value} (h : plainV v = true) : VR ι v v := by
  cases v with
  | tuple cs => exact .tuple (VRs.plain (fun v => VR.plainV1) h)
  | _ => exact VR.plainV1 h

theorem VR.undef {ι : Emb} : VR ι (.tuple #[]) (.tuple #[]) := .tuple .nil

/-- The cells of related values. -/
theorem VR.cells {ι : Emb} {v v' : Value} (h : VR ι v v') : VRs ι (cellsOf v) v'.cells.toList := by
  cases h <;> first | exact VRs.one (by constructor <;> assumption) | skip
  case agg h => exact h

theorem cellsOf_eq (v : Value) : v.cells.toList = cellsOf v := by cases v <;> rfl

theorem VR.oneCell {ι : Emb} {v v' : Value} (h : VR ι v v') : oneCell v' = oneCell v := by cases h <;> rfl

/-! ### Frames, related -/
def EnvR (ι : Emb) (e : Env) (tmps : Array Value) : Prop := e.size = tmps.size ∧ ∀ k v, e.get k = some v → VR ι v (tmps.getD k Go.undef)

theorem EnvR.mono {ι ι' : Emb} (hm : ι.le ι') {e : Env} {t : Array Value} (h : EnvR ι e t) : EnvR ι' e t := ⟨h.1, fun k v hk => (h.2 k v hk).mono hm⟩

theorem EnvR.set {ι : Emb} {e e' : Env} {t : Array Value} {k : Nat} {v v' : Value} (h : EnvR ι e t) (hs : e.set k v = some e') (hv : VR ι v v') : EnvR ι e' (t.setIfInBounds k v') := by
  obtain ⟨hk, hsz, hg⟩ := Env.set_some hs
  refine ⟨by rw [hsz, h.1]; simp, fun j u hj => ?_⟩
  rw [hg] at hj
  by_cases e : j = k
  · subst e
    rw [if_pos rfl] at hj
    cases hj
    have : j < t.size := by rw [← h.1]; exact hk
    simp [this]; exact hv
  · rw [if_neg e] at hj
    have := h.2 j u hj
    rw [Array.getD_eq_getD_getElem?, Array.getElem?_setIfInBounds_ne (Ne.symm e), ← Array.getD_eq_getD_getElem?]
    exact this

theorem keepT_get {t : Tr Value} : ∀ {ks : List Nat} {u : Tr Value} {k : Nat} {v : Value}, (keepT t ks u).get k = some v → t.get k = some v ∨ u.get k = some v
  | [], _, _, _, h => .inr h
  | j :: ks, u, k, v, h => by
    rw [keepT] at h
    rcases keepT_get h with h | h
    · exact .inl h
    · cases ht : t.get j with
      | none => rw [ht] at h; exact .inr h
      | some w =>
        rw [ht] at h
        simp only [Tr.get_set] at h
        by_cases e : k = j
        · rw [if_pos e] at h; cases h; subst e; exact .inl ht
        · rw [if_neg e] at h; exact .inr h
theorem EnvR.keep {ι : Emb} {e : Env} {t : Array Value} (h : EnvR ι e t) (ks : List Nat) : EnvR ι (e.keep ks) t := ⟨h.1, fun k v hk => by
  obtain ⟨h1, h2⟩ := Env.get_some hk
  rcases keepT_get h2 with h3 | h3
  · exact h.2 k v (Env.get_of h1 h3)
  · cases h3⟩

theorem EnvR.put {ι : Emb} {e e' : Env} {a : Act} {d : Option Nat} {v v' : Value} (h : EnvR ι e a.tmps) (hs : e.put d v = some e') (hv : VR ι v v') : EnvR ι e' (a.put d v').tmps := by
  cases d with
  | none => simp only [Env.put] at hs; cases hs; exact h
  | some k => exact h.set hs hv

theorem EnvR.op {ι : Emb} {e : Env} {a : Act} {x : Operand} {v : Value} (h : EnvR ι e a.tmps) (hs : opV e x = some v) : VR ι v (a.eval x) := by
  cases x with
  | tmp t => exact h.2 t v hs
  | const v =>
    simp only [opV] at hs
    cases hb : Go.Ahe.plainV v with
    | false => rw [hb, cond_false] at hs; cases hs
    | true => rw [hb, cond_true] at hs; cases hs; exact VR.plainV hb
  | func f => simp only [opV] at hs; cases hs; exact .func .nil .nil
  | global g => cases hs

theorem EnvR.ops {ι : Emb} {e : Env} {a : Act} (h : EnvR ι e a.tmps) : ∀ {xs : List Operand} {vs : List Value}, opVs e xs = some vs → VRs ι vs (xs.map a.eval)
  | [], vs, hs => by simp only [opVs] at hs; cases hs; exact .nil
  | x :: xs, vs, hs => by
    simp only [opVs] at hs
    split at hs
    · rename_i v vs' h1 h2; cases hs; exact .cons (h.op h1) (h.ops h2)
    · cases hs

end Go.Ahe
/-
  AHE, 4: related heaps ('Rel') and steps ('Step'): what is kept when an object is made, or written.
-/
namespace Go.Ahe
open Go.RowKit

/-- Entries of a map, related. -/
inductive MR (ι : Emb) : List (Value × Value × Nat) → List MapEntry → Prop
  | nil : MR ι [] []
  | cons {k v v' : Value} {b : Nat} {es : List (Value × Value × Nat)} {ES : List MapEntry} (hk : keyOk k = true) (hv : VR ι v v') (t : MR ι es ES) :
      MR ι ((k, v, b) :: es) (⟨k, v', b⟩ :: ES)

theorem MR.mono {ι ι' : Emb} (hm : ι.le ι') {es : List (Value × Value × Nat)} {ES : List MapEntry} (h : MR ι es ES) : MR ι' es ES := by
  induction h with
  | nil => exact .nil
  | cons hk hv _ ih => exact .cons hk (hv.mono hm) ih

def Ob.live : Ob → Bool
  | .dead => false
  | _ => true

/-- An object, and the block (from an offset on) that it stands for. -/
def ObR (ι : Emb) (w : World) (o : Ob) (b p : Nat) : Prop :=
  match o with
  | .cells cs ro => ∃ C E fz, w.heap[b]? = some (.cells C E fz) ∧ (ro = false → ∀ k, ¬ (fz.1 ≤ k ∧ k < fz.2)) ∧ (p + cs.length ≤ C.size ∧ C.size = ι.sz b) ∧
      (∀ (k : Nat) (v : Value), cs[k]? = some v → ∃ v', C[p + k]? = some v' ∧ VR ι v v') ∧ (ro = false → ∀ (k : Nat) (v' : Value), p + cs.length ≤ k → C[k]? = some v' → plainCell v' = true)
  | .map es ck => ∃ ES : Array MapEntry, w.heap[b]? = some (.map ES ck) ∧ MR ι es ES.toList
  | .iter m since seen st => p = 0 ∧ ∃ m', w.heap[b]? = some (.mapIter m' since seen.toArray st) ∧
      (match m with
       | none => m' = none
       | some i => ∃ b' q, ι i = some (b', q) ∧ m' = some b')
  | .loop st pend env ps as body => ∃ L : Loop, w.heap[b]? = some (.loop L) ∧ L.state = st ∧ L.pending = pend ∧ EnvR ι env L.tmps ∧ L.params.toList = ps ∧ L.assign = as ∧ L.body = body
  | .dead => True

theorem ObR.mono {ι ι' : Emb} (hm : ι.le ι') {w : World} {o : Ob} {b p : Nat} (hz : ι'.sz b = ι.sz b) (h : ObR ι w o b p) : ObR ι' w o b p := by
  cases o with
  | cells cs ro =>
    obtain ⟨C, E, fz, h1, h2, h3, h4, h5⟩ := h
    exact ⟨C, E, fz, h1, h2, ⟨h3.1, h3.2.trans hz.symm⟩, fun k v hk => let ⟨v', a, b⟩ := h4 k v hk; ⟨v', a, b.mono hm⟩, h5⟩
  | map es ck => obtain ⟨ES, h1, h2⟩ := h; exact ⟨ES, h1, h2.mono hm⟩
  | iter m since seen st =>
    obtain ⟨h0, m', h1, h2⟩ := h
    refine ⟨h0, m', h1, ?_⟩
    cases m with
    | none => exact h2
    | some i => obtain ⟨b', q, h3, h4⟩ := h2; exact ⟨b', q, (hm _ _ _ h3).1, h4⟩
  | loop st pend env ps as body => obtain ⟨L, h1, h2, h3, h4, h5⟩ := h; exact ⟨L, h1, h2, h3, h4.mono hm, h5⟩
  | dead => trivial

theorem ObR.same {ι : Emb} {w w' : World} {o : Ob} {b p : Nat} (h : ObR ι w o b p) (hs : w'.heap[b]? = w.heap[b]?) : ObR ι w' o b p := by
  cases o with
  | dead => trivial
  | cells cs ro => obtain ⟨C, E, fz, h1, r⟩ := h; exact ⟨C, E, fz, hs.trans h1, r⟩
  | map es ck => obtain ⟨ES, h1, r⟩ := h; exact ⟨ES, hs.trans h1, r⟩
  | iter m since seen st => obtain ⟨h0, m', h1, r⟩ := h; exact ⟨h0, m', hs.trans h1, r⟩
  | loop st pend env ps as body => obtain ⟨L, h1, r⟩ := h; exact ⟨L, hs.trans h1, r⟩

/-- An abstract heap and a world. -/
structure Rel (base : Nat) (ι : Emb) (H : Hp) (w : World) : Prop where
  flo : H.floor ≤ H.next
  dom : ∀ i, H.next ≤ i → ι i = none
  bnd : ∀ i b p, ι i = some (b, p) → b < w.heap.size
  ob : ∀ i o b p, H.get i = some o → ι i = some (b, p) → ObR ι w o b p
  inj : ∀ i j oi oj b p q, H.get i = some oi → H.get j = some oj → oi.wr = true → oj.live = true → ι i = some (b, p) → ι j = some (b, q) → i = j
  bas : ∀ i o b p, H.get i = some o → o.wr = true → ι i = some (b, p) → base ≤ b
  bs : base ≤ w.heap.size

theorem Rel.lt {base : Nat} {ι : Emb} {H : Hp} {w : World} (hr : Rel base ι H w) {i : Nat} {x : Nat × Nat} (h : ι i = some x) : i < H.next := by
  rcases Nat.lt_or_ge i H.next with h1 | h1
  · exact h1
  · rw [hr.dom i h1] at h; cases h

theorem Ob.wr_live {o : Ob} (h : o.wr = true) : o.live = true := by cases o <;> first | rfl | cases h

/-- A block that an object may be written through. -/
def Owned (ι : Emb) (H : Hp) (b : Nat) : Prop := ∃ i o p, H.get i = some o ∧ o.wr = true ∧ H.floor ≤ i ∧ ι i = some (b, p)

/-- What a step may change. -/
structure Step (ι ι' : Emb) (H H' : Hp) (w w' : World) : Prop where
  emb : ∀ i, i < H.next → ι' i = ι i
  ssz : ∀ b, b < w.heap.size → ι'.sz b = ι.sz b
  next : H.next ≤ H'.next
  floor : H'.floor = H.floor
  low : ∀ i, i < H.floor → H'.get i = H.get i
  owned : ∀ b, b < w.heap.size → Owned ι' H' b → Owned ι H b
  os : w'.os = w.os
  tape : w'.tape = w.tape
  output : w'.output = w.output
  size : w.heap.size ≤ w'.heap.size
  same : ∀ b, b < w.heap.size → ¬ Owned ι H b → w'.heap[b]? = w.heap[b]?
  loops : ∀ (b : Nat) (L : Loop), w.heap[b]? = some (.loop L) → ∃ L' : Loop, w'.heap[b]? = some (.loop L')
  news : ∀ i b p, H.next ≤ i → ι' i = some (b, p) → w.heap.size ≤ b ∨ Owned ι H b

theorem Step.refl {base : Nat} {ι : Emb} {H : Hp} {w : World} (hr : Rel base ι H w) : Step ι ι H H w w :=
  ⟨fun _ _ => rfl, fun _ _ => rfl, Nat.le_refl _, rfl, fun _ _ => rfl, fun _ _ h => h, rfl, rfl, rfl, Nat.le_refl _, fun _ _ _ => rfl, fun _ L h => ⟨L, h⟩, fun i b p h1 h2 => by rw [hr.dom i h1] at h2; cases h2⟩

theorem Step.trans {ι ι1 ι2 : Emb} {H H1 H2 : Hp} {w w1 w2 : World} (h : Step ι ι1 H H1 w w1) (k : Step ι1 ι2 H1 H2 w1 w2) : Step ι ι2 H H2 w w2 where
  emb i hi := (k.emb i (Nat.lt_of_lt_of_le hi h.next)).trans (h.emb i hi)
  ssz b hb := (k.ssz b (Nat.lt_of_lt_of_le hb h.size)).trans (h.ssz b hb)
  next := Nat.le_trans h.next k.next
  floor := k.floor.trans h.floor
  low i hi := (k.low i (by rw [h.floor]; exact hi)).trans (h.low i hi)
  owned b hb ho := h.owned b hb (k.owned b (Nat.lt_of_lt_of_le hb h.size) ho)
  os := k.os.trans h.os
  tape := k.tape.trans h.tape
  output := k.output.trans h.output
  size := Nat.le_trans h.size k.size
  same b hb ho := (k.same b (Nat.lt_of_lt_of_le hb h.size) (fun h' => ho (h.owned b hb h'))).trans (h.same b hb ho)
  loops b L hL := let ⟨L1, h1⟩ := h.loops b L hL; k.loops b L1 h1
  news i b p h1 h2 := by
    by_cases hi : i < H1.next
    · rw [k.emb i hi] at h2; exact h.news i b p h1 h2
    · rcases k.news i b p (by omega) h2 with h3 | h3
      · exact .inl (Nat.le_trans h.size h3)
      · rcases Nat.lt_or_ge b w.heap.size with h4 | h4
        · exact .inr (h.owned b h4 h3)
        · exact .inl h4

theorem Step.le {base : Nat} {ι ι' : Emb} {H H' : Hp} {w w' : World} (h : Step ι ι' H H' w w') (hr : Rel base ι H w) : ι.le ι' := by
  intro i b p hx
  by_cases hi : i < H.next
  · rw [h.emb i hi]; exact ⟨hx, h.ssz b (hr.bnd i b p hx)⟩
  · rw [hr.dom i (by omega)] at hx; cases hx

/-- The world's streams are as they were. -/
structure WEq (w w' : World) : Prop where
  os : w'.os = w.os
  tape : w'.tape = w.tape
  output : w'.output = w.output

/-- The id i comes to lie at x; a block n of s cells is new. -/
def Emb.ext (ι : Emb) (i : Nat) (x : Nat × Nat) (n s : Nat) : Emb := ⟨fun j => if j = i then some x else ι j, fun b => if b = n then s else ι.sz b⟩
theorem Emb.ext_self (ι : Emb) (i : Nat) (x : Nat × Nat) (n s : Nat) : ι.ext i x n s i = some x := if_pos rfl
theorem Emb.ext_ne (ι : Emb) {i j : Nat} (x : Nat × Nat) (n s : Nat) (h : j ≠ i) : ι.ext i x n s j = ι j := if_neg h
theorem Emb.ext_sz (ι : Emb) (i : Nat) (x : Nat × Nat) (n s : Nat) : (ι.ext i x n s).sz n = s := if_pos rfl
theorem Emb.ext_sz_ne (ι : Emb) (i : Nat) (x : Nat × Nat) {n b : Nat} (s : Nat) (h : b ≠ n) : (ι.ext i x n s).sz b = ι.sz b := if_neg h
theorem Emb.le_ext {ι : Emb} {i : Nat} (x : Nat × Nat) {n : Nat} (s : Nat) (h : ι i = none) (hn : ∀ j b p, ι j = some (b, p) → b ≠ n) : ι.le (ι.ext i x n s) := fun j b p hj => by
  refine ⟨?_, Emb.ext_sz_ne _ _ _ _ (hn j b p hj)⟩
  by_cases e : j = i
  · subst e; rw [h] at hj; cases hj
  · rw [Emb.ext_ne _ _ _ _ e]; exact hj

theorem alloc_lt (w : World) (o : Obj) {k : Nat} (h : k < w.heap.size) : (w.alloc o).heap[k]? = w.heap[k]? := Below.heap_alloc w o k h
theorem alloc_new (w : World) (o : Obj) : (w.alloc o).heap[w.heap.size]? = some o := by
  show (w.heap.push o)[w.heap.size]? = some o
  simp

/-- **A NEW OBJECT.** -/
theorem Rel.new {base : Nat} {ι : Emb} {H : Hp} {w : World} (hr : Rel base ι H w) (o : Ob) (O : Obj) (s : Nat)
    (ho : ∀ w' : World, w'.heap[w.heap.size]? = some O → ObR (ι.ext H.next (w.heap.size, 0) w.heap.size s) w' o w.heap.size 0) :
    Rel base (ι.ext H.next (w.heap.size, 0) w.heap.size s) (H.new o) (w.alloc O) ∧ Step ι (ι.ext H.next (w.heap.size, 0) w.heap.size s) H (H.new o) w (w.alloc O) := by
  have hnone : ι H.next = none := hr.dom _ (Nat.le_refl _)
  have hle : ι.le (ι.ext H.next (w.heap.size, 0) w.heap.size s) := Emb.le_ext (w.heap.size, 0) s hnone (fun j b p hj e => by have := hr.bnd j b p hj; omega)
  have hsz : (w.alloc O).heap.size = w.heap.size + 1 := by show (w.heap.push O).size = _; simp
  refine ⟨⟨?_, ?_, ?_, ?_, ?_, ?_, ?_⟩, ⟨?_, fun b hb => Emb.ext_sz_ne _ _ _ _ (by omega), ?_, rfl, ?_, ?_, rfl, rfl, rfl, ?_, ?_, ?_, ?_⟩⟩
  · have := hr.flo; simp; omega
  · intro i hi
    simp at hi
    rw [Emb.ext_ne _ _ _ _ (by omega)]
    exact hr.dom i (by omega)
  · intro i b p h
    rw [hsz]
    by_cases e : i = H.next
    · subst e; rw [Emb.ext_self] at h; cases h; omega
    · rw [Emb.ext_ne _ _ _ _ e] at h; have := hr.bnd i b p h; omega
  · intro i o' b p h hi
    rw [Hp.get_new] at h
    by_cases e : i = H.next
    · subst e
      rw [if_pos rfl] at h; cases h
      rw [Emb.ext_self] at hi; cases hi
      exact ho _ (alloc_new w O)
    · rw [if_neg e] at h
      rw [Emb.ext_ne _ _ _ _ e] at hi
      exact ((hr.ob i o' b p h hi).same (alloc_lt w O (hr.bnd i b p hi))).mono hle (hle i b p hi).2
  · intro i j oi oj b p q h1 h2 h3 h4 h5 h6
    rw [Hp.get_new] at h1 h2
    by_cases ei : i = H.next <;> by_cases ej : j = H.next
    · omega
    · subst ei
      rw [Emb.ext_self] at h5; cases h5
      rw [Emb.ext_ne _ _ _ _ ej] at h6
      have := hr.bnd j _ _ h6; omega
    · subst ej
      rw [Emb.ext_self] at h6; cases h6
      rw [Emb.ext_ne _ _ _ _ ei] at h5
      have := hr.bnd i _ _ h5; omega
    · rw [if_neg ei] at h1; rw [if_neg ej] at h2
      rw [Emb.ext_ne _ _ _ _ ei] at h5; rw [Emb.ext_ne _ _ _ _ ej] at h6
      exact hr.inj i j oi oj b p q h1 h2 h3 h4 h5 h6
  · intro i o' b p h h2 hi
    rw [Hp.get_new] at h
    by_cases e : i = H.next
    · subst e; rw [Emb.ext_self] at hi; cases hi; exact hr.bs
    · rw [if_neg e] at h; rw [Emb.ext_ne _ _ _ _ e] at hi; exact hr.bas i o' b p h h2 hi
  · rw [hsz]; have := hr.bs; omega
  · intro i hi; exact Emb.ext_ne _ _ _ _ (by omega)
  · simp
  · intro i hi
    rw [Hp.get_new, if_neg]
    have := hr.flo; omega
  · rintro b hb ⟨i, o', p, h1, h2, h3, h4⟩
    rw [Hp.get_new] at h1
    by_cases e : i = H.next
    · subst e; rw [Emb.ext_self] at h4; cases h4; omega
    · rw [if_neg e] at h1; rw [Emb.ext_ne _ _ _ _ e] at h4; exact ⟨i, o', p, h1, h2, h3, h4⟩
  · rw [hsz]; omega
  · intro b hb _; exact alloc_lt w O hb
  · intro b L hL
    have hb : b < w.heap.size := (Array.getElem?_eq_some_iff.1 hL).1
    exact ⟨L, (alloc_lt w O hb).trans hL⟩
  · intro i b p h1 h2
    by_cases e : i = H.next
    · subst e; rw [Emb.ext_self] at h2; cases h2; exact .inl (Nat.le_refl _)
    · rw [Emb.ext_ne _ _ _ _ e, hr.dom i h1] at h2; cases h2

/-- **A WRITE**: the object i, of block b, comes to be o'; no other block has changed. -/
theorem Rel.write {base : Nat} {ι : Emb} {H H' : Hp} {w w' : World} (hr : Rel base ι H w) {i b p : Nat} {o o' : Ob} (hi : H.get i = some o) (hw : o.wr = true) (hι : ι i = some (b, p))
    (hu : H.upd i o' = some H') (heq : WEq w w') (hsz : w'.heap.size = w.heap.size) (hoth : ∀ k, k ≠ b → w'.heap[k]? = w.heap[k]?)
    (ho : ObR ι w' o' b p) (hl : ∀ L : Loop, w.heap[b]? = some (.loop L) → ∃ L' : Loop, w'.heap[b]? = some (.loop L')) : Rel base ι H' w' ∧ Step ι ι H H' w w' := by
  obtain ⟨hf, hn, hfl, hg⟩ := Hp.upd_some hu
  have hin : i < H.next := hr.lt hι
  refine ⟨⟨?_, ?_, ?_, ?_, ?_, ?_, ?_⟩, ⟨fun _ _ => rfl, fun _ _ => rfl, by omega, hfl, ?_, ?_, heq.os, heq.tape, heq.output, by omega, ?_, ?_, fun i b p h1 h2 => by rw [hr.dom i h1] at h2; cases h2⟩⟩
  · rw [hfl, hn]; exact hr.flo
  · rw [hn]; exact hr.dom
  · rw [hsz]; exact hr.bnd
  · intro j oj c q h hj
    rw [hg] at h
    by_cases e : j = i
    · subst e; rw [if_pos rfl] at h; cases h; rw [hι] at hj; cases hj; exact ho
    · rw [if_neg e] at h
      by_cases hlv : oj.live = true
      · have hne : c ≠ b := fun ec => by subst ec; exact e (hr.inj i j o oj c p q hi h hw hlv hι hj).symm
        exact (hr.ob j oj c q h hj).same (hoth c hne)
      · cases oj <;> first | trivial | exact absurd rfl hlv
  · intro j k oj ok c q r h1 h2 h3 h4 h5 h6
    rw [hg] at h1 h2
    by_cases ej : j = i <;> by_cases ek : k = i
    · omega
    · subst ej
      rw [if_neg ek] at h2
      exact hr.inj j k o ok c q r hi h2 hw h4 h5 h6
    · subst ek
      rw [if_neg ej] at h1
      exact hr.inj j k oj o c q r h1 hi h3 (Ob.wr_live hw) h5 h6
    · rw [if_neg ej] at h1; rw [if_neg ek] at h2
      exact hr.inj j k oj ok c q r h1 h2 h3 h4 h5 h6
  · intro j oj c q h h2 hj
    rw [hg] at h
    by_cases e : j = i
    · subst e; exact hr.bas j o c q hi hw hj
    · rw [if_neg e] at h; exact hr.bas j oj c q h h2 hj
  · rw [hsz]; exact hr.bs
  · intro j hj
    rw [hg, if_neg]
    omega
  · rintro c hc ⟨j, oj, q, h1, h2, h3, h4⟩
    rw [hg] at h1
    by_cases e : j = i
    · subst e; exact ⟨j, o, q, hi, hw, hf, h4⟩
    · rw [if_neg e] at h1; exact ⟨j, oj, q, h1, h2, by rw [← hfl]; exact h3, h4⟩
  · intro c hc hno
    exact hoth c (fun e => hno ⟨i, o, p, hi, hw, hf, by rw [e]; exact hι⟩)
  · intro c L hL
    by_cases e : c = b
    · subst e; exact hl L hL
    · exact ⟨L, (hoth c e).trans hL⟩

end Go.Ahe
/-
  AHE, 5: the operations on values: what the evaluator computes, the model's operation comes to, at related values.
-/
namespace Go.Ahe
open Go.RowKit

/-- What a row of the table says of the program. -/
structure TIok (P : Program) (t : TypeId) (ti : TI) (i : TypeInfo) (d : TypeDesc) (z : Value) : Prop where
  info : P.info? t = some i
  under : P.underlying t = some d
  kind : mkKind P t d = some ti.kind
  size : i.size = ti.size
  bytes : i.bytes = ti.bytes
  zero : i.zero = some z
  zcells : z.cells.toList = ti.zero
  plain : ti.zero.all plainCell = true
  zagg : ti.agg = isAggV z

theorem Fits.ti {C : Ctx} {P : Program} (hC : Fits C P) {t : TypeId} {ti : TI} (h : C.T t = some ti) : ∃ i d z, TIok P t ti i d z := by
  have h1 := hC.types t ti h
  unfold mkTI at h1
  split at h1
  · cases h1
  · rename_i i hi
    split at h1
    · rename_i d z hd hz
      cases hp : z.cells.toList.all Go.Ahe.plainCell with
      | false => rw [hp, cond_false] at h1; cases h1
      | true =>
        rw [hp, cond_true, Option.bind_eq_some_iff] at h1
        obtain ⟨k, hk, h1⟩ := h1
        cases hq : (TI.agg ⟨k, i.size, i.bytes, z.cells.toList⟩ == isAggV z) with
        | false => rw [hq, cond_false] at h1; cases h1
        | true =>
          rw [hq, cond_true] at h1
          cases h1
          exact ⟨i, d, z, hi, hd, hk, rfl, rfl, hz, rfl, hp, by simpa using hq⟩
    · cases h1

section
variable {P : Program} {t : TypeId} {ti : TI} {i : TypeInfo} {d : TypeDesc} {z : Value}
theorem TIok.run_info (h : TIok P t ti i d z) (w : World) : (typeInfo t).run P w = .ok i w := by
  simp [typeInfo, h.info]
theorem TIok.run_under (h : TIok P t ti i d z) (w : World) : (underlying t).run P w = .ok d w := by
  simp [underlying, h.under]
theorem TIok.run_size (h : TIok P t ti i d z) (w : World) : (sizeOf t).run P w = .ok ti.size w := by
  simp [sizeOf, h.run_info, h.size]
theorem TIok.run_zero (h : TIok P t ti i d z) (w : World) : (zeroValue t).run P w = .ok z w := by
  simp [zeroValue, h.run_info, h.zero]
theorem mkKind_struct {fs : Array Field} {k : TK} (h : mkKind P t (.struct fs) = some k) : P.eqGuardType P.depth t = false ∧ P.stoodInHeld t = false ∧ k = .struct (fs.toList.map fun f => (f.offset, f.type, f.name == "_")) ∧ fs.toList.all (fun f => (P.info? f.type).isSome) = true := by
  simp only [mkKind] at h
  cases ha : P.eqGuardType P.depth t <;> cases hb : P.stoodInHeld t <;> cases hc : (fs.toList.all fun f => (P.info? f.type).isSome) <;> rw [ha, hb, hc] at h <;> simp at h
  exact ⟨rfl, rfl, h.symm, rfl⟩
theorem mkKind_array {n : Nat} {e : TypeId} {k : TK} (h : mkKind P t (.array n e) = some k) : P.eqGuardType P.depth t = false ∧ k = .array n e := by
  simp only [mkKind] at h
  cases ha : P.eqGuardType P.depth t <;> simp [ha] at h
  exact ⟨rfl, h.symm⟩
theorem TIok.run_agg (h : TIok P t ti i d z) (w : World) : (isAgg t).run P w = .ok ti.agg w := by
  have hk := h.kind
  simp only [isAgg, Sem.run_bind, h.run_under, Result.andThen_ok]
  cases d with
  | struct fs => simp [TI.agg, (mkKind_struct hk).2.2.1]
  | array n e => simp [TI.agg, (mkKind_array hk).2]
  | _ => simp only [mkKind, Option.some.injEq] at hk; simp [TI.agg, ← hk]
/-- The description behind a kind. -/
theorem TIok.desc (h : TIok P t ti i d z) :
    (match ti.kind with
     | .bool => d = .bool
     | .int k => d = .int k
     | .string => d = .string
     | .pointer e => d = .pointer e
     | .slice e => d = .slice e
     | .array n e => d = .array n e
     | .map k e => d = .map k e
     | .struct fs => ∃ F : Array Field, d = .struct F ∧ fs = F.toList.map (fun f => (f.offset, f.type, f.name == "_")) ∧ P.eqGuardType P.depth t = false ∧ P.stoodInHeld t = false
     | .func => ∃ a b c, d = .func a b c
     | .other => True) := by
  have hk := h.kind
  cases d with
  | struct fs => obtain ⟨h1, h2, h3, _⟩ := mkKind_struct hk; rw [h3]; exact ⟨fs, rfl, rfl, h1, h2⟩
  | array n e => rw [(mkKind_array hk).2]
  | func a b c => simp only [mkKind, Option.some.injEq] at hk; rw [← hk]; exact ⟨a, b, c, rfl⟩
  | _ => simp only [mkKind, Option.some.injEq] at hk; (rw [← hk]) <;> trivial
end

/-! ### Lists and arrays of cells -/
theorem lrange_some {cs r : List Value} {off n : Nat} (h : lrange cs off n = some r) : off + n ≤ cs.length ∧ r = (cs.drop off).take n := by
  unfold lrange at h
  cases hb : Nat.ble (off + n) cs.length with
  | false => rw [hb, cond_false] at h; cases h
  | true => rw [hb, cond_true] at h; cases h; exact ⟨Nat.le_of_ble_eq_true hb, rfl⟩

theorem lput_some {cs vs r : List Value} {off : Nat} (h : lput cs off vs = some r) : off + vs.length ≤ cs.length ∧ r = cs.take off ++ vs ++ cs.drop (off + vs.length) := by
  unfold lput at h
  cases hb : Nat.ble (off + vs.length) cs.length with
  | false => rw [hb, cond_false] at h; cases h
  | true => rw [hb, cond_true] at h; cases h; exact ⟨Nat.le_of_ble_eq_true hb, rfl⟩

theorem VRs.put {ι : Emb} {cs cs' vs vs' r : List Value} {off : Nat} (h : VRs ι cs cs') (hv : VRs ι vs vs') (hp : lput cs off vs = some r) :
    VRs ι r (cs'.take off ++ vs' ++ cs'.drop (off + vs'.length)) := by
  obtain ⟨_, rfl⟩ := lput_some hp
  rw [← hv.length]
  exact ((h.take _).append hv).append (h.drop _)

theorem partE_run {P : Program} {C : Ctx} (hC : Fits C P) {ι : Emb} {w : World} {t : TypeId} {ti : TI} (ht : C.T t = some ti) {cs : List Value} {cs' : Array Value} {off : Nat} {v : Value}
    (hcs : VRs ι cs cs'.toList) (h : partE ti cs off = some v) : ∃ v', (part t cs' off).run P w = .ok v' w ∧ VR ι v v' := by
  obtain ⟨i, d, z, hi⟩ := hC.ti ht
  unfold partE at h
  simp only [part, Sem.run_bind, hi.run_agg, Result.andThen_ok]
  cases ha : ti.agg with
  | true =>
    rw [ha] at h
    simp only [Option.map_eq_some_iff] at h
    obtain ⟨r, hr, rfl⟩ := h
    obtain ⟨hle, rfl⟩ := lrange_some hr
    simp only [if_true, Sem.run_bind, hi.run_size, Result.andThen_ok, Sem.run_pure]
    refine ⟨_, rfl, .agg ?_⟩
    have := (hcs.drop off).take ti.size
    simpa [Array.toList_extract, List.extract] using this
  | false =>
    rw [ha] at h
    simp only at h
    obtain ⟨v', h1, h2⟩ := hcs.get? h
    rw [Array.getElem?_toList] at h1
    simp only [Bool.false_eq_true, if_false, h1]
    exact ⟨v', rfl, h2⟩

/-! ### Numbers -/
theorem bitsE_run {op : BinOp} {k : IntKind} {x y : Int} {v : Value} (h : bitsE op k x y = some v) (P : Program) (w : World) : (Op.intBits op k x y).run P w = .ok v w := by
  unfold bitsE at h
  cases op <;> simp only [Option.some.injEq] at h <;> first | cases h; rfl | (subst h; rfl) | cases h

theorem intBin_run {op : BinOp} {k : IntKind} {x y : Int} {v : Value} (hs : op ≠ .shl ∧ op ≠ .shr) (h : intBin (fun x y => decide (x < y)) (fun x y => decide (x = y)) op k x y = some v) (P : Program) (t : TypeId) (w : World) :
    (binOp op t (.int k x) (.int k y)).run P w = .ok v w := by
  unfold intBin at h
  cases op
  case shl => exact absurd rfl hs.1
  case shr => exact absurd rfl hs.2
  case quo =>
    simp only at h
    split at h
    · cases h
    · rename_i hy
      cases h
      simp [binOp, Op.intDiv, hy]
  case rem =>
    simp only at h
    split at h
    · cases h
    · rename_i hy
      cases h
      simp [binOp, Op.intDiv, hy]
  all_goals first
    | (simp only at h; have := bitsE_run h P w; simpa [binOp] using this)
    | (simp only [Option.some.injEq] at h; subst h; simp [binOp, Op.intArith, Op.intCmp]; done)
    | skip
  case eql => simp only [Option.some.injEq] at h; subst h; simp [binOp, Op.intCmp]; rfl
  case neq => simp only [Option.some.injEq] at h; subst h; simp [binOp, Op.intCmp]; rfl
  case leq =>
    simp only [Option.some.injEq] at h; subst h
    have : (!decide (y < x)) = decide (x ≤ y) := by rw [← decide_not]; exact decide_eq_decide.2 Int.not_lt
    rw [this]; simp [binOp, Op.intCmp]
  case geq =>
    simp only [Option.some.injEq] at h; subst h
    have : (!decide (x < y)) = decide (y ≤ x) := by rw [← decide_not]; exact decide_eq_decide.2 Int.not_lt
    rw [this]; simp [binOp, Op.intCmp]

theorem shiftE_run {op : BinOp} {k yk : IntKind} {x y : Int} {v : Value} (h : shiftE op k x y = some v) (P : Program) (w : World) :
    (Op.shift op k x yk y).run P w = .ok v w := by
  unfold shiftE at h
  split at h
  · cases h
  · rename_i hy
    unfold Op.shift
    rw [if_neg hy]
    cases op <;> simp only [Option.some.injEq] at h <;> first | (cases h; rfl) | cases h

/-! ### Equality -/
/-- What is asked of the equality of parts. -/
def EqOk (P : Program) (ι : Emb) (eq : TypeId → Value → Value → Option Bool) (D : Nat) : Prop :=
  ∀ (t : TypeId) (x y x' y' : Value) (b : Bool), eq t x y = some b → VR ι x x' → VR ι y y' → ∀ w : World, (Op.equalIn D t x' y').run P w = .ok b w

theorem eqFs_run {P : Program} {C : Ctx} (hC : Fits C P) {ι : Emb} {eq : TypeId → Value → Value → Option Bool} {D : Nat} (he : EqOk P ι eq D) {xs ys : List Value} {xs' ys' : Array Value}
    (hx : VRs ι xs xs'.toList) (hy : VRs ι ys ys'.toList) (w : World) : ∀ (F : List Field) (b : Bool), eqIn.eqFs C eq (F.map fun f => (f.offset, f.type, f.name == "_")) xs ys = some b →
    (forIn (m := Sem) F ((none, ()) : Option Bool × Unit) fun f __s =>
              if f.name ≠ "_" then do
                let __do_lift ← part f.type xs' f.offset
                let __do_lift_1 ← part f.type ys' f.offset
                let __do_lift ← Op.equalIn D f.type __do_lift __do_lift_1
                if (!__do_lift) = true then pure (ForInStep.done (some false, ()))
                  else pure (ForInStep.yield (none, ()))
              else pure (ForInStep.yield (none, ()))).run P w = .ok (if b then (none, ()) else (some false, ())) w := by
  intro F
  induction F with
  | nil => intro b h; simp only [List.map_nil, eqIn.eqFs, Option.some.injEq] at h; subst h; rfl
  | cons f F ih =>
    intro b h
    rw [List.forIn_cons]
    simp only [List.map_cons, eqIn.eqFs] at h
    cases hb : (f.name == "_") with
    | true =>
      rw [hb] at h
      have hn : f.name = "_" := by simpa using hb
      simp only [hn, ne_eq, not_true, if_false, Sem.run_bind, Sem.run_pure, Result.andThen_ok]
      exact ih b h
    | false =>
      rw [hb] at h
      have hn : f.name ≠ "_" := by simpa using hb
      simp only at h
      split at h
      · cases h
      · rename_i fti hfti
        split at h
        · rename_i a c ha hc
          obtain ⟨a', ha1, ha2⟩ := partE_run hC (w := w) hfti hx ha
          obtain ⟨c', hc1, hc2⟩ := partE_run hC (w := w) hfti hy hc
          simp only [hn, ne_eq, not_false_eq_true, if_true, Sem.run_bind, ha1, hc1, Result.andThen_ok]
          rw [Option.bind_eq_some_iff] at h
          obtain ⟨u, hq, h⟩ := h
          rw [Option.map_eq_some_iff] at h
          obtain ⟨v, hv, rfl⟩ := h
          rw [he _ _ _ _ _ _ hq ha2 hc2 w]
          cases u with
          | true =>
            simp only [Result.andThen_ok, Bool.not_true, Bool.false_eq_true, if_false, Sem.run_pure, Bool.true_and]
            exact ih v hv
          | false => simp
        · cases h

theorem eqEs_run {P : Program} {C : Ctx} (hC : Fits C P) {ι : Emb} {eq : TypeId → Value → Value → Option Bool} {D : Nat} (he : EqOk P ι eq D) {xs ys : List Value} {xs' ys' : Array Value}
    (hx : VRs ι xs xs'.toList) (hy : VRs ι ys ys'.toList) (e : TypeId) (size : Nat) (w : World) : ∀ (n i : Nat) (b : Bool), eqIn.eqEs C eq e size xs ys n i = some b →
    (forIn (m := Sem) (List.range' i n 1) ((none, ()) : Option Bool × Unit) fun i __s => do
              let __do_lift ← part e xs' (i * size)
              let __do_lift_1 ← part e ys' (i * size)
              let __do_lift ← Op.equalIn D e __do_lift __do_lift_1
              if (!__do_lift) = true then pure (ForInStep.done (some false, ())) else pure (ForInStep.yield (none, ()))).run P w = .ok (if b then (none, ()) else (some false, ())) w := by
  intro n
  induction n with
  | zero => intro i b h; simp only [eqIn.eqEs, Option.some.injEq] at h; subst h; rfl
  | succ n ih =>
    intro i b h
    rw [List.range'_succ, List.forIn_cons]
    simp only [eqIn.eqEs] at h
    split at h
    · cases h
    · rename_i eti heti
      split at h
      · rename_i a c ha hc
        obtain ⟨a', ha1, ha2⟩ := partE_run hC (w := w) heti hx ha
        obtain ⟨c', hc1, hc2⟩ := partE_run hC (w := w) heti hy hc
        simp only [Sem.run_bind, ha1, hc1, Result.andThen_ok]
        rw [Option.bind_eq_some_iff] at h
        obtain ⟨u, hq, h⟩ := h
        rw [Option.map_eq_some_iff] at h
        obtain ⟨v, hv, rfl⟩ := h
        rw [he _ _ _ _ _ _ hq ha2 hc2 w]
        cases u with
        | true =>
          simp only [Result.andThen_ok, Bool.not_true, Bool.false_eq_true, if_false, Sem.run_pure, Bool.true_and]
          exact ih (i + 1) v hv
        | false => simp
      · cases h

theorem eqIn_run {P : Program} {C : Ctx} (hC : Fits C P) {ι : Emb} : ∀ (d D : Nat), d ≤ D → EqOk P ι (eqIn C d) D := by
  intro d
  induction d with
  | zero => intro D _ t x y x' y' b h; cases h
  | succ d ih =>
    intro D hD t x y x' y' b h hx hy w
    obtain ⟨D, rfl⟩ : ∃ k, D = k + 1 := ⟨D - 1, by omega⟩
    simp only [eqIn] at h
    split at h
    · cases h
    · rename_i ti hti
      obtain ⟨i, dd, z, hi⟩ := hC.ti hti
      have hd := hi.desc
      rw [Op.equalIn]
      simp only [Sem.run_bind, hi.run_under, Result.andThen_ok]
      split at h
      all_goals first | cases h; done | (rename_i hk; rw [hk] at hd; simp only at hd)
      · subst hd; cases hx; cases hy; cases h; rfl
      · subst hd; cases hx; cases hy
        split at h
        · rename_i e; rw [hC.eqi] at h; cases h; simp [e]; rfl
        · cases h
      · subst hd; cases hx; cases hy; cases h; rfl
      · subst hd; cases hx; cases hy <;> cases h <;> rfl
      · subst hd; cases hy; cases hx <;> cases h <;> first | rfl | (exfalso; simp_all; done)
      · subst hd; cases hx; cases hy <;> cases h <;> rfl
      · subst hd; cases hy; cases hx <;> cases h <;> first | rfl | (exfalso; simp_all; done)
      · subst hd; cases hx; cases hy <;> cases h <;> rfl
      · subst hd; cases hy; cases hx <;> cases h <;> first | rfl | (exfalso; simp_all; done)
      · obtain ⟨_, _, _, rfl⟩ := hd; cases hx; cases hy; cases h; rfl
      · obtain ⟨_, _, _, rfl⟩ := hd; cases hx; cases hy <;> cases h <;> rfl
      · obtain ⟨_, _, _, rfl⟩ := hd; cases hy; cases hx <;> cases h <;> first | rfl | (exfalso; simp_all; done)
      · obtain ⟨F, rfl, hfs, _, hst⟩ := hd
        cases hx with | agg hx => cases hy with | agg hy =>
        rw [hfs] at h
        have := eqFs_run hC (ih D (by omega)) hx hy w F.toList b h
        simp only [Sem.run_bind, run_program, Result.andThen_ok, hst, Bool.false_eq_true, if_false, ← Array.forIn_toList, this]
        cases b <;> rfl
      · subst hd
        cases hx with | agg hx => cases hy with | agg hy =>
        rw [Option.bind_eq_some_iff] at h
        obtain ⟨et, het, h⟩ := h
        obtain ⟨i', dd', z', hi'⟩ := hC.ti het
        have := eqEs_run hC (ih D (by omega)) hx hy _ et.size w _ 0 b h
        simp only [Sem.run_bind, hi'.run_size, Result.andThen_ok, Std.Legacy.Range.forIn_eq_forIn_range', Std.Legacy.Range.size, Nat.sub_zero, Nat.add_sub_cancel, Nat.div_one]
        rw [this]
        cases b <;> rfl

end Go.Ahe
/-
  AHE, 6: more operations on values.
-/
namespace Go.Ahe
open Go.RowKit
section
variable {P : Program} {C : Ctx} (hC : Fits C P) {ι : Emb} {w : World}
include hC

theorem eqGuard_run {d : Nat} {op : BinOp} {t : TypeId} {ti : TI} (ht : C.T t = some ti) (x y : Operand) {a b a' b' : Value} (ha : VR ι a a') (hb : VR ι b b') {r : Bool} (h : eqIn C (d + 1) t a b = some r) :
    (eqGuard op t x y a' b').run P w = .ok () w := by
  by_cases hop : op = .eql ∨ op = .neq
  · cases ha with
    | nili =>
      exfalso
      rw [eqIn, ht] at h
      simp only at h
      split at h <;> first | (cases h; done) | simp_all
    | agg ha =>
      obtain ⟨i, dd, z, hi⟩ := hC.ti ht
      have hd := hi.desc
      have hg : P.eqGuardType P.depth t = false := by
        rw [eqIn, ht] at h
        simp only at h
        have hkk := hi.kind
        cases hk : ti.kind <;> rw [hk] at h hd hkk <;> first
          | (obtain ⟨F, rfl, _, h1, _⟩ := hd; exact h1)
          | (simp only at hd; subst hd; exact (mkKind_array hkk).1)
          | (cases h; done)
      cases hb with
      | agg hb => rcases hop with rfl | rfl <;> simp [eqGuard, hg]
      | _ => rcases hop with rfl | rfl <;> rfl
    | _ => rcases hop with rfl | rfl <;> rfl
  · cases op <;> first | rfl | (exact absurd (.inl rfl) hop) | (exact absurd (.inr rfl) hop)

omit hC in
theorem binOp_eql {t : TypeId} {a b : Value} (h1 : ∀ k n, a ≠ .int k n) (h1' : ∀ k n, a ≠ .float k n) (h1'' : ∀ k n m, a ≠ .complex k n m) (h2 : ∀ s s', ¬ (a = .string s ∧ b = .string s')) :
    binOp .eql t a b = (do pure (.bool (← Op.equal t a b))) := by
  unfold binOp
  split <;> first | rfl | (exact absurd rfl (h1 _ _)) | (exact absurd rfl (h1' _ _)) | (exact absurd rfl (h1'' _ _ _)) | (exact absurd ⟨rfl, rfl⟩ (h2 _ _)) | (exfalso; simp_all; done)
omit hC in
theorem binOp_neq {t : TypeId} {a b : Value} (h1 : ∀ k n, a ≠ .int k n) (h1' : ∀ k n, a ≠ .float k n) (h1'' : ∀ k n m, a ≠ .complex k n m) (h2 : ∀ s s', ¬ (a = .string s ∧ b = .string s')) :
    binOp .neq t a b = (do pure (.bool (!(← Op.equal t a b)))) := by
  unfold binOp
  split <;> first | rfl | (exact absurd rfl (h1 _ _)) | (exact absurd rfl (h1' _ _)) | (exact absurd rfl (h1'' _ _ _)) | (exact absurd ⟨rfl, rfl⟩ (h2 _ _)) | (exfalso; simp_all; done)


theorem binE_run {op : BinOp} {t : TypeId} {x y : Operand} {a b a' b' v : Value} (ha : VR ι a a') (hb : VR ι b b') (h : binE C op t a b = some v) :
    ∃ v', (do eqGuard op t x y a' b'; binOp op t a' b' : Sem Value).run P w = .ok v' w ∧ VR ι v v' := by
  unfold binE at h
  split at h
  · rename_i k a k' b
    cases ha; cases hb
    have hg : ∀ k n u, (eqGuard op t x y (.int k n) u).run P w = .ok () w := fun k n u => by cases op <;> rfl
    simp only [Sem.run_bind, hg, Result.andThen_ok]
    split at h
    · have h1 : ∀ (yk : IntKind), (binOp .shl t (.int k a) (.int yk b)).run P w = .ok v w := fun yk => shiftE_run (yk := yk) h P w
      refine ⟨v, h1 k', ?_⟩
      unfold shiftE at h; split at h
      · cases h
      · simp only [Option.some.injEq] at h; subst h; exact .int _ _
    · have h1 : ∀ (yk : IntKind), (binOp .shr t (.int k a) (.int yk b)).run P w = .ok v w := fun yk => shiftE_run (yk := yk) h P w
      refine ⟨v, h1 k', ?_⟩
      unfold shiftE at h; split at h
      · cases h
      · simp only [Option.some.injEq] at h; subst h; exact .int _ _
    · rename_i h1 h2
      split at h
      · rename_i e; subst e
        rw [hC.lt, hC.eqi] at h
        refine ⟨v, intBin_run ⟨h1, h2⟩ h P t w, ?_⟩
        unfold intBin bitsE at h
        cases op <;> simp only [Option.some.injEq] at h <;> first | (subst h; constructor; done) | (split at h <;> first | (cases h; done) | (simp only [Option.some.injEq] at h; subst h; constructor; done)) | cases h
      · cases h
  · cases ha; cases hb
    have hg : ∀ s u, (eqGuard op t x y (.string s) u).run P w = .ok () w := fun s u => by cases op <;> rfl
    simp only [Sem.run_bind, hg, Result.andThen_ok]
    cases op <;> simp only [Option.some.injEq] at h <;> first | (cases h; done) | skip
    · rename_i s1 s2
      cases hb : Nat.ble (s1.size + s2.size) 9223372036854775807 with
      | false => rw [hb, cond_false] at h; cases h
      | true =>
        rw [hb, cond_true] at h; cases h
        have := Nat.le_of_ble_eq_true hb
        refine ⟨_, ?_, .string _⟩
        simp only [binOp, Op.stringOp, IntKind.max_i64]
        rw [if_neg (by omega)]
        rfl
    all_goals (subst h; exact ⟨_, rfl, .bool _⟩)
  · rename_i hn1 hn2
    have h2 : ∀ s s', ¬ (a' = .string s ∧ b' = .string s') := by
      rintro s s' ⟨rfl, rfl⟩
      cases ha; cases hb
      exact hn2 _ _ rfl rfl
    have hE : ∃ r, eqIn C 30 t a b = some r := by
      cases op <;> simp only [Option.map_eq_some_iff] at h <;> first | (obtain ⟨r, hr, _⟩ := h; exact ⟨r, hr⟩) | cases h
    obtain ⟨r, hr⟩ := hE
    obtain ⟨ti, ht⟩ : ∃ ti, C.T t = some ti := by
      cases hT : C.T t with
      | none => rw [eqIn, hT] at hr; cases hr
      | some ti => exact ⟨ti, rfl⟩
    have hg := eqGuard_run hC (d := 29) (op := op) (w := w) ht x y ha hb hr
    have hq : (Op.equal t a' b').run P w = .ok r w := eqIn_run hC 30 Op.maxDepth (by decide) t a b a' b' r hr ha hb w
    have hint : ∀ k n, a' ≠ .int k n := by
      rintro k n rfl
      cases ha
      rw [eqIn, ht] at hr
      simp only at hr
      split at hr <;> first | (cases hr; done) | skip
      all_goals first | (cases hb; exact hn1 _ _ _ _ rfl rfl) | (exfalso; simp_all; done)
    have hfl : ∀ k n, a' ≠ .float k n := by rintro k n rfl; cases ha
    have hco : ∀ k n m, a' ≠ .complex k n m := by rintro k n m rfl; cases ha
    simp only [Sem.run_bind, hg, Result.andThen_ok]
    cases op <;> simp only [Option.map_eq_some_iff] at h <;> first | (cases h; done) | skip
    · obtain ⟨r', hr', rfl⟩ := h
      rw [hr] at hr'; cases hr'
      rw [binOp_eql hint hfl hco h2]
      exact ⟨_, by simp only [Sem.run_bind, hq, Result.andThen_ok, Sem.run_pure], .bool _⟩
    · obtain ⟨r', hr', rfl⟩ := h
      rw [hr] at hr'; cases hr'
      rw [binOp_neq hint hfl hco h2]
      exact ⟨_, by simp only [Sem.run_bind, hq, Result.andThen_ok, Sem.run_pure], .bool _⟩

omit hC in
theorem unE_run {op : UnOp} {a a' v : Value} (ha : VR ι a a') (h : unE op a = some v) : ∃ v', (Op.unary op a').run P w = .ok v' w ∧ VR ι v v' := by
  unfold unE at h
  split at h
  · cases ha; cases h; exact ⟨_, rfl, .int _ _⟩
  · cases ha
    refine ⟨v, bitsE_run h P w, ?_⟩
    simp only [bitsE, Option.some.injEq] at h; subst h; exact .int _ _
  · cases ha; cases h; exact ⟨_, rfl, .bool _⟩
  · cases h

theorem convE_run {s t : TypeId} {a a' v : Value} (ha : VR ι a a') (h : convE C s t a = some v) : ∃ v', (convert s t a').run P w = .ok v' w ∧ VR ι v v' := by
  unfold convE at h
  split at h
  · rename_i si di hsi hdi
    obtain ⟨i1, d1, z1, h1⟩ := hC.ti hsi
    obtain ⟨i2, d2, z2, h2⟩ := hC.ti hdi
    have hd := h2.desc
    simp only [convert, Sem.run_bind, h1.run_under, h2.run_under, Result.andThen_ok]
    split at h
    · rename_i hk; rw [hk] at hd; simp only at hd; subst hd
      cases ha; cases h
      refine ⟨_, ?_, .int _ _⟩
      cases d1 <;> rfl
    · rename_i hk; rw [hk] at hd; simp only at hd; subst hd
      cases ha; cases h
      refine ⟨_, ?_, .string _⟩
      cases d1 <;> rfl
    · cases h
  · cases h

omit hC in
theorem extractE_run {k : Nat} {a a' v : Value} (ha : VR ι a a') (h : extractE a k = some v) : ∃ v', (Instr.extract a' k).run P w = .ok v' w ∧ VR ι v v' := by
  unfold extractE at h
  split at h
  · cases ha with | tuple ha =>
    obtain ⟨v', h1, h2⟩ := ha.get? h
    rw [Array.getElem?_toList] at h1
    refine ⟨v', ?_, h2⟩
    simp [Instr.extract, h1]
  · cases h

theorem fieldE_run {t : TypeId} {f : Nat} {a a' v : Value} (ha : VR ι a a') (h : fieldE C t a f = some v) : ∃ v', (Instr.field t a' f).run P w = .ok v' w ∧ VR ι v v' := by
  unfold fieldE at h
  split at h
  · rename_i ti hti
    obtain ⟨i, d, z, hi⟩ := hC.ti hti
    have hd := hi.desc
    split at h
    · rename_i hk; rw [hk] at hd
      obtain ⟨F, rfl, rfl, _, _⟩ := hd
      cases ha with | agg ha =>
      simp only [Option.bind_eq_some_iff] at h
      obtain ⟨fd, hfd, ft, hft, hp⟩ := h
      rw [List.getElem?_map, Option.map_eq_some_iff] at hfd
      obtain ⟨fx, hfx, rfl⟩ := hfd
      rw [Array.getElem?_toList] at hfx
      obtain ⟨v', h1, h2⟩ := partE_run hC (w := w) hft ha hp
      refine ⟨v', ?_, h2⟩
      simp only [Instr.field, Sem.run_bind, hi.run_under, Result.andThen_ok, hfx, asAgg, Sem.run_pure]
      exact h1
    · cases h
  · cases h

theorem fieldAddrE_run {t : TypeId} {f : Nat} {a a' v : Value} (ha : VR ι a a') (h : fieldAddrE C t a f = some v) : ∃ v', (Instr.fieldAt t a' f).run P w = .ok v' w ∧ VR ι v v' := by
  unfold fieldAddrE at h
  split at h
  · rename_i ti hti
    obtain ⟨i, d, z, hi⟩ := hC.ti hti
    have hd := hi.desc
    split at h
    · rename_i _ io o hk; rw [hk] at hd
      obtain ⟨F, rfl, rfl, _, _⟩ := hd
      cases ha with | @ptr _ _ b p ha =>
      simp only [Option.bind_eq_some_iff] at h
      obtain ⟨fd, hfd, ft, hft, hp⟩ := h
      rw [List.getElem?_map, Option.map_eq_some_iff] at hfd
      obtain ⟨fx, hfx, rfl⟩ := hfd
      rw [Array.getElem?_toList] at hfx
      obtain ⟨i2, d2, z2, h2⟩ := hC.ti hft
      cases hb : Nat.ble 1 ft.size with
      | false => rw [hb, cond_false] at hp; cases hp
      | true =>
        rw [hb, cond_true] at hp; cases hp
        have hne : ft.size ≠ 0 := by have := Nat.le_of_ble_eq_true hb; omega
        refine ⟨.pointer (some ⟨b, p + (o + fx.offset), none⟩), ?_, .ptr ha⟩
        simp only [Instr.fieldAt, Sem.run_bind, hi.run_under, Result.andThen_ok, hfx, Instr.sureAddr, Sem.run_pure, fieldPlace]
        have h2' := h2.run_size w
        simp only at h2'
        simp only [h2', Result.andThen_ok, hne, if_false, Sem.run_ite, Sem.run_pure, Addr.add_lit, Nat.add_assoc]
    · cases h
  · cases h

omit hC in
theorem nat?_some {ix ix' : Value} {k : Nat} (hi : VR ι ix ix') (h : nat? ix = some k) : ∃ ik, ix' = .int ik (k : Int) := by
  unfold nat? at h
  split at h
  · cases hi
    split at h
    · rename_i kk n hn
      cases h
      exact ⟨kk, by rw [Int.toNat_of_nonneg hn]⟩
    · cases h
  · cases h

theorem indexAddrE_run {t : TypeId} {a a' ix ix' v : Value} (ha : VR ι a a') (hx : VR ι ix ix') (h : indexAddrE C t a ix = some v) : ∃ v', (Instr.indexAt t a' ix').run P w = .ok v' w ∧ VR ι v v' := by
  unfold indexAddrE at h
  split at h
  · rename_i ti k hti hk
    obtain ⟨i, d, z, hi⟩ := hC.ti hti
    have hd := hi.desc
    obtain ⟨ik, rfl⟩ := nat?_some hx hk
    split at h
    · rename_i n el io o hkd; rw [hkd] at hd; simp only at hd; subst hd
      cases ha with | @ptr _ _ b p ha =>
      rw [Option.bind_eq_some_iff] at h
      obtain ⟨et, het, h⟩ := h
      obtain ⟨i2, d2, z2, h2⟩ := hC.ti het
      cases hb : Nat.blt k n with
      | false => rw [hb, cond_false] at h; cases h
      | true =>
        rw [hb, cond_true] at h; cases h
        have hlt : k < n := by simpa using hb
        refine ⟨_, ?_, .ptr (o := o + k * et.size) ha⟩
        have hc : (0 : Int) ≤ (k : Int) ∧ (k : Int) < (n : Int) := ⟨by omega, by omega⟩
        simp only [Instr.indexAt, Sem.run_bind, asIntOf, Sem.run_pure, hi.run_under, Result.andThen_ok, Instr.sureAddr, hc, and_self, if_true, h2.run_size, Sem.run_ite, Addr.add_lit, Int.toNat_natCast, Nat.add_assoc]
    · rename_i el io o sp len cap hkd; rw [hkd] at hd; simp only at hd; subst hd
      rw [Option.bind_eq_some_iff] at h
      obtain ⟨et, het, h⟩ := h
      obtain ⟨i2, d2, z2, h2⟩ := hC.ti het
      cases hb : Nat.blt k len with
      | false => rw [hb, cond_false] at h; cases h
      | true =>
        rw [hb, cond_true] at h; cases h
        have hlt : k < len := by simpa using hb
        have hc : (0 : Int) ≤ (k : Int) ∧ (k : Int) < (len : Int) := ⟨by omega, by omega⟩
        cases ha with
        | slice ha =>
          refine ⟨_, ?_, .ptr (o := o + k * et.size) ha⟩
          simp only [Instr.indexAt, Sem.run_bind, asIntOf, Sem.run_pure, hi.run_under, Result.andThen_ok, hc, and_self, if_true, h2.run_size, Sem.run_ite, Addr.add_lit, Int.toNat_natCast, Nat.add_assoc]
        | sliceU ha hll hcc hq hee =>
          rcases hq with hq | hq
          · omega
          · subst hq
            refine ⟨_, ?_, .ptr (o := o + k * et.size) ha⟩
            simp only [Instr.indexAt, Sem.run_bind, asIntOf, Sem.run_pure, hi.run_under, Result.andThen_ok, hc, and_self, if_true, h2.run_size, Sem.run_ite, Addr.add_lit, Int.toNat_natCast, Nat.add_assoc]
    · cases h
  · cases h

theorem indexE_run {t : TypeId} {a a' ix ix' v : Value} (ha : VR ι a a') (hx : VR ι ix ix') (h : indexE C t a ix = some v) : ∃ v', (Instr.index t a' ix').run P w = .ok v' w ∧ VR ι v v' := by
  unfold indexE at h
  split at h
  · rename_i ti k hti hk
    obtain ⟨i, d, z, hi⟩ := hC.ti hti
    have hd := hi.desc
    obtain ⟨ik, rfl⟩ := nat?_some hx hk
    split at h
    · rename_i n el _ hkd; rw [hkd] at hd; simp only at hd; subst hd
      cases ha with | agg ha =>
      rw [Option.bind_eq_some_iff] at h
      obtain ⟨et, het, h⟩ := h
      obtain ⟨i2, d2, z2, h2⟩ := hC.ti het
      cases hb : Nat.blt k n with
      | false => rw [hb, cond_false] at h; cases h
      | true =>
        rw [hb, cond_true] at h
        have hlt : k < n := by simpa using hb
        have hc : (0 : Int) ≤ (k : Int) ∧ (k : Int) < (n : Int) := ⟨by omega, by omega⟩
        obtain ⟨v', h1, h3⟩ := partE_run hC (w := w) het ha h
        refine ⟨v', ?_, h3⟩
        simp only [Instr.index, Sem.run_bind, asIntOf, Sem.run_pure, hi.run_under, Result.andThen_ok, hc, and_self, if_true, h2.run_size, Int.toNat_natCast]
        exact h1
    · rename_i hkd; rw [hkd] at hd; simp only at hd; subst hd
      cases ha
      rw [Option.map_eq_some_iff] at h
      obtain ⟨b, hb, rfl⟩ := h
      refine ⟨_, ?_, .int _ _⟩
      have hc : (0 : Int) ≤ (k : Int) := by omega
      simp only [Instr.index, Sem.run_bind, asIntOf, Sem.run_pure, hi.run_under, Result.andThen_ok, hc, if_true, Int.toNat_natCast, hb]
    · cases h
  · cases h

end
end Go.Ahe
/-
  AHE, 7: slicing, building, reading the heap.
-/
namespace Go.Ahe
open Go.RowKit

theorem nble_le {a b : Nat} (h : Nat.ble a b = true) : a ≤ b := Nat.le_of_ble_eq_true h
theorem nblt_lt {a b : Nat} (h : Nat.blt a b = true) : a < b := by simpa using h
theorem nbeq_eq {a b : Nat} (h : Nat.beq a b = true) : a = b := Nat.eq_of_beq_eq_true h
theorem bif_some {α : Type} {b : Bool} {x : Option α} {v : α} (h : (bif b then x else none) = some v) : b = true ∧ x = some v := by
  cases b with
  | false => cases h
  | true => exact ⟨rfl, h⟩

/-- Values that may be missing, related. -/
inductive VRo (ι : Emb) : Option Value → Option Value → Prop
  | none : VRo ι none none
  | some {v v' : Value} (h : VR ι v v') : VRo ι (some v) (some v')

theorem EnvR.opo {ι : Emb} {e : Env} {a : Act} (h : EnvR ι e a.tmps) {x : Option Operand} {v : Option Value} (hs : opVo e x = some v) : VRo ι v (x.map a.eval) := by
  cases x with
  | none => simp only [opVo] at hs; cases hs; exact .none
  | some x =>
    simp only [opVo, Option.map_eq_some_iff] at hs
    obtain ⟨u, hu, rfl⟩ := hs
    exact .some (h.op hu)

/-- A bound, as the model reads it. -/
def NatOf (v' : Option Value) (k : Option Nat) : Prop :=
  match v', k with
  | none, none => True
  | some v, some k => ∃ ik, v = .int ik (k : Int)
  | _, _ => False

theorem nato?_some {ι : Emb} {v v' : Option Value} {k : Option Nat} (hv : VRo ι v v') (h : nato? v = some k) : NatOf v' k := by
  cases hv with
  | none => simp only [nato?] at h; cases h; trivial
  | some hv =>
    simp only [nato?, Option.map_eq_some_iff] at h
    obtain ⟨n, hn, rfl⟩ := h
    exact nat?_some hv hn

section
variable {P : Program} {w : World}
theorem sliceBound_run (ik : IntKind) {k y : Nat} (h : k ≤ y) (code : BoundsCode) : (Instr.sliceBound (.int ik (k : Int)) y code).run P w = .ok k w := by
  have hc : (0 : Int) ≤ (k : Int) ∧ (k : Int) ≤ (y : Int) := ⟨by omega, by omega⟩
  simp only [Instr.sliceBound, asIntOf, Sem.run_bind, Sem.run_pure, Result.andThen_ok, hc, and_self, if_true, Int.toNat_natCast]

theorem sliceB_some {len cap : Nat} {low high max : Option Nat} {r : Nat × Nat × Nat} (h : sliceB len cap low high max = some r) :
    r = (low.getD 0, high.getD len, max.getD cap) ∧ max.getD cap ≤ cap ∧ high.getD len ≤ max.getD cap ∧
      low.getD 0 ≤ high.getD len ∧ (high.isSome = true ∨ max = none) := by
  unfold sliceB at h
  obtain ⟨hb, h⟩ := bif_some h
  simp only [Bool.and_eq_true, Bool.or_eq_true, Option.isNone_iff_eq_none] at hb
  cases h
  exact ⟨rfl, nble_le hb.1.1.1, nble_le hb.1.1.2, nble_le hb.1.2, hb.2⟩

/-- The bounds of a slice expression: where no third is given, the capacity may be greater than what is known. -/
theorem sliceBounds_run {isS : Bool} {len cap cap' : Nat} {low high max : Option Nat} {lo hi mx : Option Value} {r : Nat × Nat × Nat} (h : sliceB len cap low high max = some r)
    (hc : cap ≤ cap') (h1 : NatOf lo low) (h2 : NatOf hi high) (h3 : NatOf mx max) :
    (Instr.sliceBounds isS len cap' lo hi mx).run P w = .ok (r.1, r.2.1, max.getD cap') w := by
  obtain ⟨rfl, ha, hb, hd, he⟩ := sliceB_some h
  cases lo <;> cases low <;> first | (exact h1.elim) | skip
  all_goals cases hi <;> cases high <;> first | (exact h2.elim) | skip
  all_goals cases mx <;> cases max <;> first | (exact h3.elim) | skip
  all_goals simp only [Option.getD_some, Option.getD_none] at ha hb hd
  all_goals try (obtain ⟨k1, rfl⟩ := h1)
  all_goals try (obtain ⟨k2, rfl⟩ := h2)
  all_goals try (obtain ⟨k3, rfl⟩ := h3)
  all_goals simp only [Instr.sliceBounds, Sem.run_bind, Sem.run_pure, Result.andThen_ok, Option.getD_some, Option.getD_none, Option.isSome_some, Option.isSome_none]
  all_goals first
    | rfl
    | (rw [sliceBound_run _ (by omega)]; first | rfl | (simp only [Result.andThen_ok]; rw [sliceBound_run _ (by omega)]; first | rfl | (simp only [Result.andThen_ok]; rw [sliceBound_run _ (by omega)]; rfl)))
    | (rcases he with he | he <;> cases he)
end

section
variable {P : Program} {C : Ctx} (hC : Fits C P) {ι : Emb} {w : World}
include hC

theorem sliceE_run {t : TypeId} {x x' v : Value} {low high max : Option Nat} {lo hi mx : Option Value} (hx : VR ι x x') (h1 : NatOf lo low) (h2 : NatOf hi high) (h3 : NatOf mx max)
    (h : sliceE C t x low high max = some v) : ∃ v', (Instr.sliceAt t x' lo hi mx).run P w = .ok v' w ∧ VR ι v v' := by
  unfold sliceE at h
  split at h
  · cases h
  · rename_i ti hti
    obtain ⟨i, d, z, hi⟩ := hC.ti hti
    have hd := hi.desc
    simp only [Instr.sliceAt, Sem.run_bind, hi.run_under, Result.andThen_ok]
    split at h
    · rename_i s hk; rw [hk] at hd; simp only at hd; subst hd
      cases hx
      split at h
      · rw [Option.map_eq_some_iff] at h
        obtain ⟨r, hr, rfl⟩ := h
        cases mx with
        | some _ => exact h3.elim
        | none =>
        refine ⟨_, ?_, .string _⟩
        simp only [Instr.slice, Sem.run_bind, hi.run_under, Result.andThen_ok, Option.isSome_none, Bool.false_eq_true, if_false, sliceBounds_run (isS := false) hr (Nat.le_refl _) h1 h2 h3, Sem.run_pure]
      · cases h
    · rename_i el hk; rw [hk] at hd; simp only at hd; subst hd
      cases hx
      simp only [Option.bind_eq_some_iff, Option.map_eq_some_iff] at h
      obtain ⟨et, het, r, hr, rfl⟩ := h
      obtain ⟨i2, d2, z2, hi2⟩ := hC.ti het
      obtain ⟨hre, ha, hb, hdd, he⟩ := sliceB_some hr
      refine ⟨.slice none 0 0, ?_, .nils⟩
      have e1 : r.1 = 0 := by rw [hre]; simp only; omega
      have e2 : r.2.1 = 0 := by rw [hre]; simp only; omega
      have e3 : max.getD 0 = 0 := by omega
      simp only [Instr.slice, Sem.run_bind, hi.run_under, Result.andThen_ok, sliceBounds_run (isS := true) hr (Nat.le_refl _) h1 h2 h3, hi2.run_size, Sem.run_pure, e1, e2, e3, if_true]
    · rename_i el io o sp len cap hk; rw [hk] at hd; simp only at hd; subst hd
      simp only [Option.bind_eq_some_iff] at h
      obtain ⟨et, het, r, hr, h⟩ := h
      obtain ⟨i2, d2, z2, hi2⟩ := hC.ti het
      obtain ⟨hre, ha, hb, hdd, he⟩ := sliceB_some hr
      cases hx with
      | @slice _ _ b p _ _ hx =>
        simp only [Option.some.injEq] at h
        subst h
        refine ⟨.slice (some ⟨b, p + (if r.2.2 = r.1 then o else o + r.1 * et.size), none⟩) (r.2.1 - r.1) (r.2.2 - r.1), ?_, .slice hx⟩
        have hm : max.getD cap = r.2.2 := by rw [hre]
        simp only [Instr.slice, Sem.run_bind, hi.run_under, Result.andThen_ok, sliceBounds_run (isS := true) hr (Nat.le_refl _) h1 h2 h3, hi2.run_size, Sem.run_pure, hm]
        by_cases e : r.2.2 = r.1
        · simp only [e, if_true]
        · simp only [e, if_false, Option.map_some, Addr.add_lit, Nat.add_assoc]
      | @sliceU _ _ b p q _ _ c' zz hx hll hcc hq hee =>
        have hrun := sliceBounds_run (isS := true) (P := P) (w := w) hr hcc h1 h2 h3
        have hlen : high.getD len ≤ cap := by omega
        have hr1 : r.1 ≤ r.2.1 := by rw [hre]; exact hdd
        have hr2 : r.2.1 ≤ r.2.2 := by rw [hre]; exact hb
        have hr3 : r.2.2 ≤ cap := by rw [hre]; exact ha
        cases max with
        | none =>
          simp only at h
          obtain ⟨hzz, h⟩ := bif_some h
          have hzz := nbeq_eq hzz
          simp only [Option.some.injEq] at h
          subst h
          cases mx with
          | some _ => exact h3.elim
          | none =>
            have hr4 : r.2.2 = cap := by rw [hre]; rfl
            simp only [Option.getD_none] at hrun
            by_cases e : c' = r.1
            · subst e
              refine ⟨.slice (some ⟨b, q, none⟩) (r.2.1 - r.1) (r.1 - r.1), ?_, ?_⟩
              · simp only [Instr.slice, Sem.run_bind, hi.run_under, Result.andThen_ok, hrun, hi2.run_size, Sem.run_pure, if_true]
              · exact .sliceU hx (by omega) (by omega) (.inl (by omega)) (.inl (by omega))
            · refine ⟨.slice (some ⟨b, q + r.1 * et.size, none⟩) (r.2.1 - r.1) (c' - r.1), ?_, ?_⟩
              · simp only [Instr.slice, Sem.run_bind, hi.run_under, Result.andThen_ok, hrun, hi2.run_size, Sem.run_pure, e, if_false, Option.map_some, Addr.add_lit]
              · refine .sliceU hx (by omega) (by omega) ?_ ?_
                · rcases hq with hq | hq
                  · left; omega
                  · right; rw [hq]; omega
                · right
                  rcases hee with hee | hee
                  · omega
                  · rw [← hee, hzz, Nat.add_assoc, ← Nat.add_mul]
                    congr 2
                    omega
        | some m =>
          simp only at h
          obtain ⟨hlt, h⟩ := bif_some h
          cases h
          have hlt := nblt_lt hlt
          have hr4 : r.2.2 = m := by rw [hre]; rfl
          have hne : ¬ m = r.1 := by omega
          simp only [Option.getD_some] at hrun
          have hq' : q = p + o := by rcases hq with hq | hq <;> omega
          refine ⟨.slice (some ⟨b, p + (o + r.1 * et.size), none⟩) (r.2.1 - r.1) (r.2.2 - r.1), ?_, .slice hx⟩
          simp only [Instr.slice, Sem.run_bind, hi.run_under, Result.andThen_ok, hrun, hi2.run_size, Sem.run_pure, hne, if_false, Option.map_some, Addr.add_lit, hr4, hq', Nat.add_assoc]
    · rename_i n el io o hk; rw [hk] at hd; simp only at hd; subst hd
      cases hx with | @ptr _ _ b p hx =>
      rw [Option.bind_eq_some_iff] at h
      obtain ⟨et, het, h⟩ := h
      rw [Option.map_eq_some_iff] at h
      obtain ⟨r, hr, rfl⟩ := h
      obtain ⟨i2, d2, z2, hi2⟩ := hC.ti het
      obtain ⟨hre, ha, hb, hdd, he⟩ := sliceB_some hr
      refine ⟨.slice (some ⟨b, p + (if r.2.2 = r.1 then o else o + r.1 * et.size), none⟩) (r.2.1 - r.1) (r.2.2 - r.1), ?_, .slice hx⟩
      have hm : max.getD n = r.2.2 := by rw [hre]
      simp only [Instr.sureAddr, Sem.run_bind, Sem.run_pure, Result.andThen_ok, sliceBounds_run (isS := false) hr (Nat.le_refl _) h1 h2 h3, hi2.run_size, hm]
      by_cases e : r.2.2 = r.1
      · simp only [e, if_true]
      · simp only [e, if_false, Addr.add_lit, Nat.add_assoc]
    · cases h
end
end Go.Ahe
/-
  AHE, 8: building, reading the heap, writing cells.
-/
namespace Go.Ahe
open Go.RowKit

theorem fill_one (off : Nat) : ∀ (l : List Value) (j : Nat) (cells : Array Value), off + j + l.length ≤ cells.size →
    ((l.zipIdx j).foldl (fun cs (x : Value × Nat) => cs.setIfInBounds (off + x.2) x.1) cells).toList = cells.toList.take (off + j) ++ l ++ cells.toList.drop (off + j + l.length)
  | [], j, cells, h => by simp
  | v :: l, j, cells, h => by
    simp only [List.length_cons] at h
    rw [List.zipIdx_cons, List.foldl_cons]
    have hsz : (cells.setIfInBounds (off + j) v).size = cells.size := by simp
    rw [fill_one off l (j + 1) _ (by rw [hsz]; omega)]
    rw [Array.toList_setIfInBounds]
    have hlt : off + j < cells.toList.length := by simp; omega
    rw [List.take_set, List.drop_set_of_lt (by omega)]
    rw [show off + (j + 1) = off + j + 1 by omega, show off + j + 1 + l.length = off + j + (v :: l).length by simp; omega]
    rw [List.take_add_one, List.set_append_right _ _ (by simp; omega), List.length_take, Nat.min_eq_left (by omega)]
    simp [List.getElem?_eq_getElem hlt]

theorem fillE_run {ι : Emb} {place : Nat → Option (Nat × Nat)} : ∀ {parts : List (Nat × Value)} {parts' : List (Nat × Value)} {cs r : List Value} {cs' : Array Value},
    (parts.map (·.1) = parts'.map (·.1)) → VRs ι (parts.map (·.2)) (parts'.map (·.2)) → VRs ι cs cs'.toList → fillE place cs parts = some r →
    ∃ r' : Array Value, Instr.fill place cs' parts' = some r' ∧ VRs ι r r'.toList
  | [], [], cs, r, cs', _, _, hc, h => by
    simp only [fillE, Option.some.injEq] at h; subst h; exact ⟨cs', rfl, hc⟩
  | [], _ :: _, _, _, _, hk, _, _, _ => by simp at hk
  | _ :: _, [], _, _, _, hk, _, _, _ => by simp at hk
  | (i, v) :: parts, (i', v') :: parts', cs, r, cs', hk, hv, hc, h => by
    simp only [List.map_cons, List.cons.injEq] at hk
    obtain ⟨rfl, hk⟩ := hk
    simp only [List.map_cons] at hv
    cases hv with | cons hv hvs =>
    simp only [fillE] at h
    simp only [Instr.fill]
    cases hp : place i with
    | none => rw [hp] at h; cases h
    | some os =>
      obtain ⟨off, size⟩ := os
      rw [hp] at h
      simp only at h ⊢
      obtain ⟨hb, h⟩ := bif_some h
      have hb := nbeq_eq hb
      rw [Option.bind_eq_some_iff] at h
      obtain ⟨cs1, hl, h⟩ := h
      have hcv := hv.cells
      have hle := (lput_some hl).1
      have e1 : v'.cells.size = size := by rw [← Array.length_toList, ← hcv.length]; exact hb
      have e2 : off + v'.cells.size ≤ cs'.size := by
        rw [e1, ← hb, ← Array.length_toList, ← hc.length]; exact hle
      have hno : ¬ (decide (v'.cells.size ≠ size) || decide (off + v'.cells.size > cs'.size)) = true := by simp [e1]; omega
      rw [if_neg hno]
      refine fillE_run hk hvs ?_ h
      have := hc.put hcv hl
      rw [← Array.foldl_toList, Array.toList_zipIdx]
      rw [fill_one off v'.cells.toList 0 cs' (by simpa using e2)]
      simpa using this

theorem fillE_place {f g : Nat → Option (Nat × Nat)} (hfg : ∀ k, f k = none ∨ f k = g k) : ∀ {ps : List (Nat × Value)} {cs r : List Value}, fillE f cs ps = some r → fillE g cs ps = some r
  | [], _, _, h => h
  | (i, v) :: ps, cs, r, h => by
    simp only [fillE] at h ⊢
    rcases hfg i with hn | he
    · rw [hn] at h; cases h
    · rw [← he]
      cases hf : f i with
      | none => rw [hf] at h; cases h
      | some os =>
        rw [hf] at h
        simp only at h ⊢
        obtain ⟨hb, h⟩ := bif_some h
        rw [hb, cond_true]
        rw [Option.bind_eq_some_iff] at h ⊢
        obtain ⟨c, hc, h⟩ := h
        exact ⟨c, hc, fillE_place hfg h⟩

theorem partsE_some {ι : Emb} {e : Env} {a : Act} (h : EnvR ι e a.tmps) : ∀ {ps : List (Nat × Operand)} {vs : List (Nat × Value)}, partsE e ps = some vs →
    vs.map (·.1) = (ps.map fun x => (x.1, a.eval x.2)).map (·.1) ∧ VRs ι (vs.map (·.2)) ((ps.map fun x => (x.1, a.eval x.2)).map (·.2))
  | [], vs, hs => by simp only [partsE, Option.some.injEq] at hs; subst hs; exact ⟨rfl, .nil⟩
  | (i, x) :: ps, vs, hs => by
    simp only [partsE] at hs
    split at hs
    · rename_i v vs' h1 h2
      cases hs
      obtain ⟨ha, hb⟩ := partsE_some h h2
      exact ⟨by simp only [List.map_cons]; rw [ha], .cons (h.op h1) hb⟩
    · cases hs

theorem mapM_run {α β : Type} {P : Program} {w : World} {f : α → Sem β} {g : α → β} : ∀ (l : List α), (∀ x ∈ l, (f x).run P w = .ok (g x) w) → (l.mapM f).run P w = .ok (l.map g) w
  | [], _ => rfl
  | x :: l, h => by
    rw [List.mapM_cons]
    simp only [Sem.run_bind, h x (by simp), Result.andThen_ok, mapM_run l (fun y hy => h y (by simp [hy])), Sem.run_pure, List.map_cons]

theorem mapM_runA {α β : Type} {P : Program} {w : World} {f : α → Sem β} {g : α → β} (xs : Array α) (h : ∀ x ∈ xs.toList, (f x).run P w = .ok (g x) w) : (xs.mapM f).run P w = .ok (xs.toList.map g).toArray w := by
  rw [Array.mapM_eq_mapM_toList]
  simp only [Sem.run_map, mapM_run _ h, Result.andThen_ok]

section
variable {P : Program} {C : Ctx} (hC : Fits C P) {ι : Emb} {w : World}

/-- The zero cells of a type. -/
theorem zero_plain {t : TypeId} {ti : TI} {i : TypeInfo} {d : TypeDesc} {z : Value} (hi : TIok P t ti i d z) : VRs ι ti.zero z.cells.toList := by
  rw [hi.zcells]; exact VRs.plain (fun v => VR.plainCell) hi.plain

include hC
theorem buildE_run {t : TypeId} {ps : List (Nat × Value)} {ps' : Array (Nat × Value)} {v : Value}
    (hk : ps.map (·.1) = ps'.toList.map (·.1)) (hv : VRs ι (ps.map (·.2)) (ps'.toList.map (·.2))) (h : buildE C t ps = some v) :
    ∃ v', (Instr.build t ps').run P w = .ok v' w ∧ VR ι v v' := by
  unfold buildE at h
  split at h
  · rename_i ti hti
    obtain ⟨i, d, z, hi⟩ := hC.ti hti
    have hd := hi.desc
    have hzero := zero_plain (ι := ι) hi
    have hkk := hi.kind
    simp only [Instr.build, Sem.run_bind, hi.run_zero, hi.run_under, Result.andThen_ok]
    split at h
    · rename_i fs hkd; rw [hkd] at hd
      obtain ⟨F, rfl, rfl, _, _⟩ := hd
      obtain ⟨_, _, _, hall⟩ := mkKind_struct hkk
      rw [Option.map_eq_some_iff] at h
      obtain ⟨r, hr, rfl⟩ := h
      have hm : (F.mapM fun f => do pure (f.offset, ← sizeOf f.type) : Sem (Array (Nat × Nat))).run P w = .ok (F.toList.map fun f => (f.offset, P.cellsOf f.type)).toArray w := by
        refine mapM_runA F fun f hf => ?_
        have := List.all_eq_true.1 hall f hf
        obtain ⟨j, hj⟩ := Option.isSome_iff_exists.1 this
        simp [sizeOf, typeInfo, hj, Program.cellsOf]
      have hpl : ∀ (k : Nat), ((F.toList.map fun f => (f.offset, f.type, f.name == "_"))[k]?).bind (fun (f : Nat × TypeId × Bool) => (C.T f.2.1).map fun ft => (f.1, ft.size)) = none ∨
          ((F.toList.map fun f => (f.offset, f.type, f.name == "_"))[k]?).bind (fun (f : Nat × TypeId × Bool) => (C.T f.2.1).map fun ft => (f.1, ft.size)) = ((F.toList.map fun f => (f.offset, P.cellsOf f.type)).toArray)[k]? := by
        intro k
        simp only [List.getElem?_map, List.getElem?_toArray]
        cases hf : F.toList[k]? with
        | none => left; rfl
        | some f =>
          simp only [Option.map_some, Option.bind_some]
          cases hT : C.T f.type with
          | none => left; rfl
          | some ft =>
            right
            obtain ⟨i2, d2, z2, hi2⟩ := hC.ti hT
            simp [Program.cellsOf, hi2.info, hi2.size]
      have hr2 : fillE (fun k => ((F.toList.map fun f => (f.offset, P.cellsOf f.type)).toArray)[k]?) ti.zero ps = some r := by
        refine fillE_place (fun k => hpl k) hr
      obtain ⟨r', h1, h2⟩ := fillE_run hk hv hzero hr2
      refine ⟨.agg r', ?_, .agg (by simpa using h2)⟩
      simp only [Sem.run_bind, hm, Result.andThen_ok]
      rw [h1]
      rfl
    · rename_i n el hkd; rw [hkd] at hd; simp only at hd; subst hd
      simp only [Option.bind_eq_some_iff, Option.map_eq_some_iff] at h
      obtain ⟨et, het, r, hr, rfl⟩ := h
      obtain ⟨i2, d2, z2, hi2⟩ := hC.ti het
      obtain ⟨r', h1, h2⟩ := fillE_run hk hv hzero hr
      refine ⟨.agg r', ?_, .agg (by simpa using h2)⟩
      simp only [Sem.run_bind, hi2.run_size, Result.andThen_ok, h1, Sem.run_pure]
    · cases h
  · cases h
end

end Go.Ahe
/-
  AHE, 9: reading the heap; lengths; maps looked up.
-/
namespace Go.Ahe
open Go.RowKit

theorem cell_of {w : World} {b : Nat} {C : Array Value} {E : TypeId} {fz : Nat × Nat} (h : w.heap[b]? = some (.cells C E fz)) (k : Nat) : w.cell? ⟨b, k, none⟩ = C[k]? := by
  simp [World.cell?, h]

theorem readCells_run {base : Nat} {ι : Emb} {H : Hp} {w : World} (hr : Rel base ι H w) {i b p off n : Nat} {r : List Value} (hι : ι i = some (b, p)) (h : readCells H i off n = some r) :
    ∃ L : List Value, VRs ι r L ∧ L.length = n ∧ ∀ (j : Nat) (v : Value), L[j]? = some v → w.cell? ⟨b, p + off + j, none⟩ = some v := by
  unfold readCells at h
  split at h
  · rename_i cs ro hg
    obtain ⟨hle, rfl⟩ := lrange_some h
    obtain ⟨C, E, fz, h1, _, h3, h4, _⟩ := hr.ob i _ b p hg hι
    have hlen : ((cs.drop off).take n).length = n := by simp; omega
    refine ⟨(List.range n).map fun j => (w.cell? ⟨b, p + off + j, none⟩).getD undef, VRs.of_get (by rw [hlen]; simp) fun k v hk => ?_, by simp, fun j v hj => ?_⟩
    · have hkn : k < n := by
        have := (List.getElem?_eq_some_iff.1 hk).1
        rw [hlen] at this; exact this
      have : cs[off + k]? = some v := by
        rw [List.getElem?_take, if_pos hkn, List.getElem?_drop] at hk
        exact hk
      obtain ⟨v', hv1, hv2⟩ := h4 _ _ this
      refine ⟨v', ?_, hv2⟩
      rw [List.getElem?_map, List.getElem?_range hkn]
      simp only [Option.map_some, cell_of h1]
      rw [show p + off + k = p + (off + k) by omega, hv1]
      rfl
    · have hjn : j < n := by
        have := (List.getElem?_eq_some_iff.1 hj).1
        simpa using this
      rw [List.getElem?_map, List.getElem?_range hjn] at hj
      simp only [Option.map_some, Option.some.injEq] at hj
      have hlt : off + j < cs.length := by omega
      obtain ⟨v', hv1, _⟩ := h4 (off + j) _ (List.getElem?_eq_getElem hlt)
      have hc : w.cell? ⟨b, p + off + j, none⟩ = some v' := by
        rw [cell_of h1, show p + off + j = p + (off + j) by omega, hv1]
      rw [hc] at hj ⊢
      simpa using hj
  · cases h

theorem MR.length {ι : Emb} {es : List (Value × Value × Nat)} {ES : List MapEntry} (h : MR ι es ES) : es.length = ES.length := by
  induction h with
  | nil => rfl
  | cons _ _ _ ih => simp [ih]

theorem one?_some {l : List Value} {v : Value} (h : one? l = some v) : l = [v] := by
  unfold one? at h
  split at h
  · cases h; rfl
  · cases h

section
variable {P : Program} {C : Ctx} (hC : Fits C P) {base : Nat} {ι : Emb} {H : Hp} {w : World} (hr : Rel base ι H w)
include hC hr

theorem loadE_run {t : TypeId} {ti : TI} (hti : C.T t = some ti) {a a' v : Value} (ha : VR ι a a') (h : loadE ti a H = some v) :
    ∃ v', (Instr.loadAt t a').run P w = .ok v' w ∧ VR ι v v' ∧ ∃ ad, a' = .pointer (some ad) ∧ (loadVar t ad).run P w = .ok v' w := by
  obtain ⟨i, d, z, hi⟩ := hC.ti hti
  unfold loadE at h
  split at h
  · rename_i io o
    cases ha with | @ptr _ _ b p ha =>
    have key : ∃ v', (loadVar t ⟨b, p + o, none⟩).run P w = .ok v' w ∧ VR ι v v' := by
      simp only [loadVar, Sem.run_bind, hi.run_agg, Result.andThen_ok]
      cases hag : ti.agg with
      | true =>
        rw [hag] at h
        simp only [Option.map_eq_some_iff] at h
        obtain ⟨r, hrd, rfl⟩ := h
        obtain ⟨L, h1, h2, h3⟩ := readCells_run hr ha hrd
        refine ⟨.agg L.toArray, ?_, .agg (by simpa using h1)⟩
        simp only [if_true, Sem.run_bind, hi.run_size, Result.andThen_ok]
        rw [← h2, run_loadCells_list w ⟨b, p + o, none⟩ L (fun j v hj => by rw [Addr.add_lit]; exact h3 j v hj)]
        rfl
      | false =>
        rw [hag] at h
        simp only [Option.bind_eq_some_iff] at h
        obtain ⟨r, hrd, ho⟩ := h
        have := one?_some ho; subst this
        obtain ⟨L, h1, h2, h3⟩ := readCells_run hr ha hrd
        obtain ⟨u, rfl⟩ : ∃ u, L = [u] := by
          cases L with
          | nil => simp at h2
          | cons u t => cases t with
            | nil => exact ⟨u, rfl⟩
            | cons _ _ => simp at h2
        cases h1 with | cons hv ht =>
        refine ⟨u, ?_, hv⟩
        simp only [Bool.false_eq_true, if_false, run_load]
        have := h3 0 _ rfl
        simp only [Nat.add_zero] at this
        rw [this]
    obtain ⟨v', h1, h2⟩ := key
    refine ⟨v', ?_, h2, _, rfl, h1⟩
    simp only [Instr.loadAt, Instr.sureAddr, Sem.run_bind, Sem.run_pure, Result.andThen_ok, h1]
  · cases h

omit hC in
theorem mapOf_run {x x' : Value} {m : Option (Nat × List (Value × Value × Nat) × Nat)} (hx : VR ι x x') (h : mapOf x H = some m) :
    (m = none ∧ x' = .map none) ∨ ∃ i b p es ck, ∃ ES : Array MapEntry, m = some (i, es, ck) ∧ x = .map (some i) ∧ x' = .map (some b) ∧ ι i = some (b, p) ∧ H.get i = some (.map es ck) ∧ w.heap[b]? = some (.map ES ck) ∧ MR ι es ES.toList := by
  unfold mapOf at h
  split at h
  · cases hx; cases h; exact .inl ⟨rfl, rfl⟩
  · rename_i i
    cases hx with | @map _ b p hx =>
    split at h
    · rename_i es ck hg
      cases h
      obtain ⟨ES, h1, h2⟩ := hr.ob i _ b p hg hx
      exact .inr ⟨i, b, p, es, ck, ES, rfl, rfl, rfl, hx, hg, h1, h2⟩
    · cases h
  · cases h

theorem lenE_run {t : TypeId} {x x' v : Value} (hx : VR ι x x') (h : lenE C t x H = some v) (ty : TypeId) : (Builtin.len_ #[t] ty #[x']).run P w = .ok v w ∧ VR ι v v := by
  unfold lenE at h
  split at h
  · cases h
  · rename_i ti hti
    obtain ⟨i, d, z, hi⟩ := hC.ti hti
    have hd := hi.desc
    split at h
    · rename_i s hk; rw [hk] at hd; simp only at hd; subst hd
      cases hx; cases h
      exact ⟨by simp [Builtin.len_, hi.run_under, goInt], .int _ _⟩
    · rename_i n e hk; rw [hk] at hd; simp only at hd; subst hd
      cases h
      exact ⟨by simp [Builtin.len_, hi.run_under, goInt], .int _ _⟩
    · rename_i el a n c hk; rw [hk] at hd; simp only at hd; subst hd
      cases h
      exact ⟨by cases hx <;> simp [Builtin.len_, hi.run_under, goInt], .int _ _⟩
    · rename_i k e hk; rw [hk] at hd; simp only at hd; subst hd
      rw [Option.map_eq_some_iff] at h
      obtain ⟨m, hm, rfl⟩ := h
      rcases mapOf_run hr hx hm with ⟨rfl, rfl⟩ | ⟨i, b, p, es, ck, ES, rfl, rfl, rfl, _, _, h1, h2⟩
      · exact ⟨by simp [Builtin.len_, hi.run_under, goInt], .int _ _⟩
      · have hsz : es.length = ES.size := by
          rw [← Array.length_toList]
          exact h2.length
        refine ⟨?_, .int _ _⟩
        simp [Builtin.len_, hi.run_under, goInt, getObj, Sem.run, h1, hsz]
    · cases h
end
end Go.Ahe
/-
  AHE, 10: keys of maps.
-/
namespace Go.Ahe
open Go.RowKit

theorem keyOk_list {ι : Emb} {f : Value → Bool} (hf : ∀ v v', f v = true → VR ι v v' → v' = v) : ∀ {l l' : List Value}, l.all f = true → VRs ι l l' → l' = l
  | _, _, _, .nil => rfl
  | _, _, h, .cons hv t => by
    simp only [List.all_cons, Bool.and_eq_true] at h
    rw [hf _ _ h.1 hv, keyOk_list hf h.2 t]

theorem keyOk_eq {ι : Emb} {k k' : Value} (h : keyOk k = true) (hv : VR ι k k') : k' = k := by
  cases hv <;> first | rfl | (cases h; done) | skip
  case agg a a' hv =>
    have := keyOk_list (ι := ι) (f := fun v => match v with | .int _ _ => true | .string _ => true | .bool _ => true | _ => false)
      (fun v v' h1 h2 => by cases h2 <;> first | rfl | cases h1) h hv
    rw [Array.toList_inj.1 this]

theorem keyFit_parts {C : Ctx} {t : TypeId} {k : Value} (h : keyFit C t k = true) : keyOk k = true ∧ flatKey C t = true ∧ eqIn C 30 t k k = some true := by
  unfold keyFit at h
  rw [Bool.and_eq_true, Bool.and_eq_true] at h
  refine ⟨h.1, h.2.1, ?_⟩
  have := h.2.2
  split at this
  · assumption
  · cases this

/-- What is found, related. -/
def RF (ι : Emb) : Option (Nat × Value) → Option (Nat × Value) → Prop
  | none, none => True
  | some (i, v), some (j, v') => i = j ∧ VR ι v v'
  | _, _ => False

section
variable {P : Program} {C : Ctx} (hC : Fits C P) {ι : Emb} {w : World}
include hC

theorem checkScalar (e : Bool) (D : Nat) {t : TypeId} {ti : TI} (ht : C.T t = some ti) (hk : scalarK ti.kind = true) (x : Value) : (Instr.checkKey e (D + 1) t x).run P w = .ok () w := by
  obtain ⟨i, d, z, hi⟩ := hC.ti ht
  have hd := hi.desc
  simp only [Instr.checkKey, Sem.run_bind, hi.run_under, Result.andThen_ok]
  cases hkd : ti.kind <;> rw [hkd] at hk hd <;> first | (cases hk; done) | (simp only at hd; subst hd; rfl)

theorem checkFs (e : Bool) (D : Nat) {eq : TypeId → Value → Value → Option Bool} {xs : List Value} {xs' : Array Value} (hx : VRs ι xs xs'.toList) :
    ∀ (F : List Field), ((F.map fun f => (f.offset, f.type, f.name == "_")).all fun (f : Nat × TypeId × Bool) => match C.T f.2.1 with | some fi => scalarK fi.kind | none => false) = true →
    eqIn.eqFs C eq (F.map fun f => (f.offset, f.type, f.name == "_")) xs xs = some true →
    (forIn (m := Sem) F PUnit.unit fun f _ =>
      if f.name ≠ "_" then do
        let __do_lift ← part f.type xs' f.offset
        Instr.checkKey e (D + 1) f.type __do_lift
        pure (ForInStep.yield PUnit.unit)
      else pure (ForInStep.yield PUnit.unit)).run P w = .ok PUnit.unit w
  | [], _, _ => rfl
  | f :: F, hs, h => by
    rw [List.forIn_cons]
    simp only [List.map_cons, List.all_cons, Bool.and_eq_true] at hs
    simp only [List.map_cons, eqIn.eqFs] at h
    cases hb : (f.name == "_") with
    | true =>
      rw [hb] at h
      have hn : f.name = "_" := by simpa using hb
      simp only [hn, ne_eq, not_true, if_false, Sem.run_bind, Sem.run_pure, Result.andThen_ok]
      exact checkFs e D hx F hs.2 h
    | false =>
      rw [hb] at h
      have hn : f.name ≠ "_" := by simpa using hb
      simp only at h
      split at h
      · cases h
      · rename_i fti hfti
        have hsc := hs.1
        rw [hfti] at hsc
        simp only at hsc
        split at h
        · rename_i a c ha hc
          obtain ⟨a', ha1, ha2⟩ := partE_run hC (w := w) hfti hx ha
          simp only [hn, ne_eq, not_false_eq_true, if_true, Sem.run_bind, ha1, Result.andThen_ok]
          rw [checkScalar hC e D hfti hsc]
          simp only [Result.andThen_ok, Sem.run_pure]
          rw [Option.bind_eq_some_iff] at h
          obtain ⟨u, _, h⟩ := h
          rw [Option.map_eq_some_iff] at h
          obtain ⟨v, hv, huv⟩ := h
          rw [Bool.and_eq_true] at huv
          exact checkFs e D hx F hs.2 (by rw [hv, huv.2])
        · cases h

theorem checkKey_run (e : Bool) {t : TypeId} {k k' : Value} (hf : keyFit C t k = true) (hk : VR ι k k') : (Instr.checkKey e 10000 t k').run P w = .ok () w := by
  obtain ⟨_, h2, h3⟩ := keyFit_parts hf
  unfold flatKey at h2
  split at h2
  · cases h2
  · rename_i ti hti
    obtain ⟨i, d, z, hi⟩ := hC.ti hti
    have hd := hi.desc
    split at h2
    · rename_i fs hkd
      rw [hkd] at hd
      obtain ⟨F, rfl, rfl, _, _⟩ := hd
      rw [eqIn, hti] at h3
      simp only at h3
      rw [hkd] at h3
      cases hk with
      | @agg _ xs' hk =>
        simp only at h3
        have key : ∀ D, (Instr.checkKey e (D + 1 + 1) t (.agg xs')).run P w = .ok () w := by
          intro D
          have := checkFs hC e D (w := w) hk F.toList h2 h3
          rw [Instr.checkKey]
          simp only [Sem.run_bind, hi.run_under, Result.andThen_ok, ← Array.forIn_toList]
          rw [this]
          rfl
        exact key 9998
      | _ => cases h3
    · exact checkScalar hC e 9999 hti h2 k'

theorem findAsking_run {kt : TypeId} {k k' : Value} (hk : VR ι k k') : ∀ {es : List (Value × Value × Nat)} {ES : List MapEntry} (_ : MR ι es ES) (i : Nat) (r : Option (Nat × Value)), findE C kt k es i = some r →
    ∃ r', (Instr.findAsking kt k' ES i).run P w = .ok r' w ∧ RF ι r r' := by
  intro es ES hm
  induction hm with
  | nil => intro i r h; simp only [findE, Option.some.injEq] at h; subst h; exact ⟨none, rfl, trivial⟩
  | @cons ek v v' b es ES hek hv _ ih =>
    intro i r h
    have hkk : VR ι ek ek := by
      cases ek <;> first | (cases hek; done) | constructor | skip
      exact VRs.plain (f := fun v => match v with | .int _ _ => true | .string _ => true | .bool _ => true | _ => false)
        (fun v h => by cases v <;> first | (cases h; done) | constructor) hek
    simp only [findE] at h
    simp only [Instr.findAsking, Sem.run_bind]
    split at h
    · rename_i hq
      cases h
      have := eqIn_run hC 30 Op.maxDepth (by decide) kt k ek k' ek true hq hk hkk w
      have : (Op.equal kt k' ek).run P w = .ok true w := this
      rw [this]
      exact ⟨some (i, v'), rfl, rfl, hv⟩
    · rename_i hq
      have := eqIn_run hC 30 Op.maxDepth (by decide) kt k ek k' ek false hq hk hkk w
      have : (Op.equal kt k' ek).run P w = .ok false w := this
      rw [this]
      exact ih (i + 1) r h
    · cases h

theorem findNow_eq {kt : TypeId} {ti : TI} {i : TypeInfo} {d : TypeDesc} {z : Value} (hti : C.T kt = some ti) (hi : TIok P kt ti i d z) {k : Value} :
    ∀ {es : List (Value × Value × Nat)} {ES : List MapEntry} (_ : MR ι es ES) (n : Nat) (r : Option (Nat × Value)), findE C kt k es n = some r →
    Instr.findNow d k ES n = none ∨ ∃ r', Instr.findNow d k ES n = some r' ∧ RF ι r r' := by
  intro es ES hm
  have hd := hi.desc
  induction hm with
  | nil => intro n r h; simp only [findE, Option.some.injEq] at h; subst h; exact .inr ⟨none, rfl, trivial⟩
  | @cons ek v v' b es ES hek hv _ ih =>
    intro n r h
    simp only [findE] at h
    simp only [Instr.findNow]
    cases hs : Instr.sameNow d k ek with
    | none => exact .inl rfl
    | some c =>
      have hq : eqIn C 30 kt k ek = none ∨ eqIn C 30 kt k ek = some c := by
        rw [eqIn, hti, hC.eqi]
        unfold Instr.sameNow at hs
        split at hs <;> first
          | (split at hs <;> first | (cases hs; done) | skip)
          | skip
        all_goals first | (cases hs; done) | skip
        all_goals (cases hs; cases hkd : ti.kind <;> rw [hkd] at hd <;> simp only at hd <;> first
          | (exact .inl rfl)
          | (cases hd; done)
          | (obtain ⟨_, _, _, hd⟩ := hd; cases hd; done)
          | (obtain ⟨_, hd, _⟩ := hd; cases hd; done)
          | (subst_vars; right; simp; done)
          | (right; simp [*]; done)
          | (left; simp only [hkd]; done)
          | (right; simp only [hkd]; first | rfl | (rw [if_pos ‹_›]; rfl)))
      rcases hq with hq | hq
      · rw [hq] at h; cases h
      · rw [hq] at h
        cases c with
        | true =>
          simp only [Option.some.injEq] at h; subst h
          exact .inr ⟨some (n, v'), rfl, rfl, hv⟩
        | false => exact ih (n + 1) r h

theorem findKey_run {kt : TypeId} {k k' : Value} (hf : keyFit C kt k = true) (hk : VR ι k k') {es : List (Value × Value × Nat)} {ES : Array MapEntry} (hm : MR ι es ES.toList) {r : Option (Nat × Value)}
    (h : findE C kt k es 0 = some r) : ∃ r', (Instr.findKey kt k' ES.toList).run P w = .ok r' w ∧ RF ι r r' := by
  obtain ⟨h1, h2, _⟩ := keyFit_parts hf
  have := keyOk_eq h1 hk; subst this
  obtain ⟨ti, hti⟩ : ∃ ti, C.T kt = some ti := by
    unfold flatKey at h2
    split at h2
    · cases h2
    · rename_i ti hti; exact ⟨ti, hti⟩
  obtain ⟨i, d, z, hi⟩ := hC.ti hti
  simp only [Instr.findKey, Sem.run_bind, hi.run_under, Result.andThen_ok]
  rcases findNow_eq hC hti hi hm 0 r h with hn | ⟨r', hn, hr⟩
  · rw [hn]
    exact findAsking_run hC hk hm 0 r h
  · rw [hn]
    exact ⟨r', rfl, hr⟩
end
end Go.Ahe
/-
  AHE, 11: writing cells.
-/
namespace Go.Ahe
open Go.RowKit

theorem heap_setCell_self {w : World} {b k : Nat} {C : Array Value} {E : TypeId} {fz : Nat × Nat} (h : w.heap[b]? = some (.cells C E fz)) (v : Value) :
    (w.setCell ⟨b, k, none⟩ v).heap[b]? = some (.cells (C.setIfInBounds k v) E fz) := by
  simp [World.setCell, Array.getElem?_modify, h]

theorem heap_setCell_other {w : World} {b k : Nat} (v : Value) {j : Nat} (h : j ≠ b) : (w.setCell ⟨b, k, none⟩ v).heap[j]? = w.heap[j]? := Below.heap_setCell w ⟨b, k, none⟩ v j h

theorem size_setCell (w : World) (a : Addr) (v : Value) : (w.setCell a v).heap.size = w.heap.size := by simp [World.setCell]

/-- Cells put one by one into a row. -/
theorem storeCells_run {P : Program} {b o : Nat} {E : TypeId} {fz : Nat × Nat} (hfz : ∀ k, ¬ (fz.1 ≤ k ∧ k < fz.2)) : ∀ (vs : List Value) (i : Nat) (w : World) (C : Array Value), w.heap[b]? = some (.cells C E fz) →
    o + i + vs.length ≤ C.size → vs.all oneCell = true →
    ∃ w' : World, ∃ C' : Array Value, (storeCells ⟨b, o, none⟩ vs i).run P w = .ok () w' ∧ w'.heap[b]? = some (.cells C' E fz) ∧ C'.size = C.size ∧
      (∀ k : Nat, C'[k]? = if o + i ≤ k ∧ k < o + i + vs.length then vs[k - (o + i)]? else C[k]?) ∧ WEq w w' ∧ w'.heap.size = w.heap.size ∧ ∀ j, j ≠ b → w'.heap[j]? = w.heap[j]?
  | [], i, w, C, h, _, _ => ⟨w, C, rfl, h, rfl, fun k => by rw [if_neg (by simp)], ⟨rfl, rfl, rfl⟩, rfl, fun _ _ => rfl⟩
  | v :: vs, i, w, C, h, hle, hone => by
    simp only [List.all_cons, Bool.and_eq_true] at hone
    simp only [List.length_cons] at hle
    have hlt : o + i < C.size := by omega
    have h1 : v.oneCell' = true := by have := hone.1; cases v <;> first | rfl | cases this
    have hc : w.cell? ⟨b, o + i, none⟩ = some C[o + i] := by rw [cell_of h]; exact Array.getElem?_eq_getElem hlt
    have hf : w.frozen? ⟨b, o + i, none⟩ = false := by
      simp only [World.frozen?, h]
      have := hfz (o + i)
      simpa using this
    have hst : (store ((⟨b, o, none⟩ : Addr).add i) v).run P w = .ok () (w.setCell ⟨b, o + i, none⟩ v) := by
      rw [Addr.add_lit, run_store P w _ v _ h1, hc]
      simp [hf]
    obtain ⟨w', C', e1, e2, e3, e4, e5, e6, e7⟩ := storeCells_run (P := P) (o := o) hfz vs (i + 1) (w.setCell ⟨b, o + i, none⟩ v) _ (heap_setCell_self h v) (by simp; omega) hone.2
    refine ⟨w', C', ?_, e2, by rw [e3]; simp, fun k => ?_, ⟨e5.os, e5.tape, e5.output⟩, by rw [e6, size_setCell], fun j hj => (e7 j hj).trans (heap_setCell_other v hj)⟩
    · simp only [storeCells, Sem.run_bind, hst, Result.andThen_ok, e1]
    · rw [e4 k]
      by_cases hk : o + (i + 1) ≤ k ∧ k < o + (i + 1) + vs.length
      · rw [if_pos hk, if_pos (by simp; omega)]
        obtain ⟨n, rfl⟩ : ∃ n, k = o + i + 1 + n := ⟨k - (o + i + 1), by omega⟩
        rw [show o + i + 1 + n - (o + (i + 1)) = n by omega, show o + i + 1 + n - (o + i) = n + 1 by omega]
        simp
      · rw [if_neg hk]
        by_cases he : k = o + i
        · subst he
          rw [if_pos (by simp)]
          simp [hlt]
        · rw [if_neg (by simp; omega), Array.getElem?_setIfInBounds_ne (Ne.symm he)]

theorem VRs.allOne {ι : Emb} : ∀ {l l' : List Value}, VRs ι l l' → l.all oneCell = true → l'.all oneCell = true
  | _, _, .nil, _ => rfl
  | _, _, .cons hv t, h => by
    simp only [List.all_cons, Bool.and_eq_true] at h ⊢
    exact ⟨by rw [hv.oneCell]; exact h.1, t.allOne h.2⟩

section
variable {P : Program} {base : Nat} {ι : Emb} {H : Hp} {w : World} (hr : Rel base ι H w)
include hr

theorem writeCells_run {i b p off : Nat} {vs vs' : List Value} {H' : Hp} (hι : ι i = some (b, p)) (hv : VRs ι vs vs') (h : writeCells H i off vs = some H') :
    ∃ w' : World, (storeCells ⟨b, p + off, none⟩ vs').run P w = .ok () w' ∧ Rel base ι H' w' ∧ Step ι ι H H' w w' := by
  unfold writeCells at h
  split at h
  · rename_i cs hg
    obtain ⟨hone, h⟩ := bif_some h
    rw [Option.bind_eq_some_iff] at h
    obtain ⟨cs1, hl, hu⟩ := h
    obtain ⟨hle, hcs1⟩ := lput_some hl
    obtain ⟨C, E, fz, h1, h2, h3, h4, h5⟩ := hr.ob i _ b p hg hι
    have hlen := hv.length
    have hone' : vs'.all oneCell = true := by
      exact hv.allOne hone
    obtain ⟨w', C', e1, e2, e3, e4, e5, e6, e7⟩ := storeCells_run (P := P) (o := p + off) (h2 rfl) vs' 0 w C h1 (by have := h3.1; omega) hone'
    refine ⟨w', e1, ?_⟩
    refine hr.write hg rfl hι hu e5 e6 e7 ?_ ?_
    · refine ⟨C', E, fz, e2, h2, ⟨?_, e3.trans h3.2⟩, fun k v hk => ?_, fun _ k v' hk hv' => ?_⟩
      · have := h3.1; rw [e3, hcs1]; simp; omega
      · rw [hcs1] at hk
        rw [e4]
        by_cases hk1 : k < off
        · rw [List.append_assoc, List.getElem?_append_left (by simp; omega), List.getElem?_take, if_pos hk1] at hk
          rw [if_neg (by omega)]
          exact h4 k v hk
        · by_cases hk2 : k < off + vs.length
          · rw [List.getElem?_append_left (by simp; omega), List.getElem?_append_right (by simp; omega)] at hk
            simp only [List.length_take] at hk
            rw [Nat.min_eq_left (by omega)] at hk
            obtain ⟨v', hv1, hv2⟩ := hv.get? hk
            refine ⟨v', ?_, hv2⟩
            rw [if_pos (by omega), show p + k - (p + off + 0) = k - off by omega]
            exact hv1
          · rw [List.getElem?_append_right (by simp; omega), List.getElem?_drop] at hk
            simp only [List.length_append, List.length_take] at hk
            rw [Nat.min_eq_left (by omega)] at hk
            rw [if_neg (by omega)]
            rw [show off + vs.length + (k - (off + vs.length)) = k by omega] at hk
            exact h4 k v hk
      · have hcl : cs1.length = cs.length := by rw [hcs1]; simp; omega
        rw [e4, if_neg (by omega)] at hv'
        exact h5 rfl k v' (by omega) hv'
    · intro L hL; rw [h1] at hL; cases hL
  · cases h

end

/-- The zero value of a type. -/
theorem zeroV_rel {P : Program} {ι : Emb} {t : TypeId} {ti : TI} {i : TypeInfo} {d : TypeDesc} {z u : Value} (hi : TIok P t ti i d z) (h : zeroV ti = some u) : VR ι u z := by
  unfold zeroV at h
  have hp := zero_plain (ι := ι) hi
  have hz := hi.zagg
  have hc := hi.zcells
  split at h
  · rename_i ha
    rw [ha] at hz
    cases h
    cases z <;> first | (cases hz; done) | skip
    exact .agg (by simpa [Value.cells] using hp)
  · rename_i ha
    rw [ha] at hz
    have := one?_some h
    rw [this] at hp hc
    cases z <;> first | (cases hz; done) | skip
    all_goals (cases hp with | cons h1 _ => exact h1)

section
variable {P : Program} {C : Ctx} (hC : Fits C P) {base : Nat} {ι : Emb} {H : Hp} {w : World} (hr : Rel base ι H w)
include hC hr

theorem storeE_run {t : TypeId} {ti : TI} (hti : C.T t = some ti) {a a' v v' : Value} {H' : Hp} (ha : VR ι a a') (hv : VR ι v v') (h : storeE ti a v H = some H') :
    ∃ w' : World, (Instr.storeAt t a' v').run P w = .ok () w' ∧ Rel base ι H' w' ∧ Step ι ι H H' w w' := by
  obtain ⟨i, d, z, hi⟩ := hC.ti hti
  unfold storeE at h
  split at h
  · rename_i io o
    cases ha with | @ptr _ _ b p ha =>
    obtain ⟨hb, h⟩ := bif_some h
    have hb := nbeq_eq hb
    obtain ⟨w', h1, h2, h3⟩ := writeCells_run (P := P) hr ha hv.cells h
    refine ⟨w', ?_, h2, h3⟩
    have hsz : v'.cells.size = ti.size := by rw [← Array.length_toList, ← hv.cells.length, hb]
    simp only [Instr.storeAt, Instr.sureAddr, Sem.run_bind, Sem.run_pure, Result.andThen_ok, storeVar, hi.run_size, hsz, ne_eq, not_true, if_false]
    exact h1
  · cases h

omit hC hr in
/-- A row of cells, new: as many abstract ones as real ones, or fewer. -/
theorem newRow_ob {ι : Emb} {cs : List Value} {C : Array Value} (E : TypeId) {n : Nat} (hsz : C.size = ι.sz n) (hv : VRs ι cs (C.toList.take cs.length)) (hle : cs.length ≤ C.size) (hsp : ∀ k v', cs.length ≤ k → C[k]? = some v' → plainCell v' = true) (w' : World) (hw : w'.heap[n]? = some (.cells C E (0, 0))) :
    ObR ι w' (.cells cs false) n 0 := by
  refine ⟨C, E, (0, 0), hw, fun _ k => by simp, ⟨by omega, hsz⟩, fun k v hk => ?_, fun _ k v' hk hv' => hsp k v' (by omega) hv'⟩
  obtain ⟨v', h1, h2⟩ := hv.get? hk
  refine ⟨v', ?_, h2⟩
  rw [Nat.zero_add]
  rw [List.getElem?_take] at h1
  split at h1
  · rw [← Array.getElem?_toList]; exact h1
  · cases h1

theorem lookupE_run {t : TypeId} {x x' k k' v : Value} {ok : Bool} (hx : VR ι x x') (hk : VR ι k k') (h : lookupE C t x k ok H = some v) :
    ∃ v', (Instr.lookup t x' k' ok).run P w = .ok v' w ∧ VR ι v v' := by
  unfold lookupE at h
  split at h
  · cases h
  · rename_i ti hti
    obtain ⟨i, d, z, hi⟩ := hC.ti hti
    have hd := hi.desc
    split at h
    · rename_i kt et hkd; rw [hkd] at hd; simp only at hd; subst hd
      simp only [Option.bind_eq_some_iff] at h
      obtain ⟨eti, heti, m, hm, h⟩ := h
      obtain ⟨hf, h⟩ := bif_some h
      simp only [Option.bind_eq_some_iff, Option.map_eq_some_iff] at h
      obtain ⟨r, hfind, u, hu, rfl⟩ := h
      obtain ⟨i2, d2, z2, hi2⟩ := hC.ti heti
      have hfin : ∀ (r' : Option (Nat × Value)) (u' : Value), RF ι r r' → VR ι u u' → ∃ v', (pure (if ok = true then .tuple #[u', .bool r'.isSome] else u') : Sem Value).run P w = .ok v' w ∧ VR ι (okV ok u r.isSome) v' := by
        intro r' u' hr2 hu'
        have hrs : r'.isSome = r.isSome := by cases r <;> cases r' <;> first | rfl | exact hr2.elim
        cases ok with
        | true => exact ⟨_, rfl, .tuple (.cons hu' (.cons (by rw [hrs]; exact .bool _) .nil))⟩
        | false => exact ⟨_, rfl, hu'⟩
      have rest : ∀ ES : Array MapEntry, MR ι (entriesOf m) ES.toList → ∃ v', (do
            Instr.checkKey ES.isEmpty 10000 kt k'
            let __do_lift ← Instr.findKey kt k' ES.toList
            match __do_lift with
              | some (_, v) => do
                let __x ← pure (v, true)
                pure (if ok = true then Value.tuple #[__x.fst, Value.bool __x.snd] else __x.fst)
              | none => do
                let __do_lift ← zeroValue et
                let __x ← pure (__do_lift, false)
                pure (if ok = true then Value.tuple #[__x.fst, Value.bool __x.snd] else __x.fst) : Sem Value).run P w = .ok v' w ∧ VR ι (okV ok u r.isSome) v' := by
        intro ES hMR
        obtain ⟨r', hr1, hr2⟩ := findKey_run hC (w := w) hf hk hMR hfind
        have hck := checkKey_run hC (w := w) ES.isEmpty hf hk
        simp only [Sem.run_bind, hck, hr1, Result.andThen_ok]
        cases r with
        | none =>
          cases r' with
          | some _ => exact hr2.elim
          | none =>
            simp only at hu
            obtain ⟨v', h1, h2⟩ := hfin none z2 hr2 (zeroV_rel hi2 hu)
            exact ⟨v', by simpa [hi2.run_zero] using h1, h2⟩
        | some iv =>
          cases r' with
          | none => exact hr2.elim
          | some jv =>
            obtain ⟨j, vv⟩ := jv
            obtain ⟨i', v0⟩ := iv
            simp only [Option.some.injEq] at hu; subst hu
            obtain ⟨v', h1, h2⟩ := hfin (some (j, vv)) vv hr2 hr2.2
            exact ⟨v', by simpa using h1, h2⟩
      rcases mapOf_run hr hx hm with ⟨rfl, rfl⟩ | ⟨i, b, p, es, ck, ES, rfl, rfl, rfl, _, _, h1, h2⟩
      · obtain ⟨v', h3, h4⟩ := rest #[] .nil
        refine ⟨v', ?_, h4⟩
        simp only [Instr.lookup, Sem.run_bind, hi.run_under, Result.andThen_ok, Sem.run_pure] at h3 ⊢
        exact h3
      · obtain ⟨v', h3, h4⟩ := rest ES h2
        refine ⟨v', ?_, h4⟩
        simp only [Instr.lookup, Sem.run_bind, hi.run_under, Result.andThen_ok, Sem.run_pure, getObj, Sem.run, h1] at h3 ⊢
        exact h3
    · cases h
end
end Go.Ahe
/-
  AHE, 12: writing maps.
-/
namespace Go.Ahe
open Go.RowKit

theorem bytes_eq {a b : ByteArray} (h : (a == b) = true) : a = b := by
  cases a; cases b
  have h : (_ : Array UInt8) == _ := h
  simpa using h
theorem bytes_self (a : ByteArray) : (a == a) = true := by
  cases a
  show ((_ : Array UInt8) == _) = true
  simp

theorem cellEq_eq {a b : Value} (h : cellEq a b = true) : a = b := by
  unfold cellEq at h
  split at h
  · rw [eq_of_beq h]
  · simp only [Bool.and_eq_true, decide_eq_true_eq] at h; rw [h.1, h.2]
  · rw [bytes_eq h]
  · simp only [decide_eq_true_eq] at h; rw [h]
  · simp only [Bool.and_eq_true, decide_eq_true_eq] at h; rw [h.1, nbeq_eq h.2.1, nbeq_eq h.2.2]
  · simp only [decide_eq_true_eq] at h; rw [h]
  · rfl
  · cases h

theorem cellsEq_eq : ∀ {a b : List Value}, cellsEq a b = true → a = b
  | [], [], _ => rfl
  | [], _ :: _, h => by cases h
  | _ :: _, [], h => by cases h
  | x :: a, y :: b, h => by
    simp only [cellsEq, Bool.and_eq_true] at h
    rw [cellEq_eq h.1, cellsEq_eq h.2]

theorem cellsOf_inj {a b : Value} (h : cellsOf a = cellsOf b) (h2 : isAggV a = isAggV b) : a = b := by
  have hna : ∀ v : Value, isAggV v = false → cellsOf v = [v] := fun v hv => by cases v <;> first | rfl | cases hv
  cases ha : isAggV a with
  | false =>
    rw [ha] at h2
    rw [hna a ha, hna b h2.symm] at h
    exact (List.cons.inj h).1
  | true =>
    rw [ha] at h2
    cases a <;> first | (cases ha; done) | skip
    cases b <;> first | (cases h2; done) | skip
    simp only [cellsOf] at h
    rw [Array.toList_inj.1 h]

theorem sameBits_list {f : Value → Bool} (n : Nat) (hf : ∀ v, f v = true → Instr.sameBits n v v = true) : ∀ {l : List Value}, l.all f = true → ((l.zip l).all fun (x, y) => Instr.sameBits n x y) = true
  | [], _ => rfl
  | v :: l, h => by
    simp only [List.all_cons, Bool.and_eq_true] at h
    simp only [List.zip_cons_cons, List.all_cons, Bool.and_eq_true]
    exact ⟨hf v h.1, sameBits_list n hf h.2⟩

theorem sameBits_self (n : Nat) {k : Value} (h : keyOk k = true) : Instr.sameBits (n + 1) k k = true := by
  cases k <;> first | (cases h; done) | (simp [Instr.sameBits]; done) | (simp [Instr.sameBits, bytes_self]; done) | skip
  rename_i a
  show (a.size == a.size && (a.toList.zip a.toList).all fun (x, y) => Instr.sameBits n x y) = true
  rw [beq_self_eq_true, Bool.true_and]
  refine sameBits_list (f := fun v => match v with | .int _ _ => true | .string _ => true | .bool _ => true | _ => false) n (fun v hv => ?_) h
  cases v <;> first | (cases hv; done) | (cases n <;> simp [Instr.sameBits, bytes_self])

theorem keyThatStays_run {P : Program} {w : World} {k : Value} (h : keyOk k = true) : (Instr.keyThatStays k k).run P w = .ok k w := by
  have : Instr.sameBits 10000 k k = true := sameBits_self 9999 h
  simp only [Instr.keyThatStays, this, if_true, Sem.run_pure]

theorem MR.get? {ι : Emb} {es : List (Value × Value × Nat)} {ES : List MapEntry} (h : MR ι es ES) : ∀ {j : Nat} {e : Value × Value × Nat}, es[j]? = some e → ∃ v', ES[j]? = some ⟨e.1, v', e.2.2⟩ ∧ VR ι e.2.1 v' := by
  induction h with
  | nil => intro j e h; simp at h
  | cons hk hv _ ih =>
    intro j e h
    cases j with
    | zero => simp at h; subst h; exact ⟨_, rfl, hv⟩
    | succ j => simp at h; obtain ⟨v', h1, h2⟩ := ih h; exact ⟨v', by simpa using h1, h2⟩

theorem MR.setAt {ι : Emb} {es : List (Value × Value × Nat)} {ES : List MapEntry} (h : MR ι es ES) {k v v' : Value} (hk : keyOk k = true) (hv : VR ι v v') : ∀ (j : Nat), MR ι (Go.Ahe.setAt es j k v) (ES.modify j fun e => { e with key := k, val := v' }) := by
  induction h with
  | nil => intro j; cases j <;> exact .nil
  | @cons k0 v0 v0' b es ES hk0 hv0 ht ih =>
    intro j
    cases j with
    | zero => exact .cons hk hv ht
    | succ j => exact .cons hk0 hv0 (ih j)

theorem MR.setKey {ι : Emb} {es : List (Value × Value × Nat)} {ES : List MapEntry} (h : MR ι es ES) {k : Value} (hk : keyOk k = true) : ∀ {j : Nat} {e : Value × Value × Nat}, es[j]? = some e → MR ι (Go.Ahe.setAt es j k e.2.1) (ES.modify j fun e => { e with key := k }) := by
  induction h with
  | nil => intro j e h; simp at h
  | @cons k0 v0 v0' b es ES hk0 hv0 ht ih =>
    intro j e h
    cases j with
    | zero => simp at h; subst h; exact .cons hk hv0 ht
    | succ j => simp at h; exact .cons hk0 hv0 (ih h)

theorem MR.snoc {ι : Emb} {es : List (Value × Value × Nat)} {ES : List MapEntry} (h : MR ι es ES) {k v v' : Value} {b : Nat} (hk : keyOk k = true) (hv : VR ι v v') : MR ι (es ++ [(k, v, b)]) (ES ++ [⟨k, v', b⟩]) := by
  induction h with
  | nil => exact .cons hk hv .nil
  | cons hk0 hv0 _ ih => exact .cons hk0 hv0 ih

theorem MR.erase {ι : Emb} {es : List (Value × Value × Nat)} {ES : List MapEntry} (h : MR ι es ES) : ∀ (j : Nat), MR ι (es.eraseIdx j) (ES.eraseIdx j) := by
  induction h with
  | nil => intro j; exact .nil
  | cons hk0 hv0 ht ih =>
    intro j
    cases j with
    | zero => exact ht
    | succ j => exact .cons hk0 hv0 (ih j)

theorem MR.stamp {ι : Emb} {es es' : List (Value × Value × Nat)} {ES : List MapEntry} (h : MR ι es ES) {v v' : Value} {b : Nat} (hv : VR ι v v') (hs : stampAt es b v = some es') :
    ∃ j, ES.findIdx? (fun e => (e.born : Int) == (b : Int)) = some j ∧ MR ι es' (ES.modify j fun e => { e with val := v' }) := by
  induction h generalizing es' with
  | nil => cases hs
  | @cons k0 v0 v0' c es ES hk0 hv0 ht ih =>
    simp only [stampAt] at hs
    cases hb : Nat.beq c b with
    | true =>
      rw [hb, cond_true] at hs
      cases hs
      have := nbeq_eq hb; subst this
      exact ⟨0, by simp [List.findIdx?_cons], .cons hk0 hv ht⟩
    | false =>
      rw [hb, cond_false, Option.map_eq_some_iff] at hs
      obtain ⟨r, hr, rfl⟩ := hs
      obtain ⟨j, h1, h2⟩ := ih hr
      have hne : ¬ ((c : Int) == (b : Int)) = true := by
        intro e
        have : (c : Int) = (b : Int) := by simpa using e
        have : c = b := by omega
        subst this
        rw [Nat.beq_refl] at hb; cases hb
      refine ⟨j + 1, ?_, .cons hk0 hv0 h2⟩
      rw [List.findIdx?_cons, if_neg hne, h1]
      rfl

section
variable {P : Program} {base : Nat} {ι : Emb} {H : Hp} {w : World} (hr : Rel base ι H w)
include hr

theorem setMap_run {i b p : Nat} {es es2 : List (Value × Value × Nat)} {ck ck2 : Nat} {ES : Array MapEntry} (ES2 : Array MapEntry) {H' : Hp} (hι : ι i = some (b, p)) (hg : H.get i = some (.map es ck)) (hb : w.heap[b]? = some (.map ES ck))
    (hu : H.upd i (.map es2 ck2) = some H') (hm : MR ι es2 ES2.toList) :
    ∃ w' : World, (setObj b (.map ES2 ck2)).run P w = .ok () w' ∧ Rel base ι H' w' ∧ Step ι ι H H' w w' := by
  have hlt : b < w.heap.size := hr.bnd i b p hι
  refine ⟨{ w with heap := w.heap.setIfInBounds b (.map ES2 ck2) }, by simp [setObj, Sem.run, hb], ?_⟩
  refine hr.write hg rfl hι hu ⟨rfl, rfl, rfl⟩ (by simp) (fun k hk => by simp [Array.getElem?_setIfInBounds_ne (Ne.symm hk)]) ?_ ?_
  · exact ⟨ES2, by simp [hlt], hm⟩
  · intro L hL; rw [hb] at hL; cases hL
end

section
variable {P : Program} {C : Ctx} (hC : Fits C P) {base : Nat} {ι : Emb} {H : Hp} {w : World} (hr : Rel base ι H w)
include hC hr

theorem mapPutE_run {t : TypeId} {x x' k k' v v' : Value} {H' : Hp} (hx : VR ι x x') (hk : VR ι k k') (hv : VR ι v v') (h : mapPutE C t x k v H = some H') :
    ∃ w' : World, (Instr.mapUpdate t x' k' v').run P w = .ok () w' ∧ Rel base ι H' w' ∧ Step ι ι H H' w w' := by
  unfold mapPutE at h
  split at h
  · cases h
  · rename_i ti hti
    obtain ⟨i, d, z, hi⟩ := hC.ti hti
    have hd := hi.desc
    split at h
    · rename_i kt et hkd; rw [hkd] at hd; simp only at hd; subst hd
      rw [Option.bind_eq_some_iff] at h
      obtain ⟨m, hm, h⟩ := h
      rcases mapOf_run hr hx hm with ⟨rfl, rfl⟩ | ⟨i', b, p, es, ck, ES, rfl, rfl, rfl, hι, hg, h1, h2⟩
      · cases h
      · simp only at h
        obtain ⟨hf, h⟩ := bif_some h
        rw [Option.bind_eq_some_iff] at h
        obtain ⟨r, hfind, h⟩ := h
        obtain ⟨r', hr1, hr2⟩ := findKey_run hC (w := w) hf hk h2 hfind
        have hck := checkKey_run hC (w := w) false hf hk
        have hok := (keyFit_parts hf).1
        have hkk := keyOk_eq hok hk
        simp only [Instr.mapUpdate, Sem.run_bind, hi.run_under, Result.andThen_ok, getObj, Sem.run, h1, hck, hr1]
        cases r with
        | none =>
          cases r' with
          | some _ => exact hr2.elim
          | none =>
            simp only at h ⊢
            subst hkk
            exact setMap_run hr (ES.push _) hι hg h1 h (by rw [Array.toList_push]; exact h2.snoc hok hv)
        | some iv =>
          obtain ⟨j, u⟩ := iv
          cases r' with
          | none => exact hr2.elim
          | some jv =>
            obtain ⟨j', u'⟩ := jv
            obtain ⟨rfl, _⟩ := hr2
            simp only at h
            split at h
            · rename_i e he
              obtain ⟨hcc, h⟩ := bif_some h
              simp only [Bool.and_eq_true, beq_iff_eq] at hcc
              have hek : e.1 = k := cellsOf_inj (cellsEq_eq hcc.1) hcc.2
              obtain ⟨v0', hes, _⟩ := h2.get? he
              rw [Array.getElem?_toList] at hes
              subst hkk
              simp only [hes, Option.map_some, Option.getD_some, hek, Sem.run_bind, keyThatStays_run hok, Result.andThen_ok]
              refine setMap_run hr _ hι hg h1 h ?_
              rw [Array.toList_modify]
              exact h2.setAt hok hv j
            · cases h
    · cases h

theorem mapEntryE_run {t : TypeId} {x x' k k' v : Value} {H' : Hp} (hx : VR ι x x') (hk : VR ι k k') (h : mapEntryE C t x k H = some (v, H')) :
    ∃ v', ∃ w' : World, (Instr.mapEntry t x' k').run P w = .ok v' w' ∧ VR ι v v' ∧ Rel base ι H' w' ∧ Step ι ι H H' w w' := by
  unfold mapEntryE at h
  split at h
  · cases h
  · rename_i ti hti
    obtain ⟨i, d, z, hi⟩ := hC.ti hti
    have hd := hi.desc
    split at h
    · rename_i kt et hkd; rw [hkd] at hd; simp only at hd; subst hd
      simp only [Option.bind_eq_some_iff] at h
      obtain ⟨eti, heti, m, hm, h⟩ := h
      obtain ⟨i2, d2, z2, hi2⟩ := hC.ti heti
      rcases mapOf_run hr hx hm with ⟨rfl, rfl⟩ | ⟨i', b, p, es, ck, ES, rfl, rfl, rfl, hι, hg, h1, h2⟩
      · cases h
      · simp only at h
        obtain ⟨hf, h⟩ := bif_some h
        rw [Option.bind_eq_some_iff] at h
        obtain ⟨r, hfind, h⟩ := h
        obtain ⟨r', hr1, hr2⟩ := findKey_run hC (w := w) hf hk h2 hfind
        have hck := checkKey_run hC (w := w) false hf hk
        have hok := (keyFit_parts hf).1
        have hkk := keyOk_eq hok hk
        simp only [Instr.mapEntry, Sem.run_bind, hi.run_under, Result.andThen_ok, getObj, Sem.run, h1, hck, hr1]
        cases r with
        | none =>
          cases r' with
          | some _ => exact hr2.elim
          | none =>
            simp only [Option.bind_eq_some_iff, Option.map_eq_some_iff] at h
            obtain ⟨zv, hzv, H1, hu, he⟩ := h
            cases he
            subst hkk
            have hz := zeroV_rel (ι := ι) hi2 hzv
            obtain ⟨w', e1, e2, e3⟩ := setMap_run (P := P) hr (ES.push ⟨k', z2, ck⟩) hι hg h1 hu (by rw [Array.toList_push]; exact h2.snoc hok hz)
            refine ⟨_, w', ?_, .tuple (.cons hz (.cons (.int _ _) .nil)), e2, e3⟩
            simp only [Sem.run_bind, hi2.run_zero, Result.andThen_ok, e1, Sem.run_pure, goInt]
        | some iv =>
          obtain ⟨j, u⟩ := iv
          cases r' with
          | none => exact hr2.elim
          | some jv =>
            obtain ⟨j', u'⟩ := jv
            obtain ⟨rfl, huv⟩ := hr2
            simp only [Option.bind_eq_some_iff] at h
            obtain ⟨e, he, h⟩ := h
            cases hcc : (cellsEq (cellsOf e.1) (cellsOf k) && (isAggV e.1 == isAggV k)) with
            | false => rw [hcc] at h; cases h
            | true =>
              rw [hcc] at h
              simp only [Bool.not_true, cond_false, Option.map_eq_some_iff] at h
              obtain ⟨H1, hu, he2⟩ := h
              cases he2
              simp only [Bool.and_eq_true, beq_iff_eq] at hcc
              have hek : e.1 = k := cellsOf_inj (cellsEq_eq hcc.1) hcc.2
              obtain ⟨v0', hes, hv0⟩ := h2.get? he
              rw [Array.getElem?_toList] at hes
              subst hkk
              have hmod : MR ι (setAt es j k' e.2.1) (ES.modify j fun e => { e with key := k' }).toList := by
                rw [Array.toList_modify]
                exact h2.setKey hok he
              obtain ⟨w', e1, e2, e3⟩ := setMap_run (P := P) hr (ES.modify j fun e => { e with key := k' }) hι hg h1 hu hmod
              refine ⟨_, w', ?_, .tuple (.cons huv (.cons (.int _ _) .nil)), e2, e3⟩
              simp only [hes, Option.map_some, Option.getD_some, hek, Sem.run_bind, keyThatStays_run hok, Result.andThen_ok, e1, Sem.run_pure, goInt]
    · cases h

omit hC in
theorem entryStoreE_run {t : TypeId} {x x' st st' v v' : Value} {H' : Hp} (hx : VR ι x x') (hs : VR ι st st') (hv : VR ι v v') (h : entryStoreE x st v H = some H') :
    ∃ w' : World, (Instr.entryStore t x' st' v').run P w = .ok () w' ∧ Rel base ι H' w' ∧ Step ι ι H H' w w' := by
  unfold entryStoreE at h
  rw [Option.bind_eq_some_iff] at h
  obtain ⟨m, hm, h⟩ := h
  rcases mapOf_run hr hx hm with ⟨rfl, rfl⟩ | ⟨i', b, p, es, ck, ES, rfl, rfl, rfl, hι, hg, h1, h2⟩
  · cases h
  · simp only [Option.bind_eq_some_iff] at h
    obtain ⟨bn, hbn, es', hst, hu⟩ := h
    obtain ⟨ik, rfl⟩ := nat?_some hs hbn
    obtain ⟨j, hj, hm2⟩ := h2.stamp hv hst
    have hj' : ES.findIdx? (fun e => (e.born : Int) == (bn : Int)) = some j := by rw [← hj]; cases ES; simp
    simp only [Instr.entryStore, Sem.run_bind, getObj, Sem.run, h1, Result.andThen_ok, asInt, asIntOf, Sem.run_pure, hj']
    exact setMap_run hr _ hι hg h1 hu (by rw [Array.toList_modify]; exact hm2)

theorem deleteE_run {t ty : TypeId} {x x' k k' : Value} {H' : Hp} (hx : VR ι x x') (hk : VR ι k k') (h : deleteE C t x k H = some H') :
    ∃ w' : World, (Builtin.delete_ #[t, ty] ty #[x', k']).run P w = .ok (.tuple #[]) w' ∧ Rel base ι H' w' ∧ Step ι ι H H' w w' := by
  unfold deleteE at h
  split at h
  · cases h
  · rename_i ti hti
    obtain ⟨i, d, z, hi⟩ := hC.ti hti
    have hd := hi.desc
    split at h
    · rename_i kt et hkd; rw [hkd] at hd; simp only at hd; subst hd
      rw [Option.bind_eq_some_iff] at h
      obtain ⟨m, hm, h⟩ := h
      obtain ⟨hf, h⟩ := bif_some h
      rcases mapOf_run hr hx hm with ⟨rfl, rfl⟩ | ⟨i', b, p, es, ck, ES, rfl, rfl, rfl, hι, hg, h1, h2⟩
      · simp only [Option.some.injEq] at h; subst h
        have hck := checkKey_run hC (w := w) true hf hk
        refine ⟨w, ?_, hr, Step.refl hr⟩
        simp [Builtin.delete_, hi.run_under, hck]
      · simp only [Option.bind_eq_some_iff] at h
        obtain ⟨r, hfind, h⟩ := h
        obtain ⟨r', hr1, hr2⟩ := findKey_run hC (w := w) hf hk h2 hfind
        have hck := checkKey_run hC (w := w) ES.isEmpty hf hk
        cases r with
        | none =>
          cases r' with
          | some _ => exact hr2.elim
          | none =>
            obtain ⟨w', e1, e2⟩ := setMap_run (P := P) hr ES hι hg h1 h h2
            refine ⟨w', ?_, e2⟩
            simp [Builtin.delete_, hi.run_under, getObj, Sem.run, h1, hck, hr1, e1]
        | some iv =>
          obtain ⟨j, u⟩ := iv
          cases r' with
          | none => exact hr2.elim
          | some jv =>
            obtain ⟨j', u'⟩ := jv
            obtain ⟨rfl, _⟩ := hr2
            obtain ⟨w', e1, e2⟩ := setMap_run (P := P) hr (ES.eraseIdxIfInBounds j) hι hg h1 h (by rw [Array.toList_eraseIdxIfInBounds]; exact h2.erase j)
            refine ⟨w', ?_, e2⟩
            simp [Builtin.delete_, hi.run_under, getObj, Sem.run, h1, hck, hr1, e1]
    · cases h
end
end Go.Ahe
