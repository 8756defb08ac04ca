/-
  AHE, 1: an abstract evaluator for loaded Go code: the definitions. No theorem of a program stands here.
-/
import Derived.RangeFuncLeaves
import Derived.OrdersIn
namespace Go.Ahe

/-- A map from numbers, as a tree. -/
inductive Tr (α : Type) where
  | nl
  | n (l : Tr α) (v : Option α) (r : Tr α)

def Tr.get {α : Type} : Tr α → Nat → Option α
  | .nl, _ => none
  | .n l v r, k => bif Nat.beq k 0 then v else bif Nat.beq (k % 2) 1 then l.get (k / 2) else r.get (k / 2 - 1)

def Tr.left {α : Type} : Tr α → Tr α | .nl => .nl | .n l _ _ => l
def Tr.here {α : Type} : Tr α → Option α | .nl => none | .n _ v _ => v
def Tr.right {α : Type} : Tr α → Tr α | .nl => .nl | .n _ _ r => r

def Tr.put {α : Type} (x : α) : Nat → Tr α → Nat → Tr α
  | 0, t, _ => t
  | f + 1, t, k => bif Nat.beq k 0 then .n t.left (some x) t.right
    else bif Nat.beq (k % 2) 1 then .n (put x f t.left (k / 2)) t.here t.right
    else .n t.left t.here (put x f t.right (k / 2 - 1))

def Tr.set {α : Type} (t : Tr α) (k : Nat) (x : α) : Tr α := t.put x (k + 1) k

/-- A frame's temporaries. -/
structure Env where
  size : Nat
  t : Tr Value

def Env.get (e : Env) (k : Nat) : Value := (e.t.get k).getD (.tuple #[])
def Env.set (e : Env) (k : Nat) (v : Value) : Option Env := bif Nat.blt k e.size then some ⟨e.size, e.t.set k v⟩ else none
def Env.put (e : Env) (d : Option Nat) (v : Value) : Option Env := match d with | none => some e | some k => e.set k v
def Env.ofArgs (size : Nat) (args : List Value) : Env :=
  ⟨size, (args.foldl (fun (p : Nat × Tr Value) v => (p.1 + 1, p.2.set p.1 v)) (0, .nl)).2⟩

/-- What lies behind an id. -/
inductive Ob where
  | cells (cs : List Value) (ro : Bool)
  | map (es : List (Value × Value × Nat)) (clock : Nat)
  | iter (m : Option Nat) (since : Nat) (seen : List Nat) (stepped : Nat)
  | loop (st : LoopState) (pend : Option Code) (env : Env) (ps : List Tmp) (assign body : Code)
  | dead

def Ob.wr : Ob → Bool
  | .cells _ ro => !ro
  | .dead => false
  | _ => true

structure Hp where
  objs : Tr Ob
  next : Nat
  floor : Nat

def Hp.get (H : Hp) (i : Nat) : Option Ob := H.objs.get i
def Hp.new (H : Hp) (o : Ob) : Hp := ⟨H.objs.set H.next o, H.next + 1, H.floor⟩
/-- A write to an object that may be written. -/
def Hp.upd (H : Hp) (i : Nat) (o : Ob) : Option Hp := bif Nat.ble H.floor i then some ⟨H.objs.set i o, H.next, H.floor⟩ else none
def Hp.raised (H : Hp) : Hp := ⟨H.objs, H.next, H.next⟩
def Hp.lowered (H : Hp) (f : Nat) : Hp := ⟨H.objs, H.next, f⟩

/-- What is known of a type: as the program's table has it. -/
inductive TK where
  | bool | int (k : IntKind) | string | pointer (e : TypeId) | slice (e : TypeId) | array (n : Nat) (e : TypeId)
  | map (k e : TypeId) | struct (fs : List (Nat × TypeId × Bool)) | func | other
structure TI where
  kind : TK
  size : Nat
  bytes : Nat
  zero : List Value

def TI.agg (t : TI) : Bool := match t.kind with | .struct _ => true | .array _ _ => true | _ => false

/-- What a function is. -/
structure AF where
  code : Code
  ntmps : Nat
  results : List ResultVar
  /-- its calls leave no trace: what they make is dropped -/
  pure : Bool

structure Ctx where
  /-- how numbers are told apart: 'decide (x < y)', 'decide (x = y)' -/
  lt : Int → Int → Bool
  eqi : Int → Int → Bool
  T : TypeId → Option TI
  fn : FuncId → Option AF
  ext : FuncId → List Value → Hp → Option (Value × Hp)

/-- A value that is no aggregate: of one cell. -/
def oneCell : Value → Bool
  | .agg _ => false
  | .tuple _ => false
  | _ => true

def cellsOf : Value → List Value
  | .agg cs => cs.toList
  | v => [v]

/-- A value without addresses, at the top. -/
def plainCell : Value → Bool
  | .bool _ => true
  | .int _ _ => true
  | .string _ => true
  | .pointer none => true
  | .slice none 0 0 => true
  | .map none => true
  | .nilFunc => true
  | .nilIface => true
  | _ => false
/-- A value without addresses (two levels: aggregates of cells, tuples of these). -/
def plainV1 : Value → Bool
  | .agg cs => cs.toList.all plainCell
  | v => plainCell v
def plainV : Value → Bool
  | .tuple vs => vs.toList.all plainV1
  | v => plainV1 v

def opV (e : Env) : Operand → Option Value
  | .tmp t => bif Nat.blt t e.size then some (e.get t) else none
  | .const v => bif plainV v then some v else none
  | .func f => some (.func (.func f) #[] #[])
  | .global _ => none

def opVs (e : Env) : List Operand → Option (List Value)
  | [] => some []
  | x :: xs => match opV e x, opVs e xs with
    | some v, some vs => some (v :: vs)
    | _, _ => none

def opVo (e : Env) : Option Operand → Option (Option Value)
  | none => some none
  | some x => (opV e x).map some

/-- n cells from off on. -/
def lrange (cs : List Value) (off n : Nat) : Option (List Value) :=
  bif Nat.ble (off + n) cs.length then some ((cs.drop off).take n) else none
/-- cells put from off on. -/
def lput (cs : List Value) (off : Nat) (vs : List Value) : Option (List Value) :=
  bif Nat.ble (off + vs.length) cs.length then some (cs.take off ++ vs ++ cs.drop (off + vs.length)) else none

def readCells (H : Hp) (i off n : Nat) : Option (List Value) :=
  match H.get i with
  | some (.cells cs _) => lrange cs off n
  | _ => none

def writeCells (H : Hp) (i off : Nat) (vs : List Value) : Option Hp :=
  match H.get i with
  | some (.cells cs false) => bif vs.all oneCell then (lput cs off vs).bind fun cs' => H.upd i (.cells cs' false) else none
  | _ => none

def one? : List Value → Option Value
  | [v] => some v
  | _ => none

def loadE (ti : TI) (a : Value) (H : Hp) : Option Value :=
  match a with
  | .pointer (some ⟨i, o, none⟩) =>
    match ti.agg with
    | true => (readCells H i o ti.size).map fun cs => .agg cs.toArray
    | false => (readCells H i o 1).bind one?
  | _ => none

def storeE (ti : TI) (a v : Value) (H : Hp) : Option Hp :=
  match a with
  | .pointer (some ⟨i, o, none⟩) =>
    bif Nat.beq (cellsOf v).length ti.size then writeCells H i o (cellsOf v) else none
  | _ => none

/-- a part of an aggregate's cells -/
def partE (ti : TI) (cs : List Value) (off : Nat) : Option Value :=
  match ti.agg with
  | true => (lrange cs off ti.size).map fun xs => .agg xs.toArray
  | false => cs[off]?

def fillE (place : Nat → Option (Nat × Nat)) (cs : List Value) : List (Nat × Value) → Option (List Value)
  | [] => some cs
  | (i, v) :: rest => match place i with
    | none => none
    | some (off, size) => bif Nat.beq (cellsOf v).length size then (lput cs off (cellsOf v)).bind fun cs' => fillE place cs' rest else none

def partsE (e : Env) : List (Nat × Operand) → Option (List (Nat × Value))
  | [] => some []
  | (i, x) :: r => match opV e x, partsE e r with
    | some v, some vs => some ((i, v) :: vs)
    | _, _ => none

def repeatL (zero : List Value) : Nat → List Value
  | 0 => []
  | n + 1 => zero ++ repeatL zero n

def buildE (C : Ctx) (t : TypeId) (parts : List (Nat × Value)) : Option Value :=
  match C.T t with
  | some ti => match ti.kind with
    | .struct fs => (fillE (fun i => (fs[i]?).bind fun f => (C.T f.2.1).map fun ft => (f.1, ft.size)) ti.zero parts).map fun cs => .agg cs.toArray
    | .array _ el => (C.T el).bind fun et => (fillE (fun i => some (i * et.size, et.size)) ti.zero parts).map fun cs => .agg cs.toArray
    | _ => none
  | none => none

def buildSliceE (C : Ctx) (t : TypeId) (len : Nat) (parts : List (Nat × Value)) (H : Hp) : Option (Value × Hp) :=
  match C.T t with
  | some ti => match ti.kind with
    | .slice el => (C.T el).bind fun et =>
      bif Nat.ble (len * et.size) 16777216 && Nat.ble 1 et.size && Nat.beq et.zero.length et.size then
        (fillE (fun i => some (i * et.size, et.size)) (repeatL et.zero len) parts).map fun cs =>
          (.slice (some ⟨H.next, 0, none⟩) len len, H.new (.cells cs false))
      else none
    | _ => none
  | none => none

def bitsE (op : BinOp) (k : IntKind) (x y : Int) : Option Value :=
  let a := BitVec.ofInt k.bits x
  let b := BitVec.ofInt k.bits y
  match op with
  | .and => some (.int k (k.wrap (a &&& b).toNat))
  | .or => some (.int k (k.wrap (a ||| b).toNat))
  | .xor => some (.int k (k.wrap (a ^^^ b).toNat))
  | .andNot => some (.int k (k.wrap (a &&& ~~~b).toNat))
  | _ => none

def intBin (lt eq : Int → Int → Bool) (op : BinOp) (k : IntKind) (x y : Int) : Option Value :=
  match op with
  | .add => some (.int k (k.wrap (x + y)))
  | .sub => some (.int k (k.wrap (x - y)))
  | .mul => some (.int k (k.wrap (x * y)))
  | .quo => if y = 0 then none else some (.int k (k.wrap (x.tdiv y)))
  | .rem => if y = 0 then none else some (.int k (x.tmod y))
  | .eql => some (.bool (eq x y))
  | .neq => some (.bool (!eq x y))
  | .lss => some (.bool (lt x y))
  | .leq => some (.bool (!lt y x))
  | .gtr => some (.bool (lt y x))
  | .geq => some (.bool (!lt x y))
  | op => bitsE op k x y

def shiftE (op : BinOp) (k : IntKind) (x : Int) (y : Int) : Option Value :=
  if y < 0 then none else
    match op with
    | .shl => some (.int k (k.wrap (x * 2 ^ (min y.toNat k.bits))))
    | .shr => some (.int k (x.fdiv (2 ^ (min y.toNat k.bits))))
    | _ => none

/-- Equality of values of a type, whose leaves are numbers, bools, strings; pointers against nil. -/
def eqIn (C : Ctx) : Nat → TypeId → Value → Value → Option Bool
  | 0, _, _, _ => none
  | d + 1, t, x, y => match C.T t with
    | none => none
    | some ti => match ti.kind, x, y with
      | .bool, .bool a, .bool b => some (a == b)
      | .int _, .int k a, .int k' b => if k = k' then some (C.eqi a b) else none
      | .string, .string a, .string b => some (a == b)
      | .pointer _, .pointer none, .pointer b => some b.isNone
      | .pointer _, .pointer _, .pointer none => some false
      | .slice _, .slice none _ _, .slice b _ _ => some b.isNone
      | .slice _, .slice _ _ _, .slice none _ _ => some false
      | .map _ _, .map none, .map b => some b.isNone
      | .map _ _, .map _, .map none => some false
      | .func, .nilFunc, .nilFunc => some true
      | .func, .nilFunc, .func _ _ _ => some false
      | .func, .func _ _ _, .nilFunc => some false
      | .struct fs, .agg xs, .agg ys => eqFs (eqIn C d) fs xs.toList ys.toList
      | .array n e, .agg xs, .agg ys => (C.T e).bind fun et => eqEs (eqIn C d) e et.size xs.toList ys.toList n 0
      | _, _, _ => none
where
  eqFs (eq : TypeId → Value → Value → Option Bool) : List (Nat × TypeId × Bool) → List Value → List Value → Option Bool
    | [], _, _ => some true
    | (off, ft, blank) :: fs, xs, ys =>
      match blank with
      | true => eqFs eq fs xs ys
      | false => match C.T ft with
        | none => none
        | some fti => match partE fti xs off, partE fti ys off with
          | some a, some b => (eq ft a b).bind fun u => (eqFs eq fs xs ys).map fun v => u && v
          | _, _ => none
  eqEs (eq : TypeId → Value → Value → Option Bool) (e : TypeId) (size : Nat) (xs ys : List Value) : Nat → Nat → Option Bool
    | 0, _ => some true
    | n + 1, i => match C.T e with
      | none => none
      | some et => match partE et xs (i * size), partE et ys (i * size) with
        | some a, some b => (eq e a b).bind fun u => (eqEs eq e size xs ys n (i + 1)).map fun v => u && v
        | _, _ => none

def binE (C : Ctx) (op : BinOp) (t : TypeId) (x y : Value) : Option Value :=
  match x, y with
  | .int k a, .int k' b =>
    match op with
    | .shl => shiftE .shl k a b
    | .shr => shiftE .shr k a b
    | op => if k = k' then intBin C.lt C.eqi op k a b else none
  | .string a, .string b =>
    match op with
    | .add => bif Nat.ble (a.size + b.size) 9223372036854775807 then some (.string (a ++ b)) else none
    | .eql => some (.bool (a.toList == b.toList))
    | .neq => some (.bool (!(a.toList == b.toList)))
    | .lss => some (.bool (Op.bytesLess a.toList b.toList))
    | _ => none
  | x, y =>
    match op with
    | .eql => (eqIn C 30 t x y).map .bool
    | .neq => (eqIn C 30 t x y).map fun b => .bool !b
    | _ => none

def unE (op : UnOp) (x : Value) : Option Value :=
  match op, x with
  | .neg, .int k n => some (.int k (k.wrap (0 - n)))
  | .xor, .int k n => bitsE .xor k (if k.signed then -1 else k.max) n
  | .not, .bool b => some (.bool !b)
  | _, _ => none

def convE (C : Ctx) (src dst : TypeId) (x : Value) : Option Value :=
  match C.T src, C.T dst with
  | some _, some d => match d.kind, x with
    | .int k, .int _ n => some (.int k (k.wrap n))
    | .string, .string s => some (.string s)
    | _, _ => none
  | _, _ => none

def nat? (v : Value) : Option Nat :=
  match v with
  | .int _ n => if 0 ≤ n then some n.toNat else none
  | _ => none

def nato? : Option Value → Option (Option Nat)
  | none => some none
  | some v => (nat? v).map some

/-- bounds of a slice expression over a length and a capacity (unknown: only what is within the known). -/
def sliceB (len cap : Nat) (low high max : Option Nat) : Option (Nat × Nat × Nat) :=
  let m := max.getD cap
  let h := high.getD len
  let l := low.getD 0
  bif Nat.ble m cap && Nat.ble h m && Nat.ble l h && (high.isSome || max.isNone) then some (l, h, m) else none

def sliceE (C : Ctx) (t : TypeId) (x : Value) (low high max : Option Nat) : Option Value :=
  match C.T t with
  | none => none
  | some ti => match ti.kind, x with
    | .string, .string s => match max with
      | none => (sliceB s.size s.size low high none).map fun b => .string (s.extract b.1 b.2.1)
      | some _ => none
    | .slice el, .slice none 0 0 => (C.T el).bind fun _ => (sliceB 0 0 low high max).map fun _ => .slice none 0 0
    | .slice el, .slice (some ⟨i, o, sp⟩) len cap => (C.T el).bind fun et => (sliceB len cap low high max).bind fun b =>
      match sp, max with
      | none, _ => some (.slice (some ⟨i, if b.2.2 = b.1 then o else o + b.1 * et.size, none⟩) (b.2.1 - b.1) (b.2.2 - b.1))
      | some sz, none => bif Nat.beq sz et.size then some (.slice (some ⟨i, o + b.1 * et.size, some sz⟩) (b.2.1 - b.1) (b.2.2 - b.1)) else none
      | some _, some _ => bif Nat.blt b.1 b.2.2 then some (.slice (some ⟨i, o + b.1 * et.size, none⟩) (b.2.1 - b.1) (b.2.2 - b.1)) else none
    | .array n el, .pointer (some ⟨i, o, none⟩) => (C.T el).bind fun et => (sliceB n n low high max).map fun b =>
      .slice (some ⟨i, if b.2.2 = b.1 then o else o + b.1 * et.size, none⟩) (b.2.1 - b.1) (b.2.2 - b.1)
    | _, _ => none

def indexAddrE (C : Ctx) (t : TypeId) (x ix : Value) : Option Value :=
  match C.T t, nat? ix with
  | some ti, some k => match ti.kind, x with
    | .array n el, .pointer (some ⟨i, o, none⟩) => (C.T el).bind fun et =>
      bif Nat.blt k n then some (.pointer (some ⟨i, o + k * et.size, none⟩)) else none
    | .slice el, .slice (some ⟨i, o, _⟩) len _ => (C.T el).bind fun et =>
      bif Nat.blt k len then some (.pointer (some ⟨i, o + k * et.size, none⟩)) else none
    | _, _ => none
  | _, _ => none

def indexE (C : Ctx) (t : TypeId) (x ix : Value) : Option Value :=
  match C.T t, nat? ix with
  | some ti, some k => match ti.kind, x with
    | .array n el, .agg cs => (C.T el).bind fun et => bif Nat.blt k n then partE et cs.toList (k * et.size) else none
    | .string, .string s => (s[k]?).map fun b => .int .u8 b.toNat
    | _, _ => none
  | _, _ => none

def fieldE (C : Ctx) (t : TypeId) (x : Value) (f : Nat) : Option Value :=
  match C.T t with
  | some ti => match ti.kind, x with
    | .struct fs, .agg cs => (fs[f]?).bind fun fd => (C.T fd.2.1).bind fun ft => partE ft cs.toList fd.1
    | _, _ => none
  | none => none

def fieldAddrE (C : Ctx) (t : TypeId) (x : Value) (f : Nat) : Option Value :=
  match C.T t with
  | some ti => match ti.kind, x with
    | .struct fs, .pointer (some ⟨i, o, none⟩) => (fs[f]?).bind fun fd => (C.T fd.2.1).bind fun ft =>
      bif Nat.ble 1 ft.size then some (.pointer (some ⟨i, o + fd.1, none⟩)) else none
    | _, _ => none
  | none => none

def extractE (x : Value) (k : Nat) : Option Value :=
  match x with
  | .tuple vs => vs.toList[k]?
  | _ => none

def makeSliceE (C : Ctx) (t : TypeId) (l c : Value) (H : Hp) : Option (Value × Hp) :=
  match C.T t, nat? l, nat? c with
  | some ti, some len, some cap => match ti.kind with
    | .slice el => (C.T el).bind fun et =>
      bif Nat.ble (et.bytes * cap) 140737488355328 && Nat.ble len cap && Nat.ble cap 9223372036854775807 && Nat.ble 1 et.size && Nat.beq et.zero.length et.size then
        some (.slice (some ⟨H.next, 0, none⟩) len cap, H.new (.cells (repeatL et.zero cap) false))
      else none
    | _ => none
  | _, _, _ => none

/-- Keys that are told apart at sight. -/
def keyEq : Value → Value → Option Bool
  | .int k a, .int k' b => if k = k' then some (decide (a = b)) else none
  | .string a, .string b => some (a == b)
  | .bool a, .bool b => some (a == b)
  | _, _ => none

def findE (C : Ctx) (t : TypeId) (k : Value) : List (Value × Value × Nat) → Nat → Option (Option (Nat × Value))
  | [], _ => some none
  | e :: es, i => match eqIn C 30 t k e.1 with
    | some true => some (some (i, e.2.1))
    | some false => findE C t k es (i + 1)
    | none => none

def mapOf (x : Value) (H : Hp) : Option (Option (Nat × List (Value × Value × Nat) × Nat)) :=
  match x with
  | .map none => some none
  | .map (some i) => match H.get i with
    | some (.map es ck) => some (some (i, es, ck))
    | _ => none
  | _ => none

def zeroV (ti : TI) : Option Value :=
  match ti.agg with
  | true => some (.agg ti.zero.toArray)
  | false => one? ti.zero

/-- A key of a kind that a map of the evaluator may have: numbers, strings, bools, and structs of these. -/
def keyOk (v : Value) : Bool := match v with
  | .int _ _ => true | .string _ => true | .bool _ => true
  | .agg cs => cs.toList.all fun v => match v with | .int _ _ => true | .string _ => true | .bool _ => true | _ => false
  | _ => false

def scalarK : TK → Bool
  | .int _ => true
  | .string => true
  | .bool => true
  | _ => false
/-- A type of keys: scalars, or a struct of scalars. -/
def flatKey (C : Ctx) (t : TypeId) : Bool := match C.T t with
  | none => false
  | some ti => match ti.kind with
    | .struct fs => fs.all fun f => match C.T f.2.1 with
      | some fi => scalarK fi.kind
      | none => false
    | k => scalarK k
/-- A key that fits its type. -/
def keyFit (C : Ctx) (t : TypeId) (k : Value) : Bool := keyOk k && (flatKey C t && (match eqIn C 30 t k k with | some true => true | _ => false))

def entriesOf (m : Option (Nat × List (Value × Value × Nat) × Nat)) : List (Value × Value × Nat) := match m with
  | none => []
  | some p => p.2.1
def isAggV : Value → Bool
  | .agg _ => true
  | _ => false

def okV (ok : Bool) (v : Value) (b : Bool) : Value := match ok with
  | true => .tuple #[v, .bool b]
  | false => v

def lookupE (C : Ctx) (t : TypeId) (x k : Value) (ok : Bool) (H : Hp) : Option Value :=
  match C.T t with
  | none => none
  | some ti => match ti.kind with
    | .map kt et => (C.T et).bind fun eti => (mapOf x H).bind fun m => bif keyFit C kt k then
        (findE C kt k (entriesOf m) 0).bind fun r =>
          (match r with | some (_, v) => some v | none => zeroV eti).map fun v => okV ok v r.isSome
      else none
    | _ => none

def cellEq : Value → Value → Bool
  | .bool a, .bool b => a == b
  | .int k a, .int k' b => decide (k = k') && decide (a = b)
  | .string a, .string b => a == b
  | .pointer a, .pointer b => decide (a = b)
  | .slice a n c, .slice a' n' c' => decide (a = a') && (Nat.beq n n' && Nat.beq c c')
  | .map a, .map b => decide (a = b)
  | .nilFunc, .nilFunc => true
  | _, _ => false
def cellsEq : List Value → List Value → Bool
  | [], [] => true
  | x :: xs, y :: ys => cellEq x y && cellsEq xs ys
  | _, _ => false
def setAt (es : List (Value × Value × Nat)) (i : Nat) (k v : Value) : List (Value × Value × Nat) :=
  match es, i with
  | [], _ => []
  | (_, _, b) :: r, 0 => (k, v, b) :: r
  | e :: r, i + 1 => e :: setAt r i k v

def mapPutE (C : Ctx) (t : TypeId) (x k v : Value) (H : Hp) : Option Hp :=
  match C.T t with
  | none => none
  | some ti => match ti.kind with
    | .map kt _ => (mapOf x H).bind fun m => match m with
      | none => none
      | some (i, es, ck) => bif keyFit C kt k then
        (findE C kt k es 0).bind fun r => match r with
          | some (j, _) => match es[j]? with
            | some e => bif cellsEq (cellsOf e.1) (cellsOf k) && (isAggV e.1 == isAggV k) then H.upd i (.map (setAt es j k v) ck) else none
            | none => none
          | none => H.upd i (.map (es ++ [(k, v, ck)]) (ck + 1))
        else none
    | _ => none

def minE : List Value → Option Value
  | [.int k a, .int _ b] => some (.int k (if b < a then b else a))
  | _ => none
def maxE : List Value → Option Value
  | [.int k a, .int _ b] => some (.int k (if b > a then b else a))
  | _ => none

def lenE (C : Ctx) (t : TypeId) (x : Value) (H : Hp) : Option Value :=
  match C.T t with
  | none => none
  | some ti => match ti.kind, x with
    | .string, .string s => some (.int .i64 s.size)
    | .array n _, _ => some (.int .i64 n)
    | .slice _, .slice _ n _ => some (.int .i64 n)
    | .map _ _, x => (mapOf x H).map fun m => .int .i64 (match m with | none => 0 | some p => p.2.1.length : Nat)
    | _, _ => none

/-- The cells of a slice, or of a string as bytes. -/
def firstCellsE (size n : Nat) (x : Value) (H : Hp) : Option (List Value) :=
  match x with
  | .slice none _ _ => bif Nat.beq n 0 then some [] else none
  | .slice (some ⟨i, o, _⟩) _ _ => bif Nat.beq n 0 then some [] else readCells H i o (n * size)
  | .string s => some (((s.extract 0 n).data.toList).map fun b => .int .u8 b.toNat)
  | _ => none

def lenOfE : Value → Option Nat
  | .slice _ n _ => some n
  | .string s => some s.size
  | _ => none

/-- How many are appended; a number stands for so many zero elements. -/
def addedE (x : Value) : Option Nat :=
  match x with
  | .int .i64 _ => nat? x
  | _ => lenOfE x

def newCellsE (et : TI) (n : Nat) (x : Value) (H : Hp) : Option (List Value) :=
  match x with
  | .int _ _ => some (repeatL et.zero n)
  | _ => firstCellsE et.size n x H

def appendE (C : Ctx) (ts tx : TypeId) (s x : Value) (H : Hp) : Option (Value × Hp) :=
  match C.T ts, C.T tx with
  | some ti, some tj => match ti.kind, tj.kind, x with
    | .slice el, .slice _, .slice _ _ _ => appendTo C el s x H
    | .slice el, .int _, .int .i64 n => (C.T el).bind fun et => bif decide (n ≤ 4294967296) && (Nat.ble et.bytes 65536 && Nat.beq et.zero.length et.size) then appendTo C el s x H else none
    | _, _, _ => none
  | _, _ => none
where
  appendTo (C : Ctx) (el : TypeId) (s x : Value) (H : Hp) : Option (Value × Hp) :=
    (C.T el).bind fun et => (addedE x).bind fun n =>
      match s with
      | .slice base len cap =>
        bif Nat.ble (len + n) cap then
          match base with
          | none => some (s, H)
          | some ⟨i, o, _⟩ => (newCellsE et n x H).bind fun new => bif Nat.beq n 0 then some (s, H) else
            (writeCells H i (o + len * et.size) new).map fun H' => (.slice base (len + n) cap, H')
        else bif Nat.ble 1 et.size && Nat.ble 1 et.bytes && Nat.ble ((2 * (len + n) + 768) * et.bytes) 281474976710656 && Nat.beq et.zero.length et.size then
          (firstCellsE et.size len s H).bind fun old => (newCellsE et n x H).bind fun new =>
            match base with
            | some ⟨i, _, some sz⟩ => match H.get i with
              | some (.cells _ false) => bif Nat.beq sz et.size && new.all oneCell then ((H.new (.cells (old ++ new) false)).upd i .dead).map fun H1 => (.slice (some ⟨H.next, 0, some et.size⟩) (len + n) (len + n), H1) else none
              | _ => none
            | _ => some (.slice (some ⟨H.next, 0, some et.size⟩) (len + n) (len + n), H.new (.cells (old ++ new) false))
        else none
      | _ => none

def copyE (C : Ctx) (td : TypeId) (d s : Value) (H : Hp) : Option (Value × Hp) :=
  match C.T td with
  | none => none
  | some ti => match ti.kind, d with
    | .slice el, .slice base dl _ => (C.T el).bind fun et => (lenOfE s).bind fun sl =>
      (firstCellsE et.size (Nat.min sl dl) s H).bind fun cs =>
        match base, cs with
        | some ⟨i, o, _⟩, c :: cs => (writeCells H i o (c :: cs)).map fun H' => (.int .i64 (Nat.min sl dl : Nat), H')
        | _, [] => some (.int .i64 (Nat.min sl dl : Nat), H)
        | none, _ => some (.int .i64 (Nat.min sl dl : Nat), H)
    | _, _ => none

def eraseE (es : List (Value × Value × Nat)) (i : Nat) : List (Value × Value × Nat) := es.eraseIdx i

def deleteE (C : Ctx) (t : TypeId) (x k : Value) (H : Hp) : Option Hp :=
  match C.T t with
  | none => none
  | some ti => match ti.kind with
    | .map kt _ => (mapOf x H).bind fun m => bif keyFit C kt k then match m with
      | none => some H
      | some (i, es, ck) => (findE C kt k es 0).bind fun r => match r with
          | some (j, _) => H.upd i (.map (eraseE es j) ck)
          | none => H.upd i (.map es ck)
      else none
    | _ => none

def clearE (C : Ctx) (t : TypeId) (x : Value) (H : Hp) : Option Hp :=
  match C.T t with
  | none => none
  | some ti => match ti.kind, x with
    | .slice el, .slice base len _ => (C.T el).bind fun et =>
      match base with
      | none => bif Nat.beq len 0 then some H else none
      | some ⟨i, o, _⟩ => bif Nat.beq len 0 then some H else
        bif Nat.beq et.zero.length et.size then writeCells H i o (repeatL et.zero len) else none
    | .map _ _, x => (mapOf x H).bind fun m => match m with
      | none => some H
      | some (i, _, ck) => H.upd i (.map [] ck)
    | _, _ => none

/-- 'm[k] op= x', its first half: the entry, made if it is not there; what it holds, and its stamp. -/
def mapEntryE (C : Ctx) (t : TypeId) (x k : Value) (H : Hp) : Option (Value × Hp) :=
  match C.T t with
  | none => none
  | some ti => match ti.kind with
    | .map kt et => (C.T et).bind fun eti => (mapOf x H).bind fun m => match m with
      | none => none
      | some (i, es, ck) => bif keyFit C kt k then
        (findE C kt k es 0).bind fun r => match r with
          | some (j, v) => (es[j]?).bind fun e => bif !(cellsEq (cellsOf e.1) (cellsOf k) && (isAggV e.1 == isAggV k)) then none else (H.upd i (.map (setAt es j k e.2.1) ck)).map fun H' => (.tuple #[v, .int .i64 e.2.2], H')
          | none => (zeroV eti).bind fun z => (H.upd i (.map (es ++ [(k, z, ck)]) (ck + 1))).map fun H' => (.tuple #[z, .int .i64 ck], H')
        else none
    | _ => none

def stampAt (es : List (Value × Value × Nat)) (b : Nat) (v : Value) : Option (List (Value × Value × Nat)) :=
  match es with
  | [] => none
  | (k, u, c) :: r => bif Nat.beq c b then some ((k, v, c) :: r) else (stampAt r b v).map fun r' => (k, u, c) :: r'

def entryStoreE (x st v : Value) (H : Hp) : Option Hp :=
  (mapOf x H).bind fun m => match m with
    | none => none
    | some (i, es, ck) => (nat? st).bind fun b => (stampAt es b v).bind fun es' => H.upd i (.map es' ck)

def capE (C : Ctx) (t : TypeId) (x : Value) : Option Value :=
  match C.T t with
  | none => none
  | some ti => match ti.kind, x with
    | .slice _, .slice none _ c => some (.int .i64 c)
    | .slice _, .slice (some ⟨_, _, none⟩) _ c => some (.int .i64 c)
    | _, _ => none

def builtinE (C : Ctx) (b : Builtin) (ts : List TypeId) (args : List Value) (H : Hp) : Option (Value × Hp) :=
  match b, ts, args with
  | .len, [t], [x] => (lenE C t x H).map fun v => (v, H)
  | .cap, [t], [x] => (capE C t x).map fun v => (v, H)
  | .append, [ts, tx], [s, x] => appendE C ts tx s x H
  | .copy, [td, _], [d, s] => copyE C td d s H
  | .min, _, args => (minE args).map fun v => (v, H)
  | .max, _, args => (maxE args).map fun v => (v, H)
  | .clear, [t], [x] => (clearE C t x H).map fun H' => (.tuple #[], H')
  | .delete, [t, _], [m, k] => (deleteE C t m k H).map fun H' => (.tuple #[], H')
  | _, _, _ => none

/-- A map's iterator: only where at most one way is open. -/
def nextE (x : Value) (H : Hp) : Option (Value × Hp) :=
  match x with
  | .pointer (some ⟨r, 0, none⟩) => match H.get r with
    | some (.iter none _ _ _) => some (.tuple #[.bool false], H)
    | some (.iter (some m) since seen last) => match H.get m with
      | some (.map es ck) =>
        bif !seen.isEmpty && !es.isEmpty && es.all (fun e => Nat.ble last e.2.2) then none else
        match es.filter (fun e => !seen.contains e.2.2) with
        | [] => some (.tuple #[.bool false], H)
        | [e] => bif Nat.blt e.2.2 since then (H.upd r (.iter (some m) since (seen ++ [e.2.2]) ck)).map fun H' => (.tuple #[.bool true, e.1, e.2.1], H') else none
        | _ => none
      | _ => none
    | _ => none
  | _ => none

/-- What stands at the iterator's last step. -/
def entryE (x : Value) (H : Hp) : Option Value :=
  match x with
  | .pointer (some ⟨r, 0, none⟩) => match H.get r with
    | some (.iter (some m) _ seen last) => match seen.getLast?, H.get m with
      | some b, some (.map es ck) => bif Nat.beq ck last then (match es.find? (fun e => Nat.beq e.2.2 b) with
        | some e => some (.tuple #[e.1, e.2.1])
        | none => none) else none
      | _, _ => none
    | _ => none
  | _ => none

def rangeE (C : Ctx) (t : TypeId) (x : Value) (H : Hp) : Option (Value × Hp) :=
  match C.T t with
  | none => none
  | some ti => match ti.kind with
    | .map _ _ => (mapOf x H).map fun m =>
      (.pointer (some ⟨H.next, 0, none⟩), H.new (match m with | none => .iter none 0 [] 0 | some (i, _, ck) => .iter (some i) ck [] ck))
    | _ => none

/-- The function values that may be called. -/
def calleeE (v : Value) (args : List Value) : Option (Fn × List Value) :=
  match v with
  | .func (.func f) first cap => some (.func f, first.toList ++ args ++ cap.toList)
  | .func (.yield l) first _ => some (.yield l, first.toList ++ args)
  | _ => none

abbrev CallE := Fn → List Value → Hp → Option (Value × Hp)

/-- One operation. -/
def opE (C : Ctx) (call : CallE) (o : Op) (type : TypeId) (e : Env) (H : Hp) : Option (Value × Hp) :=
  let pure (v : Option Value) : Option (Value × Hp) := match v with | some v => some (v, H) | none => none
  let unit (h : Option Hp) : Option (Value × Hp) := match h with | some h => some (.tuple #[], h) | none => none
  match o with
  | .move x => pure (opV e x)
  | .assign x => pure (opV e x)
  | .pick c a b => match opV e c with
    | some (.bool true) => pure (opV e a)
    | some (.bool false) => pure (opV e b)
    | _ => none
  | .alloc t => (C.T t).bind fun ti => some (.pointer (some ⟨H.next, 0, none⟩), H.new (.cells ti.zero false))
  | .box _ x => (opV e x).bind fun v => some (.pointer (some ⟨H.next, 0, none⟩), H.new (.cells (cellsOf v) false))
  | .build t ps => pure ((partsE e ps.toList).bind fun ps => buildE C t ps)
  | .buildSlice t n ps => (partsE e ps.toList).bind fun ps => buildSliceE C t n ps H
  | .load t a => pure ((opV e a).bind fun a => (C.T t).bind fun ti => loadE ti a H)
  | .store t a x => unit ((opV e a).bind fun a => (opV e x).bind fun v => (C.T t).bind fun ti => storeE ti a v H)
  | .nilCheck x => pure ((opV e x).bind fun v => match v with
    | .pointer (some a) => some (.pointer (some a))
    | .func (.func f) a b => some (.func (.func f) a b)
    | .func (.yield f) a b => some (.func (.yield f) a b)
    | _ => none)
  | .binOp op t x y _ => pure ((opV e x).bind fun a => (opV e y).bind fun b => binE C op t a b)
  | .unOp op _ x => pure ((opV e x).bind fun a => unE op a)
  | .convert s d x => pure ((opV e x).bind fun a => convE C s d a)
  | .makeFunc fn first cap => pure ((opVs e first.toList).bind fun a => (opVs e cap.toList).bind fun b => match fn with
    | .func f => some (.func (.func f) a.toArray b.toArray)
    | _ => none)
  | .makeMap _ r => (opVo e r).bind fun r => match r with
    | none => some (.map (some H.next), H.new (.map [] 0))
    | some _ => none
  | .makeSlice t l c => (opV e l).bind fun l => (opV e c).bind fun c => makeSliceE C t l c H
  | .slice t x lo hi mx => pure ((opV e x).bind fun v => (opVo e lo).bind fun lo => (opVo e hi).bind fun hi => (opVo e mx).bind fun mx =>
      (nato? lo).bind fun lo => (nato? hi).bind fun hi => (nato? mx).bind fun mx => sliceE C t v lo hi mx)
  | .fieldAddr t x f => pure ((opV e x).bind fun v => fieldAddrE C t v f)
  | .field t x f => pure ((opV e x).bind fun v => fieldE C t v f)
  | .indexAddr t x i => pure ((opV e x).bind fun v => (opV e i).bind fun i => indexAddrE C t v i)
  | .index t x i => pure ((opV e x).bind fun v => (opV e i).bind fun i => indexE C t v i)
  | .lookup t x k ok => pure ((opV e x).bind fun v => (opV e k).bind fun k => lookupE C t v k ok H)
  | .mapUpdate t m k x => unit ((opV e m).bind fun m => (opV e k).bind fun k => (opV e x).bind fun v => mapPutE C t m k v H)
  | .insert t m k x => unit ((opV e m).bind fun m => (opV e k).bind fun k => (opV e x).bind fun v => mapPutE C t m k v H)
  | .mapEntry t m k => (opV e m).bind fun m => (opV e k).bind fun k => mapEntryE C t m k H
  | .entryStore _ m st x => unit ((opV e m).bind fun m => (opV e st).bind fun st => (opV e x).bind fun v => entryStoreE m st v H)
  | .range t x => (opV e x).bind fun v => rangeE C t v H
  | .next it false => (opV e it).bind fun v => nextE v H
  | .entry it => pure ((opV e it).bind fun v => entryE v H)
  | .extract t k => pure ((opV e t).bind fun v => extractE v k)
  | .call c => (opVs e c.args.toList).bind fun args => match c.callee with
    | .builtin b => builtinE C b c.argTypes.toList args H
    | .value f => (opV e f).bind fun fv => (calleeE fv args).bind fun p => call p.1 p.2 H
    | .invoke _ _ => none
  | _ => let _ := type; none

/-- Is a guarded operation wanted? -/
def wantE (ops : Array Oper) (o : Oper) (e : Env) : Bool :=
  match o.guard with
  | none => true
  | some (j, want) => match (ops[j]?).bind (·.dst) with
    | none => false
    | some t => bif Nat.blt t e.size then (match e.get t with
      | .bool b => b == want
      | _ => false) else false

/-- A region's operations in the text's order. -/
def opsE (C : Ctx) (call : CallE) (ops : Array Oper) : List Oper → Env → Hp → Option (Env × Hp)
  | [], e, H => some (e, H)
  | o :: r, e, H => match wantE ops o e with
    | true => match opE C call o.op o.type e H with
      | some (v, H') => match e.put o.dst v with
        | some e' => opsE C call ops r e' H'
        | none => none
      | none => none
    | false => match e.put o.dst (.tuple #[]) with
      | some e' => opsE C call ops r e' H
      | none => none

/-- Operations that neither read nor write memory. -/
def pureOp : Op → Bool
  | .move _ | .assign _ | .pick _ _ _ | .build _ _ | .unOp _ _ _ | .convert _ _ _ | .makeFunc _ _ _ | .slice _ _ _ _ _ | .fieldAddr _ _ _ | .field _ _ _
  | .indexAddr _ _ _ | .index _ _ _ | .extract _ _ | .nilCheck _ | .binOp _ _ _ _ _ => true
  | .call c => match c.callee with
    | .builtin .min => true
    | .builtin .max => true
    | _ => false
  | _ => false

/-- Operations that may write to what is there. -/
def writerOp : Op → Bool
  | .store _ _ _ | .mapUpdate _ _ _ _ | .insert _ _ _ _ | .mapEntry _ _ _ | .entryStore _ _ _ _ | .next _ _ => true
  | .call c => match c.callee with
    | .builtin .append => true
    | .builtin .copy => true
    | .builtin .delete => true
    | .builtin .clear => true
    | .value _ => true
    | _ => false
  | _ => false

/-- Operations that only read memory, by one look. -/
def readerOp : Op → Bool
  | .load _ _ | .lookup _ _ _ _ => true
  | .call c => match c.callee with
    | .builtin .len => true
    | _ => false
  | _ => false

def valEq1 : Value → Value → Bool
  | .agg a, .agg b => cellsEq a.toList b.toList
  | x, y => cellEq x y
def valsEq : List Value → List Value → Bool
  | [], [] => true
  | x :: xs, y :: ys => valEq1 x y && valsEq xs ys
  | _, _ => false
def valEq : Value → Value → Bool
  | .tuple a, .tuple b => valsEq a.toList b.toList
  | x, y => valEq1 x y

/-- What stands ahead of each operation, as bits. -/
def maskE (acc : List Nat) : List Edge → Nat
  | [] => 0
  | e :: r => bif Region.binds .any e then 2 ^ e.on ||| ((acc[e.on]?).getD 0 ||| maskE acc r) else maskE acc r
def masks : List Oper → List Nat → List Nat
  | [], acc => acc
  | o :: r, acc => masks r (acc ++ [maskE acc o.after.toList])

/-- Operations i, j stand in the text's order. -/
def ordB (ms : List Nat) (i j : Nat) : Bool := bif Nat.blt i j then ((ms[j]?).getD 0).testBit i else ((ms[i]?).getD 0).testBit j

/-- Operation i may write to what was there: all that are not pure are ordered with it, or only look. -/
def mayWrite (ms : List Nat) (i : Nat) : List Oper → Nat → Bool
  | [], _ => true
  | x :: r, j => (Nat.beq i j || (pureOp x.op || (readerOp x.op || ordB ms i j))) && mayWrite ms i r (j + 1)

/-- A call that leaves no trace. -/
def pureCall (C : Ctx) : Op → Bool
  | .call c => match c.callee with
    | .value (.func f) => match C.fn f with
      | some a => a.pure
      | none => false
    | _ => false
  | _ => false

def isW (C : Ctx) (ms : List Nat) (ops : List Oper) (i : Nat) (o : Oper) : Bool := writerOp o.op && (!(pureCall C o.op) && mayWrite ms i ops 0)

/-- Where an operation's guard lies. -/
def guardT (ops : List Oper) (o : Oper) : Option Tmp := match o.guard with
  | none => none
  | some (j, _) => (ops[j]?).bind (·.dst)

def usesT (ops : List Oper) (o : Oper) (t : Tmp) : Bool :=
  (match guardT ops o with | some u => Nat.beq u t | none => false) || o.op.operands.toList.any fun x => match x with | .tmp u => Nat.beq u t | _ => false

/-- Operation j and all others: edges go back; no other writes its temporary; who writes one of its operands is ordered with it. -/
def regOk1 (ops : List Oper) (ms : List Nat) (j : Nat) (o : Oper) : List Oper → Nat → Bool
  | [], _ => true
  | x :: r, i => (Nat.beq i j || (match x.dst with
      | none => true
      | some t => !(match o.dst with | some u => Nat.beq u t | none => false) && (!(usesT ops o t) || ordB ms i j))) && regOk1 ops ms j o r (i + 1)
def regOk (ops : List Oper) (ms : List Nat) : List Oper → Nat → Bool
  | [], _ => true
  | o :: r, j => ((o.after.toList.all fun e => !(Region.binds .any e) || Nat.blt e.on j) && regOk1 ops ms j o ops 0) && regOk ops ms r (j + 1)

/-- What has been read: the operation's place, itself, the frame, the value. -/
structure Seen where
  at_ : Nat
  op : Oper
  env : Env
  val : Value

/-- It reads the same behind a write by operation i. -/
def stillSame (C : Ctx) (call : CallE) (ms : List Nat) (i : Nat) (H : Hp) : List Seen → Bool
  | [] => true
  | s :: r => (ordB ms i s.at_ || (match opE C call s.op.op s.op.type s.env H with
    | some (v, _) => valEq v s.val
    | none => false)) && stillSame C call ms i H r

/-- It would have read the same ahead of the writes that it isn't ordered with. -/
def wasSame (C : Ctx) (call : CallE) (ms : List Nat) (j : Nat) (o : Oper) (e : Env) (v : Value) : List (Nat × Hp) → Bool
  | [] => true
  | (i, H) :: r => (ordB ms i j || (match opE C call o.op o.type e H with
    | some (u, _) => valEq u v
    | none => false)) && wasSame C call ms j o e v r

/-- The walk of a region that draws its order. -/
structure DS where
  env : Env
  hp : Hp
  seen : List Seen
  ws : List (Nat × Hp)
  val : Value

def stepD (C : Ctx) (call : CallE) (ops : Array Oper) (ms : List Nat) (i : Nat) (o : Oper) (s : DS) : Option DS :=
  match wantE ops o s.env with
  | false => match s.env.put o.dst (.tuple #[]) with
    | some e => some ⟨e, s.hp, s.seen, s.ws, .tuple #[]⟩
    | none => none
  | true => match isW C ms ops.toList i o with
    | true => match opE C call o.op o.type s.env s.hp with
      | some (v, H') => match stillSame C call ms i H' s.seen, s.env.put o.dst v with
        | true, some e => some ⟨e, H', s.seen, (i, s.hp) :: s.ws, v⟩
        | _, _ => none
      | none => none
    | false => match opE C call o.op o.type s.env s.hp.raised with
      | some (v, H') => match readerOp o.op with
        | true => match wasSame C call ms i o s.env v s.ws, s.env.put o.dst v with
          | true, some e => some ⟨e, H'.lowered s.hp.floor, ⟨i, o, s.env, v⟩ :: s.seen, s.ws, v⟩
          | _, _ => none
        | false => match s.env.put o.dst v with
          | some e => some ⟨e, H'.lowered s.hp.floor, s.seen, s.ws, v⟩
          | none => none
      | none => none

def runD (C : Ctx) (call : CallE) (ops : Array Oper) (ms : List Nat) : List Oper → Nat → DS → Option DS
  | [], _, s => some s
  | o :: r, i, s => match stepD C call ops ms i o s with
    | some s' => runD C call ops ms r (i + 1) s'
    | none => none

/-- A region that draws its order, walked in the text's order. -/
def opsD (C : Ctx) (call : CallE) (ops : Array Oper) (e : Env) (H : Hp) : Option (Env × Hp) :=
  match regOk ops.toList (masks ops.toList []) ops.toList 0 with
  | true => match runD C call ops (masks ops.toList []) ops.toList 0 ⟨e, H, [], [], .tuple #[]⟩ with
    | some s => some (s.env, s.hp)
    | none => none
  | false => none

/-- How a piece of code is left. -/
inductive Rs where
  | nx (e : Env) (H : Hp)
  | ex (id : Nat) (e : Env) (H : Hp)
  | rt (e : Env) (H : Hp)

def Rs.then (f : Env → Hp → Option Rs) : Option Rs → Option Rs
  | some (.nx e H) => f e H
  | r => r

def Rs.block (id : Nat) : Option Rs → Option Rs
  | some (.ex j e H) => bif Nat.beq j id then some (.nx e H) else some (.ex j e H)
  | r => r

def loopE (f : Env → Hp → Option Rs) : Nat → Env → Hp → Option Rs
  | 0, _, _ => none
  | n + 1, e, H => match f e H with
    | some (.nx e H) => loopE f n e H
    | r => r

/-- How many rounds a loop may take. -/
def rounds : Nat := 4611686018427387904

/-- What is done behind a range over a function: the jump that a round left. -/
def afterLoop (l : Nat) (e : Env) (H : Hp) : Option Rs :=
  match H.get l with
  | some (.loop st pend env ps a b) => match st with
    | .busy => none
    | _ => (H.upd l (.loop .exhausted pend env ps a b)).bind fun H' => match pend with
      | none => some (.nx e H')
      | some (.exit id) => some (.ex id e H')
      | some .ret => some (.rt e H')
      | _ => none
  | _ => none

noncomputable def evC (C : Ctx) (call : CallE) (c : Code) : Env → Hp → Option Rs :=
  Code.rec (motive := fun _ => Env → Hp → Option Rs)
    (fun e H => some (.nx e H))
    (fun _ ops draw e H => match draw with
      | false => match opsE C call ops ops.toList e H with
        | some (e', H') => some (.nx e' H')
        | none => none
      | true => match opsD C call ops e H with
        | some (e', H') => some (.nx e' H')
        | none => none)
    (fun _ _ ia ib e H => Rs.then ib (ia e H))
    (fun x _ _ ia ib e H => match opV e x with
      | some (.bool true) => ia e H
      | some (.bool false) => ib e H
      | _ => none)
    (fun id _ ib e H => Rs.block id (ib e H))
    (fun _ ib e H => loopE ib rounds e H)
    (fun f ps assign body _ _ e H => (opV e f).bind fun fv => (calleeE fv [.func (.yield H.next) #[] #[]]).bind fun p =>
      match p.1 with
      | .func g => match C.fn g, call (.func g) p.2 (H.new (.loop .ready none e ps.toList assign body)) with
        | some _, some (_, H') => afterLoop H.next e H'
        | _, _ => none
      | _ => none)
    (fun id e H => some (.ex id e H))
    (fun _ _ _ _ => none)
    (fun _ e H => some (.nx e H))
    (fun _ _ _ => none)
    (fun e H => some (.rt e H))
    (fun _ _ _ => none)
    c

def resE (C : Ctx) (e : Env) (H : Hp) : ResultVar → Option Value
  | .tmp t => bif Nat.blt t e.size then some (e.get t) else none
  | .cell a t => bif Nat.blt a e.size then (C.T t).bind fun ti => loadE ti (e.get a) H else none

def resEs (C : Ctx) (e : Env) (H : Hp) : List ResultVar → Option (List Value)
  | [] => some []
  | r :: rs => match resE C e H r, resEs C e H rs with
    | some v, some vs => some (v :: vs)
    | _, _ => none

def resultE (C : Ctx) (e : Env) (H : Hp) (rs : List ResultVar) : Option Value :=
  match resEs C e H rs with
  | some [v] => some v
  | some vs => some (.tuple vs.toArray)
  | none => none

/-- A body of a function, from its arguments on. -/
noncomputable def bodyE (C : Ctx) (call : CallE) (a : AF) (args : List Value) (H : Hp) : Option (Value × Hp) :=
  bif Nat.ble args.length a.ntmps then
    match evC C call a.code (Env.ofArgs a.ntmps args) H with
    | some (.nx e H') => (resultE C e H' a.results).map fun v => (v, H')
    | some (.rt e H') => (resultE C e H' a.results).map fun v => (v, H')
    | _ => none
  else none

def zipSet : List (Tmp × Value) → Env → Option Env
  | [], e => some e
  | (t, v) :: r, e => (e.set t v).bind fun e' => zipSet r e'

/-- A round of a range over a function. -/
noncomputable def roundE (C : Ctx) (call : CallE) (l : Nat) (args : List Value) (H : Hp) : Option (Value × Hp) :=
  match H.get l with
  | some (.loop _ _ env ps a b) =>
    bif Nat.beq args.length ps.length then
      (zipSet (ps.zip args) env).bind fun e0 =>
      match evC C call a e0 H with
      | some (.nx e1 H1) => match H1.get l with
        | some (.loop .ready pend env1 ps1 a1 b1) => (H1.upd l (.loop .busy pend env1 ps1 a1 b1)).bind fun H2 =>
          let leave (H3 : Hp) (j : Option Code) : Option (Value × Hp) := match H3.get l with
            | some (.loop _ _ env3 ps3 a3 b3) =>
              (H3.upd l (.loop (match j with | none => .ready | some _ => .done) j env3 ps3 a3 b3)).map fun H4 => (.bool (match j with | none => true | some _ => false), H4)
            | _ => none
          match evC C call b e1 H2 with
          | some (.nx _ H3) => leave H3 none
          | some (.ex id _ H3) => leave H3 (some (.exit id))
          | some (.rt _ H3) => leave H3 (some .ret)
          | none => none
        | _ => none
      | _ => none
    else none
  | _ => none

/-- The heap of a call that leaves no trace: without addresses among its arguments it needs none. -/
def Hp.fresh (H : Hp) (args : List Value) : Hp := bif args.all plainV then ⟨.nl, 0, 0⟩ else H.raised

/-- Calls, to a depth. -/
noncomputable def evF (C : Ctx) : Nat → Fn → List Value → Hp → Option (Value × Hp)
  | 0, _, _, _ => none
  | d + 1, fn, args, H => match fn with
    | .func f => match C.ext f args H with
      | some r => some r
      | none => match C.fn f with
        | none => none
        | some a => match a.pure with
          | false => bodyE C (evF C d) a args H
          | true => match bodyE C (evF C d) a args (H.fresh args) with
            | some (v, _) => bif plainV v then some (v, H) else none
            | none => none
    | .yield l => roundE C (evF C d) l args H
    | _ => none

end Go.Ahe
