/-
  X, 2: the evaluator, a second time: what is to be done behind a piece of code is handed along; frames are partial; loops and joins are handed in, each with a proof.
-/
import Derived.Test.YthfmdomnoheklaaDoorZxMono
namespace Go.Ahe.X
open Go.Ahe

abbrev FE := Tr Value
abbrev O := Option (Value × Hp)

def oV (e : FE) : Operand → Option Value
  | .tmp t => e.get t
  | .const v => bif plainV v then some v else none
  | .func f => some (.func (.func f) #[] #[])
  | .global _ => none

def oVs (e : FE) : List Operand → Option (List Value)
  | [] => some []
  | x :: xs => match oV e x, oVs e xs with
    | some v, some vs => some (v :: vs)
    | _, _ => none

def oVo (e : FE) : Option Operand → Option (Option Value)
  | none => some none
  | some x => (oV e x).map some

def parts (e : FE) : List (Nat × Operand) → Option (List (Nat × Value))
  | [] => some []
  | (i, x) :: r => match oV e x, parts e r with
    | some v, some vs => some ((i, v) :: vs)
    | _, _ => none

/-- What an operation comes to: a value; a value and a heap. -/
inductive Res where
  | v (x : Option Value)
  | h (x : O)

def pk (c : Value) (a b : Option Value) : Option Value := match c with
  | .bool x => bif x then a else b
  | _ => none
def un (x : Option Hp) : O := x.bind fun H => some (.tuple #[], H)
def al (zs : List Value) (H : Hp) : O := some (.pointer (some ⟨H.next, 0, none⟩), H.new (.cells zs false))
def nilc (v : Value) : Option Value := match v with
  | .pointer (some a) => some (.pointer (some a))
  | .func (.func f) a b => some (.func (.func f) a b)
  | .func (.yield f) a b => some (.func (.yield f) a b)
  | _ => none
/-- A call of a function value. -/
def cl (call : CallE) (f : Value) (args : List Value) (H : Hp) : O := (calleeE f args).bind fun p => call p.1 p.2 H

def bltR (C : Ctx) (b : Builtin) (ts : List TypeId) (args : List Value) (H : Hp) : Res :=
  match b, ts, args with
  | .len, [t], [x] => .v (lenE C t x H)
  | .cap, [t], [x] => .v (capE C t x)
  | .min, _, args => .v (minE args)
  | .max, _, args => .v (maxE args)
  | b, ts, args => .h (builtinE C b ts args H)

def opR (C : Ctx) (call : CallE) (o : Op) (e : FE) (H : Hp) : Res :=
  match o with
  | .move x => .v (oV e x)
  | .assign x => .v (oV e x)
  | .pick c a b => .v ((oV e c).bind fun c => pk c (oV e a) (oV e b))
  | .alloc t => .h ((C.T t).bind fun ti => al ti.zero H)
  | .box _ x => .h ((oV e x).bind fun v => al (cellsOf v) H)
  | .build t ps => .v ((parts e ps.toList).bind fun ps => buildE C t ps)
  | .buildSlice t n ps => .h ((parts e ps.toList).bind fun ps => buildSliceE C t n ps H)
  | .load t a => .v ((oV e a).bind fun a => (C.T t).bind fun ti => loadE ti a H)
  | .store t a x => .h (un ((oV e a).bind fun a => (oV e x).bind fun v => (C.T t).bind fun ti => storeE ti a v H))
  | .nilCheck x => .v ((oV e x).bind nilc)
  | .binOp op t x y _ => .v ((oV e x).bind fun a => (oV e y).bind fun b => binE C op t a b)
  | .unOp op _ x => .v ((oV e x).bind fun a => unE op a)
  | .convert s d x => .v ((oV e x).bind fun a => convE C s d a)
  | .makeFunc fn first cap => .v ((oVs e first.toList).bind fun a => (oVs e cap.toList).bind fun b => match fn with
    | .func f => some (.func (.func f) a.toArray b.toArray)
    | _ => none)
  | .makeMap _ r => .h ((oVo e r).bind fun r => match r with
    | none => some (.map (some H.next), H.new (.map [] 0))
    | some _ => none)
  | .makeSlice t l c => .h ((oV e l).bind fun l => (oV e c).bind fun c => makeSliceE C t l c H)
  | .slice t x lo hi mx => .v ((oV e x).bind fun v => (oVo e lo).bind fun lo => (oVo e hi).bind fun hi => (oVo e mx).bind fun mx =>
      (nato? lo).bind fun lo => (nato? hi).bind fun hi => (nato? mx).bind fun mx => sliceE C t v lo hi mx)
  | .fieldAddr t x f => .v ((oV e x).bind fun v => fieldAddrE C t v f)
  | .field t x f => .v ((oV e x).bind fun v => fieldE C t v f)
  | .indexAddr t x i => .v ((oV e x).bind fun v => (oV e i).bind fun i => indexAddrE C t v i)
  | .index t x i => .v ((oV e x).bind fun v => (oV e i).bind fun i => indexE C t v i)
  | .lookup t x k ok => .v ((oV e x).bind fun v => (oV e k).bind fun k => lookupE C t v k ok H)
  | .mapUpdate t m k x => .h (un ((oV e m).bind fun m => (oV e k).bind fun k => (oV e x).bind fun v => mapPutE C t m k v H))
  | .insert t m k x => .h (un ((oV e m).bind fun m => (oV e k).bind fun k => (oV e x).bind fun v => mapPutE C t m k v H))
  | .mapEntry t m k => .h ((oV e m).bind fun m => (oV e k).bind fun k => mapEntryE C t m k H)
  | .entryStore _ m st x => .h (un ((oV e m).bind fun m => (oV e st).bind fun st => (oV e x).bind fun v => entryStoreE m st v H))
  | .range t x => .h ((oV e x).bind fun v => rangeE C t v H)
  | .next it false => .h ((oV e it).bind fun v => nextE v H)
  | .entry it => .v ((oV e it).bind fun v => entryE v H)
  | .extract t k => .v ((oV e t).bind fun v => extractE v k)
  | .call c => match oVs e c.args.toList with
    | none => .v none
    | some args => match c.callee with
      | .builtin b => bltR C b c.argTypes.toList args H
      | .value f => .h ((oV e f).bind fun fv => cl call fv args H)
      | .invoke _ _ => .v none
  | _ => .v none

def wantV (c : Value) (w : Bool) : Bool := match c with
  | .bool b => b == w
  | _ => false
/-- Guarded. -/
def gd (c : Value) (w : Bool) (x : Option Value) : Option Value := bif wantV c w then x else some (.tuple #[])
def gh (c : Value) (w : Bool) (x : O) (H : Hp) : O := bif wantV c w then x else some (.tuple #[], H)

def putK (n : Nat) (d : Option Tmp) (v : Value) (e : FE) (k : FE → O) : O := match d with
  | none => k e
  | some t => bif Nat.blt t n then k (e.set t v) else none

/-- One operation; k is told whether it was wanted, what it gave, the heap, the frame. -/
def stepG (C : Ctx) (call : CallE) (n : Nat) (ops : Array Oper) (o : Oper) (e : FE) (H : Hp) (k : Bool → Value → Hp → FE → O) : O :=
  match o.guard with
  | none => match opR C call o.op e H with
    | .v x => x.bind fun v => putK n o.dst v e fun e' => k true v H e'
    | .h x => x.bind fun p => putK n o.dst p.1 e fun e' => k true p.1 p.2 e'
  | some (j, w) => match (ops[j]?).bind (·.dst) with
    | none => none
    | some t => (e.get t).bind fun c => match opR C call o.op e H with
      | .v x => (gd c w x).bind fun v => putK n o.dst v e fun e' => k (wantV c w) v H e'
      | .h x => (gh c w x H).bind fun p => putK n o.dst p.1 e fun e' => k (wantV c w) p.1 p.2 e'

def opsX (C : Ctx) (call : CallE) (n : Nat) (ops : Array Oper) : List Oper → FE → Hp → (FE → Hp → O) → O
  | [], e, H, k => k e H
  | o :: r, e, H, k => stepG C call n ops o e H fun _ _ H' e' => opsX C call n ops r e' H' k

/-- Operations that only make what is new. -/
def allocOp : Op → Bool
  | .alloc _ | .box _ _ | .buildSlice _ _ _ | .makeSlice _ _ _ => true
  | .makeMap _ none => true
  | _ => false

def kindOk (C : Ctx) (ms : List Nat) (ops : List Oper) (i : Nat) (o : Oper) : Bool := isW C ms ops i o || (pureOp o.op || (readerOp o.op || (allocOp o.op || pureCall C o.op)))

def kindsOk (C : Ctx) (ms : List Nat) (ops : List Oper) : List Oper → Nat → Bool
  | [], _ => true
  | o :: r, i => kindOk C ms ops i o && kindsOk C ms ops r (i + 1)

/-- A region that draws its order may be walked in the text's. -/
def drawOk (C : Ctx) (ops : List Oper) : Bool := regOk ops (masks ops []) ops 0 && kindsOk C (masks ops []) ops ops 0

/-- What has been read: where, by what, in which frame, what; was it wanted? -/
structure SX where
  at_ : Nat
  op : Oper
  env : FE
  val : Value
  g : Bool

def same (x : Option Value) (v : Value) : Bool := match x with
  | some u => valEq u v
  | none => false
/-- Where both are wanted, it reads the same. -/
def ck (g : Bool) (x : Option Value) (v : Value) (k : O) : O := bif !g || same x v then k else none
def Res.val : Res → Option Value
  | .v x => x
  | .h x => x.map (·.1)

def stillK (C : Ctx) (ms : List Nat) (i : Nat) (g : Bool) (H : Hp) (k : O) : List SX → O
  | [] => k
  | s :: r => match ordB ms i s.at_ with
    | true => stillK C ms i g H k r
    | false => ck (g && s.g) (opR C noCall s.op.op s.env H).val s.val (stillK C ms i g H k r)

def wasK (C : Ctx) (ms : List Nat) (j : Nat) (o : Oper) (e : FE) (v : Value) (g : Bool) (k : O) : List (Nat × Hp × Bool) → O
  | [] => k
  | (i, H, g') :: r => match ordB ms i j with
    | true => wasK C ms j o e v g k r
    | false => ck (g && g') (opR C noCall o.op e H).val v (wasK C ms j o e v g k r)

abbrev KY := FE → Hp → List SX → List (Nat × Hp × Bool) → O

def aftY (C : Ctx) (ops : Array Oper) (ms : List Nat) (i : Nat) (o : Oper) (e : FE) (H : Hp) (seen : List SX) (ws : List (Nat × Hp × Bool)) (k : KY) (g : Bool) (v : Value) (H' : Hp) (e' : FE) : O :=
  match isW C ms ops.toList i o with
  | true => stillK C ms i g H' (k e' H' seen ((i, H, g) :: ws)) seen
  | false => match readerOp o.op with
    | true => wasK C ms i o e v g (k e' H' (⟨i, o, e, v, g⟩ :: seen) ws) ws
    | false => k e' H' seen ws

def opsY (C : Ctx) (call : CallE) (n : Nat) (ops : Array Oper) (ms : List Nat) : List Oper → Nat → FE → Hp → List SX → List (Nat × Hp × Bool) → (FE → Hp → O) → O
  | [], _, e, H, _, _, k => k e H
  | o :: r, i, e, H, seen, ws, k => stepG C call n ops o e H (aftY C ops ms i o e H seen ws fun e' H' seen' ws' => opsY C call n ops ms r (i + 1) e' H' seen' ws' k)

/-- How code is left. -/
inductive RX where
  | nx (e : FE) (H : Hp)
  | ex (id : Nat) (e : FE) (H : Hp)
  | rt (e : FE) (H : Hp)

def lft : Code → Code
  | .seq a _ => a | .cond _ a _ => a | .block _ a => a | .loop a => a | .rangeFunc _ _ a _ => a
  | _ => .skip
def rgt : Code → Code
  | .seq _ b => b | .cond _ _ b => b | .rangeFunc _ _ _ b => b
  | _ => .skip

def Sub (e' : FE) (e : Env) : Prop := ∀ k v, e'.get k = some v → k < e.size ∧ e.t.get k = some v
def SubR (n : Nat) : RX → Rs → Prop
  | .nx e' H', .nx e H => Sub e' e ∧ e.size = n ∧ H' = H
  | .ex j e' H', .ex i e H => j = i ∧ Sub e' e ∧ e.size = n ∧ H' = H
  | .rt e' H', .rt e H => Sub e' e ∧ e.size = n ∧ H' = H
  | _, _ => False

/-- What stands in for a piece of code. -/
def OrOk (C : Ctx) (n : Nat) (c : Code) (F : FE → Hp → (RX → O) → O) : Prop :=
  ∀ e' e H K r, Sub e' e → e.size = n → F e' H K = some r → ∃ d r0 r0', (∀ d', d ≤ d' → evC C (evF C d') c e H = some r0) ∧ SubR n r0' r0 ∧ K r0' = some r

structure Orac (C : Ctx) (n : Nat) (c : Code) where
  F : FE → Hp → (RX → O) → O
  ok : OrOk C n c F

inductive LT (C : Ctx) (n : Nat) : Code → Type where
  | e {c : Code} : LT C n c
  | n {c : Code} (o : Option (Orac C n c)) (l : LT C n (lft c)) (r : LT C n (rgt c)) : LT C n c

def LT.l {C : Ctx} {n : Nat} {c : Code} : LT C n c → LT C n (lft c) | .e => .e | .n _ l _ => l
def LT.r {C : Ctx} {n : Nat} {c : Code} : LT C n c → LT C n (rgt c) | .e => .e | .n _ _ r => r
def LT.o {C : Ctx} {n : Nat} {c : Code} : LT C n c → Option (Orac C n c) | .e => none | .n o _ _ => o

def asB (c : Value) : Option Bool := match c with
  | .bool b => some b
  | _ => none

noncomputable def evX (C : Ctx) (call : CallE) (n : Nat) (c : Code) : LT C n c → FE → Hp → (RX → O) → O :=
  Code.rec (motive := fun c => LT C n c → FE → Hp → (RX → O) → O)
    (fun _ e H K => K (.nx e H))
    (fun _ ops draw _ e H K => match draw with
      | false => opsX C call n ops ops.toList e H fun e' H' => K (.nx e' H')
      | true => bif drawOk C ops.toList then opsY C call n ops (masks ops.toList []) ops.toList 0 e H [] [] fun e' H' => K (.nx e' H') else none)
    (fun _ _ ia ib lt e H K => ia lt.l e H fun r => match r with
      | .nx e' H' => (match lt.r.o with
        | some F => F.F e' H' K
        | none => ib lt.r e' H' K)
      | .ex j e' H' => K (.ex j e' H')
      | .rt e' H' => K (.rt e' H'))
    (fun x _ _ ia ib lt e H K => (oV e x).bind fun c => (asB c).bind fun b => bif b then ia lt.l e H K else ib lt.r e H K)
    (fun id _ ib lt e H K => ib lt.l e H fun r => match r with
      | .nx e' H' => K (.nx e' H')
      | .ex j e' H' => bif Nat.beq j id then K (.nx e' H') else K (.ex j e' H')
      | .rt e' H' => K (.rt e' H'))
    (fun _ _ lt e H K => match lt.o with
      | some F => F.F e H K
      | none => none)
    (fun _ _ _ _ _ _ lt e H K => match lt.o with
      | some F => F.F e H K
      | none => none)
    (fun id _ e H K => K (.ex id e H))
    (fun _ _ _ _ _ _ => none)
    (fun _ _ e H K => K (.nx e H))
    (fun _ _ _ _ _ => none)
    (fun _ e H K => K (.rt e H))
    (fun _ _ _ _ _ => none)
    c

/-- The temporaries' values, one by one. -/
def getsK (e : FE) : List Tmp → (List Value → O) → O
  | [], k => k []
  | t :: ts, k => (e.get t).bind fun v => getsK e ts fun vs => k (v :: vs)

def gv (xs : List Value) (i : Nat) : Value := xs.getD i (.tuple #[])

def mkE (xs : List Value) : List Tmp → Nat → FE → FE
  | [], _, e => e
  | t :: ts, i, e => mkE xs ts (i + 1) (e.set t (gv xs i))

/-- Ways out. -/
inductive Tgt where
  | nx
  | rt
  | ex (j : Nat)

def Tgt.mk (e : FE) (H : Hp) : Tgt → RX
  | .nx => .nx e H
  | .rt => .rt e H
  | .ex j => .ex j e H

abbrev Kx := List Value → Hp → O
def nth (X : List Kx) (i : Nat) : Kx := X.getD i fun _ _ => none

def kx (X : List Kx) (i : Nat) : List (Tgt × List Tmp) → RX → O
  | [], _ => none
  | (.nx, ts) :: L, .nx e H => getsK e ts fun vs => nth X i vs H
  | (.rt, ts) :: L, .rt e H => getsK e ts fun vs => nth X i vs H
  | (.ex j, ts) :: L, .ex k e H => bif Nat.beq j k then getsK e ts fun vs => nth X i vs H else kx X (i + 1) L (.ex k e H)
  | _ :: L, r => kx X (i + 1) L r

def kLoop (ks : List Tmp) (L : List (Tgt × List Tmp)) (k : Kx) (X : List Kx) : RX → O
  | .nx e H => getsK e ks fun vs => k vs H
  | .ex j e H => kx X 0 L (.ex j e H)
  | .rt e H => kx X 0 L (.rt e H)

def xsOf (K : RX → O) : List (Tgt × List Tmp) → List Kx
  | [] => []
  | (tg, ts) :: L => (fun vs H => K (tg.mk (mkE vs ts 0 .nl) H)) :: xsOf K L

/-- Rounds. -/
def loopS (B : Kx → List Value → Hp → List Kx → O) : Nat → List Value → Hp → List Kx → O
  | 0, _, _, _ => none
  | m + 1, xs, H, X => B (fun xs H => loopS B m xs H X) xs H X

/-- How many rounds a loop may take; not to be counted. -/
noncomputable def rnd : Nat := Classical.choose (⟨rounds, rfl⟩ : ∃ n, n = rounds)
theorem rnd_eq : rnd = rounds := Classical.choose_spec (⟨rounds, rfl⟩ : ∃ n, n = rounds)

/-- Results. -/
def res1 (C : Ctx) (e : FE) (H : Hp) : ResultVar → Option Value
  | .tmp t => e.get t
  | .cell a t => (e.get a).bind fun a => (C.T t).bind fun ti => loadE ti a H
def resK (C : Ctx) (e : FE) (H : Hp) : List ResultVar → (List Value → O) → O
  | [], k => k []
  | r :: rs, k => (res1 C e H r).bind fun v => resK C e H rs fun vs => k (v :: vs)
def tup : List Value → Value
  | [v] => v
  | vs => .tuple vs.toArray
def kRet (C : Ctx) (rs : List ResultVar) : RX → O
  | .nx e H => resK C e H rs fun vs => some (tup vs, H)
  | .rt e H => resK C e H rs fun vs => some (tup vs, H)
  | .ex _ _ _ => none
end Go.Ahe.X
