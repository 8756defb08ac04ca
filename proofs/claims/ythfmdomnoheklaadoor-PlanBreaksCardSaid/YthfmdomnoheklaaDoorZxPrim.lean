/-
  X, 6: the words of printed functions.
-/
import Derived.Test.YthfmdomnoheklaaDoorZxFn
namespace Go.Ahe.X
open Go.Ahe

abbrev I (n : Int) : Value := .int .i64 n
abbrev U (n : Int) : Value := .int .u64 n
abbrev P (i o : Nat) : Value := .pointer (some ⟨i, o, none⟩)
abbrev fnv (f : Nat) : Value := .func (.func f) #[] #[]

/-- One thing behind the other. -/
def B {α β : Type} (x : Option α) (f : α → Option β) : Option β := x.bind f

/-- A branch. -/
def br (c : Value) (a b : O) : O := (asB c).bind fun x => bif x then a else b

def ld1 (a : Value) (H : Hp) : Option Value := match a with
  | .pointer (some ⟨i, o, none⟩) => (readCells H i o 1).bind one?
  | _ => none
def ldA (n : Nat) (a : Value) (H : Hp) : Option Value := match a with
  | .pointer (some ⟨i, o, none⟩) => (readCells H i o n).map fun cs => .agg cs.toArray
  | _ => none
def st (n : Nat) (a v : Value) (H : Hp) : O := un (match a with
  | .pointer (some ⟨i, o, none⟩) => bif Nat.beq (cellsOf v).length n then writeCells H i o (cellsOf v) else none
  | _ => none)
def bd (pl : List (Nat × Nat)) (zs : List Value) (ps : List (Nat × Value)) : Option Value := (fillE (fun i => pl[i]?) zs ps).map fun cs => .agg cs.toArray
def bdA (n : Nat) (zs : List Value) (ps : List (Nat × Value)) : Option Value := (fillE (fun i => some (i * n, n)) zs ps).map fun cs => .agg cs.toArray
def bsl (n : Nat) (z : List Value) (len : Nat) (ps : List (Nat × Value)) (H : Hp) : O := (fillE (fun i => some (i * n, n)) (repeatL z len) ps).map fun cs =>
  (.slice (some ⟨H.next, 0, none⟩) len len, H.new (.cells cs false))
def cvI (k : IntKind) (x : Value) : Option Value := match x with
  | .int _ n => some (.int k (k.wrap n))
  | _ => none
def mm (H : Hp) : O := some (.map (some H.next), H.new (.map [] 0))
def fa (off : Nat) (x : Value) : Option Value := match x with
  | .pointer (some ⟨i, o, none⟩) => some (.pointer (some ⟨i, o + off, none⟩))
  | _ => none
def fl (off : Nat) (x : Value) : Option Value := match x with
  | .agg cs => cs.toList[off]?
  | _ => none
def flA (off n : Nat) (x : Value) : Option Value := match x with
  | .agg cs => (lrange cs.toList off n).map fun xs => .agg xs.toArray
  | _ => none
def ixS (size : Nat) (x i : Value) : Option Value := match nat? i with
  | some k => match x with
    | .slice (some ⟨i, o, _⟩) len _ => bif Nat.blt k len then some (.pointer (some ⟨i, o + k * size, none⟩)) else none
    | _ => none
  | _ => none
def ixP (n size : Nat) (x i : Value) : Option Value := match nat? i with
  | some k => match x with
    | .pointer (some ⟨i, o, none⟩) => bif Nat.blt k n then some (.pointer (some ⟨i, o + k * size, none⟩)) else none
    | _ => none
  | _ => none
def lnS (x : Value) : Option Value := match x with
  | .slice _ n _ => some (.int .i64 n)
  | _ => none
def slc (C : Ctx) (t : TypeId) (v : Value) (lo hi mx : Option Value) : Option Value := (nato? lo).bind fun lo => (nato? hi).bind fun hi => (nato? mx).bind fun mx => sliceE C t v lo hi mx
end Go.Ahe.X
