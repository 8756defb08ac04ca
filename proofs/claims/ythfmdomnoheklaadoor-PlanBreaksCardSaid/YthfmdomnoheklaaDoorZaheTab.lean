/-
  AHE, 2: what the tables of a context say of the program: 'mkTI', 'mkAF', and the fitting of a context to a program.
-/
import Derived.Test.YthfmdomnoheklaaDoorZaheDefs
namespace Go.Ahe

def mkKind (P : Program) (t : TypeId) : TypeDesc → Option TK
  | .bool => some .bool
  | .int k => some (.int k)
  | .string => some .string
  | .pointer e => some (.pointer e)
  | .slice e => some (.slice e)
  | .array n e => bif P.eqGuardType P.depth t then none else some (.array n e)
  | .map k e => some (.map k e)
  | .struct fs => bif P.eqGuardType P.depth t || P.stoodInHeld t || !(fs.toList.all fun f => (P.info? f.type).isSome) then none else some (.struct (fs.toList.map fun f => (f.offset, f.type, f.name == "_")))
  | .func _ _ _ => some .func
  | _ => some .other

def mkTI (P : Program) (t : TypeId) : Option TI :=
  match P.info? t with
  | none => none
  | some i => match P.underlying t, i.zero with
    | some d, some z => bif z.cells.toList.all plainCell then (mkKind P t d).bind fun k => bif TI.agg ⟨k, i.size, i.bytes, z.cells.toList⟩ == isAggV z then some ⟨k, i.size, i.bytes, z.cells.toList⟩ else none else none
    | _, _ => none

def mkAF (P : Program) (pure : Bool) (f : FuncId) : Option AF :=
  match P.funcs[f]? with
  | none => none
  | some fn => match fn.body with
    | none => none
    | some c => bif fn.name == "runtime.NumGoroutine" then none else some ⟨c, fn.ntmps, fn.results.toList, pure⟩

/-- A context fits a program. -/
structure Fits (C : Ctx) (P : Program) : Prop where
  lt : C.lt = fun x y => decide (x < y)
  eqi : C.eqi = fun x y => decide (x = y)
  types : ∀ t ti, C.T t = some ti → mkTI P t = some ti
  funcs : ∀ f a, C.fn f = some a → mkAF P a.pure f = some a
  mixed : P.follows .mixedOrders = true

end Go.Ahe
