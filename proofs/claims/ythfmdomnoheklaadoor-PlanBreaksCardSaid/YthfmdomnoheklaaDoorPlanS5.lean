/- PlanBreaks: looks at maps and writes to them as equations on what lies there. -/
import Derived.Test.YthfmdomnoheklaaDoorPlanS4
set_option maxRecDepth 100000
set_option maxHeartbeats 1000000
namespace Go.Proofs.YthfmdomnoheklaaDoor.X
open Go.Ahe Go.Ahe.X
noncomputable def lkX (t : TypeId) (z k : Value) (x : Option Ob) : Option Value := match x with
  | some (.map es _) => (findE C0 t k es 0).bind fun r => match r with | some (_, v) => some v | none => some z
  | _ => none
noncomputable def putX (t : TypeId) (k v : Value) (x : Option Ob) : Option Ob := match x with
  | some (.map es ck) => (findE C0 t k es 0).bind fun r => match r with
    | some (j, _) => match es[j]? with
      | some e => bif cellsEq (cellsOf e.1) (cellsOf k) && (isAggV e.1 == isAggV k) then some (.map (setAt es j k v) ck) else none
      | none => none
    | none => some (.map (es ++ [(k, v, ck)]) (ck + 1))
  | _ => none
noncomputable def delX (t : TypeId) (k : Value) (x : Option Ob) : Option Ob := match x with
  | some (.map es ck) => (findE C0 t k es 0).bind fun r => match r with
    | some (j, _) => some (.map (eraseE es j) ck)
    | none => some (.map es ck)
  | _ => none
section
variable {H : Hp} {m : Nat} {w f : Int}
theorem lkU : lookupE C0 51 (.map (some m)) (.int .u64 w) false H = lkX 22 (.int .i64 0) (.int .u64 w) (H.get m) := by
  simp only [lookupE, T51, T3, Option.bind_some, fitU, cond_true, mapOf, one0]
  cases h : H.get m with
  | none => rfl
  | some ob => cases ob with
    | map es ck =>
      simp only [Option.bind_some, entriesOf, lkX]
      cases findE C0 22 (.int .u64 w) es 0 with
      | none => rfl
      | some r => cases r with
        | none => rfl
        | some q => rfl
    | _ => rfl
theorem lkI : lookupE C0 52 (.map (some m)) (.int .i64 f) false H = lkX 3 (.bool false) (.int .i64 f) (H.get m) := by
  simp only [lookupE, T52, T4, Option.bind_some, fitI, cond_true, mapOf, one1]
  cases h : H.get m with
  | none => rfl
  | some ob => cases ob with
    | map es ck =>
      simp only [Option.bind_some, entriesOf, lkX]
      cases findE C0 3 (.int .i64 f) es 0 with
      | none => rfl
      | some r => cases r with
        | none => rfl
        | some q => rfl
    | _ => rfl
theorem putU (x : Value) : mapPutE C0 51 (.map (some m)) (.int .u64 w) x H = (putX 22 (.int .u64 w) x (H.get m)).bind (H.upd m) := by
  simp only [mapPutE, T51, fitU, cond_true, mapOf]
  cases h : H.get m with
  | none => rfl
  | some ob => cases ob with
    | map es ck =>
      simp only [Option.bind_some, putX]
      cases findE C0 22 (.int .u64 w) es 0 with
      | none => rfl
      | some r => cases r with
        | none => rfl
        | some q =>
          simp only [Option.bind_some]
          cases es[q.1]? with
          | none => rfl
          | some e =>
            simp only
            cases (cellsEq (cellsOf e.1) (cellsOf (Value.int .u64 w)) && (isAggV e.1 == isAggV (Value.int .u64 w))) <;> rfl
    | _ => rfl
theorem delU : deleteE C0 51 (.map (some m)) (.int .u64 w) H = (delX 22 (.int .u64 w) (H.get m)).bind (H.upd m) := by
  simp only [deleteE, T51, fitU, cond_true, mapOf]
  cases h : H.get m with
  | none => rfl
  | some ob => cases ob with
    | map es ck =>
      simp only [Option.bind_some, delX]
      cases findE C0 22 (.int .u64 w) es 0 with
      | none => rfl
      | some r => cases r with
        | none => rfl
        | some q => rfl
    | _ => rfl
theorem lkX0 (t : TypeId) (z k : Value) (ck : Nat) : lkX t z k (some (.map [] ck)) = some z := rfl
theorem lkX1 (z v : Value) (ck b : Nat) : lkX 22 z (.int .u64 w) (some (.map [(.int .u64 w, v, b)] ck)) = some v := by
  simp [lkX, findE, eqU]
theorem lkX2 (z v : Value) (ck b : Nat) : lkX 3 z (.int .i64 f) (some (.map [(.int .i64 f, v, b)] ck)) = some v := by
  simp [lkX, findE, eqI]
theorem putX0 (t : TypeId) (k v : Value) (ck : Nat) : putX t k v (some (.map [] ck)) = some (.map [(k, v, ck)] (ck + 1)) := rfl
theorem putX1 (u v : Value) (ck b : Nat) : putX 22 (.int .u64 w) v (some (.map [(.int .u64 w, u, b)] ck)) = some (.map [(.int .u64 w, v, b)] ck) := by
  simp [putX, findE, eqU, cellsEq, cellsOf, cellEq, isAggV, setAt]
theorem delX0 (t : TypeId) (k : Value) (ck : Nat) : delX t k (some (.map [] ck)) = some (.map [] ck) := rfl
theorem delX1 (u : Value) (ck b : Nat) : delX 22 (.int .u64 w) (some (.map [(.int .u64 w, u, b)] ck)) = some (.map [] ck) := by
  simp [delX, findE, eqU, eraseE]
end
end Go.Proofs.YthfmdomnoheklaaDoor.X
