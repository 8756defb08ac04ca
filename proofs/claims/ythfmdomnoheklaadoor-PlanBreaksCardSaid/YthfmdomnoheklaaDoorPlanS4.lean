/- PlanBreaks: looks at maps and writes to them. -/
import Derived.Test.YthfmdomnoheklaaDoorPlanS3
import Derived.Test.YthfmdomnoheklaaDoorZxSimp
set_option maxRecDepth 100000
namespace Go.Proofs.YthfmdomnoheklaaDoor.X
open Go.Ahe Go.Ahe.X
theorem one0 : Go.Ahe.zeroV ⟨.int .i64, 1, 8, [.int .i64 0]⟩ = some (.int .i64 0) := rfl
theorem one1 : Go.Ahe.zeroV ⟨.bool, 1, 1, [.bool false]⟩ = some (.bool false) := rfl
theorem mapOf_some {H : Hp} {m : Nat} {es ck} (h : H.get m = some (.map es ck)) : mapOf (.map (some m)) H = some (some (m, es, ck)) := by
  simp only [mapOf, h]
section
variable {H : Hp} {m ck : Nat} {v : Value} {b : Nat} {w f : Int}
theorem lkU0 (h : H.get m = some (.map [] ck)) : lookupE C0 51 (.map (some m)) (.int .u64 w) false H = some (.int .i64 0) := by
  simp only [lookupE, T51, T3, mapOf_some h, Option.bind_some, fitU, cond_true, entriesOf, findE, one0, Option.map_some]; rfl
theorem lkU1 (h : H.get m = some (.map [(.int .u64 w, v, b)] ck)) : lookupE C0 51 (.map (some m)) (.int .u64 w) false H = some v := by
  simp only [lookupE, T51, T3, mapOf_some h, Option.bind_some, fitU, cond_true, entriesOf, findE, eqU, decide_true, Option.map_some]; rfl
theorem lkI0 (h : H.get m = some (.map [] ck)) : lookupE C0 52 (.map (some m)) (.int .i64 f) false H = some (.bool false) := by
  simp only [lookupE, T52, T4, mapOf_some h, Option.bind_some, fitI, cond_true, entriesOf, findE, one1, Option.map_some]; rfl
theorem lkI1 (h : H.get m = some (.map [(.int .i64 f, v, b)] ck)) : lookupE C0 52 (.map (some m)) (.int .i64 f) false H = some v := by
  simp only [lookupE, T52, T4, mapOf_some h, Option.bind_some, fitI, cond_true, entriesOf, findE, eqI, decide_true, Option.map_some]; rfl
theorem putU0 {x : Value} (h : H.get m = some (.map [] ck)) : mapPutE C0 51 (.map (some m)) (.int .u64 w) x H = H.upd m (.map [(.int .u64 w, x, ck)] (ck + 1)) := by
  simp only [mapPutE, T51, mapOf_some h, Option.bind_some, fitU, cond_true, findE]; rfl
theorem putU1 {x : Value} (h : H.get m = some (.map [(.int .u64 w, v, b)] ck)) : mapPutE C0 51 (.map (some m)) (.int .u64 w) x H = H.upd m (.map [(.int .u64 w, x, b)] ck) := by
  simp only [mapPutE, T51, mapOf_some h, Option.bind_some, fitU, cond_true, findE, eqU, decide_true, List.getElem?_cons_zero]
  simp [cellsEq, cellsOf, cellEq, isAggV, setAt]
theorem delU0 (h : H.get m = some (.map [] ck)) : deleteE C0 51 (.map (some m)) (.int .u64 w) H = H.upd m (.map [] ck) := by
  simp only [deleteE, T51, mapOf_some h, Option.bind_some, fitU, cond_true, findE]
theorem delU1 (h : H.get m = some (.map [(.int .u64 w, v, b)] ck)) : deleteE C0 51 (.map (some m)) (.int .u64 w) H = H.upd m (.map [] ck) := by
  simp only [deleteE, T51, mapOf_some h, Option.bind_some, fitU, cond_true, findE, eqU, decide_true]; rfl
theorem clrI {es} (h : H.get m = some (.map es ck)) : clearE C0 52 (.map (some m)) H = H.upd m (.map [] ck) := by
  simp only [clearE, T52, mapOf_some h, Option.bind_some]
theorem entI0 (h : H.get m = some (.map [] ck)) : mapEntryE C0 52 (.map (some m)) (.int .i64 f) H = (H.upd m (.map [(.int .i64 f, .bool false, ck)] (ck + 1))).map fun H' => (.tuple #[.bool false, .int .i64 ck], H') := by
  simp only [mapEntryE, T52, T4, mapOf_some h, Option.bind_some, fitI, cond_true, findE, one1, List.nil_append]
theorem setI1 {x : Value} (h : H.get m = some (.map [(.int .i64 f, v, b)] ck)) : entryStoreE (.map (some m)) (.int .i64 (b : Int)) x H = H.upd m (.map [(.int .i64 f, x, b)] ck) := by
  have : nat? (.int .i64 (b : Int)) = some b := by simp [nat?]
  simp only [entryStoreE, mapOf_some h, Option.bind_some, this, stampAt, Nat.beq_refl, cond_true]
theorem rngU {es} (h : H.get m = some (.map es ck)) : rangeE C0 51 (.map (some m)) H = some (.pointer (some ⟨H.next, 0, none⟩), H.new (.iter (some m) ck [] ck)) := by
  simp only [rangeE, T51, mapOf_some h, Option.map_some]
variable {r since last : Nat} {k : Value}
theorem nxt0 {seen} (hr : H.get r = some (.iter (some m) since seen last)) (h : H.get m = some (.map [] ck)) : nextE (.pointer (some ⟨r, 0, none⟩)) H = some (.tuple #[.bool false], H) := by
  simp [nextE, hr, h]
theorem nxt1 (hr : H.get r = some (.iter (some m) since [] last)) (h : H.get m = some (.map [(k, v, b)] ck)) (hb : b < since) : nextE (.pointer (some ⟨r, 0, none⟩)) H = (H.upd r (.iter (some m) since [b] ck)).map fun H' => (.tuple #[.bool true, k, v], H') := by
  have : Nat.blt b since = true := by simpa [Nat.blt_eq] using hb
  simp [nextE, hr, h, this]
theorem nxt2 (hr : H.get r = some (.iter (some m) since [b] last)) (h : H.get m = some (.map [(k, v, b)] ck)) (hb : b < last) : nextE (.pointer (some ⟨r, 0, none⟩)) H = some (.tuple #[.bool false], H) := by
  have : Nat.ble last b = false := by
    cases hq : Nat.ble last b with
    | false => rfl
    | true => have := Nat.le_of_ble_eq_true hq; omega
  simp [nextE, hr, h, this]
theorem ent1 (hr : H.get r = some (.iter (some m) since [b] ck)) (h : H.get m = some (.map [(k, v, b)] ck)) : entryE (.pointer (some ⟨r, 0, none⟩)) H = some (.tuple #[k, v]) := by
  simp [entryE, hr, h]
end
end Go.Proofs.YthfmdomnoheklaaDoor.X
