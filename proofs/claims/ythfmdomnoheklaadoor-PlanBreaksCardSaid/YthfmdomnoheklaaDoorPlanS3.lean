/- PlanBreaks: maps of at most one key. -/
import Derived.Test.YthfmdomnoheklaaDoorPlanS2
set_option maxRecDepth 100000
namespace Go.Proofs.YthfmdomnoheklaaDoor.X
open Go.Ahe Go.Ahe.X
theorem T51 : C0.T 51 = some ⟨.map 22 3, 1, 8, [.map none]⟩ := by kernel_rfl
theorem T52 : C0.T 52 = some ⟨.map 3 4, 1, 8, [.map none]⟩ := by kernel_rfl
theorem T22 : C0.T 22 = some ⟨.int .u64, 1, 8, [.int .u64 0]⟩ := by kernel_rfl
theorem T3 : C0.T 3 = some ⟨.int .i64, 1, 8, [.int .i64 0]⟩ := by kernel_rfl
theorem T4 : C0.T 4 = some ⟨.bool, 1, 1, [.bool false]⟩ := by kernel_rfl
theorem eqi0 (a b : Int) : C0.eqi a b = decide (a = b) := rfl
theorem eqU (a b : Int) : eqIn C0 30 22 (.int .u64 a) (.int .u64 b) = some (decide (a = b)) := by
  rw [eqIn, T22]; rfl
theorem eqI (a b : Int) : eqIn C0 30 3 (.int .i64 a) (.int .i64 b) = some (decide (a = b)) := by
  rw [eqIn, T3]; rfl
theorem fitU (a : Int) : keyFit C0 22 (.int .u64 a) = true := by
  simp [keyFit, keyOk, flatKey, T22, scalarK, eqU]
theorem fitI (a : Int) : keyFit C0 3 (.int .i64 a) = true := by
  simp [keyFit, keyOk, flatKey, T3, scalarK, eqI]
end Go.Proofs.YthfmdomnoheklaaDoor.X
