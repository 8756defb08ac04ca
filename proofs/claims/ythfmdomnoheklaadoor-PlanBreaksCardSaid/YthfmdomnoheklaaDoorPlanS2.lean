/- PlanBreaks: the new word. -/
import Derived.Test.YthfmdomnoheklaaDoorPlanS
namespace Go.Proofs.YthfmdomnoheklaaDoor.X
open Go.Ahe Go.Ahe.X
theorem leaf_run {n : Nat} (h : leafOk n = true) : evF C0 12 (.func 5) [I n, .bool false] E0 = some (.int .u64 ((2115 + 4096 * n : Nat) : Int), E0) := by
  unfold leafOk at h
  split at h
  · rename_i w hw
    rw [hw, Nat.eq_of_beq_eq_true h]
    rfl
  · cases h
theorem S5 {n : Nat} (h : n < 64) (H : Hp) : call 5 [.int .i64 (n : Int), .bool false] H = some (.int .u64 ((2115 + 4096 * n : Nat) : Int), H) :=
  pure_any noX fn5 rfl rfl (leaf_run (List.all_eq_true.1 leaf_all n (List.mem_range.2 h))) H
end Go.Proofs.YthfmdomnoheklaaDoor.X
