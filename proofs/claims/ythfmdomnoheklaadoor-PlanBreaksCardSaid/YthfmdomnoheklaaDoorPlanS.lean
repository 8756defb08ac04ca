/- PlanBreaks: the closed parts. -/
import Derived.Test.YthfmdomnoheklaaDoorPlanF
import Derived.Test.YthfmdomnoheklaaDoorZxSimp
set_option maxRecDepth 100000
namespace Go.Proofs.YthfmdomnoheklaaDoor.X
open Go.Ahe Go.Ahe.X
abbrev E0 : Hp := ⟨.nl, 0, 0⟩
theorem S4 (H : Hp) : call 4 [] H = some (.bool true, H) := pure_any noX fn4 rfl rfl (d := 40) (H0 := E0) (H1 := E0) (by kernel_rfl) H
noncomputable def leafOk (n : Nat) : Bool := match evF C0 12 (.func 5) [I n, .bool false] E0 with
  | some (.int .u64 (.ofNat w), ⟨.nl, 0, 0⟩) => Nat.beq w (2115 + 4096 * n)
  | _ => false
theorem leaf_all : (List.range 64).all leafOk = true := by kernel_rfl
end Go.Proofs.YthfmdomnoheklaaDoor.X
