/- The context of the seat's program (PlanBreaks). -/
import Derived.Test.YthfmdomnoheklaaDoorZxPrim
import Derived.Test.YthfmdomnoheklaaDoorRows
import Derived.KernelRfl
namespace Go.Proofs.YthfmdomnoheklaaDoor.X
open Go.Ahe Go.Ahe.X
noncomputable def C0 : Ctx := mkCtx Tryd.prog (fun f => !([7, 8, 9, 11, 12, 16, 29, 30, 31, 32, 33, 56, 80].any (Nat.beq f))) noExt
theorem noX : NoExt C0 := fun _ _ _ => rfl
theorem mixed : Tryd.prog.follows .mixedOrders = true := by kernel_rfl
theorem fits0 : Fits C0 Tryd.prog := mkCtx_fits mixed
noncomputable abbrev call (f : Nat) (args : List Value) (H : Hp) : O := ev C0 (.func f) args H
noncomputable abbrev bo (op : BinOp) (t : TypeId) (a b : Value) : Option Value := binE C0 op t a b
end Go.Proofs.YthfmdomnoheklaaDoor.X
