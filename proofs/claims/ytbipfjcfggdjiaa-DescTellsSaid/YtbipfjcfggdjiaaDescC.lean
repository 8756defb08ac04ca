/- The context of the seat's program. -/
import Derived.Test.YtbipfjcfggdjiaaZxPrim
import Derived.Test.YtbipfjcfggdjiaaRows
import Derived.KernelRfl
namespace Go.Proofs.Ytbipfjcfggdjiaa.X
open Go.Ahe Go.Ahe.X
noncomputable def C0 : Ctx := mkCtx Try.prog (fun _ => true) noExt
theorem noX : NoExt C0 := fun _ _ _ => rfl
theorem mixed : Try.prog.follows .mixedOrders = true := by kernel_rfl
theorem fits0 : Fits C0 Try.prog := mkCtx_fits mixed
noncomputable abbrev call (f : Nat) (args : List Value) (H : Hp) : O := ev C0 (.func f) args H
noncomputable abbrev bo (op : BinOp) (t : TypeId) (a b : Value) : Option Value := binE C0 op t a b
end Go.Proofs.Ytbipfjcfggdjiaa.X
