/- The context of the seat's program. -/
import Derived.Test.YtiigiodagfalpaaZxB
import Derived.Test.YtiigiodagfalpaaRows
import Derived.KernelRfl
namespace Go.Proofs.Ytiigiodagfalpaa.X
open Go.Ahe Go.Ahe.X
/-- The functions that hand back addresses, or write to what they were given; those that only make what is new. -/
def imp : List Nat := [16, 17, 18, 24, 26, 32, 34, 35, 36, 37, 45, 46, 47, 48, 51, 52, 33, 23]
def frs : List Nat := [33, 23]
noncomputable def C0 : Ctx := mkCtx Try.prog (fun f => !imp.any (Nat.beq f)) (fun f => frs.any (Nat.beq f)) noExt
theorem noX : NoExt C0 := fun _ _ _ _ _ => rfl
theorem mixed : Try.prog.follows .mixedOrders = true := by kernel_rfl
theorem fits0 : Fits C0 Try.prog := mkCtx_fits mixed
instance : Std C0 := ⟨rfl, rfl⟩
abbrev E0 : Hp := ⟨.nl, 0, 0⟩
noncomputable abbrev call (f : Nat) (args : List Value) (H : Hp) : O := ev C0 (.func f) args H
noncomputable abbrev bo (op : BinOp) (t : TypeId) (a b : Value) : Option Value := binE C0 op t a b
end Go.Proofs.Ytiigiodagfalpaa.X
