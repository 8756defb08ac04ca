/- The context of the seat's program. -/
import Derived.Test.YtiigiodagfalpaaZxC
import Derived.Test.YtiigiodagfalpaaRows
import Derived.KernelRfl
namespace Go.Proofs.Ytiigiodagfalpaa.X
open Go.Ahe Go.Ahe.X
/-- The functions that hand back addresses, or write to what they were given; those that only make what is new. -/
def imp : List Nat := [16, 17, 18, 24, 26, 32, 34, 35, 36, 37, 45, 46, 47, 48, 51, 52, 33, 23]
def frs : List Nat := [33, 23]
theorem mixed : Try.prog.follows .mixedOrders = true := by kernel_rfl
abbrev E0 : Hp := ⟨.nl, 0, 0⟩
end Go.Proofs.Ytiigiodagfalpaa.X
namespace Go.Proofs.Ytiigiodagfalpaa.Y
open Go.Ahe Go.Ahe.X
/-- Where slices.overlaps has its answer, slices.Insert is run. -/
noncomputable def C0 : Ctx := mkCtxS Try.prog (fun f => Nat.beq f 44) (fun f => !X.imp.any (Nat.beq f)) (fun f => X.frs.any (Nat.beq f)) (fun f args H => bif Nat.beq f 44 then ovE args H else none)
theorem noX : NoExt C0 := fun f a ha args H => by
  have ha : (bif Nat.beq f 44 then none else mkAF Try.prog _ _ f) = some a := ha
  show (bif Nat.beq f 44 then ovE args H else none) = none
  cases hb : Nat.beq f 44 with
  | true => rw [hb] at ha; cases ha
  | false => rfl
theorem fits0 : Fits C0 Try.prog := mkCtxS_fits X.mixed
instance : Std C0 := ⟨rfl, rfl⟩
noncomputable abbrev call (f : Nat) (args : List Value) (H : Hp) : O := ev C0 (.func f) args H
noncomputable abbrev bo (op : BinOp) (t : TypeId) (a b : Value) : Option Value := binE C0 op t a b
end Go.Proofs.Ytiigiodagfalpaa.Y
namespace Go.Proofs.Ytiigiodagfalpaa.X
open Go.Ahe Go.Ahe.X
/-- slices.Insert of one region into a slice that was made by append; else as the code says. -/
noncomputable def insE (args : List Value) (H : Hp) : Option (Value × Hp) := match args with
  | [.slice (some ⟨i, 0, some 3⟩) n n', .int .i64 (.ofNat k), .slice (some ⟨j, 0, none⟩) 1 1] => match H.get i, H.get j with
    | some (.cells cs false), some (.cells xs false) => bif (Nat.beq n n' && (Nat.ble 1 n && Nat.ble n 1000000)) && ((Nat.ble k n && (Nat.beq cs.length (n * 3) && Nat.beq xs.length 3)) && ((Nat.ble H.floor i && !(Nat.beq i j)) && (cs.all oneCell && xs.all oneCell))) then
        some (.slice (some ⟨H.next, 0, some 3⟩) (n + 1) (n + 1), (H.new (.cells (cs.take (k * 3) ++ xs ++ cs.drop (k * 3)) false)).setO i .dead) else none
    | _, _ => none
  | args => ev Y.C0 (.func 32) args H
noncomputable def C0 : Ctx := mkCtxS Try.prog (fun f => Nat.beq f 32) (fun f => !imp.any (Nat.beq f)) (fun f => frs.any (Nat.beq f)) (fun f args H => bif Nat.beq f 32 then insE args H else none)
theorem noX : NoExt C0 := fun f a ha args H => by
  have ha : (bif Nat.beq f 32 then none else mkAF Try.prog _ _ f) = some a := ha
  show (bif Nat.beq f 32 then insE args H else none) = none
  cases hb : Nat.beq f 32 with
  | true => rw [hb] at ha; cases ha
  | false => rfl
theorem fits0 : Fits C0 Try.prog := mkCtxS_fits mixed
instance : Std C0 := ⟨rfl, rfl⟩
noncomputable abbrev call (f : Nat) (args : List Value) (H : Hp) : O := ev C0 (.func f) args H
noncomputable abbrev bo (op : BinOp) (t : TypeId) (a b : Value) : Option Value := binE C0 op t a b
end Go.Proofs.Ytiigiodagfalpaa.X
