/- PlanBreaks: the call. -/
import Derived.Test.YthfmdomnoheklaaDoorPlanS10
import Derived.Test.YthfmdomnoheklaaDoorZaheLaw
namespace Go.Proofs.YthfmdomnoheklaaDoor.X
open Go.Ahe Go.Ahe.X Go.RowKit
theorem law_ev {f : FuncId} {a : AF} (haf : C0.fn f = some a) {args : List Value} (ha : args.all plainV = true) (h : call f args E0 = some (.bool true, E0)) (w : World) :
    Calls Tryd.prog f args.toArray w fun e w' => e = .returned (.bool true) ∧ Below w.heap.size w w' := by
  obtain ⟨d, hd⟩ := ev_iff.1 h
  exact law_flat fits0 (evF_ok fits0 noExt_ok d) w ha rfl haf hd
theorem walk3 (a0 a1 a2 a3 : Int) (w : World) (_ : (Lit.int .u64 a0).wf = true) (_ : (Lit.int .i64 a1).wf = true) (_ : (Lit.int .i64 a2).wf = true) (_ : (Lit.int .i64 a3).wf = true) :
    Calls Tryd.prog 3 #[.int .u64 a0, .int .i64 a1, .int .i64 a2, .int .i64 a3] w fun e w' => e = .returned (.bool true) ∧ Below w.heap.size w w' :=
  law_ev fn3 rfl (S3 a0 a1 a2 a3 E0) w
end Go.Proofs.YthfmdomnoheklaaDoor.X
