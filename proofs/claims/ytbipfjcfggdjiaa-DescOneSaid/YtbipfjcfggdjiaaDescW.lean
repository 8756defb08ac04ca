/- The desc seat: the calls of DescBack and DescOne. -/
import Derived.Test.YtbipfjcfggdjiaaDescS5
namespace Go.Proofs.Ytbipfjcfggdjiaa.X
open Go.Ahe Go.Ahe.X Go.RowKit
theorem walk4 (k f : Int) (a r u n : Bool) (x l : Int) (w : World) (_ : (Lit.int .i8 k).wf = true) (_ : (Lit.int .i64 f).wf = true) (hx : (Lit.int .u64 x).wf = true) (_ : (Lit.int .i64 l).wf = true) :
    Calls Try.prog 4 #[.agg #[.int .i8 k, .int .i64 f, .bool a, .bool r, .bool u, .bool n], .int .u64 x, .int .i64 l] w fun e w' => e = .returned (.bool true) ∧ Below w.heap.size w w' := by
  obtain ⟨m, rfl, hm⟩ := wf_u64 hx
  exact law_ev fn4 rfl (S4 k f a r u n m hm l E0) w
theorem walk5 (k f : Int) (a r u n : Bool) (k' f' : Int) (a' r' u' n' : Bool) (fr : Int) (w : World) (_ : (Lit.int .i8 k).wf = true) (_ : (Lit.int .i64 f).wf = true) (_ : (Lit.int .i8 k').wf = true) (_ : (Lit.int .i64 f').wf = true) (_ : (Lit.int .i64 fr).wf = true) :
    Calls Try.prog 5 #[.agg #[.int .i8 k, .int .i64 f, .bool a, .bool r, .bool u, .bool n], .agg #[.int .i8 k', .int .i64 f', .bool a', .bool r', .bool u', .bool n'], .int .i64 fr] w fun e w' => e = .returned (.bool true) ∧ Below w.heap.size w w' :=
  law_ev fn5 rfl (S5 k f k' f' fr a r u n a' r' u' n' E0) w
end Go.Proofs.Ytbipfjcfggdjiaa.X
