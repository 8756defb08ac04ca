/- The space seat: the call of SpaceTells. -/
import Derived.Test.YtiigiodagfalpaaSpaceT5
import Derived.Test.YtiigiodagfalpaaSpaceW
namespace Go.Proofs.Ytiigiodagfalpaa.X
open Go.Ahe Go.Ahe.X Go.RowKit
theorem walk6 (v : Value) (p c leave : Int) (w : World) (hv : Lies w v) (hp : (Lit.int .u64 p).wf = true) (_ : (Lit.int .i64 c).wf = true) (_ : (Lit.int .i64 leave).wf = true) :
    Calls Try.prog 6 #[v, .int .u64 p, .int .i64 c, .int .i64 leave] w fun e w' => e = .returned (.bool true) ∧ Below w.heap.size w w' := by
  obtain ⟨p', ep, hp'⟩ := wf_u64 hp
  subst ep
  exact law_rg fn6 rfl w hv fun u l H hs => S6 hp' c leave H hs
end Go.Proofs.Ytiigiodagfalpaa.X
