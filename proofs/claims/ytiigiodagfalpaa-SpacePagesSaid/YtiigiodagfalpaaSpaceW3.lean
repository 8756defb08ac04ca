/- The space seat: the calls of SpaceCounts and SpacePages. -/
import Derived.Test.YtiigiodagfalpaaSpaceM7
import Derived.Test.YtiigiodagfalpaaSpaceW
namespace Go.Proofs.Ytiigiodagfalpaa.X
open Go.Ahe Go.Ahe.X Go.RowKit
theorem wf_i64 {a : Int} (h : (Lit.int .i64 a).wf = true) : -9223372036854775808 ≤ a ∧ a < 9223372036854775808 := by
  have h : IntKind.i64.min ≤ a ∧ a ≤ IntKind.i64.max := by simpa [Lit.wf] using h
  have h1 : IntKind.i64.min = -9223372036854775808 := rfl
  have h2 : IntKind.i64.max = 9223372036854775807 := rfl
  omega
theorem walk5 (v : Value) (f c : Int) (b : Bool) (w : World) (hv : Lies w v) (hf : (Lit.int .u64 f).wf = true) (hc : (Lit.int .i64 c).wf = true) :
    Calls Try.prog 5 #[v, .agg #[.int .u64 f, .int .i64 c, .bool b]] w fun e w' => e = .returned (.bool true) ∧ Below w.heap.size w w' := by
  obtain ⟨f', ef, hf'⟩ := wf_u64 hf
  subst ef
  exact law_rg fn5 rfl w hv fun u l H hs => S5 (r := ⟨f', c, b⟩) ⟨hf', wf_i64 hc⟩ H hs
theorem walk7 (v : Value) (f c : Int) (b : Bool) (p : Int) (w : World) (hv : Lies w v) (hf : (Lit.int .u64 f).wf = true) (hc : (Lit.int .i64 c).wf = true) (hp : (Lit.int .u64 p).wf = true) :
    Calls Try.prog 7 #[v, .agg #[.int .u64 f, .int .i64 c, .bool b], .int .u64 p] w fun e w' => e = .returned (.bool true) ∧ Below w.heap.size w w' := by
  obtain ⟨f', ef, hf'⟩ := wf_u64 hf
  obtain ⟨p', ep, hp'⟩ := wf_u64 hp
  subst ef ep
  exact law_rg fn7 rfl w hv fun u l H hs => S7 (r := ⟨f', c, b⟩) ⟨hf', wf_i64 hc⟩ hp' H hs
end Go.Proofs.Ytiigiodagfalpaa.X
