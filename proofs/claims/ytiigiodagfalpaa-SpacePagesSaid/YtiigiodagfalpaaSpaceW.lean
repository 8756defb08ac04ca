/- The space seat: the calls of ShareEnds and ShareLoads. -/
import Derived.Test.YtiigiodagfalpaaSpaceS5
import Derived.Test.YtiigiodagfalpaaSpaceI
import Derived.Test.YtiigiodagfalpaaZxC
namespace Go.Proofs.Ytiigiodagfalpaa.X
open Go.Ahe Go.Ahe.X Go.RowKit
theorem wf_u64 {a : Int} (h : (Lit.int .u64 a).wf = true) : ∃ n : Nat, a = n ∧ n < 18446744073709551616 := by
  have h : IntKind.u64.min ≤ a ∧ a ≤ IntKind.u64.max := by simpa [Lit.wf] using h
  have h1 : IntKind.u64.min = 0 := rfl
  have h2 : IntKind.u64.max = 18446744073709551615 := rfl
  exact ⟨a.toNat, by omega, by omega⟩
theorem rg_of (cs : List Value) (h0 : cellsAre [.int .u64, .int .i64, .bool] cs) : ∃ r : Rg, r.enc = cs := by
  obtain ⟨a, cs1, e1, ⟨x, e2, hx⟩, h1⟩ := cellsAre_cons h0
  obtain ⟨b, cs2, e3, ⟨y, e4, _⟩, h2⟩ := cellsAre_cons h1
  obtain ⟨c, cs3, e5, ⟨z, e6⟩, h3⟩ := cellsAre_cons h2
  have e7 := cellsAre_nil h3
  obtain ⟨n, e8, _⟩ := wf_u64 hx
  exact ⟨⟨n, y, z⟩, by rw [e1, e2, e3, e4, e5, e6, e7, e8]; rfl⟩
theorem rg_plain (r : Rg) (v : Value) (h : v ∈ r.enc) : Go.Ahe.plainCell v = true := by
  simp [Rg.enc] at h
  rcases h with h | h | h <;> rw [h] <;> rfl
/-- How a slice of regions lies. -/
def Lies (w : World) (v : Value) : Prop := v = .slice none 0 0 ∨ ∃ (b off len cap : Nat) (C : Array Value) (E : TypeId) (fz : Nat × Nat) (css : List (List Value)), v = .slice (some ⟨b, off, none⟩) len cap ∧ css.length = len ∧ (∀ cs ∈ css, cellsAre [.int .u64, .int .i64, .bool] cs) ∧ w.heap[b]? = some (.cells C E fz) ∧
      ∀ i cs, css[i]? = some cs → ∀ j u, cs[j]? = some u → C[off + (i * 3 + j)]? = some u
/-- **THE CALL OF A LAW** whose first argument is a slice of regions, and whose others are plain. -/
theorem law_rg {f : FuncId} {a : AF} (haf : C0.fn f = some a) {v : Value} {args : List Value} (ha : args.all plainV = true) (w : World) (hv : Lies w v) (h : ∀ (u : Value) (l : List Rg) (H : Hp), Sl Rg.enc H u l → call f (u :: args) H = some (.bool true, H)) : Calls Try.prog f (v :: args).toArray w fun e w' => e = .returned (.bool true) ∧ Below w.heap.size w w' := by
  have hx : ∃ l : List Rg, (v = .slice none 0 0 ∧ l = []) ∨ ∃ (b off cap : Nat) (C : Array Value) (E : TypeId) (fz : Nat × Nat), v = .slice (some ⟨b, off, none⟩) l.length cap ∧ w.heap[b]? = some (.cells C E fz) ∧ ∀ i a, l[i]? = some a → ∀ j u, (Rg.enc a)[j]? = some u → C[off + (i * 3 + j)]? = some u := by
    rcases hv with rfl | ⟨b, off, len, cap, C, E, fz, css, rfl, rfl, h1, h2, h3⟩
    · exact ⟨[], .inl ⟨rfl, rfl⟩⟩
    · obtain ⟨l, rfl⟩ := list_of rg_of h1
      exact ⟨l, .inr ⟨b, off, cap, C, E, fz, by simp, h2, fun i a hi j u hj => h3 i _ (by rw [List.getElem?_map, hi]; rfl) j u hj⟩⟩
  obtain ⟨l, hx⟩ := hx
  obtain ⟨u, ι', H', r1, r2, _, _, r5, r6, _⟩ := slice_arg enc_len (by decide) rg_plain (rel0 w) AllRo.empty rfl hx
  obtain ⟨d, hd⟩ := ev_iff.1 (h u l H' r6)
  exact law_calls fits0 (evF_ok fits0 ext_ok d) r1 r2 (by simpa using VRs.cons r5 (VRs.plain (fun _ => VR.plainV) ha)) rfl haf hd

theorem walk3 (v : Value) (p x c fr : Int) (w : World) (hv : Lies w v) (hp : (Lit.int .u64 p).wf = true) (hx : (Lit.int .u64 x).wf = true) (_ : (Lit.int .i64 c).wf = true) (_ : (Lit.int .i64 fr).wf = true) :
    Calls Try.prog 3 #[v, .int .u64 p, .int .u64 x, .int .i64 c, .int .i64 fr] w fun e w' => e = .returned (.bool true) ∧ Below w.heap.size w w' := by
  obtain ⟨p', ep, hp'⟩ := wf_u64 hp
  obtain ⟨x', ex, hx'⟩ := wf_u64 hx
  subst ep ex
  exact law_rg fn3 rfl w hv fun u l H hs => S3 hp' hx' c fr H hs
theorem walk4 (v : Value) (p : Int) (m r : Bool) (c fr : Int) (w : World) (hv : Lies w v) (hp : (Lit.int .u64 p).wf = true) (_ : (Lit.int .i64 c).wf = true) (_ : (Lit.int .i64 fr).wf = true) :
    Calls Try.prog 4 #[v, .int .u64 p, .bool m, .bool r, .int .i64 c, .int .i64 fr] w fun e w' => e = .returned (.bool true) ∧ Below w.heap.size w w' := by
  obtain ⟨p', ep, hp'⟩ := wf_u64 hp
  subst ep
  exact law_rg fn4 rfl w hv fun u l H hs => S4 hp' m r c fr H hs
end Go.Proofs.Ytiigiodagfalpaa.X
