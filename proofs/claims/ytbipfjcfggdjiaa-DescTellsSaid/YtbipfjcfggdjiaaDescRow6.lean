/- The row of DescTells: whatever the input, true; the input reads as it did. -/
import Derived.Test.YtbipfjcfggdjiaaDescS8
import Derived.WalkKit
import Derived.ProofKit
import Derived.OpenShut
import Derived.ShutString
import Derived.ChangeOld
import Derived.Below
import Derived.SizedLaws
namespace Go.Proofs.Ytbipfjcfggdjiaa.descTells
open Go.ChangeShapes Go.WideShapes Go.ChangeAt Go.RowKit Go.Ahe Go.Ahe.X
open Go.ChangeMaps (open_string shut_string)
theorem own : ownKnob Try.prog.godebug = none := by kernel_rfl
theorem laidOut : laidOutB Try.prog = true := by kernel_rfl
set_option maxRecDepth 100000 in
theorem lifted (os : Os) (started : os.Started) (H : Type) (enc : TypeId × Value → H) :
    ReturnsInHanded {} Try.checked os 6 .any (Rows.descTellsSpec.pre6 enc Try.prog Try.f6 Rows.descTellsRow.domain false) (Rows.descTellsSpec.post enc Try.prog Try.f6 false true false false) := by
  refine returnsInHanded_of_change_sized (C := Try.checked) own started (by kernel_rfl) Try.func6
    (ChangeSpec.witness6 (enc := enc) (C := Try.checked) false ⟨#[], #[.agg #[.int .i8 0, .int .i64 0, .bool false, .bool false, .bool false, .bool false], .int .u64 0, .int .u64 0, .int .i64 0], []⟩ 8 (by kernel_rfl) (by kernel_rfl) (by kernel_rfl) (by kernel_rfl)) ?_
  intro W base args ds gs before hval0 hW hcnd hsz0 _
  have hval : ∀ (j : Nat) t v, Try.f6.params[j]? = some t → args[j]? = some v → Value.okWide Try.prog W .any base t v := hval0
  have hW' := hW
  obtain ⟨p, q, hA0, hV, rfl, hfz, hnd⟩ := hW
  have hA : DataW.TrodAll enc Try.prog W 0 (fun _ => true) true Try.f6.params.toList args.toList ds p := hA0
  rw [Try.params6] at hA hval
  obtain ⟨v0, vs0, d0, ds0, p0, q0, hargs, rfl, rfl, h0, r0⟩ := trodAll_cons hA
  obtain ⟨v1, vs1, d1, ds1, p1, q1, rfl, rfl, rfl, h1, r1⟩ := trodAll_cons r0
  obtain ⟨v2, vs2, d2, ds2, p2, q2, rfl, rfl, rfl, h2, r2⟩ := trodAll_cons r1
  obtain ⟨v3, vs3, d3, ds3, p3, q3, rfl, rfl, rfl, h3, r3⟩ := trodAll_cons r2
  obtain ⟨rfl, rfl, rfl⟩ := trodAll_nil r3
  obtain rfl : args = #[v0, v1, v2, v3] := by cases args; simp_all
  obtain ⟨rfl, rfl⟩ := trodVars_none hV
  have k0 := h0
  have lt0 : ∀ x ∈ p0, x.block < W.heap.size := by obtain ⟨m, hm⟩ := k0; exact DataW.trod_lt m _ _ _ hm
  obtain ⟨cs0, rfl, hc0⟩ := open_flat_struct (d := 8) (ks := [.int .i8, .int .i64, .bool, .bool, .bool, .bool]) Try.underlying27 (by kernel_rfl) (hval 0 27 v0 rfl rfl) h0
  obtain ⟨c0_0, cs0, rfl, e0_0, hc0⟩ := cellsAre_cons hc0
  obtain ⟨c0_1, cs0, rfl, e0_1, hc0⟩ := cellsAre_cons hc0
  obtain ⟨c0_2, cs0, rfl, e0_2, hc0⟩ := cellsAre_cons hc0
  obtain ⟨c0_3, cs0, rfl, e0_3, hc0⟩ := cellsAre_cons hc0
  obtain ⟨c0_4, cs0, rfl, e0_4, hc0⟩ := cellsAre_cons hc0
  obtain ⟨c0_5, cs0, rfl, e0_5, hc0⟩ := cellsAre_cons hc0
  obtain rfl := cellsAre_nil hc0
  obtain ⟨x0_0, rfl, f0_0⟩ := e0_0
  obtain ⟨x0_1, rfl, f0_1⟩ := e0_1
  obtain ⟨x0_2, rfl⟩ := e0_2
  obtain ⟨x0_3, rfl⟩ := e0_3
  obtain ⟨x0_4, rfl⟩ := e0_4
  obtain ⟨x0_5, rfl⟩ := e0_5
  obtain ⟨a1, rfl, rfl, rfl, w1⟩ := open_int Try.underlying22 (hval 1 22 v1 rfl rfl) h1
  obtain ⟨a2, rfl, rfl, rfl, w2⟩ := open_int Try.underlying22 (hval 2 22 v2 rfl rfl) h2
  obtain ⟨a3, rfl, rfl, rfl, w3⟩ := open_int Try.underlying3 (hval 3 3 v3 rfl rfl) h3
  clear hA0 hval0
  refine (X.walk6 x0_0 x0_1 x0_2 x0_3 x0_4 x0_5 a1 a2 a3 W f0_0 f0_1 w1 w2 w3).mono fun e W' ⟨he, bel⟩ => ?_
  subst he
  exact ⟨_, rfl, _, _, _, [], _, [], hW', trodAll_mk1 (shut_bool Try.underlying4 _), (trodAll_cons_mk (Below.trod laidOut (by kernel_rfl) (of_decide_eq_true (by kernel_rfl)) k0 bel lt0) (trodAll_cons_mk (shut_int Try.underlying22 w1) (trodAll_cons_mk (shut_int Try.underlying22 w2) (trodAll_cons_mk (shut_int Try.underlying3 w3) trodAll_mk0)))), rfl, bel.frame _, fun h => by cases h⟩
theorem over : Rows.descTellsRow.holds Try.pinned (OpenSpec.ofChange Rows.descTellsSpec) :=
  OpenClaim.holds_of_wide 6 Try.f6 rfl rfl rfl rfl rfl rfl rfl ⟨rfl, rfl, rfl, rfl, rfl⟩ rfl rfl rfl rfl rfl (by kernel_rfl) Try.func6 (by kernel_rfl)
    (of_decide_eq_true (by kernel_rfl)) (by unfold Func.isWrapper; first | (rw [if_pos (by decide +kernel)]; kernel_rfl) | (rw [if_neg (by decide +kernel)]; exact ⟨rfl, rfl⟩))
    (fun os started H enc _ => lifted os started H enc)
theorem proved : Rows.DescTellsSaid := over
#print axioms proved
end Go.Proofs.Ytbipfjcfggdjiaa.descTells
namespace Go.Proofs.Ytbipfjcfggdjiaa
/-- The row, under a short name, for the claim. -/
theorem descTells_holds : Rows.DescTellsSaid := descTells.proved
end Go.Proofs.Ytbipfjcfggdjiaa

