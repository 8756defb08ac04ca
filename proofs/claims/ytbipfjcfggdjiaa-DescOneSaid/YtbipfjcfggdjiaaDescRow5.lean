/- The row of DescOne: whatever the input, true; the input reads as it did. -/
import Derived.Test.YtbipfjcfggdjiaaDescW
import Derived.WalkKit
import Derived.ProofKit
import Derived.OpenShut
import Derived.ShutString
import Derived.ChangeOld
import Derived.Below
import Derived.SizedLaws
namespace Go.Proofs.Ytbipfjcfggdjiaa.descOne
open Go.ChangeShapes Go.WideShapes Go.ChangeAt Go.RowKit Go.Ahe Go.Ahe.X
open Go.ChangeMaps (open_string shut_string)
theorem own : ownKnob Try.prog.godebug = none := by kernel_rfl
theorem laidOut : laidOutB Try.prog = true := by kernel_rfl
set_option maxRecDepth 100000 in
theorem lifted (os : Os) (started : os.Started) (H : Type) (enc : TypeId × Value → H) :
    ReturnsInHanded {} Try.checked os 5 .any (Rows.descOneSpec.pre6 enc Try.prog Try.f5 Rows.descOneRow.domain false) (Rows.descOneSpec.post enc Try.prog Try.f5 false true false false) := by
  refine returnsInHanded_of_change_sized (C := Try.checked) own started (by kernel_rfl) Try.func5
    (ChangeSpec.witness6 (enc := enc) (C := Try.checked) false ⟨#[], #[.agg #[.int .i8 0, .int .i64 0, .bool false, .bool false, .bool false, .bool false], .agg #[.int .i8 0, .int .i64 0, .bool false, .bool false, .bool false, .bool false], .int .i64 0], []⟩ 8 (by kernel_rfl) (by kernel_rfl) (by kernel_rfl) (by kernel_rfl)) ?_
  intro W base args ds gs before hval0 hW hcnd hsz0 _
  have hval : ∀ (j : Nat) t v, Try.f5.params[j]? = some t → args[j]? = some v → Value.okWide Try.prog W .any base t v := hval0
  have hW' := hW
  obtain ⟨p, q, hA0, hV, rfl, hfz, hnd⟩ := hW
  have hA : DataW.TrodAll enc Try.prog W 0 (fun _ => true) true Try.f5.params.toList args.toList ds p := hA0
  rw [Try.params5] at hA hval
  obtain ⟨v0, vs0, d0, ds0, p0, q0, hargs, rfl, rfl, h0, r0⟩ := trodAll_cons hA
  obtain ⟨v1, vs1, d1, ds1, p1, q1, rfl, rfl, rfl, h1, r1⟩ := trodAll_cons r0
  obtain ⟨v2, vs2, d2, ds2, p2, q2, rfl, rfl, rfl, h2, r2⟩ := trodAll_cons r1
  obtain ⟨rfl, rfl, rfl⟩ := trodAll_nil r2
  obtain rfl : args = #[v0, v1, v2] := by cases args; simp_all
  obtain ⟨rfl, rfl⟩ := trodVars_none hV
  have k0 := h0
  have lt0 : ∀ x ∈ p0, x.block < W.heap.size := by obtain ⟨m, hm⟩ := k0; exact DataW.trod_lt m _ _ _ hm
  obtain ⟨cs0, rfl, hc0⟩ := open_flat_struct (d := 8) (ks := [.int .i8, .int .i64, .bool, .bool, .bool, .bool]) Try.underlying27 (by kernel_rfl) (hval 0 27 v0 rfl rfl) h0
  obtain ⟨c0_0, cs0, rfl, e0_0, hc0⟩ := cellsAre_cons hc0
  obtain ⟨c0_1, cs0, rfl, e0_1, hc0⟩ := cellsAre_cons hc0
  obtain ⟨c0_2, cs0, rfl, e0_2, hc0⟩ := cellsAre_cons hc0
  obtain ⟨c0_3, cs0, rfl, e0_3, hc0⟩ := cellsAre_cons hc0
  obtain ⟨c0_4, cs0, rfl, e0_4, hc0⟩ := cellsAre_cons hc0
  obtain ⟨c0_5, cs0, rfl, e0_5, hc0⟩ := cellsAre_cons hc0
  obtain rfl := cellsAre_nil hc0
  obtain ⟨x0_0, rfl, f0_0⟩ := e0_0
  obtain ⟨x0_1, rfl, f0_1⟩ := e0_1
  obtain ⟨x0_2, rfl⟩ := e0_2
  obtain ⟨x0_3, rfl⟩ := e0_3
  obtain ⟨x0_4, rfl⟩ := e0_4
  obtain ⟨x0_5, rfl⟩ := e0_5
  have k1 := h1
  have lt1 : ∀ x ∈ p1, x.block < W.heap.size := by obtain ⟨m, hm⟩ := k1; exact DataW.trod_lt m _ _ _ hm
  obtain ⟨cs1, rfl, hc1⟩ := open_flat_struct (d := 8) (ks := [.int .i8, .int .i64, .bool, .bool, .bool, .bool]) Try.underlying27 (by kernel_rfl) (hval 1 27 v1 rfl rfl) h1
  obtain ⟨c1_0, cs1, rfl, e1_0, hc1⟩ := cellsAre_cons hc1
  obtain ⟨c1_1, cs1, rfl, e1_1, hc1⟩ := cellsAre_cons hc1
  obtain ⟨c1_2, cs1, rfl, e1_2, hc1⟩ := cellsAre_cons hc1
  obtain ⟨c1_3, cs1, rfl, e1_3, hc1⟩ := cellsAre_cons hc1
  obtain ⟨c1_4, cs1, rfl, e1_4, hc1⟩ := cellsAre_cons hc1
  obtain ⟨c1_5, cs1, rfl, e1_5, hc1⟩ := cellsAre_cons hc1
  obtain rfl := cellsAre_nil hc1
  obtain ⟨x1_0, rfl, f1_0⟩ := e1_0
  obtain ⟨x1_1, rfl, f1_1⟩ := e1_1
  obtain ⟨x1_2, rfl⟩ := e1_2
  obtain ⟨x1_3, rfl⟩ := e1_3
  obtain ⟨x1_4, rfl⟩ := e1_4
  obtain ⟨x1_5, rfl⟩ := e1_5
  obtain ⟨a2, rfl, rfl, rfl, w2⟩ := open_int Try.underlying3 (hval 2 3 v2 rfl rfl) h2
  clear hA0 hval0
  refine (X.walk5 x0_0 x0_1 x0_2 x0_3 x0_4 x0_5 x1_0 x1_1 x1_2 x1_3 x1_4 x1_5 a2 W f0_0 f0_1 f1_0 f1_1 w2).mono fun e W' ⟨he, bel⟩ => ?_
  subst he
  exact ⟨_, rfl, _, _, _, [], _, [], hW', trodAll_mk1 (shut_bool Try.underlying4 _), (trodAll_cons_mk (Below.trod laidOut (by kernel_rfl) (of_decide_eq_true (by kernel_rfl)) k0 bel lt0) (trodAll_cons_mk (Below.trod laidOut (by kernel_rfl) (of_decide_eq_true (by kernel_rfl)) k1 bel lt1) (trodAll_cons_mk (shut_int Try.underlying3 w2) trodAll_mk0))), rfl, bel.frame _, fun h => by cases h⟩
theorem over : Rows.descOneRow.holds Try.pinned (OpenSpec.ofChange Rows.descOneSpec) :=
  OpenClaim.holds_of_wide 5 Try.f5 rfl rfl rfl rfl rfl rfl rfl ⟨rfl, rfl, rfl, rfl, rfl⟩ rfl rfl rfl rfl rfl (by kernel_rfl) Try.func5 (by kernel_rfl)
    (of_decide_eq_true (by kernel_rfl)) (by unfold Func.isWrapper; first | (rw [if_pos (by decide +kernel)]; kernel_rfl) | (rw [if_neg (by decide +kernel)]; exact ⟨rfl, rfl⟩))
    (fun os started H enc _ => lifted os started H enc)
theorem proved : Rows.DescOneSaid := over
#print axioms proved
end Go.Proofs.Ytbipfjcfggdjiaa.descOne
namespace Go.Proofs.Ytbipfjcfggdjiaa
/-- The row, under a short name, for the claim. -/
theorem descOne_holds : Rows.DescOneSaid := descOne.proved
end Go.Proofs.Ytbipfjcfggdjiaa

