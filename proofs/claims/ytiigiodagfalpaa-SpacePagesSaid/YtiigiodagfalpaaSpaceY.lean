/- Printed by xp.py: functions of the program, and that the code says so. -/
import Derived.Test.YtiigiodagfalpaaSpaceC
set_option maxRecDepth 100000
set_option maxHeartbeats 1000000
namespace Go.Proofs.Ytiigiodagfalpaa.Y
open Go.Ahe Go.Ahe.X
/-! slices.Insert[[]tenement/api.Region,tenement/api.Region] -/
noncomputable def cd32 : Code := (Try.f32.body).getD .skip
noncomputable def F32 (a0 a1 a2 : Value) (H : Hp) : O :=
  B (slc C0 22 a0 (some a1) none none) fun t12 =>
  B (lnS a2) fun t14 =>
  B (bo .eql 3 t14 (I 0)) fun t16 =>
  br t16 (
   some (a0, H)) (
   B (lnS a0) fun t19 =>
   B (bo .eql 3 a1 t19) fun t22 =>
   br t22 (
    B (appendE C0 22 22 a0 a2 H) fun p1 =>
    some (p1.1, p1.2)) (
    B (bo .add 3 t19 t14) fun t28 =>
    B (capE C0 22 a0) fun t30 =>
    B (bo .gtr 3 t28 t30) fun t31 =>
    br t31 (
     B (slc C0 22 a0 none (some a1) none) fun t34 =>
     B (bo .add 3 t19 t14) fun t37 =>
     B (bo .sub 3 t37 a1) fun t39 =>
     B (appendE C0 22 3 t34 t39 H) fun p2 =>
     B (slc C0 22 p2.1 (some a1) none none) fun t43 =>
     B (builtinE C0 .copy [22, 22] [t43, a2] p2.2) fun p3 =>
     B (bo .add 3 a1 t14) fun t49 =>
     B (slc C0 22 p2.1 (some t49) none none) fun t50 =>
     B (slc C0 22 a0 (some a1) none none) fun t53 =>
     B (builtinE C0 .copy [22, 22] [t50, t53] p3.2) fun p4 =>
     some (p2.1, p4.2)) (
     B (bo .add 3 t19 t14) fun t59 =>
     B (slc C0 22 a0 none (some t59) none) fun t60 =>
     B (bo .add 3 a1 t14) fun t65 =>
     B (slc C0 22 t60 (some t65) none none) fun t66 =>
     B (call 44 [a2, t66] H) fun p5 =>
     B (unE .not p5.1) fun t68 =>
     br t68 (
      B (bo .add 3 a1 t14) fun t72 =>
      B (slc C0 22 t60 (some t72) none none) fun t73 =>
      B (slc C0 22 t60 (some a1) none none) fun t76 =>
      B (builtinE C0 .copy [22, 22] [t73, t76] p5.2) fun p6 =>
      B (slc C0 22 t60 (some a1) none none) fun t80 =>
      B (builtinE C0 .copy [22, 22] [t80, a2] p6.2) fun p7 =>
      some (t60, p7.2)) (
      B (slc C0 22 t60 (some t19) none none) fun t86 =>
      B (builtinE C0 .copy [22, 22] [t86, a2] p5.2) fun p8 =>
      B (slc C0 22 t60 (some a1) none none) fun t91 =>
      B (call 45 [t91, t14] p8.2) fun p9 =>
      some (t60, p9.2)))))
noncomputable def af32 : AF := ⟨cd32, 95, Try.f32.results.toList, false, false⟩
theorem fn32 : C0.fn 32 = some af32 := by kernel_rfl
theorem b32 {a0 a1 a2 : Value} {H : Hp} {r : Value × Hp} (h : F32 a0 a1 a2 H = some r) : ∃ d, bodyE C0 (evF C0 d) af32 [a0, a1, a2] H = some r :=
  body_ok noX (by kernel_rfl) .e ((show evX C0 (ev C0) 95 cd32 .e (args0 95 [a0, a1, a2]) H (kRet C0 Try.f32.results.toList) = F32 a0 a1 a2 H by kernel_rfl).trans h)
theorem c32 {a0 a1 a2 : Value} {H : Hp} {r : Value × Hp} (h : F32 a0 a1 a2 H = some r) : call 32 [a0, a1, a2] H = some r := call_ok noX fn32 rfl rfl (b32 h)
end Go.Proofs.Ytiigiodagfalpaa.Y
