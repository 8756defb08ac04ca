/- Printed by xp.py: functions of the program, and that the code says so. -/
import Derived.Test.YtiigiodagfalpaaSpaceF
set_option maxRecDepth 100000
set_option maxHeartbeats 1000000
namespace Go.Proofs.Ytiigiodagfalpaa.X
open Go.Ahe Go.Ahe.X
/-! tenement/tenementlaw19.pages -/
noncomputable def cd19 : Code := (Try.f19.body).getD .skip
noncomputable def F19b0 (k : Kx) (t0 t3 t6 t7 : Value) (H : Hp) (X : List Kx) : O :=
  B (bo .lss 3 t7 t6) fun t8 =>
  br t8 (
   B (ixS 3 t0 t7) fun t13 =>
   B (fa 1 t13) fun t14 =>
   B (ld1 t14 H) fun t15 =>
   B (bo .add 3 t3 t15) fun t16 =>
   B (bo .add 3 t7 (I 1)) fun t17 =>
   k [t0, t16, t6, t17] H) (
   nth X 0 [t3] H)
noncomputable def F19b0L : Kx → List Value → Hp → List Kx → O := fun k xs H X => F19b0 k (gv xs 0) (gv xs 1) (gv xs 2) (gv xs 3) H X
noncomputable def o19b0 : Orac C0 19 (lft (rgt (lft (rgt (rgt cd19))))) := loopO noX (by kernel_rfl) .e [0, 3, 6, 7] [(.ex 0, [3])] F19b0L fun k xs H X => by kernel_rfl
noncomputable def F19 (a0 : Value) (H : Hp) : O :=
  B (lnS a0) fun t6 =>
  loopS F19b0L rnd [a0, (I 0), t6, (I 0)] H [fun x1 h2 =>
    some ((gv x1 0), h2)]
noncomputable def af19 : AF := ⟨cd19, 19, Try.f19.results.toList, true, false⟩
theorem fn19 : C0.fn 19 = some af19 := by kernel_rfl
theorem b19 {a0 : Value} {H : Hp} {r : Value × Hp} (h : F19 a0 H = some r) : ∃ d, bodyE C0 (evF C0 d) af19 [a0] H = some r :=
  body_ok noX (by kernel_rfl) (.n none .e (.n none .e (.n none (.n none .e (.n none (.n (some o19b0) .e .e) .e)) .e))) ((show evX C0 (ev C0) 19 cd19 (.n none .e (.n none .e (.n none (.n none .e (.n none (.n (some o19b0) .e .e) .e)) .e))) (args0 19 [a0]) H (kRet C0 Try.f19.results.toList) = F19 a0 H by kernel_rfl).trans h)
theorem c19 {a0 : Value} {H : Hp} {v : Value} (hv : plainV v = true) (h : (F19 a0 (H.fresh [a0])).map (·.1) = some v) : call 19 [a0] H = some (v, H) := pure_map noX fn19 rfl hv h b19

/-! tenement/tenementlaw19.in -/
noncomputable def cd25 : Code := (Try.f25.body).getD .skip
noncomputable def F25 (a0 a1 : Value) (H : Hp) : O :=
  B (al (cellsOf a0) H) fun p1 =>
  B (fa 0 p1.1) fun t6 =>
  B (ld1 t6 p1.2) fun t7 =>
  B (bo .geq 23 a1 t7) fun t8 =>
  B (gd t8 true (some a1)) fun t10 =>
  B (gd t8 true (fa 0 p1.1)) fun t11 =>
  B (gd t8 true (ld1 t11 p1.2)) fun t12 =>
  B (gd t8 true (bo .sub 23 t10 t12)) fun t13 =>
  B (gd t8 true (fa 1 p1.1)) fun t14 =>
  B (gd t8 true (ld1 t14 p1.2)) fun t15 =>
  B (gd t8 true (maxE [t15, (I 0)])) fun t16 =>
  B (gd t8 true (cvI .u64 t16)) fun t17 =>
  B (gd t8 true (bo .lss 23 t13 t17)) fun t18 =>
  B (pk t8 (some t18) (some (.bool false))) fun t19 =>
  some (t19, p1.2)
noncomputable def af25 : AF := ⟨cd25, 20, Try.f25.results.toList, true, false⟩
theorem fn25 : C0.fn 25 = some af25 := by kernel_rfl
theorem b25 {a0 a1 : Value} {H : Hp} {r : Value × Hp} (h : F25 a0 a1 H = some r) : ∃ d, bodyE C0 (evF C0 d) af25 [a0, a1] H = some r :=
  body_ok noX (by kernel_rfl) .e ((show evX C0 (ev C0) 20 cd25 .e (args0 20 [a0, a1]) H (kRet C0 Try.f25.results.toList) = F25 a0 a1 H by kernel_rfl).trans h)
theorem c25 {a0 a1 : Value} {H : Hp} {v : Value} (hv : plainV v = true) (h : (F25 a0 a1 (H.fresh [a0, a1])).map (·.1) = some v) : call 25 [a0, a1] H = some (v, H) := pure_map noX fn25 rfl hv h b25

/-! tenement/space.Whole -/
noncomputable def cd21 : Code := (Try.f21.body).getD .skip
noncomputable def F21b0 (k : Kx) (t0 t7 t8 : Value) (H : Hp) (X : List Kx) : O :=
  B (bo .lss 23 t7 t8) fun t36 =>
  br t36 (
   B (call 31 [t0, t7] H) fun p2 =>
   B (extractE p2.1 0) fun t41 =>
   B (extractE p2.1 1) fun t42 =>
   B (unE .not t42) fun t44 =>
   br t44 (
    nth X 0 [(.bool false)] p2.2) (
    B (ixS 3 t0 t41) fun t47 =>
    B (ldA 3 t47 p2.2) fun t48 =>
    B (call 30 [t48] p2.2) fun p3 =>
    k [t0, p3.1, t8] p3.2)) (
   nth X 1 [] H)
noncomputable def F21b0L : Kx → List Value → Hp → List Kx → O := fun k xs H X => F21b0 k (gv xs 0) (gv xs 1) (gv xs 2) H X
noncomputable def o21b0 : Orac C0 50 (lft (rgt (lft (rgt (rgt cd21))))) := loopO noX (by kernel_rfl) .e [0, 7, 8] [(.rt, [6]), (.ex 0, [])] F21b0L fun k xs H X => by kernel_rfl
noncomputable def F21 (a0 a1 a2 : Value) (H : Hp) : O :=
  B (call 14 [a0] H) fun p1 =>
  B (bo .neq 28 p1.1 (I 0)) fun t13 =>
  B (gd t13 false (some a2)) fun t15 =>
  B (gd t13 false (bo .lss 3 t15 (I 1))) fun t16 =>
  B (pk t13 (some (.bool true)) (some t16)) fun t17 =>
  B (gd t17 false (some a2)) fun t19 =>
  B (gd t17 false (bo .gtr 3 t19 (I 16))) fun t20 =>
  B (pk t17 (some (.bool true)) (some t20)) fun t21 =>
  B (gd t21 false (some a1)) fun t23 =>
  B (gd t21 false (some a2)) fun t24 =>
  B (gd t21 false (cvI .u64 t24)) fun t25 =>
  B (gd t21 false (bo .sub 23 (U 34359738368) t25)) fun t26 =>
  B (gd t21 false (bo .gtr 23 t23 t26)) fun t27 =>
  B (pk t21 (some (.bool true)) (some t27)) fun t28 =>
  br t28 (
   some ((.bool false), p1.2)) (
   B (cvI .u64 a2) fun t32 =>
   B (bo .add 23 a1 t32) fun t33 =>
   loopS F21b0L rnd [a0, a1, t33] p1.2 [fun x4 h5 =>
     some ((gv x4 0), h5),
    fun x6 h7 =>
     some ((.bool true), h7)])
noncomputable def af21 : AF := ⟨cd21, 50, Try.f21.results.toList, true, false⟩
theorem fn21 : C0.fn 21 = some af21 := by kernel_rfl
theorem b21 {a0 a1 a2 : Value} {H : Hp} {r : Value × Hp} (h : F21 a0 a1 a2 H = some r) : ∃ d, bodyE C0 (evF C0 d) af21 [a0, a1, a2] H = some r :=
  body_ok noX (by kernel_rfl) (.n none .e (.n none .e (.n none (.n none .e (.n none (.n (some o21b0) .e .e) .e)) .e))) ((show evX C0 (ev C0) 50 cd21 (.n none .e (.n none .e (.n none (.n none .e (.n none (.n (some o21b0) .e .e) .e)) .e))) (args0 50 [a0, a1, a2]) H (kRet C0 Try.f21.results.toList) = F21 a0 a1 a2 H by kernel_rfl).trans h)
theorem c21 {a0 a1 a2 : Value} {H : Hp} {v : Value} (hv : plainV v = true) (h : (F21 a0 a1 a2 (H.fresh [a0, a1, a2])).map (·.1) = some v) : call 21 [a0, a1, a2] H = some (v, H) := pure_map noX fn21 rfl hv h b21

/-! tenement/tenementref19.Whole -/
noncomputable def cd22 : Code := (Try.f22.body).getD .skip
noncomputable def F22b0 (k : Kx) (t0 t1 t2 t7 : Value) (H : Hp) (X : List Kx) : O :=
  B (bo .lss 3 t7 t2) fun t25 =>
  br t25 (
   B (cvI .u64 t7) fun t32 =>
   B (bo .add 23 t1 t32) fun t33 =>
   B (call 10 [t0, t33] H) fun p1 =>
   B (extractE p1.1 0) fun t35 =>
   B (extractE p1.1 1) fun t36 =>
   B (al [U 0, I 0, .bool false] p1.2) fun p2 =>
   B (st 3 p2.1 t35 p2.2) fun p3 =>
   B (unE .not t36) fun t38 =>
   br t38 (
    nth X 0 [(.bool false)] p3.2) (
    B (bo .add 3 t7 (I 1)) fun t27 =>
    k [t0, t1, t2, t27] p3.2)) (
   nth X 1 [] H)
noncomputable def F22b0L : Kx → List Value → Hp → List Kx → O := fun k xs H X => F22b0 k (gv xs 0) (gv xs 1) (gv xs 2) (gv xs 3) H X
noncomputable def o22b0 : Orac C0 39 (lft (rgt (lft (rgt (rgt cd22))))) := loopO noX (by kernel_rfl) .e [0, 1, 2, 7] [(.rt, [6]), (.ex 0, [])] F22b0L fun k xs H X => by kernel_rfl
noncomputable def F22 (a0 a1 a2 : Value) (H : Hp) : O :=
  B (bo .lss 3 a2 (I 1)) fun t11 =>
  B (gd t11 false (some a2)) fun t13 =>
  B (gd t11 false (bo .gtr 3 t13 (I 16))) fun t14 =>
  B (pk t11 (some (.bool true)) (some t14)) fun t15 =>
  B (gd t15 false (some a1)) fun t17 =>
  B (gd t15 false (some a2)) fun t18 =>
  B (gd t15 false (cvI .u64 t18)) fun t19 =>
  B (gd t15 false (bo .sub 23 (U 34359738368) t19)) fun t20 =>
  B (gd t15 false (bo .gtr 23 t17 t20)) fun t21 =>
  B (pk t15 (some (.bool true)) (some t21)) fun t22 =>
  br t22 (
   some ((.bool false), H)) (
   loopS F22b0L rnd [a0, a1, a2, (I 0)] H [fun x4 h5 =>
     some ((gv x4 0), h5),
    fun x6 h7 =>
     some ((.bool true), h7)])
noncomputable def af22 : AF := ⟨cd22, 39, Try.f22.results.toList, true, false⟩
theorem fn22 : C0.fn 22 = some af22 := by kernel_rfl
theorem b22 {a0 a1 a2 : Value} {H : Hp} {r : Value × Hp} (h : F22 a0 a1 a2 H = some r) : ∃ d, bodyE C0 (evF C0 d) af22 [a0, a1, a2] H = some r :=
  body_ok noX (by kernel_rfl) (.n none .e (.n none .e (.n none (.n none .e (.n none (.n (some o22b0) .e .e) .e)) .e))) ((show evX C0 (ev C0) 39 cd22 (.n none .e (.n none .e (.n none (.n none .e (.n none (.n (some o22b0) .e .e) .e)) .e))) (args0 39 [a0, a1, a2]) H (kRet C0 Try.f22.results.toList) = F22 a0 a1 a2 H by kernel_rfl).trans h)
theorem c22 {a0 a1 a2 : Value} {H : Hp} {v : Value} (hv : plainV v = true) (h : (F22 a0 a1 a2 (H.fresh [a0, a1, a2])).map (·.1) = some v) : call 22 [a0, a1, a2] H = some (v, H) := pure_map noX fn22 rfl hv h b22

/-! tenement/tenementref19.Pages -/
noncomputable def cd23 : Code := (Try.f23.body).getD .skip
noncomputable def F23b1 (k : Kx) (t0 t3 t4 t5 : Value) (H : Hp) (X : List Kx) : O :=
  B (ixS 3 t0 t4) fun t20 =>
  B (fa 1 t20) fun t21 =>
  B (ld1 t21 H) fun t22 =>
  B (bo .lss 3 t5 t22) fun t23 =>
  br t23 (
   B (ixS 3 t0 t4) fun t29 =>
   B (fa 0 t29) fun t30 =>
   B (ld1 t30 H) fun t31 =>
   B (cvI .u64 t5) fun t33 =>
   B (bo .add 23 t31 t33) fun t34 =>
   B (bsl 1 [U 0] 1 [(0, t34)] H) fun p2 =>
   B (appendE C0 47 47 t3 p2.1 p2.2) fun p3 =>
   B (bo .add 3 t5 (I 1)) fun t25 =>
   k [t0, p3.1, t4, t25] p3.2) (
   nth X 0 [t0, t3, t4] H)
noncomputable def F23b1L : Kx → List Value → Hp → List Kx → O := fun k xs H X => F23b1 k (gv xs 0) (gv xs 1) (gv xs 2) (gv xs 3) H X
noncomputable def o23b1 : Orac C0 38 (lft (rgt (lft (lft (rgt (lft (lft (rgt (lft (rgt (rgt cd23))))))))))) := loopO noX (by kernel_rfl) .e [0, 3, 4, 5] [(.ex 2, [0, 3, 4])] F23b1L fun k xs H X => by kernel_rfl
noncomputable def F23b0 (k : Kx) (t0 t3 t4 : Value) (H : Hp) (X : List Kx) : O :=
  B (lnS t0) fun t8 =>
  B (bo .lss 3 t4 t8) fun t9 =>
  B (gd t9 true (some t0)) fun t11 =>
  B (gh t9 true (call 11 [t11] H) H) fun p1 =>
  B (gd t9 true (bo .eql 28 p1.1 (I 0))) fun t13 =>
  B (pk t9 (some t13) (some (.bool false))) fun t14 =>
  br t14 (
   loopS F23b1L rnd [t0, t3, t4, (I 0)] p1.2 [fun x4 h5 =>
     B (bo .add 3 (gv x4 2) (I 1)) fun t16 =>
     k [(gv x4 0), (gv x4 1), t16] h5]) (
   nth X 0 [t3] p1.2)
noncomputable def F23b0L : Kx → List Value → Hp → List Kx → O := fun k xs H X => F23b0 k (gv xs 0) (gv xs 1) (gv xs 2) H X
noncomputable def o23b0 : Orac C0 38 (lft (rgt (lft (rgt (rgt cd23))))) := loopO noX (by kernel_rfl) (.n none .e (.n none (.n none (.n none .e (.n none (.n (some o23b1) .e .e) .e)) .e) .e)) [0, 3, 4] [(.ex 0, [3])] F23b0L fun k xs H X => by kernel_rfl
noncomputable def F23 (a0 : Value) (H : Hp) : O :=
  loopS F23b0L rnd [a0, (.slice none 0 0), (I 0)] H [fun x6 h7 =>
    some ((gv x6 0), h7)]
noncomputable def af23 : AF := ⟨cd23, 38, Try.f23.results.toList, false, true⟩
theorem fn23 : C0.fn 23 = some af23 := by kernel_rfl
theorem b23 {a0 : Value} {H : Hp} {r : Value × Hp} (h : F23 a0 H = some r) : ∃ d, bodyE C0 (evF C0 d) af23 [a0] H = some r :=
  body_ok noX (by kernel_rfl) (.n none .e (.n none .e (.n none (.n none .e (.n none (.n (some o23b0) (.n none .e (.n none (.n none (.n none .e (.n none (.n (some o23b1) .e .e) .e)) .e) .e)) .e) .e)) .e))) ((show evX C0 (ev C0) 38 cd23 (.n none .e (.n none .e (.n none (.n none .e (.n none (.n (some o23b0) (.n none .e (.n none (.n none (.n none .e (.n none (.n (some o23b1) .e .e) .e)) .e) .e)) .e) .e)) .e))) (args0 38 [a0]) H (kRet C0 Try.f23.results.toList) = F23 a0 H by kernel_rfl).trans h)
theorem c23 {a0 : Value} {H H' : Hp} {v : Value} (h : F23 a0 H.raised = some (v, H')) : call 23 [a0] H = some (v, H'.lowered H.floor) := mk_ok noX fn23 rfl rfl (b23 h)

/-! tenement/space.Pages -/
noncomputable def cd24 : Code := (Try.f24.body).getD .skip
noncomputable def F24j0 (t1 : Value) (H : Hp) (X : List Kx) : O :=
  B (ld1 t1 H) fun t6 =>
  B (call 33 [t6] H) fun p2 =>
  B (st 1 t1 p2.1 p2.2) fun p3 =>
  nth X 0 [(.func (.func 37) #[] #[t1])] p3.2
noncomputable def o24j0 : Orac C0 9 (rgt (rgt cd24)) := joinO noX .e [1] [(.rt, [2])] (fun xs H X => F24j0 (gv xs 0) H X) fun xs H X => by kernel_rfl
noncomputable def F24 (a0 : Value) (H : Hp) : O :=
  B (al (cellsOf a0) H) fun p1 =>
  B (ld1 p1.1 p1.2) fun t3 =>
  B (call 14 [t3] p1.2) fun p4 =>
  B (bo .neq 28 p4.1 (I 0)) fun t5 =>
  br t5 (
   B (st 1 p1.1 (.slice none 0 0) p4.2) fun p5 =>
   F24j0 p1.1 p5.2 [fun x6 h7 =>
     some ((gv x6 0), h7)]) (
   F24j0 p1.1 p4.2 [fun x8 h9 =>
     some ((gv x8 0), h9)])
noncomputable def af24 : AF := ⟨cd24, 9, Try.f24.results.toList, false, false⟩
theorem fn24 : C0.fn 24 = some af24 := by kernel_rfl
theorem b24 {a0 : Value} {H : Hp} {r : Value × Hp} (h : F24 a0 H = some r) : ∃ d, bodyE C0 (evF C0 d) af24 [a0] H = some r :=
  body_ok noX (by kernel_rfl) (.n none .e (.n none .e (.n (some o24j0) .e .e))) ((show evX C0 (ev C0) 9 cd24 (.n none .e (.n none .e (.n (some o24j0) .e .e))) (args0 9 [a0]) H (kRet C0 Try.f24.results.toList) = F24 a0 H by kernel_rfl).trans h)
theorem c24 {a0 : Value} {H : Hp} {r : Value × Hp} (h : F24 a0 H = some r) : call 24 [a0] H = some r := call_ok noX fn24 rfl rfl (b24 h)

/-! slices.Clone[[]tenement/api.Region,tenement/api.Region] -/
noncomputable def cd33 : Code := (Try.f33.body).getD .skip
noncomputable def F33 (a0 : Value) (H : Hp) : O :=
  B (bo .eql 22 a0 (.slice none 0 0)) fun t4 =>
  br t4 (
   some ((.slice none 0 0), H)) (
   B (bsl 3 [U 0, I 0, .bool false] 0 [] H) fun p1 =>
   B (appendE C0 22 22 p1.1 a0 p1.2) fun p2 =>
   some (p2.1, p2.2))
noncomputable def af33 : AF := ⟨cd33, 8, Try.f33.results.toList, false, true⟩
theorem fn33 : C0.fn 33 = some af33 := by kernel_rfl
theorem b33 {a0 : Value} {H : Hp} {r : Value × Hp} (h : F33 a0 H = some r) : ∃ d, bodyE C0 (evF C0 d) af33 [a0] H = some r :=
  body_ok noX (by kernel_rfl) .e ((show evX C0 (ev C0) 8 cd33 .e (args0 8 [a0]) H (kRet C0 Try.f33.results.toList) = F33 a0 H by kernel_rfl).trans h)
theorem c33 {a0 : Value} {H H' : Hp} {v : Value} (h : F33 a0 H.raised = some (v, H')) : call 33 [a0] H = some (v, H'.lowered H.floor) := mk_ok noX fn33 rfl rfl (b33 h)

/-! tenement/space.Unmap$1 -/
noncomputable def cd35 : Code := (Try.f35.body).getD .skip
noncomputable def F35 (a0 : Value) (H : Hp) : O :=
  B (al (cellsOf a0) H) fun p1 =>
  some ((.slice none 0 0), p1.2)
noncomputable def af35 : AF := ⟨cd35, 3, Try.f35.results.toList, false, false⟩
theorem fn35 : C0.fn 35 = some af35 := by kernel_rfl
theorem b35 {a0 : Value} {H : Hp} {r : Value × Hp} (h : F35 a0 H = some r) : ∃ d, bodyE C0 (evF C0 d) af35 [a0] H = some r :=
  body_ok noX (by kernel_rfl) .e ((show evX C0 (ev C0) 3 cd35 .e (args0 3 [a0]) H (kRet C0 Try.f35.results.toList) = F35 a0 H by kernel_rfl).trans h)
theorem c35 {a0 : Value} {H : Hp} {r : Value × Hp} (h : F35 a0 H = some r) : call 35 [a0] H = some r := call_ok noX fn35 rfl rfl (b35 h)

/-! tenement/space.Protect$1 -/
noncomputable def cd36 : Code := (Try.f36.body).getD .skip
noncomputable def F36 (a0 a1 : Value) (H : Hp) : O :=
  B (al (cellsOf a0) H) fun p1 =>
  B (ld1 a1 p1.2) fun t4 =>
  B (fa 2 p1.1) fun t5 =>
  B (st 1 t5 t4 p1.2) fun p2 =>
  B (ldA 3 p1.1 p2.2) fun t6 =>
  B (bsl 3 [U 0, I 0, .bool false] 1 [(0, t6)] p2.2) fun p3 =>
  some (p3.1, p3.2)
noncomputable def af36 : AF := ⟨cd36, 8, Try.f36.results.toList, false, false⟩
theorem fn36 : C0.fn 36 = some af36 := by kernel_rfl
theorem b36 {a0 a1 : Value} {H : Hp} {r : Value × Hp} (h : F36 a0 a1 H = some r) : ∃ d, bodyE C0 (evF C0 d) af36 [a0, a1] H = some r :=
  body_ok noX (by kernel_rfl) .e ((show evX C0 (ev C0) 8 cd36 .e (args0 8 [a0, a1]) H (kRet C0 Try.f36.results.toList) = F36 a0 a1 H by kernel_rfl).trans h)
theorem c36 {a0 a1 : Value} {H : Hp} {r : Value × Hp} (h : F36 a0 a1 H = some r) : call 36 [a0, a1] H = some r := call_ok noX fn36 rfl rfl (b36 h)

/-! tenement/space.change$1 -/
noncomputable def cd46 : Code := (Try.f46.body).getD .skip
noncomputable def F46 (a0 a1 a2 : Value) (H : Hp) : O :=
  B (bo .geq 23 a0 a1) fun t9 =>
  br t9 (
   some ((.slice none 0 0), H)) (
   B (bo .sub 23 a1 a0) fun t13 =>
   B (cvI .i64 t13) fun t14 =>
   B (bd [(0, 1), (1, 1), (2, 1)] [U 0, I 0, .bool false] [(0, a0), (1, t14), (2, a2)]) fun t16 =>
   B (bsl 3 [U 0, I 0, .bool false] 1 [(0, t16)] H) fun p1 =>
   some (p1.1, p1.2))
noncomputable def af46 : AF := ⟨cd46, 18, Try.f46.results.toList, false, false⟩
theorem fn46 : C0.fn 46 = some af46 := by kernel_rfl
theorem b46 {a0 a1 a2 : Value} {H : Hp} {r : Value × Hp} (h : F46 a0 a1 a2 H = some r) : ∃ d, bodyE C0 (evF C0 d) af46 [a0, a1, a2] H = some r :=
  body_ok noX (by kernel_rfl) .e ((show evX C0 (ev C0) 18 cd46 .e (args0 18 [a0, a1, a2]) H (kRet C0 Try.f46.results.toList) = F46 a0 a1 a2 H by kernel_rfl).trans h)
theorem c46 {a0 a1 a2 : Value} {H : Hp} {r : Value × Hp} (h : F46 a0 a1 a2 H = some r) : call 46 [a0, a1, a2] H = some r := call_ok noX fn46 rfl rfl (b46 h)

/-! tenement/space.cut[tenement/api.Region] -/
noncomputable def cd47 : Code := (Try.f47.body).getD .skip
noncomputable def F47b0 (k : Kx) (t1 t5 t8 t9 t10 : Value) (H : Hp) (X : List Kx) : O :=
  B (bo .lss 3 t10 t9) fun t11 =>
  br t11 (
   B (ixS 3 t8 t10) fun t12 =>
   B (ldA 3 t12 H) fun t13 =>
   B (al [U 0, I 0, .bool false] H) fun p1 =>
   B (st 3 p1.1 t13 p1.2) fun p2 =>
   B (ldA 3 p1.1 p2.2) fun t16 =>
   B (cl (ev C0) t1 [t16] p2.2) fun p3 =>
   B (appendE C0 22 22 t5 p3.1 p3.2) fun p4 =>
   B (bo .add 3 t10 (I 1)) fun t19 =>
   k [t1, p4.1, t8, t9, t19] p4.2) (
   nth X 0 [t5] H)
noncomputable def F47b0L : Kx → List Value → Hp → List Kx → O := fun k xs H X => F47b0 k (gv xs 0) (gv xs 1) (gv xs 2) (gv xs 3) (gv xs 4) H X
noncomputable def o47b0 : Orac C0 21 (lft (rgt (lft (rgt (rgt cd47))))) := loopO noX (by kernel_rfl) .e [1, 5, 8, 9, 10] [(.ex 0, [5])] F47b0L fun k xs H X => by kernel_rfl
noncomputable def F47 (a0 a1 : Value) (H : Hp) : O :=
  B (lnS a0) fun t9 =>
  loopS F47b0L rnd [a1, (.slice none 0 0), a0, t9, (I 0)] H [fun x5 h6 =>
    some ((gv x5 0), h6)]
noncomputable def af47 : AF := ⟨cd47, 21, Try.f47.results.toList, false, false⟩
theorem fn47 : C0.fn 47 = some af47 := by kernel_rfl
theorem b47 {a0 a1 : Value} {H : Hp} {r : Value × Hp} (h : F47 a0 a1 H = some r) : ∃ d, bodyE C0 (evF C0 d) af47 [a0, a1] H = some r :=
  body_ok noX (by kernel_rfl) (.n none .e (.n none .e (.n none (.n none .e (.n none (.n (some o47b0) .e .e) .e)) .e))) ((show evX C0 (ev C0) 21 cd47 (.n none .e (.n none .e (.n none (.n none .e (.n none (.n (some o47b0) .e .e) .e)) .e))) (args0 21 [a0, a1]) H (kRet C0 Try.f47.results.toList) = F47 a0 a1 H by kernel_rfl).trans h)
theorem c47 {a0 a1 : Value} {H : Hp} {r : Value × Hp} (h : F47 a0 a1 H = some r) : call 47 [a0, a1] H = some r := call_ok noX fn47 rfl rfl (b47 h)

/-! tenement/space.change$2 -/
noncomputable def cd48 : Code := (Try.f48.body).getD .skip
noncomputable def F48b0 (k : Kx) (t1 t3 t4 t5 t7 t33 t34 t35 : Value) (H : Hp) (X : List Kx) : O :=
  B (bo .lss 3 t35 t34) fun t36 =>
  br t36 (
   B (ixS 3 t33 t35) fun t37 =>
   B (ldA 3 t37 H) fun t38 =>
   B (al [U 0, I 0, .bool false] H) fun p7 =>
   B (st 3 p7.1 t38 p7.2) fun p8 =>
   B (ld1 t4 p8.2) fun t40 =>
   B (ldA 3 p7.1 p8.2) fun t41 =>
   B (cl (ev C0) t40 [t41] p8.2) fun p9 =>
   B (appendE C0 22 22 t7 p9.1 p9.2) fun p10 =>
   B (bo .add 3 t35 (I 1)) fun t44 =>
   k [t1, t3, t4, t5, p10.1, t33, t34, t44] p10.2) (
   nth X 0 [t1, t3, t5, t7] H)
noncomputable def F48b0L : Kx → List Value → Hp → List Kx → O := fun k xs H X => F48b0 k (gv xs 0) (gv xs 1) (gv xs 2) (gv xs 3) (gv xs 4) (gv xs 5) (gv xs 6) (gv xs 7) H X
noncomputable def o48b0 : Orac C0 57 (lft (rgt (lft (rgt (rgt (rgt cd48)))))) := loopO noX (by kernel_rfl) .e [1, 3, 4, 5, 7, 33, 34, 35] [(.ex 0, [1, 3, 5, 7])] F48b0L fun k xs H X => by kernel_rfl
noncomputable def F48 (a0 a1 a2 a3 a4 : Value) (H : Hp) : O :=
  B (al (cellsOf a0) H) fun p1 =>
  B (ld1 a1 p1.2) fun t11 =>
  B (fa 0 p1.1) fun t12 =>
  B (ld1 t12 p1.2) fun t13 =>
  B (ldA 3 p1.1 p1.2) fun t14 =>
  B (call 30 [t14] p1.2) fun p2 =>
  B (ld1 a2 p2.2) fun t16 =>
  B (minE [p2.1, t16]) fun t17 =>
  B (fa 2 p1.1) fun t18 =>
  B (ld1 t18 p2.2) fun t19 =>
  B (cl (ev C0) t11 [t13, t17, t19] p2.2) fun p3 =>
  B (appendE C0 22 22 (.slice none 0 0) p3.1 p3.2) fun p4 =>
  B (ld1 a1 p4.2) fun t22 =>
  B (fa 0 p1.1) fun t23 =>
  B (ld1 t23 p4.2) fun t24 =>
  B (ld1 a2 p4.2) fun t25 =>
  B (maxE [t24, t25]) fun t26 =>
  B (ldA 3 p1.1 p4.2) fun t27 =>
  B (call 30 [t27] p4.2) fun p5 =>
  B (ld1 a3 p5.2) fun t29 =>
  B (minE [p5.1, t29]) fun t30 =>
  B (fa 2 p1.1) fun t31 =>
  B (ld1 t31 p5.2) fun t32 =>
  B (cl (ev C0) t22 [t26, t30, t32] p5.2) fun p6 =>
  B (lnS p6.1) fun t34 =>
  loopS F48b0L rnd [a1, a3, a4, p1.1, p4.1, p6.1, t34, (I 0)] p6.2 [fun x11 h12 =>
    B (ld1 (gv x11 0) h12) fun t46 =>
    B (fa 0 (gv x11 2)) fun t47 =>
    B (ld1 t47 h12) fun t48 =>
    B (ld1 (gv x11 1) h12) fun t49 =>
    B (maxE [t48, t49]) fun t50 =>
    B (ldA 3 (gv x11 2) h12) fun t51 =>
    B (call 30 [t51] h12) fun p13 =>
    B (fa 2 (gv x11 2)) fun t53 =>
    B (ld1 t53 p13.2) fun t54 =>
    B (cl (ev C0) t46 [t50, p13.1, t54] p13.2) fun p14 =>
    B (appendE C0 22 22 (gv x11 3) p14.1 p14.2) fun p15 =>
    some (p15.1, p15.2)]
noncomputable def af48 : AF := ⟨cd48, 57, Try.f48.results.toList, false, false⟩
theorem fn48 : C0.fn 48 = some af48 := by kernel_rfl
theorem b48 {a0 a1 a2 a3 a4 : Value} {H : Hp} {r : Value × Hp} (h : F48 a0 a1 a2 a3 a4 H = some r) : ∃ d, bodyE C0 (evF C0 d) af48 [a0, a1, a2, a3, a4] H = some r :=
  body_ok noX (by kernel_rfl) (.n none .e (.n none .e (.n none .e (.n none (.n none .e (.n none (.n (some o48b0) .e .e) .e)) .e)))) ((show evX C0 (ev C0) 57 cd48 (.n none .e (.n none .e (.n none .e (.n none (.n none .e (.n none (.n (some o48b0) .e .e) .e)) .e)))) (args0 57 [a0, a1, a2, a3, a4]) H (kRet C0 Try.f48.results.toList) = F48 a0 a1 a2 a3 a4 H by kernel_rfl).trans h)
theorem c48 {a0 a1 a2 a3 a4 : Value} {H : Hp} {r : Value × Hp} (h : F48 a0 a1 a2 a3 a4 H = some r) : call 48 [a0, a1, a2, a3, a4] H = some r := call_ok noX fn48 rfl rfl (b48 h)

/-! tenement/space.change -/
noncomputable def cd34 : Code := (Try.f34.body).getD .skip
noncomputable def F34 (a0 a1 a2 a3 : Value) (H : Hp) : O :=
  B (al (cellsOf a1) H) fun p1 =>
  B (al (cellsOf a3) p1.2) fun p2 =>
  B (call 14 [a0] p2.2) fun p3 =>
  B (bo .neq 28 p3.1 (I 0)) fun t16 =>
  br t16 (
   some (.tuple #[(.slice none 0 0), (I 2)], p3.2)) (
   B (ld1 p1.1 p3.2) fun t19 =>
   B (call 21 [a0, t19, a2] p3.2) fun p4 =>
   B (unE .not p4.1) fun t22 =>
   br t22 (
    some (.tuple #[(.slice none 0 0), (I 190)], p4.2)) (
    B (ld1 p1.1 p4.2) fun t23 =>
    B (cvI .u64 a2) fun t25 =>
    B (bo .add 23 t23 t25) fun t26 =>
    B (al [U 0] p4.2) fun p5 =>
    B (st 1 p5.1 t26 p5.2) fun p6 =>
    B (al [.nilFunc] p6.2) fun p7 =>
    B (st 1 p7.1 (fnv 46) p7.2) fun p8 =>
    B (call 47 [a0, (.func (.func 48) #[] #[p7.1, p1.1, p5.1, p2.1])] p8.2) fun p9 =>
    B (lnS p9.1) fun t31 =>
    B (bo .gtr 3 t31 (I 8)) fun t32 =>
    br t32 (
     some (.tuple #[(.slice none 0 0), (I 20)], p9.2)) (
     some (.tuple #[p9.1, (I 0)], p9.2))))
noncomputable def af34 : AF := ⟨cd34, 34, Try.f34.results.toList, false, false⟩
theorem fn34 : C0.fn 34 = some af34 := by kernel_rfl
theorem b34 {a0 a1 a2 a3 : Value} {H : Hp} {r : Value × Hp} (h : F34 a0 a1 a2 a3 H = some r) : ∃ d, bodyE C0 (evF C0 d) af34 [a0, a1, a2, a3] H = some r :=
  body_ok noX (by kernel_rfl) .e ((show evX C0 (ev C0) 34 cd34 .e (args0 34 [a0, a1, a2, a3]) H (kRet C0 Try.f34.results.toList) = F34 a0 a1 a2 a3 H by kernel_rfl).trans h)
theorem c34 {a0 a1 a2 a3 : Value} {H : Hp} {r : Value × Hp} (h : F34 a0 a1 a2 a3 H = some r) : call 34 [a0, a1, a2, a3] H = some r := call_ok noX fn34 rfl rfl (b34 h)

/-! tenement/space.Unmap -/
noncomputable def cd17 : Code := (Try.f17.body).getD .skip
noncomputable def F17 (a0 a1 a2 : Value) (H : Hp) : O :=
  B (call 34 [a0, a1, a2, (fnv 35)] H) fun p1 =>
  B (extractE p1.1 0) fun t12 =>
  B (extractE p1.1 1) fun t13 =>
  some (.tuple #[t12, t13], p1.2)
noncomputable def af17 : AF := ⟨cd17, 14, Try.f17.results.toList, false, false⟩
theorem fn17 : C0.fn 17 = some af17 := by kernel_rfl
theorem b17 {a0 a1 a2 : Value} {H : Hp} {r : Value × Hp} (h : F17 a0 a1 a2 H = some r) : ∃ d, bodyE C0 (evF C0 d) af17 [a0, a1, a2] H = some r :=
  body_ok noX (by kernel_rfl) .e ((show evX C0 (ev C0) 14 cd17 .e (args0 14 [a0, a1, a2]) H (kRet C0 Try.f17.results.toList) = F17 a0 a1 a2 H by kernel_rfl).trans h)
theorem c17 {a0 a1 a2 : Value} {H : Hp} {r : Value × Hp} (h : F17 a0 a1 a2 H = some r) : call 17 [a0, a1, a2] H = some r := call_ok noX fn17 rfl rfl (b17 h)

/-! tenement/space.Protect -/
noncomputable def cd18 : Code := (Try.f18.body).getD .skip
noncomputable def F18 (a0 a1 a2 a3 : Value) (H : Hp) : O :=
  B (al (cellsOf a3) H) fun p1 =>
  B (call 34 [a0, a1, a2, (.func (.func 36) #[] #[p1.1])] p1.2) fun p2 =>
  B (extractE p2.1 0) fun t15 =>
  B (extractE p2.1 1) fun t16 =>
  some (.tuple #[t15, t16], p2.2)
noncomputable def af18 : AF := ⟨cd18, 17, Try.f18.results.toList, false, false⟩
theorem fn18 : C0.fn 18 = some af18 := by kernel_rfl
theorem b18 {a0 a1 a2 a3 : Value} {H : Hp} {r : Value × Hp} (h : F18 a0 a1 a2 a3 H = some r) : ∃ d, bodyE C0 (evF C0 d) af18 [a0, a1, a2, a3] H = some r :=
  body_ok noX (by kernel_rfl) .e ((show evX C0 (ev C0) 17 cd18 .e (args0 17 [a0, a1, a2, a3]) H (kRet C0 Try.f18.results.toList) = F18 a0 a1 a2 a3 H by kernel_rfl).trans h)
theorem c18 {a0 a1 a2 a3 : Value} {H : Hp} {r : Value × Hp} (h : F18 a0 a1 a2 a3 H = some r) : call 18 [a0, a1, a2, a3] H = some r := call_ok noX fn18 rfl rfl (b18 h)

/-! tenement/space.Pages$1 -/
noncomputable def cd37 : Code := (Try.f37.body).getD .skip
noncomputable def F37b1 (k : Kx) (t0 t4 t5 t6 t7 t8 : Value) (H : Hp) (X : List Kx) : O :=
  B (ldA 3 t4 H) fun t15 =>
  B (call 30 [t15] H) fun p3 =>
  B (bo .lss 23 t5 p3.1) fun t17 =>
  br t17 (
   B (cl (ev C0) t0 [t5] p3.2) fun p4 =>
   B (unE .not p4.1) fun t23 =>
   br t23 (
    nth X 0 [] p4.2) (
    B (bo .add 23 t5 (U 1)) fun t19 =>
    k [t0, t4, t19, t6, t7, t8] p4.2)) (
   nth X 1 [t0, t6, t7, t8] p3.2)
noncomputable def F37b1L : Kx → List Value → Hp → List Kx → O := fun k xs H X => F37b1 k (gv xs 0) (gv xs 1) (gv xs 2) (gv xs 3) (gv xs 4) (gv xs 5) H X
noncomputable def o37b1 : Orac C0 25 (lft (rgt (rgt (lft (lft (rgt (rgt (lft (lft (rgt cd37)))))))))) := loopO noX (by kernel_rfl) .e [0, 4, 5, 6, 7, 8] [(.rt, []), (.ex 2, [0, 6, 7, 8])] F37b1L fun k xs H X => by kernel_rfl
noncomputable def F37b0 (k : Kx) (t0 t6 t7 t8 : Value) (H : Hp) (X : List Kx) : O :=
  B (bo .lss 3 t8 t7) fun t9 =>
  br t9 (
   B (ixS 3 t6 t8) fun t10 =>
   B (ldA 3 t10 H) fun t11 =>
   B (al [U 0, I 0, .bool false] H) fun p1 =>
   B (st 3 p1.1 t11 p1.2) fun p2 =>
   B (fa 0 p1.1) fun t12 =>
   B (ld1 t12 p2.2) fun t13 =>
   loopS F37b1L rnd [t0, p1.1, t13, t6, t7, t8] p2.2 [fun x5 h6 =>
     nth X 0 [] h6,
    fun x7 h8 =>
     B (bo .add 3 (gv x7 3) (I 1)) fun t24 =>
     k [(gv x7 0), (gv x7 1), (gv x7 2), t24] h8]) (
   nth X 1 [] H)
noncomputable def F37b0L : Kx → List Value → Hp → List Kx → O := fun k xs H X => F37b0 k (gv xs 0) (gv xs 1) (gv xs 2) (gv xs 3) H X
noncomputable def o37b0 : Orac C0 25 (lft (rgt cd37)) := loopO noX (by kernel_rfl) (.n none .e (.n none .e (.n none (.n none (.n none .e (.n none .e (.n none (.n (some o37b1) .e .e) .e))) .e) .e))) [0, 6, 7, 8] [(.rt, []), (.ex 0, [])] F37b0L fun k xs H X => by kernel_rfl
noncomputable def F37 (a0 a1 : Value) (H : Hp) : O :=
  B (ld1 a1 H) fun t6 =>
  B (lnS t6) fun t7 =>
  loopS F37b0L rnd [a0, t6, t7, (I 0)] H [fun x9 h10 =>
    some (.tuple #[], h10),
   fun x11 h12 =>
    some (.tuple #[], h12)]
noncomputable def af37 : AF := ⟨cd37, 25, Try.f37.results.toList, false, false⟩
theorem fn37 : C0.fn 37 = some af37 := by kernel_rfl
theorem b37 {a0 a1 : Value} {H : Hp} {r : Value × Hp} (h : F37 a0 a1 H = some r) : ∃ d, bodyE C0 (evF C0 d) af37 [a0, a1] H = some r :=
  body_ok noX (by kernel_rfl) (.n none .e (.n none (.n (some o37b0) (.n none .e (.n none .e (.n none (.n none (.n none .e (.n none .e (.n none (.n (some o37b1) .e .e) .e))) .e) .e))) .e) .e)) ((show evX C0 (ev C0) 25 cd37 (.n none .e (.n none (.n (some o37b0) (.n none .e (.n none .e (.n none (.n none (.n none .e (.n none .e (.n none (.n (some o37b1) .e .e) .e))) .e) .e))) .e) .e)) (args0 25 [a0, a1]) H (kRet C0 Try.f37.results.toList) = F37 a0 a1 H by kernel_rfl).trans h)
theorem c37 {a0 a1 : Value} {H : Hp} {r : Value × Hp} (h : F37 a0 a1 H = some r) : call 37 [a0, a1] H = some r := call_ok noX fn37 rfl rfl (b37 h)

/-! tenement/space.Map -/
noncomputable def cd16 : Code := (Try.f16.body).getD .skip
noncomputable def Y16r1 (l : Nat) (t8 g54 : Value) (H : Hp) : O :=
  B (busyE l H) fun h7 =>
  B (ld1 t8 h7) fun t55 =>
  B (bo .add 3 t55 (I 1)) fun t56 =>
  B (st 1 t8 t56 h7) fun p8 =>
  leaveE l p8.2 none
noncomputable def L16r1 (xs : List Value) (st : LoopState) (pend : Option Code) : Ob := .loop st pend ⟨73, mkE xs [8] 0 .nl⟩ [54] (lft (lft (rgt (lft (rgt (rgt (rgt (rgt (rgt cd16))))))))) (rgt (lft (rgt (lft (rgt (rgt (rgt (rgt (rgt cd16)))))))))
theorem y16r1 {l : Nat} {t8 g54 : Value} {st : LoopState} {pend : Option Code} {H : Hp} {q : Value × Hp} (hg : H.get l = some (L16r1 [t8] st pend)) (h : Y16r1 l t8 g54 H = some q) : ev C0 (.yield l) [g54] H = some q :=
  yield_ok noX .e .e hg (by kernel_rfl) (by kernel_rfl) (by kernel_rfl) ((show roundX C0 73 (lft (lft (rgt (lft (rgt (rgt (rgt (rgt (rgt cd16))))))))) (rgt (lft (rgt (lft (rgt (rgt (rgt (rgt (rgt cd16))))))))) .e .e l (mkE [g54] [54] 0 (mkE [t8] [8] 0 .nl)) H = Y16r1 l t8 g54 H by kernel_rfl).trans h)
noncomputable def F16j0 (t0 t3 : Value) (H : Hp) (X : List Kx) : O :=
  B (fa 0 t3) fun t30 =>
  B (ld1 t30 H) fun t31 =>
  B (call 31 [t0, t31] H) fun p2 =>
  B (extractE p2.1 0) fun t33 =>
  B (extractE p2.1 1) fun t34 =>
  B (gd t34 false (some t33)) fun t37 =>
  B (gd t34 false (some t0)) fun t38 =>
  B (gd t34 false (lnS t38)) fun t39 =>
  B (gd t34 false (bo .lss 3 t37 t39)) fun t40 =>
  B (gd t34 false (some t40)) fun t41 =>
  B (gd t41 true (some t0)) fun t42 =>
  B (gd t41 true (some t33)) fun t43 =>
  B (gd t41 true (ixS 3 t42 t43)) fun t44 =>
  B (gd t41 true (fa 0 t44)) fun t45 =>
  B (gd t41 true (ld1 t45 p2.2)) fun t46 =>
  B (gd t41 true (ldA 3 t3 p2.2)) fun t47 =>
  B (gh t41 true (call 30 [t47] p2.2) p2.2) fun p3 =>
  B (gd t41 true (bo .lss 23 t46 p3.1)) fun t49 =>
  B (gd t34 false (pk t41 (some t49) (some (.bool false)))) fun t50 =>
  B (pk t34 (some (.bool true)) (some t50)) fun t51 =>
  br t51 (
   nth X 0 [(.slice none 0 0), (I 190)] p3.2) (
   B (al [I 0] p3.2) fun p4 =>
   B (st 1 p4.1 (I 0) p4.2) fun p5 =>
   B (call 24 [t0] p5.2) fun p6 =>
   rfX C0 (ev C0) p6.1 (L16r1 [p4.1]) p6.2 (fun h10 =>
     B (lnS t0) fun t58 =>
     B (bo .geq 3 t58 (I 8)) fun t59 =>
     B (gd t59 false (fa 1 t3)) fun t61 =>
     B (gd t59 false (ld1 t61 h10)) fun t62 =>
     B (gd t59 false (ld1 p4.1 h10)) fun t63 =>
     B (gd t59 false (bo .sub 3 (I 16) t63)) fun t64 =>
     B (gd t59 false (bo .gtr 3 t62 t64)) fun t65 =>
     B (pk t59 (some (.bool true)) (some t65)) fun t66 =>
     br t66 (
      nth X 0 [(.slice none 0 0), (I 20)] h10) (
      B (call 33 [t0] h10) fun p11 =>
      B (ldA 3 t3 p11.2) fun t70 =>
      B (bsl 3 [U 0, I 0, .bool false] 1 [(0, t70)] p11.2) fun p12 =>
      B (call 32 [p11.1, t33, p12.1] p12.2) fun p13 =>
      nth X 0 [p13.1, (I 0)] p13.2)) [] (fun _ => none))
noncomputable def o16j0 : Orac C0 73 (rgt (rgt cd16)) := joinO noX .e [0, 3] [(.rt, [4, 5])] (fun xs H X => F16j0 (gv xs 0) (gv xs 1) H X) fun xs H X => by kernel_rfl
noncomputable def F16j2 (t0 t3 t13 : Value) (H : Hp) (X : List Kx) : O :=
  br t13 (
   nth X 1 [(.slice none 0 0), (I 190)] H) (
   nth X 0 [t0, t3] H)
noncomputable def o16j2 : Orac C0 73 (rgt (rgt (rgt (lft (lft (rgt cd16)))))) := joinO noX .e [0, 3, 13] [(.nx, [0, 3]), (.rt, [4, 5])] (fun xs H X => F16j2 (gv xs 0) (gv xs 1) (gv xs 2) H X) fun xs H X => by kernel_rfl
noncomputable def F16 (a0 a1 : Value) (H : Hp) : O :=
  B (al (cellsOf a1) H) fun p1 =>
  B (call 14 [a0] p1.2) fun p14 =>
  B (bo .neq 28 p14.1 (I 0)) fun t12 =>
  br t12 (
   some (.tuple #[(.slice none 0 0), (I 2)], p14.2)) (
   B (fa 1 p1.1) fun t14 =>
   B (ld1 t14 p14.2) fun t15 =>
   B (bo .lss 3 t15 (I 1)) fun t16 =>
   br t16 (
    F16j2 a0 p1.1 t16 p14.2 [fun x15 h16 =>
      F16j0 (gv x15 0) (gv x15 1) h16 [fun x17 h18 =>
        some (.tuple #[(gv x17 0), (gv x17 1)], h18)],
     fun x19 h20 =>
      some (.tuple #[(gv x19 0), (gv x19 1)], h20)]) (
    B (fa 1 p1.1) fun t17 =>
    B (ld1 t17 p14.2) fun t18 =>
    B (cvI .u64 t18) fun t19 =>
    B (bo .gtr 23 t19 (U 34359738368)) fun t20 =>
    br t20 (
     F16j2 a0 p1.1 t20 p14.2 [fun x21 h22 =>
       F16j0 (gv x21 0) (gv x21 1) h22 [fun x23 h24 =>
         some (.tuple #[(gv x23 0), (gv x23 1)], h24)],
      fun x25 h26 =>
       some (.tuple #[(gv x25 0), (gv x25 1)], h26)]) (
     B (fa 0 p1.1) fun t21 =>
     B (ld1 t21 p14.2) fun t22 =>
     B (fa 1 p1.1) fun t23 =>
     B (ld1 t23 p14.2) fun t24 =>
     B (cvI .u64 t24) fun t25 =>
     B (bo .sub 23 (U 34359738368) t25) fun t26 =>
     B (bo .gtr 23 t22 t26) fun t27 =>
     F16j2 a0 p1.1 t27 p14.2 [fun x27 h28 =>
       F16j0 (gv x27 0) (gv x27 1) h28 [fun x29 h30 =>
         some (.tuple #[(gv x29 0), (gv x29 1)], h30)],
      fun x31 h32 =>
       some (.tuple #[(gv x31 0), (gv x31 1)], h32)])))
noncomputable def af16 : AF := ⟨cd16, 73, Try.f16.results.toList, false, false⟩
theorem fn16 : C0.fn 16 = some af16 := by kernel_rfl
theorem b16 {a0 a1 : Value} {H : Hp} {r : Value × Hp} (h : F16 a0 a1 H = some r) : ∃ d, bodyE C0 (evF C0 d) af16 [a0, a1] H = some r :=
  body_ok noX (by kernel_rfl) (.n none .e (.n none (.n none (.n none .e (.n none .e (.n none .e (.n (some o16j2) .e .e)))) .e) (.n (some o16j0) .e .e))) ((show evX C0 (ev C0) 73 cd16 (.n none .e (.n none (.n none (.n none .e (.n none .e (.n none .e (.n (some o16j2) .e .e)))) .e) (.n (some o16j0) .e .e))) (args0 73 [a0, a1]) H (kRet C0 Try.f16.results.toList) = F16 a0 a1 H by kernel_rfl).trans h)
theorem c16 {a0 a1 : Value} {H : Hp} {r : Value × Hp} (h : F16 a0 a1 H = some r) : call 16 [a0, a1] H = some r := call_ok noX fn16 rfl rfl (b16 h)

/-! tenement/tenementlaw19.wakes -/
noncomputable def cd15 : Code := (Try.f15.body).getD .skip
noncomputable def F15 (H : Hp) : O :=
  B (bd [(0, 1), (1, 1), (2, 1)] [U 0, I 0, .bool false] [(0, (U 10)), (1, (I 4)), (2, (.bool true))]) fun t8 =>
  B (bsl 3 [U 0, I 0, .bool false] 1 [(0, t8)] H) fun p1 =>
  B (call 17 [p1.1, (U 11), (I 1)] p1.2) fun p2 =>
  B (extractE p2.1 0) fun t13 =>
  B (extractE p2.1 1) fun t14 =>
  B (call 18 [p1.1, (U 12), (I 2), (.bool false)] p2.2) fun p3 =>
  B (extractE p3.1 0) fun t18 =>
  B (extractE p3.1 1) fun t19 =>
  B (bd [(0, 1), (1, 1), (2, 1)] [U 0, I 0, .bool false] [(0, (U 13)), (1, (I 1))]) fun t22 =>
  B (call 16 [p1.1, t22] p3.2) fun p4 =>
  B (extractE p4.1 0) fun t24 =>
  B (extractE p4.1 1) fun t25 =>
  B (bo .eql 28 t14 (I 0)) fun t27 =>
  B (gd t27 true (some t13)) fun t29 =>
  B (gd t27 true (lnS t29)) fun t30 =>
  B (gd t27 true (bo .eql 3 t30 (I 2))) fun t31 =>
  B (pk t27 (some t31) (some (.bool false))) fun t32 =>
  B (gd t32 true (some t13)) fun t34 =>
  B (gd t32 true (ixS 3 t34 (I 0))) fun t35 =>
  B (gd t32 true (fa 1 t35)) fun t36 =>
  B (gd t32 true (ld1 t36 p4.2)) fun t37 =>
  B (gd t32 true (bo .eql 3 t37 (I 1))) fun t38 =>
  B (pk t32 (some t38) (some (.bool false))) fun t39 =>
  B (gd t39 true (some t13)) fun t41 =>
  B (gd t39 true (ixS 3 t41 (I 1))) fun t42 =>
  B (gd t39 true (fa 0 t42)) fun t43 =>
  B (gd t39 true (ld1 t43 p4.2)) fun t44 =>
  B (gd t39 true (bo .eql 23 t44 (U 12))) fun t45 =>
  B (pk t39 (some t45) (some (.bool false))) fun t46 =>
  B (gd t46 true (some t19)) fun t48 =>
  B (gd t46 true (bo .eql 28 t48 (I 0))) fun t49 =>
  B (pk t46 (some t49) (some (.bool false))) fun t50 =>
  B (gd t50 true (some t18)) fun t52 =>
  B (gd t50 true (lnS t52)) fun t53 =>
  B (gd t50 true (bo .eql 3 t53 (I 2))) fun t54 =>
  B (pk t50 (some t54) (some (.bool false))) fun t55 =>
  B (gd t55 true (some t18)) fun t57 =>
  B (gd t55 true (ixS 3 t57 (I 0))) fun t58 =>
  B (gd t55 true (fa 2 t58)) fun t59 =>
  B (gd t55 true (ld1 t59 p4.2)) fun t60 =>
  B (pk t55 (some t60) (some (.bool false))) fun t61 =>
  B (gd t61 true (some t18)) fun t63 =>
  B (gd t61 true (ixS 3 t63 (I 1))) fun t64 =>
  B (gd t61 true (fa 2 t64)) fun t65 =>
  B (gd t61 true (ld1 t65 p4.2)) fun t66 =>
  B (gd t61 true (unE .not t66)) fun t67 =>
  B (pk t61 (some t67) (some (.bool false))) fun t68 =>
  B (gd t68 true (some t25)) fun t70 =>
  B (gd t68 true (bo .eql 28 t70 (I 190))) fun t71 =>
  B (pk t68 (some t71) (some (.bool false))) fun t72 =>
  some (t72, p4.2)
noncomputable def af15 : AF := ⟨cd15, 73, Try.f15.results.toList, true, false⟩
theorem fn15 : C0.fn 15 = some af15 := by kernel_rfl
theorem b15 {H : Hp} {r : Value × Hp} (h : F15 H = some r) : ∃ d, bodyE C0 (evF C0 d) af15 [] H = some r :=
  body_ok noX (by kernel_rfl) .e ((show evX C0 (ev C0) 73 cd15 .e (args0 73 []) H (kRet C0 Try.f15.results.toList) = F15 H by kernel_rfl).trans h)
theorem c15 {H : Hp} {v : Value} (hv : plainV v = true) (h : (F15 (H.fresh [])).map (·.1) = some v) : call 15 [] H = some (v, H) := pure_map noX fn15 rfl hv h b15

/-! tenement/tenementlaw19.SpaceCounts -/
noncomputable def cd5 : Code := (Try.f5.body).getD .skip
noncomputable def F5 (a0 a1 : Value) (H : Hp) : O :=
  B (al (cellsOf a1) H) fun p1 =>
  B (call 14 [a0] p1.2) fun p2 =>
  B (bo .neq 28 p2.1 (I 0)) fun t13 =>
  br t13 (
   B (call 15 [] p2.2) fun p3 =>
   some (p3.1, p3.2)) (
   B (ldA 3 p1.1 p2.2) fun t17 =>
   B (call 16 [a0, t17] p2.2) fun p4 =>
   B (extractE p4.1 0) fun t19 =>
   B (extractE p4.1 1) fun t20 =>
   B (fa 0 p1.1) fun t23 =>
   B (ld1 t23 p4.2) fun t24 =>
   B (fa 1 p1.1) fun t25 =>
   B (ld1 t25 p4.2) fun t26 =>
   B (call 17 [a0, t24, t26] p4.2) fun p5 =>
   B (extractE p5.1 0) fun t28 =>
   B (extractE p5.1 1) fun t29 =>
   B (fa 0 p1.1) fun t32 =>
   B (ld1 t32 p5.2) fun t33 =>
   B (fa 1 p1.1) fun t34 =>
   B (ld1 t34 p5.2) fun t35 =>
   B (fa 2 p1.1) fun t36 =>
   B (ld1 t36 p5.2) fun t37 =>
   B (call 18 [a0, t33, t35, t37] p5.2) fun p6 =>
   B (extractE p6.1 0) fun t39 =>
   B (extractE p6.1 1) fun t40 =>
   B (bo .eql 28 t20 (I 0)) fun t42 =>
   B (gd t42 true (some t19)) fun t44 =>
   B (gh t42 true (call 19 [t44] p6.2) p6.2) fun p7 =>
   B (gd t42 true (some a0)) fun t46 =>
   B (gh t42 true (call 19 [t46] p7.2) p7.2) fun p8 =>
   B (gd t42 true (fa 1 p1.1)) fun t48 =>
   B (gd t42 true (ld1 t48 p8.2)) fun t49 =>
   B (gd t42 true (bo .add 3 p8.1 t49)) fun t50 =>
   B (gd t42 true (bo .neq 3 p7.1 t50)) fun t51 =>
   B (pk t42 (some t51) (some (.bool false))) fun t52 =>
   B (gd t52 false (some t29)) fun t54 =>
   B (gd t52 false (bo .eql 28 t54 (I 0))) fun t55 =>
   B (gd t52 false (some t55)) fun t56 =>
   B (gd t56 true (some t28)) fun t57 =>
   B (gh t56 true (call 19 [t57] p8.2) p8.2) fun p9 =>
   B (gd t56 true (some a0)) fun t59 =>
   B (gh t56 true (call 19 [t59] p9.2) p9.2) fun p10 =>
   B (gd t56 true (fa 1 p1.1)) fun t61 =>
   B (gd t56 true (ld1 t61 p10.2)) fun t62 =>
   B (gd t56 true (bo .sub 3 p10.1 t62)) fun t63 =>
   B (gd t56 true (bo .neq 3 p9.1 t63)) fun t64 =>
   B (gd t52 false (pk t56 (some t64) (some (.bool false)))) fun t65 =>
   B (pk t52 (some (.bool true)) (some t65)) fun t66 =>
   B (gd t66 false (some t40)) fun t68 =>
   B (gd t66 false (bo .eql 28 t68 (I 0))) fun t69 =>
   B (gd t66 false (some t69)) fun t70 =>
   B (gd t70 true (some t39)) fun t71 =>
   B (gh t70 true (call 19 [t71] p10.2) p10.2) fun p11 =>
   B (gd t70 true (some a0)) fun t73 =>
   B (gh t70 true (call 19 [t73] p11.2) p11.2) fun p12 =>
   B (gd t70 true (bo .neq 3 p11.1 p12.1)) fun t75 =>
   B (gd t66 false (pk t70 (some t75) (some (.bool false)))) fun t76 =>
   B (pk t66 (some (.bool true)) (some t76)) fun t77 =>
   br t77 (
    some ((.bool false), p12.2)) (
    B (bo .neq 28 t20 (I 0)) fun t79 =>
    B (gd t79 true (some t19)) fun t81 =>
    B (gd t79 true (lnS t81)) fun t82 =>
    B (gd t79 true (bo .gtr 3 t82 (I 0))) fun t83 =>
    B (pk t79 (some t83) (some (.bool false))) fun t84 =>
    B (gd t84 false (some t29)) fun t86 =>
    B (gd t84 false (bo .neq 28 t86 (I 0))) fun t87 =>
    B (gd t84 false (some t87)) fun t88 =>
    B (gd t88 true (some t28)) fun t89 =>
    B (gd t88 true (lnS t89)) fun t90 =>
    B (gd t88 true (bo .gtr 3 t90 (I 0))) fun t91 =>
    B (gd t84 false (pk t88 (some t91) (some (.bool false)))) fun t92 =>
    B (pk t84 (some (.bool true)) (some t92)) fun t93 =>
    B (gd t93 false (some t40)) fun t95 =>
    B (gd t93 false (bo .neq 28 t95 (I 0))) fun t96 =>
    B (gd t93 false (some t96)) fun t97 =>
    B (gd t97 true (some t39)) fun t98 =>
    B (gd t97 true (lnS t98)) fun t99 =>
    B (gd t97 true (bo .gtr 3 t99 (I 0))) fun t100 =>
    B (gd t93 false (pk t97 (some t100) (some (.bool false)))) fun t101 =>
    B (pk t93 (some (.bool true)) (some t101)) fun t102 =>
    br t102 (
     some ((.bool false), p12.2)) (
     B (bo .neq 28 t29 (I 190)) fun t104 =>
     B (gd t104 false (some t40)) fun t106 =>
     B (gd t104 false (bo .eql 28 t106 (I 190))) fun t107 =>
     B (pk t104 (some (.bool true)) (some t107)) fun t108 =>
     B (gd t108 true (some t20)) fun t110 =>
     B (gd t108 true (bo .neq 28 t110 (I 0))) fun t111 =>
     B (gd t108 true (some t111)) fun t112 =>
     B (gd t112 false (some t29)) fun t113 =>
     B (gd t112 false (bo .eql 28 t113 (I 190))) fun t114 =>
     B (gd t108 true (pk t112 (some (.bool true)) (some t114))) fun t115 =>
     B (pk t108 (some t115) (some (.bool false))) fun t116 =>
     B (gh t116 true (call 15 [] p12.2) p12.2) fun p13 =>
     B (pk t116 (some p13.1) (some (.bool false))) fun t119 =>
     some (t119, p13.2))))
noncomputable def af5 : AF := ⟨cd5, 120, Try.f5.results.toList, true, false⟩
theorem fn5 : C0.fn 5 = some af5 := by kernel_rfl
theorem b5 {a0 a1 : Value} {H : Hp} {r : Value × Hp} (h : F5 a0 a1 H = some r) : ∃ d, bodyE C0 (evF C0 d) af5 [a0, a1] H = some r :=
  body_ok noX (by kernel_rfl) .e ((show evX C0 (ev C0) 120 cd5 .e (args0 120 [a0, a1]) H (kRet C0 Try.f5.results.toList) = F5 a0 a1 H by kernel_rfl).trans h)
theorem c5 {a0 a1 : Value} {H : Hp} {v : Value} (hv : plainV v = true) (h : (F5 a0 a1 (H.fresh [a0, a1])).map (·.1) = some v) : call 5 [a0, a1] H = some (v, H) := pure_map noX fn5 rfl hv h b5

/-! tenement/tenementlaw19.SpacePages -/
noncomputable def cd7 : Code := (Try.f7.body).getD .skip
noncomputable def F7j1 (t0 t2 t4 t7 t8 t9 t10 t11 t24 : Value) (H : Hp) (X : List Kx) : O :=
  B (bo .neq 28 t11 (I 0)) fun t61 =>
  br t61 (
   nth X 2 [t0, t2, t4, t7, t8, t24] H) (
   B (call 14 [t10] H) fun p7 =>
   B (bo .neq 28 p7.1 (I 0)) fun t64 =>
   br t64 (
    nth X 1 [(.bool false)] p7.2) (
    B (call 20 [t10, t2] p7.2) fun p8 =>
    B (extractE p8.1 0) fun t69 =>
    B (extractE p8.1 1) fun t70 =>
    B (al [U 0, I 0, .bool false] p8.2) fun p9 =>
    B (st 3 p9.1 t69 p9.2) fun p10 =>
    B (ldA 3 t4 p10.2) fun t72 =>
    B (call 25 [t72, t2] p10.2) fun p11 =>
    B (unE .not p11.1) fun t75 =>
    br t75 (
     B (bo .neq 4 t70 t8) fun t78 =>
     B (gd t78 false (some t70)) fun t80 =>
     B (gd t78 false (some t80)) fun t81 =>
     B (gd t81 true (fa 2 p9.1)) fun t82 =>
     B (gd t81 true (ld1 t82 p11.2)) fun t83 =>
     B (gd t81 true (fa 2 t7)) fun t84 =>
     B (gd t81 true (ld1 t84 p11.2)) fun t85 =>
     B (gd t81 true (bo .neq 4 t83 t85)) fun t86 =>
     B (gd t78 false (pk t81 (some t86) (some (.bool false)))) fun t87 =>
     B (pk t78 (some (.bool true)) (some t87)) fun t88 =>
     br t88 (
      nth X 1 [(.bool false)] p11.2) (
      nth X 0 [t0, t2, t4, t7, t8, t24] p11.2)) (
     B (bo .eql 3 t9 (I 1)) fun t91 =>
     br t91 (
      B (gd t70 false (some t8)) fun t94 =>
      B (gd t70 false (unE .not t94)) fun t95 =>
      B (pk t70 (some (.bool true)) (some t95)) fun t96 =>
      br t96 (
       nth X 1 [(.bool false)] p11.2) (
       nth X 0 [t0, t2, t4, t7, t8, t24] p11.2)) (
      B (unE .not t70) fun t99 =>
      B (gd t99 false (fa 2 p9.1)) fun t101 =>
      B (gd t99 false (ld1 t101 p11.2)) fun t102 =>
      B (gd t99 false (fa 2 t4)) fun t103 =>
      B (gd t99 false (ld1 t103 p11.2)) fun t104 =>
      B (gd t99 false (bo .neq 4 t102 t104)) fun t105 =>
      B (pk t99 (some (.bool true)) (some t105)) fun t106 =>
      B (gd t106 false (some t8)) fun t108 =>
      B (gd t106 false (some t9)) fun t109 =>
      B (gd t106 false (bo .eql 3 t109 (I 2))) fun t110 =>
      B (gd t106 false (bo .neq 4 t108 t110)) fun t111 =>
      B (pk t106 (some (.bool true)) (some t111)) fun t112 =>
      br t112 (
       nth X 1 [(.bool false)] p11.2) (
       nth X 0 [t0, t2, t4, t7, t8, t24] p11.2)))))
noncomputable def o7j1 : Orac C0 115 (rgt (rgt (rgt (rgt (lft (lft (rgt (rgt (lft (lft (rgt (lft (rgt (rgt (rgt cd7))))))))))))))) := joinO noX .e [0, 2, 4, 7, 8, 9, 10, 11, 24] [(.nx, [0, 2, 4, 7, 8, 24]), (.rt, [6]), (.ex 1, [0, 2, 4, 7, 8, 24])] (fun xs H X => F7j1 (gv xs 0) (gv xs 1) (gv xs 2) (gv xs 3) (gv xs 4) (gv xs 5) (gv xs 6) (gv xs 7) (gv xs 8) H X) fun xs H X => by kernel_rfl
noncomputable def F7b0 (k : Kx) (t0 t2 t4 t7 t8 t24 : Value) (H : Hp) (X : List Kx) : O :=
  B (bo .lss 3 t24 (I 3)) fun t25 =>
  br t25 (
   B (bo .eql 3 t24 (I 0)) fun t29 =>
   br t29 (
    B (ldA 3 t4 H) fun t32 =>
    B (call 16 [t0, t32] H) fun p12 =>
    B (extractE p12.1 0) fun t34 =>
    B (extractE p12.1 1) fun t35 =>
    F7j1 t0 t2 t4 t7 t8 t24 t34 t35 t24 p12.2 [fun x13 h14 =>
      B (bo .add 3 (gv x13 5) (I 1)) fun t113 =>
      k [(gv x13 0), (gv x13 1), (gv x13 2), (gv x13 3), (gv x13 4), t113] h14,
     fun x15 h16 =>
      nth X 0 [(gv x15 0)] h16,
     fun x17 h18 =>
      B (bo .add 3 (gv x17 5) (I 1)) fun t113 =>
      k [(gv x17 0), (gv x17 1), (gv x17 2), (gv x17 3), (gv x17 4), t113] h18]) (
    B (bo .eql 3 t24 (I 1)) fun t37 =>
    br t37 (
     B (fa 0 t4) fun t40 =>
     B (ld1 t40 H) fun t41 =>
     B (fa 1 t4) fun t42 =>
     B (ld1 t42 H) fun t43 =>
     B (call 17 [t0, t41, t43] H) fun p19 =>
     B (extractE p19.1 0) fun t45 =>
     B (extractE p19.1 1) fun t46 =>
     F7j1 t0 t2 t4 t7 t8 t24 t45 t46 t24 p19.2 [fun x20 h21 =>
       B (bo .add 3 (gv x20 5) (I 1)) fun t113 =>
       k [(gv x20 0), (gv x20 1), (gv x20 2), (gv x20 3), (gv x20 4), t113] h21,
      fun x22 h23 =>
       nth X 0 [(gv x22 0)] h23,
      fun x24 h25 =>
       B (bo .add 3 (gv x24 5) (I 1)) fun t113 =>
       k [(gv x24 0), (gv x24 1), (gv x24 2), (gv x24 3), (gv x24 4), t113] h25]) (
     B (bo .eql 3 t24 (I 2)) fun t48 =>
     br t48 (
      B (fa 0 t4) fun t51 =>
      B (ld1 t51 H) fun t52 =>
      B (fa 1 t4) fun t53 =>
      B (ld1 t53 H) fun t54 =>
      B (fa 2 t4) fun t55 =>
      B (ld1 t55 H) fun t56 =>
      B (call 18 [t0, t52, t54, t56] H) fun p26 =>
      B (extractE p26.1 0) fun t58 =>
      B (extractE p26.1 1) fun t59 =>
      F7j1 t0 t2 t4 t7 t8 t24 t58 t59 t24 p26.2 [fun x27 h28 =>
        B (bo .add 3 (gv x27 5) (I 1)) fun t113 =>
        k [(gv x27 0), (gv x27 1), (gv x27 2), (gv x27 3), (gv x27 4), t113] h28,
       fun x29 h30 =>
        nth X 0 [(gv x29 0)] h30,
       fun x31 h32 =>
        B (bo .add 3 (gv x31 5) (I 1)) fun t113 =>
        k [(gv x31 0), (gv x31 1), (gv x31 2), (gv x31 3), (gv x31 4), t113] h32]) (
      F7j1 t0 t2 t4 t7 t8 t24 (.slice none 0 0) (I 0) t24 H [fun x33 h34 =>
        B (bo .add 3 (gv x33 5) (I 1)) fun t113 =>
        k [(gv x33 0), (gv x33 1), (gv x33 2), (gv x33 3), (gv x33 4), t113] h34,
       fun x35 h36 =>
        nth X 0 [(gv x35 0)] h36,
       fun x37 h38 =>
        B (bo .add 3 (gv x37 5) (I 1)) fun t113 =>
        k [(gv x37 0), (gv x37 1), (gv x37 2), (gv x37 3), (gv x37 4), t113] h38])))) (
   nth X 1 [] H)
noncomputable def F7b0L : Kx → List Value → Hp → List Kx → O := fun k xs H X => F7b0 k (gv xs 0) (gv xs 1) (gv xs 2) (gv xs 3) (gv xs 4) (gv xs 5) H X
noncomputable def o7b0 : Orac C0 115 (lft (rgt (lft (rgt (rgt (rgt cd7)))))) := loopO noX (by kernel_rfl) (.n none .e (.n none .e (.n none (.n none (.n none .e (.n none .e (.n none .e (.n none .e (.n (some o7j1) .e .e))))) .e) .e))) [0, 2, 4, 7, 8, 24] [(.rt, [6]), (.ex 0, [])] F7b0L fun k xs H X => by kernel_rfl
noncomputable def F7 (a0 a1 a2 : Value) (H : Hp) : O :=
  B (al (cellsOf a1) H) fun p1 =>
  B (call 14 [a0] p1.2) fun p2 =>
  B (bo .neq 28 p2.1 (I 0)) fun t16 =>
  br t16 (
   B (call 15 [] p2.2) fun p3 =>
   some (p3.1, p3.2)) (
   B (call 20 [a0, a2] p2.2) fun p4 =>
   B (extractE p4.1 0) fun t22 =>
   B (extractE p4.1 1) fun t23 =>
   B (al [U 0, I 0, .bool false] p4.2) fun p5 =>
   B (st 3 p5.1 t22 p5.2) fun p6 =>
   loopS F7b0L rnd [a0, a2, p1.1, p5.1, t23, (I 0)] p6.2 [fun x39 h40 =>
     some ((gv x39 0), h40),
    fun x41 h42 =>
     B (call 15 [] h42) fun p43 =>
     some (p43.1, p43.2)])
noncomputable def af7 : AF := ⟨cd7, 115, Try.f7.results.toList, true, false⟩
theorem fn7 : C0.fn 7 = some af7 := by kernel_rfl
theorem b7 {a0 a1 a2 : Value} {H : Hp} {r : Value × Hp} (h : F7 a0 a1 a2 H = some r) : ∃ d, bodyE C0 (evF C0 d) af7 [a0, a1, a2] H = some r :=
  body_ok noX (by kernel_rfl) (.n none .e (.n none .e (.n none .e (.n none (.n none .e (.n none (.n (some o7b0) (.n none .e (.n none .e (.n none (.n none (.n none .e (.n none .e (.n none .e (.n none .e (.n (some o7j1) .e .e))))) .e) .e))) .e) .e)) .e)))) ((show evX C0 (ev C0) 115 cd7 (.n none .e (.n none .e (.n none .e (.n none (.n none .e (.n none (.n (some o7b0) (.n none .e (.n none .e (.n none (.n none (.n none .e (.n none .e (.n none .e (.n none .e (.n (some o7j1) .e .e))))) .e) .e))) .e) .e)) .e)))) (args0 115 [a0, a1, a2]) H (kRet C0 Try.f7.results.toList) = F7 a0 a1 a2 H by kernel_rfl).trans h)
theorem c7 {a0 a1 a2 : Value} {H : Hp} {v : Value} (hv : plainV v = true) (h : (F7 a0 a1 a2 (H.fresh [a0, a1, a2])).map (·.1) = some v) : call 7 [a0, a1, a2] H = some (v, H) := pure_map noX fn7 rfl hv h b7

/-! tenement/tenementlaw19.SpaceTells -/
noncomputable def cd6 : Code := (Try.f6.body).getD .skip
noncomputable def F6j0 (t7 t8 t13 t15 : Value) (H : Hp) (X : List Kx) : O :=
  B (ld1 t15 H) fun t84 =>
  B (ld1 t13 H) fun t85 =>
  B (lnS t85) fun t86 =>
  B (bo .eql 3 t84 t86) fun t87 =>
  B (gd t87 false (ld1 t15 H)) fun t89 =>
  B (gd t87 false (ld1 t7 H)) fun t90 =>
  B (gd t87 false (bo .eql 3 t89 t90)) fun t91 =>
  B (pk t87 (some (.bool true)) (some t91)) fun t92 =>
  B (gh t92 true (call 15 [] H) H) fun p26 =>
  B (pk t92 (some p26.1) (some (.bool false))) fun t95 =>
  B (st 1 t8 t95 p26.2) fun p27 =>
  nth X 0 [t8] p27.2
noncomputable def o6j0 : Orac C0 96 (rgt (rgt (rgt (rgt (rgt (rgt (rgt (rgt (rgt (rgt cd6)))))))))) := joinO noX .e [7, 8, 13, 15] [(.rt, [8])] (fun xs H X => F6j0 (gv xs 0) (gv xs 1) (gv xs 2) (gv xs 3) H X) fun xs H X => by kernel_rfl
noncomputable def Y6r1 (l : Nat) (t7 t8 t13 t15 g66 : Value) (H : Hp) : O :=
  B (busyE l H) fun h28 =>
  B (ld1 t15 h28) fun t67 =>
  B (ld1 t13 h28) fun t68 =>
  B (lnS t68) fun t69 =>
  B (bo .geq 3 t67 t69) fun t70 =>
  B (gd t70 false (some g66)) fun t72 =>
  B (gd t70 false (ld1 t13 h28)) fun t73 =>
  B (gd t70 false (ld1 t15 h28)) fun t74 =>
  B (gd t70 false (ixS 1 t73 t74)) fun t75 =>
  B (gd t70 false (ld1 t75 h28)) fun t76 =>
  B (gd t70 false (bo .neq 23 t72 t76)) fun t77 =>
  B (pk t70 (some (.bool true)) (some t77)) fun t78 =>
  br t78 (
   B (st 1 t8 (.bool false) h28) fun p29 =>
   leaveE l p29.2 (some .ret)) (
   B (ld1 t15 h28) fun t79 =>
   B (bo .add 3 t79 (I 1)) fun t80 =>
   B (st 1 t15 t80 h28) fun p30 =>
   B (ld1 t15 p30.2) fun t81 =>
   B (ld1 t7 p30.2) fun t82 =>
   B (bo .eql 3 t81 t82) fun t83 =>
   br t83 (
    leaveE l p30.2 (some (.exit 0))) (
    leaveE l p30.2 none))
noncomputable def L6r1 (xs : List Value) (st : LoopState) (pend : Option Code) : Ob := .loop st pend ⟨96, mkE xs [7, 8, 13, 15] 0 .nl⟩ [66] (lft (lft (rgt (lft (rgt (rgt (rgt (rgt (rgt (rgt (rgt (rgt (rgt cd6))))))))))))) (rgt (lft (rgt (lft (rgt (rgt (rgt (rgt (rgt (rgt (rgt (rgt (rgt cd6)))))))))))))
theorem y6r1 {l : Nat} {t7 t8 t13 t15 g66 : Value} {st : LoopState} {pend : Option Code} {H : Hp} {q : Value × Hp} (hg : H.get l = some (L6r1 [t7, t8, t13, t15] st pend)) (h : Y6r1 l t7 t8 t13 t15 g66 H = some q) : ev C0 (.yield l) [g66] H = some q :=
  yield_ok noX .e .e hg (by kernel_rfl) (by kernel_rfl) (by kernel_rfl) ((show roundX C0 96 (lft (lft (rgt (lft (rgt (rgt (rgt (rgt (rgt (rgt (rgt (rgt (rgt cd6))))))))))))) (rgt (lft (rgt (lft (rgt (rgt (rgt (rgt (rgt (rgt (rgt (rgt (rgt cd6))))))))))))) .e .e l (mkE [g66] [66] 0 (mkE [t7, t8, t13, t15] [7, 8, 13, 15] 0 .nl)) H = Y6r1 l t7 t8 t13 t15 g66 H by kernel_rfl).trans h)
noncomputable def F6 (a0 a1 a2 a3 : Value) (H : Hp) : O :=
  B (al (cellsOf a3) H) fun p1 =>
  B (al [.bool false] p1.2) fun p2 =>
  B (lnS a0) fun t18 =>
  B (bo .gtr 3 t18 (I 40)) fun t19 =>
  br t19 (
   B (call 15 [] p2.2) fun p3 =>
   B (st 1 p2.1 p3.1 p3.2) fun p4 =>
   B (ld1 p2.1 p4.2) fun r5 =>
   some (r5, p4.2)) (
   B (call 20 [a0, a1] p2.2) fun p6 =>
   B (extractE p6.1 0) fun t25 =>
   B (extractE p6.1 1) fun t26 =>
   B (al [U 0, I 0, .bool false] p6.2) fun p7 =>
   B (st 3 p7.1 t25 p7.2) fun p8 =>
   B (call 10 [a0, a1] p8.2) fun p9 =>
   B (extractE p9.1 0) fun t31 =>
   B (extractE p9.1 1) fun t32 =>
   B (al [U 0, I 0, .bool false] p9.2) fun p10 =>
   B (st 3 p10.1 t31 p10.2) fun p11 =>
   B (call 14 [a0] p11.2) fun p12 =>
   B (call 11 [a0] p12.2) fun p13 =>
   B (bo .neq 28 p12.1 p13.1) fun t37 =>
   B (gd t37 false (ldA 3 p7.1 p13.2)) fun t39 =>
   B (gd t37 false (ldA 3 p10.1 p13.2)) fun t40 =>
   B (gd t37 false (bo .neq 32 t39 t40)) fun t41 =>
   B (pk t37 (some (.bool true)) (some t41)) fun t42 =>
   B (gd t42 false (some t26)) fun t44 =>
   B (gd t42 false (some t32)) fun t45 =>
   B (gd t42 false (bo .neq 4 t44 t45)) fun t46 =>
   B (pk t42 (some (.bool true)) (some t46)) fun t47 =>
   B (gd t47 false (some a0)) fun t49 =>
   B (gd t47 false (some a1)) fun t50 =>
   B (gd t47 false (some a2)) fun t51 =>
   B (gh t47 false (call 21 [t49, t50, t51] p13.2) p13.2) fun p14 =>
   B (gd t47 false (some a0)) fun t53 =>
   B (gd t47 false (some a1)) fun t54 =>
   B (gd t47 false (some a2)) fun t55 =>
   B (gh t47 false (call 22 [t53, t54, t55] p14.2) p14.2) fun p15 =>
   B (gd t47 false (bo .neq 4 p14.1 p15.1)) fun t57 =>
   B (pk t47 (some (.bool true)) (some t57)) fun t58 =>
   br t58 (
    B (st 1 p2.1 (.bool false) p15.2) fun p16 =>
    B (ld1 p2.1 p16.2) fun r17 =>
    some (r17, p16.2)) (
    B (call 23 [a0] p15.2) fun p18 =>
    B (al [.slice none 0 0] p18.2) fun p19 =>
    B (st 1 p19.1 p18.1 p19.2) fun p20 =>
    B (call 24 [a0] p20.2) fun p21 =>
    B (bo .eql 50 p21.1 (.nilFunc)) fun t64 =>
    br t64 (
     B (st 1 p2.1 (.bool false) p21.2) fun p22 =>
     B (ld1 p2.1 p22.2) fun r23 =>
     some (r23, p22.2)) (
     B (al [I 0] p21.2) fun p24 =>
     B (st 1 p24.1 (I 0) p24.2) fun p25 =>
     rfX C0 (ev C0) p21.1 (L6r1 [p1.1, p2.1, p19.1, p24.1]) p25.2 (fun h32 =>
       F6j0 p1.1 p2.1 p19.1 p24.1 h32 [fun x33 h34 =>
         B (ld1 (gv x33 0) h34) fun r35 =>
         some (r35, h34)]) [(0, (fun h36 =>
       F6j0 p1.1 p2.1 p19.1 p24.1 h36 [fun x37 h38 =>
         B (ld1 (gv x37 0) h38) fun r39 =>
         some (r39, h38)]))] (fun h40 =>
       B (ld1 p2.1 h40) fun r41 =>
       some (r41, h40)))))
noncomputable def af6 : AF := ⟨cd6, 96, Try.f6.results.toList, true, false⟩
theorem fn6 : C0.fn 6 = some af6 := by kernel_rfl
theorem b6 {a0 a1 a2 a3 : Value} {H : Hp} {r : Value × Hp} (h : F6 a0 a1 a2 a3 H = some r) : ∃ d, bodyE C0 (evF C0 d) af6 [a0, a1, a2, a3] H = some r :=
  body_ok noX (by kernel_rfl) (.n none .e (.n none .e (.n none .e (.n none .e (.n none .e (.n none .e (.n none .e (.n none .e (.n none .e (.n none .e (.n (some o6j0) .e .e))))))))))) ((show evX C0 (ev C0) 96 cd6 (.n none .e (.n none .e (.n none .e (.n none .e (.n none .e (.n none .e (.n none .e (.n none .e (.n none .e (.n none .e (.n (some o6j0) .e .e))))))))))) (args0 96 [a0, a1, a2, a3]) H (kRet C0 Try.f6.results.toList) = F6 a0 a1 a2 a3 H by kernel_rfl).trans h)
theorem c6 {a0 a1 a2 a3 : Value} {H : Hp} {v : Value} (hv : plainV v = true) (h : (F6 a0 a1 a2 a3 (H.fresh [a0, a1, a2, a3])).map (·.1) = some v) : call 6 [a0, a1, a2, a3] H = some (v, H) := pure_map noX fn6 rfl hv h b6
end Go.Proofs.Ytiigiodagfalpaa.X
