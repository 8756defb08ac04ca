/- Printed by xp.py: functions of the program, and that the code says so. -/
import Derived.Test.YtbipfjcfggdjiaaDescC
set_option maxRecDepth 100000
set_option maxHeartbeats 1000000
namespace Go.Proofs.Ytbipfjcfggdjiaa.X
open Go.Ahe Go.Ahe.X
/-! tenement/desc.mask -/
noncomputable def cd17 : Code := (Try.f17.body).getD .skip
noncomputable def F17 (a0 : Value) (H : Hp) : O :=
  B (call 23 [(I 17), (I 12)] H) fun p1 =>
  B (bo .or 22 p1.1 (U 3)) fun t7 =>
  B (bo .or 22 p1.1 (U 3)) fun t9 =>
  B (call 23 [(I 7), (I 6)] p1.2) fun p2 =>
  B (bo .or 22 t9 p2.1) fun t11 =>
  B (call 23 [(I 11), (I 10)] p2.2) fun p3 =>
  B (bo .or 22 t11 p3.1) fun t13 =>
  B (bdA 1 [U 0, U 0, U 0] [(0, (U 0)), (1, t7), (2, t13)]) fun t14 =>
  B (al [U 0, U 0, U 0] p3.2) fun p4 =>
  B (st 3 p4.1 t14 p4.2) fun p5 =>
  B (bo .lss 25 a0 (.int .i8 0)) fun t16 =>
  B (gd t16 false (some a0)) fun t18 =>
  B (gd t16 false (cvI .i64 t18)) fun t19 =>
  B (gd t16 false (bo .geq 3 t19 (I 3))) fun t20 =>
  B (pk t16 (some (.bool true)) (some t20)) fun t21 =>
  br t21 (
   some ((U 0), p5.2)) (
   B (ixP 3 1 p4.1 a0) fun t23 =>
   B (ld1 t23 p5.2) fun t24 =>
   some (t24, p5.2))
noncomputable def af17 : AF := ⟨cd17, 25, Try.f17.results.toList, true⟩
theorem fn17 : C0.fn 17 = some af17 := by kernel_rfl
theorem b17 {a0 : Value} {H : Hp} {r : Value × Hp} (h : F17 a0 H = some r) : ∃ d, bodyE C0 (evF C0 d) af17 [a0] H = some r :=
  body_ok noX (by kernel_rfl) .e ((show evX C0 (ev C0) 25 cd17 .e (args0 25 [a0]) H (kRet C0 Try.f17.results.toList) = F17 a0 H by kernel_rfl).trans h)
theorem c17 {a0 : Value} {H : Hp} {v : Value} (hv : plainV v = true) (h : (F17 a0 (H.fresh [a0])).map (·.1) = some v) : call 17 [a0] H = some (v, H) := pure_map noX fn17 rfl hv h b17

/-! tenement/desc.Decode$1 -/
noncomputable def cd18 : Code := (Try.f18.body).getD .skip
noncomputable def F18 (a0 a1 : Value) (H : Hp) : O :=
  B (ld1 a1 H) fun t4 =>
  B (bo .shr 22 t4 a0) fun t6 =>
  B (bo .and 22 t6 (U 1)) fun t7 =>
  B (bo .eql 22 t7 (U 1)) fun t8 =>
  some (t8, H)
noncomputable def af18 : AF := ⟨cd18, 9, Try.f18.results.toList, true⟩
theorem fn18 : C0.fn 18 = some af18 := by kernel_rfl
theorem b18 {a0 a1 : Value} {H : Hp} {r : Value × Hp} (h : F18 a0 a1 H = some r) : ∃ d, bodyE C0 (evF C0 d) af18 [a0, a1] H = some r :=
  body_ok noX (by kernel_rfl) .e ((show evX C0 (ev C0) 9 cd18 .e (args0 9 [a0, a1]) H (kRet C0 Try.f18.results.toList) = F18 a0 a1 H by kernel_rfl).trans h)
theorem c18 {a0 a1 : Value} {H : Hp} {v : Value} (hv : plainV v = true) (h : (F18 a0 a1 (H.fresh [a0, a1])).map (·.1) = some v) : call 18 [a0, a1] H = some (v, H) := pure_map noX fn18 rfl hv h b18

/-! tenement/field.Get -/
noncomputable def cd19 : Code := (Try.f19.body).getD .skip
noncomputable def F19 (a0 a1 a2 : Value) (H : Hp) : O :=
  B (bd [(0, 1), (1, 1)] [I 0, I 0] [(0, a1), (1, a2)]) fun t10 =>
  B (call 24 [t10] H) fun p1 =>
  B (bo .neq 22 p1.1 (U 0)) fun t13 =>
  br t13 (
   B (bo .and 22 a0 p1.1) fun t16 =>
   B (bo .shr 22 t16 a2) fun t18 =>
   some (t18, p1.2)) (
   some ((U 0), p1.2))
noncomputable def af19 : AF := ⟨cd19, 19, Try.f19.results.toList, true⟩
theorem fn19 : C0.fn 19 = some af19 := by kernel_rfl
theorem b19 {a0 a1 a2 : Value} {H : Hp} {r : Value × Hp} (h : F19 a0 a1 a2 H = some r) : ∃ d, bodyE C0 (evF C0 d) af19 [a0, a1, a2] H = some r :=
  body_ok noX (by kernel_rfl) .e ((show evX C0 (ev C0) 19 cd19 .e (args0 19 [a0, a1, a2]) H (kRet C0 Try.f19.results.toList) = F19 a0 a1 a2 H by kernel_rfl).trans h)
theorem c19 {a0 a1 a2 : Value} {H : Hp} {v : Value} (hv : plainV v = true) (h : (F19 a0 a1 a2 (H.fresh [a0, a1, a2])).map (·.1) = some v) : call 19 [a0, a1, a2] H = some (v, H) := pure_map noX fn19 rfl hv h b19

/-! tenement/desc.bit -/
noncomputable def cd20 : Code := (Try.f20.body).getD .skip
noncomputable def F20 (a0 a1 : Value) (H : Hp) : O :=
  br a0 (
   B (bo .shl 22 (U 1) a1) fun t7 =>
   some (t7, H)) (
   some ((U 0), H))
noncomputable def af20 : AF := ⟨cd20, 8, Try.f20.results.toList, true⟩
theorem fn20 : C0.fn 20 = some af20 := by kernel_rfl
theorem b20 {a0 a1 : Value} {H : Hp} {r : Value × Hp} (h : F20 a0 a1 H = some r) : ∃ d, bodyE C0 (evF C0 d) af20 [a0, a1] H = some r :=
  body_ok noX (by kernel_rfl) .e ((show evX C0 (ev C0) 8 cd20 .e (args0 8 [a0, a1]) H (kRet C0 Try.f20.results.toList) = F20 a0 a1 H by kernel_rfl).trans h)
theorem c20 {a0 a1 : Value} {H : Hp} {v : Value} (hv : plainV v = true) (h : (F20 a0 a1 (H.fresh [a0, a1])).map (·.1) = some v) : call 20 [a0, a1] H = some (v, H) := pure_map noX fn20 rfl hv h b20

/-! tenement/tenementref03.flag -/
noncomputable def cd21 : Code := (Try.f21.body).getD .skip
noncomputable def F21 (a0 a1 : Value) (H : Hp) : O :=
  br a0 (
   B (cvI .u64 a1) fun t7 =>
   B (bo .shl 22 (U 1) t7) fun t8 =>
   some (t8, H)) (
   some ((U 0), H))
noncomputable def af21 : AF := ⟨cd21, 9, Try.f21.results.toList, true⟩
theorem fn21 : C0.fn 21 = some af21 := by kernel_rfl
theorem b21 {a0 a1 : Value} {H : Hp} {r : Value × Hp} (h : F21 a0 a1 H = some r) : ∃ d, bodyE C0 (evF C0 d) af21 [a0, a1] H = some r :=
  body_ok noX (by kernel_rfl) .e ((show evX C0 (ev C0) 9 cd21 .e (args0 9 [a0, a1]) H (kRet C0 Try.f21.results.toList) = F21 a0 a1 H by kernel_rfl).trans h)
theorem c21 {a0 a1 : Value} {H : Hp} {v : Value} (hv : plainV v = true) (h : (F21 a0 a1 (H.fresh [a0, a1])).map (·.1) = some v) : call 21 [a0, a1] H = some (v, H) := pure_map noX fn21 rfl hv h b21

/-! tenement/tenementref01.Get -/
noncomputable def cd22 : Code := (Try.f22.body).getD .skip
noncomputable def F22b0 (k : Kx) (t0 t2 t7 t8 : Value) (H : Hp) (X : List Kx) : O :=
  B (bo .geq 3 t8 t2) fun t16 =>
  br t16 (
   B (bo .shl 22 t7 (U 1)) fun t20 =>
   B (call 26 [t0, t8] H) fun p2 =>
   B (bo .or 22 t20 p2.1) fun t24 =>
   B (bo .sub 3 t8 (I 1)) fun t18 =>
   k [t0, t2, t24, t18] p2.2) (
   nth X 0 [t7] H)
noncomputable def F22b0L : Kx → List Value → Hp → List Kx → O := fun k xs H X => F22b0 k (gv xs 0) (gv xs 1) (gv xs 2) (gv xs 3) H X
noncomputable def o22b0 : Orac C0 26 (lft (rgt (lft (rgt (rgt (rgt cd22)))))) := loopO noX (by kernel_rfl) .e [0, 2, 7, 8] [(.ex 0, [7])] F22b0L fun k xs H X => by kernel_rfl
noncomputable def F22 (a0 a1 a2 : Value) (H : Hp) : O :=
  B (call 25 [a1, a2] H) fun p1 =>
  B (unE .not p1.1) fun t12 =>
  br t12 (
   some ((U 0), p1.2)) (
   loopS F22b0L rnd [a0, a2, (U 0), a1] p1.2 [fun x3 h4 =>
     some ((gv x3 0), h4)])
noncomputable def af22 : AF := ⟨cd22, 26, Try.f22.results.toList, true⟩
theorem fn22 : C0.fn 22 = some af22 := by kernel_rfl
theorem b22 {a0 a1 a2 : Value} {H : Hp} {r : Value × Hp} (h : F22 a0 a1 a2 H = some r) : ∃ d, bodyE C0 (evF C0 d) af22 [a0, a1, a2] H = some r :=
  body_ok noX (by kernel_rfl) (.n none .e (.n none .e (.n none .e (.n none (.n none .e (.n none (.n (some o22b0) .e .e) .e)) .e)))) ((show evX C0 (ev C0) 26 cd22 (.n none .e (.n none .e (.n none .e (.n none (.n none .e (.n none (.n (some o22b0) .e .e) .e)) .e)))) (args0 26 [a0, a1, a2]) H (kRet C0 Try.f22.results.toList) = F22 a0 a1 a2 H by kernel_rfl).trans h)
theorem c22 {a0 a1 a2 : Value} {H : Hp} {v : Value} (hv : plainV v = true) (h : (F22 a0 a1 a2 (H.fresh [a0, a1, a2])).map (·.1) = some v) : call 22 [a0, a1, a2] H = some (v, H) := pure_map noX fn22 rfl hv h b22

/-! tenement/field.Ones -/
noncomputable def cd23 : Code := (Try.f23.body).getD .skip
noncomputable def F23 (a0 a1 : Value) (H : Hp) : O :=
  B (bd [(0, 1), (1, 1)] [I 0, I 0] [(0, a0), (1, a1)]) fun t7 =>
  B (call 24 [t7] H) fun p1 =>
  some (p1.1, p1.2)
noncomputable def af23 : AF := ⟨cd23, 9, Try.f23.results.toList, true⟩
theorem fn23 : C0.fn 23 = some af23 := by kernel_rfl
theorem b23 {a0 a1 : Value} {H : Hp} {r : Value × Hp} (h : F23 a0 a1 H = some r) : ∃ d, bodyE C0 (evF C0 d) af23 [a0, a1] H = some r :=
  body_ok noX (by kernel_rfl) .e ((show evX C0 (ev C0) 9 cd23 .e (args0 9 [a0, a1]) H (kRet C0 Try.f23.results.toList) = F23 a0 a1 H by kernel_rfl).trans h)
theorem c23 {a0 a1 : Value} {H : Hp} {v : Value} (hv : plainV v = true) (h : (F23 a0 a1 (H.fresh [a0, a1])).map (·.1) = some v) : call 23 [a0, a1] H = some (v, H) := pure_map noX fn23 rfl hv h b23

/-! (tenement/field.span).mask -/
noncomputable def cd24 : Code := (Try.f24.body).getD .skip
noncomputable def F24j0 (t1 : Value) (H : Hp) (X : List Kx) : O :=
  B (fa 0 t1) fun t15 =>
  B (ld1 t15 H) fun t16 =>
  B (bo .sub 3 (I 63) t16) fun t17 =>
  B (fa 1 t1) fun t18 =>
  B (ld1 t18 H) fun t19 =>
  B (bo .add 3 t17 t19) fun t20 =>
  B (bo .shr 22 (U 18446744073709551615) t20) fun t21 =>
  B (fa 1 t1) fun t22 =>
  B (ld1 t22 H) fun t23 =>
  B (bo .shl 22 t21 t23) fun t24 =>
  nth X 0 [t24] H
noncomputable def o24j0 : Orac C0 25 (rgt (rgt cd24)) := joinO noX .e [1] [(.rt, [2])] (fun xs H X => F24j0 (gv xs 0) H X) fun xs H X => by kernel_rfl
noncomputable def F24j1 (t1 t3 : Value) (H : Hp) (X : List Kx) : O :=
  br t3 (
   nth X 1 [(U 0)] H) (
   nth X 0 [t1] H)
noncomputable def o24j1 : Orac C0 25 (rgt (lft (lft (rgt cd24)))) := joinO noX .e [1, 3] [(.nx, [1]), (.rt, [2])] (fun xs H X => F24j1 (gv xs 0) (gv xs 1) H X) fun xs H X => by kernel_rfl
noncomputable def F24 (a0 : Value) (H : Hp) : O :=
  B (al (cellsOf a0) H) fun p1 =>
  B (fa 1 p1.1) fun t4 =>
  B (ld1 t4 p1.2) fun t5 =>
  B (bo .lss 3 t5 (I 0)) fun t6 =>
  br t6 (
   F24j1 p1.1 t6 p1.2 [fun x2 h3 =>
     F24j0 (gv x2 0) h3 [fun x4 h5 =>
       some ((gv x4 0), h5)],
    fun x6 h7 =>
     some ((gv x6 0), h7)]) (
   B (fa 0 p1.1) fun t7 =>
   B (ld1 t7 p1.2) fun t8 =>
   B (fa 1 p1.1) fun t9 =>
   B (ld1 t9 p1.2) fun t10 =>
   B (bo .lss 3 t8 t10) fun t11 =>
   br t11 (
    F24j1 p1.1 t11 p1.2 [fun x8 h9 =>
      F24j0 (gv x8 0) h9 [fun x10 h11 =>
        some ((gv x10 0), h11)],
     fun x12 h13 =>
      some ((gv x12 0), h13)]) (
    B (fa 0 p1.1) fun t12 =>
    B (ld1 t12 p1.2) fun t13 =>
    B (bo .gtr 3 t13 (I 63)) fun t14 =>
    F24j1 p1.1 t14 p1.2 [fun x14 h15 =>
      F24j0 (gv x14 0) h15 [fun x16 h17 =>
        some ((gv x16 0), h17)],
     fun x18 h19 =>
      some ((gv x18 0), h19)]))
noncomputable def af24 : AF := ⟨cd24, 25, Try.f24.results.toList, true⟩
theorem fn24 : C0.fn 24 = some af24 := by kernel_rfl
theorem b24 {a0 : Value} {H : Hp} {r : Value × Hp} (h : F24 a0 H = some r) : ∃ d, bodyE C0 (evF C0 d) af24 [a0] H = some r :=
  body_ok noX (by kernel_rfl) (.n none .e (.n none (.n none (.n none .e (.n (some o24j1) .e .e)) .e) (.n (some o24j0) .e .e))) ((show evX C0 (ev C0) 25 cd24 (.n none .e (.n none (.n none (.n none .e (.n (some o24j1) .e .e)) .e) (.n (some o24j0) .e .e))) (args0 25 [a0]) H (kRet C0 Try.f24.results.toList) = F24 a0 H by kernel_rfl).trans h)
theorem c24 {a0 : Value} {H : Hp} {v : Value} (hv : plainV v = true) (h : (F24 a0 (H.fresh [a0])).map (·.1) = some v) : call 24 [a0] H = some (v, H) := pure_map noX fn24 rfl hv h b24

/-! tenement/tenementref01.is -/
noncomputable def cd25 : Code := (Try.f25.body).getD .skip
noncomputable def F25 (a0 a1 : Value) (H : Hp) : O :=
  B (bo .geq 3 a1 (I 0)) fun t6 =>
  B (gd t6 true (some a0)) fun t8 =>
  B (gd t6 true (some a1)) fun t9 =>
  B (gd t6 true (bo .geq 3 t8 t9)) fun t10 =>
  B (pk t6 (some t10) (some (.bool false))) fun t11 =>
  B (gd t11 true (some a0)) fun t13 =>
  B (gd t11 true (bo .leq 3 t13 (I 63))) fun t14 =>
  B (pk t11 (some t14) (some (.bool false))) fun t15 =>
  some (t15, H)
noncomputable def af25 : AF := ⟨cd25, 16, Try.f25.results.toList, true⟩
theorem fn25 : C0.fn 25 = some af25 := by kernel_rfl
theorem b25 {a0 a1 : Value} {H : Hp} {r : Value × Hp} (h : F25 a0 a1 H = some r) : ∃ d, bodyE C0 (evF C0 d) af25 [a0, a1] H = some r :=
  body_ok noX (by kernel_rfl) .e ((show evX C0 (ev C0) 16 cd25 .e (args0 16 [a0, a1]) H (kRet C0 Try.f25.results.toList) = F25 a0 a1 H by kernel_rfl).trans h)
theorem c25 {a0 a1 : Value} {H : Hp} {v : Value} (hv : plainV v = true) (h : (F25 a0 a1 (H.fresh [a0, a1])).map (·.1) = some v) : call 25 [a0, a1] H = some (v, H) := pure_map noX fn25 rfl hv h b25

/-! tenement/tenementref01.bit -/
noncomputable def cd26 : Code := (Try.f26.body).getD .skip
noncomputable def F26 (a0 a1 : Value) (H : Hp) : O :=
  B (cvI .u64 a1) fun t7 =>
  B (bo .shr 22 a0 t7) fun t8 =>
  B (bo .and 22 t8 (U 1)) fun t9 =>
  some (t9, H)
noncomputable def af26 : AF := ⟨cd26, 10, Try.f26.results.toList, true⟩
theorem fn26 : C0.fn 26 = some af26 := by kernel_rfl
theorem b26 {a0 a1 : Value} {H : Hp} {r : Value × Hp} (h : F26 a0 a1 H = some r) : ∃ d, bodyE C0 (evF C0 d) af26 [a0, a1] H = some r :=
  body_ok noX (by kernel_rfl) .e ((show evX C0 (ev C0) 10 cd26 .e (args0 10 [a0, a1]) H (kRet C0 Try.f26.results.toList) = F26 a0 a1 H by kernel_rfl).trans h)
theorem c26 {a0 a1 : Value} {H : Hp} {v : Value} (hv : plainV v = true) (h : (F26 a0 a1 (H.fresh [a0, a1])).map (·.1) = some v) : call 26 [a0, a1] H = some (v, H) := pure_map noX fn26 rfl hv h b26

/-! tenement/desc.page -/
noncomputable def cd16 : Code := (Try.f16.body).getD .skip
noncomputable def F16 (a0 : Value) (H : Hp) : O :=
  B (al [.int .i8 0, I 0, .bool false, .bool false, .bool false, .bool false] H) fun p1 =>
  B (call 8 [a0, (I 3)] p1.2) fun p2 =>
  B (extractE p2.1 0) fun t9 =>
  B (extractE p2.1 1) fun t10 =>
  B (al [.int .i8 0, I 0, .bool false, .bool false, .bool false, .bool false] p2.2) fun p3 =>
  B (st 6 p3.1 t9 p3.2) fun p4 =>
  B (ldA 6 p3.1 p4.2) fun t11 =>
  B (bo .eql 28 t10 (I 0)) fun t13 =>
  B (gd t13 true (fa 0 p3.1)) fun t15 =>
  B (gd t13 true (ld1 t15 p4.2)) fun t16 =>
  B (gd t13 true (bo .eql 25 t16 (.int .i8 2))) fun t17 =>
  B (pk t13 (some t17) (some (.bool false))) fun t18 =>
  B (st 6 p1.1 t11 p4.2) fun p5 =>
  ck (wantV t13 true) (ld1 t15 p5.2) t16 (
  B (ldA 6 p1.1 p5.2) fun r6 =>
  some (.tuple #[r6, t18], p5.2))
noncomputable def af16 : AF := ⟨cd16, 19, Try.f16.results.toList, true⟩
theorem fn16 : C0.fn 16 = some af16 := by kernel_rfl
theorem b16 {a0 : Value} {H : Hp} {r : Value × Hp} (h : F16 a0 H = some r) : ∃ d, bodyE C0 (evF C0 d) af16 [a0] H = some r :=
  body_ok noX (by kernel_rfl) .e ((show evX C0 (ev C0) 19 cd16 .e (args0 19 [a0]) H (kRet C0 Try.f16.results.toList) = F16 a0 H by kernel_rfl).trans h)
theorem c16 {a0 : Value} {H : Hp} {v : Value} (hv : plainV v = true) (h : (F16 a0 (H.fresh [a0])).map (·.1) = some v) : call 16 [a0] H = some (v, H) := pure_map noX fn16 rfl hv h b16

/-! tenement/desc.Touch -/
noncomputable def cd7 : Code := (Try.f7.body).getD .skip
noncomputable def F7 (a0 : Value) (H : Hp) : O :=
  B (call 16 [a0] H) fun p1 =>
  B (extractE p1.1 0) fun t9 =>
  B (extractE p1.1 1) fun t10 =>
  B (al [.int .i8 0, I 0, .bool false, .bool false, .bool false, .bool false] p1.2) fun p2 =>
  B (st 6 p2.1 t9 p2.2) fun p3 =>
  B (unE .not t10) fun t12 =>
  B (gd t12 false (fa 2 p2.1)) fun t14 =>
  B (gd t12 false (ld1 t14 p3.2)) fun t15 =>
  B (pk t12 (some (.bool true)) (some t15)) fun t16 =>
  br t16 (
   some (.tuple #[a0, (.bool false)], p3.2)) (
   B (bo .or 22 a0 (U 1024)) fun t19 =>
   some (.tuple #[t19, (.bool true)], p3.2))
noncomputable def af7 : AF := ⟨cd7, 20, Try.f7.results.toList, true⟩
theorem fn7 : C0.fn 7 = some af7 := by kernel_rfl
theorem b7 {a0 : Value} {H : Hp} {r : Value × Hp} (h : F7 a0 H = some r) : ∃ d, bodyE C0 (evF C0 d) af7 [a0] H = some r :=
  body_ok noX (by kernel_rfl) .e ((show evX C0 (ev C0) 20 cd7 .e (args0 20 [a0]) H (kRet C0 Try.f7.results.toList) = F7 a0 H by kernel_rfl).trans h)
theorem c7 {a0 : Value} {H : Hp} {v : Value} (hv : plainV v = true) (h : (F7 a0 (H.fresh [a0])).map (·.1) = some v) : call 7 [a0] H = some (v, H) := pure_map noX fn7 rfl hv h b7

/-! tenement/desc.Decode -/
noncomputable def cd8 : Code := (Try.f8.body).getD .skip
noncomputable def F8j0 (t2 t4 t6 : Value) (H : Hp) (X : List Kx) : O :=
  B (ld1 t2 H) fun t22 =>
  B (bo .and 22 t22 (U 3)) fun t23 =>
  B (bo .neq 22 t23 (U 3)) fun t24 =>
  B (gd t24 false (ld1 t2 H)) fun t26 =>
  B (gd t24 false (some t6)) fun t27 =>
  B (gh t24 false (call 17 [t27] H) H) fun p3 =>
  B (gd t24 false (bo .andNot 22 t26 p3.1)) fun t29 =>
  B (gd t24 false (bo .neq 22 t29 (U 0))) fun t30 =>
  B (pk t24 (some (.bool true)) (some t30)) fun t31 =>
  br t31 (
   B (bd [(0, 1), (1, 1), (2, 1), (3, 1), (4, 1), (5, 1)] [.int .i8 0, I 0, .bool false, .bool false, .bool false, .bool false] []) fun t32 =>
   B (st 6 t4 t32 p3.2) fun p4 =>
   nth X 0 [t4, (I 30)] p4.2) (
   B (ld1 t2 p3.2) fun t35 =>
   B (call 19 [t35, (I 17), (I 12)] p3.2) fun p5 =>
   B (cvI .i64 p5.1) fun t37 =>
   B (cl (ev C0) (.func (.func 18) #[] #[t2]) [(I 6)] p5.2) fun p6 =>
   B (cl (ev C0) (.func (.func 18) #[] #[t2]) [(I 7)] p6.2) fun p7 =>
   B (cl (ev C0) (.func (.func 18) #[] #[t2]) [(I 10)] p7.2) fun p8 =>
   B (cl (ev C0) (.func (.func 18) #[] #[t2]) [(I 11)] p8.2) fun p9 =>
   B (bd [(0, 1), (1, 1), (2, 1), (3, 1), (4, 1), (5, 1)] [.int .i8 0, I 0, .bool false, .bool false, .bool false, .bool false] [(0, t6), (1, t37), (4, p6.1), (3, p7.1), (2, p8.1), (5, p9.1)]) fun t46 =>
   B (st 6 t4 t46 p9.2) fun p10 =>
   nth X 0 [t4, (I 0)] p10.2)
noncomputable def o8j0 : Orac C0 47 (rgt (rgt (rgt cd8))) := joinO noX .e [2, 4, 6] [(.rt, [4, 5])] (fun xs H X => F8j0 (gv xs 0) (gv xs 1) (gv xs 2) H X) fun xs H X => by kernel_rfl
noncomputable def F8j1 (t1 t2 t4 t6 t8 : Value) (H : Hp) (X : List Kx) : O :=
  br t8 (
   B (bd [(0, 1), (1, 1), (2, 1), (3, 1), (4, 1), (5, 1)] [.int .i8 0, I 0, .bool false, .bool false, .bool false, .bool false] []) fun t13 =>
   B (st 6 t4 t13 H) fun p11 =>
   nth X 1 [t4, (I 2)] p11.2) (
   B (ld1 t2 H) fun t15 =>
   B (bo .and 22 t15 (U 1)) fun t16 =>
   B (bo .eql 22 t16 (U 0)) fun t17 =>
   br t17 (
    B (bd [(0, 1), (1, 1), (2, 1), (3, 1), (4, 1), (5, 1)] [.int .i8 0, I 0, .bool false, .bool false, .bool false, .bool false] []) fun t18 =>
    B (st 6 t4 t18 H) fun p12 =>
    nth X 1 [t4, (I 0)] p12.2) (
    B (bo .eql 3 t1 (I 3)) fun t21 =>
    br t21 (
     nth X 0 [t2, t4, (.int .i8 2)] H) (
     nth X 0 [t2, t4, t6] H)))
noncomputable def o8j1 : Orac C0 47 (rgt (lft (lft (rgt (rgt cd8))))) := joinO noX .e [1, 2, 4, 6, 8] [(.nx, [2, 4, 6]), (.rt, [4, 5])] (fun xs H X => F8j1 (gv xs 0) (gv xs 1) (gv xs 2) (gv xs 3) (gv xs 4) H X) fun xs H X => by kernel_rfl
noncomputable def F8 (a0 a1 : Value) (H : Hp) : O :=
  B (al (cellsOf a0) H) fun p1 =>
  B (al [.int .i8 0, I 0, .bool false, .bool false, .bool false, .bool false] p1.2) fun p2 =>
  B (bo .lss 3 a1 (I 0)) fun t10 =>
  br t10 (
   F8j1 a1 p1.1 p2.1 (.int .i8 1) t10 p2.2 [fun x13 h14 =>
     F8j0 (gv x13 0) (gv x13 1) (gv x13 2) h14 [fun x15 h16 =>
       B (ldA 6 (gv x15 0) h16) fun r17 =>
       some (.tuple #[r17, (gv x15 1)], h16)],
    fun x18 h19 =>
     B (ldA 6 (gv x18 0) h19) fun r20 =>
     some (.tuple #[r20, (gv x18 1)], h19)]) (
   B (bo .gtr 3 a1 (I 3)) fun t12 =>
   F8j1 a1 p1.1 p2.1 (.int .i8 1) t12 p2.2 [fun x21 h22 =>
     F8j0 (gv x21 0) (gv x21 1) (gv x21 2) h22 [fun x23 h24 =>
       B (ldA 6 (gv x23 0) h24) fun r25 =>
       some (.tuple #[r25, (gv x23 1)], h24)],
    fun x26 h27 =>
     B (ldA 6 (gv x26 0) h27) fun r28 =>
     some (.tuple #[r28, (gv x26 1)], h27)])
noncomputable def af8 : AF := ⟨cd8, 47, Try.f8.results.toList, true⟩
theorem fn8 : C0.fn 8 = some af8 := by kernel_rfl
theorem b8 {a0 a1 : Value} {H : Hp} {r : Value × Hp} (h : F8 a0 a1 H = some r) : ∃ d, bodyE C0 (evF C0 d) af8 [a0, a1] H = some r :=
  body_ok noX (by kernel_rfl) (.n none .e (.n none .e (.n none (.n none (.n none .e (.n (some o8j1) .e .e)) .e) (.n (some o8j0) .e .e)))) ((show evX C0 (ev C0) 47 cd8 (.n none .e (.n none .e (.n none (.n none (.n none .e (.n (some o8j1) .e .e)) .e) (.n (some o8j0) .e .e)))) (args0 47 [a0, a1]) H (kRet C0 Try.f8.results.toList) = F8 a0 a1 H by kernel_rfl).trans h)
theorem c8 {a0 a1 : Value} {H : Hp} {v : Value} (hv : plainV v = true) (h : (F8 a0 a1 (H.fresh [a0, a1])).map (·.1) = some v) : call 8 [a0, a1] H = some (v, H) := pure_map noX fn8 rfl hv h b8

/-! tenement/desc.Differ -/
noncomputable def cd9 : Code := (Try.f9.body).getD .skip
noncomputable def F9 (a0 a1 : Value) (H : Hp) : O :=
  B (call 16 [a0] H) fun p1 =>
  B (extractE p1.1 0) fun t12 =>
  B (extractE p1.1 1) fun t13 =>
  B (al [.int .i8 0, I 0, .bool false, .bool false, .bool false, .bool false] p1.2) fun p2 =>
  B (st 6 p2.1 t12 p2.2) fun p3 =>
  B (call 16 [a1] p3.2) fun p4 =>
  B (extractE p4.1 0) fun t17 =>
  B (extractE p4.1 1) fun t18 =>
  B (al [.int .i8 0, I 0, .bool false, .bool false, .bool false, .bool false] p4.2) fun p5 =>
  B (st 6 p5.1 t17 p5.2) fun p6 =>
  B (gd t13 true (some t18)) fun t21 =>
  B (pk t13 (some t21) (some (.bool false))) fun t22 =>
  B (gd t22 true (fa 1 p2.1)) fun t24 =>
  B (gd t22 true (ld1 t24 p6.2)) fun t25 =>
  B (gd t22 true (fa 1 p5.1)) fun t26 =>
  B (gd t22 true (ld1 t26 p6.2)) fun t27 =>
  B (gd t22 true (bo .neq 3 t25 t27)) fun t28 =>
  B (pk t22 (some t28) (some (.bool false))) fun t29 =>
  some (t29, p6.2)
noncomputable def af9 : AF := ⟨cd9, 30, Try.f9.results.toList, true⟩
theorem fn9 : C0.fn 9 = some af9 := by kernel_rfl
theorem b9 {a0 a1 : Value} {H : Hp} {r : Value × Hp} (h : F9 a0 a1 H = some r) : ∃ d, bodyE C0 (evF C0 d) af9 [a0, a1] H = some r :=
  body_ok noX (by kernel_rfl) .e ((show evX C0 (ev C0) 30 cd9 .e (args0 30 [a0, a1]) H (kRet C0 Try.f9.results.toList) = F9 a0 a1 H by kernel_rfl).trans h)
theorem c9 {a0 a1 : Value} {H : Hp} {v : Value} (hv : plainV v = true) (h : (F9 a0 a1 (H.fresh [a0, a1])).map (·.1) = some v) : call 9 [a0, a1] H = some (v, H) := pure_map noX fn9 rfl hv h b9

/-! tenement/tenementlaw03.wakes -/
noncomputable def cd10 : Code := (Try.f10.body).getD .skip
noncomputable def F10 (H : Hp) : O :=
  B (call 8 [(U 20483), (I 1)] H) fun p1 =>
  B (extractE p1.1 0) fun t9 =>
  B (extractE p1.1 1) fun t10 =>
  B (al [.int .i8 0, I 0, .bool false, .bool false, .bool false, .bool false] p1.2) fun p2 =>
  B (st 6 p2.1 t9 p2.2) fun p3 =>
  B (call 8 [(U 21699), (I 3)] p3.2) fun p4 =>
  B (extractE p4.1 0) fun t13 =>
  B (extractE p4.1 1) fun t14 =>
  B (al [.int .i8 0, I 0, .bool false, .bool false, .bool false, .bool false] p4.2) fun p5 =>
  B (st 6 p5.1 t13 p5.2) fun p6 =>
  B (call 8 [(U 20481), (I 3)] p6.2) fun p7 =>
  B (extractE p7.1 0) fun t17 =>
  B (extractE p7.1 1) fun t18 =>
  B (al [.int .i8 0, I 0, .bool false, .bool false, .bool false, .bool false] p7.2) fun p8 =>
  B (st 6 p8.1 t17 p8.2) fun p9 =>
  B (bo .eql 28 t10 (I 0)) fun t20 =>
  B (gd t20 true (ldA 6 p2.1 p9.2)) fun t22 =>
  B (gd t20 true (bd [(0, 1), (1, 1), (2, 1), (3, 1), (4, 1), (5, 1)] [.int .i8 0, I 0, .bool false, .bool false, .bool false, .bool false] [(0, (.int .i8 1)), (1, (I 5))])) fun t23 =>
  B (gd t20 true (bo .eql 27 t22 t23)) fun t24 =>
  B (pk t20 (some t24) (some (.bool false))) fun t25 =>
  B (gd t25 true (some t14)) fun t27 =>
  B (gd t25 true (bo .eql 28 t27 (I 0))) fun t28 =>
  B (pk t25 (some t28) (some (.bool false))) fun t29 =>
  B (gd t29 true (ldA 6 p5.1 p9.2)) fun t31 =>
  B (gd t29 true (bd [(0, 1), (1, 1), (2, 1), (3, 1), (4, 1), (5, 1)] [.int .i8 0, I 0, .bool false, .bool false, .bool false, .bool false] [(0, (.int .i8 2)), (1, (I 5)), (2, (.bool true)), (3, (.bool true)), (4, (.bool true))])) fun t32 =>
  B (gd t29 true (bo .eql 27 t31 t32)) fun t33 =>
  B (pk t29 (some t33) (some (.bool false))) fun t34 =>
  B (gd t34 true (some t18)) fun t36 =>
  B (gd t34 true (bo .eql 28 t36 (I 30))) fun t37 =>
  B (pk t34 (some t37) (some (.bool false))) fun t38 =>
  some (t38, p9.2)
noncomputable def af10 : AF := ⟨cd10, 39, Try.f10.results.toList, true⟩
theorem fn10 : C0.fn 10 = some af10 := by kernel_rfl
theorem b10 {H : Hp} {r : Value × Hp} (h : F10 H = some r) : ∃ d, bodyE C0 (evF C0 d) af10 [] H = some r :=
  body_ok noX (by kernel_rfl) .e ((show evX C0 (ev C0) 39 cd10 .e (args0 39 []) H (kRet C0 Try.f10.results.toList) = F10 H by kernel_rfl).trans h)
theorem c10 {H : Hp} {v : Value} (hv : plainV v = true) (h : (F10 (H.fresh [])).map (·.1) = some v) : call 10 [] H = some (v, H) := pure_map noX fn10 rfl hv h b10

/-! tenement/desc.Encode -/
noncomputable def cd11 : Code := (Try.f11.body).getD .skip
noncomputable def F11 (a0 : Value) (H : Hp) : O :=
  B (al (cellsOf a0) H) fun p1 =>
  B (fa 1 p1.1) fun t5 =>
  B (ld1 t5 p1.2) fun t6 =>
  B (bo .lss 3 t6 (I 0)) fun t7 =>
  B (gd t7 false (fa 1 p1.1)) fun t9 =>
  B (gd t7 false (ld1 t9 p1.2)) fun t10 =>
  B (gd t7 false (bo .geq 3 t10 (I 64))) fun t11 =>
  B (pk t7 (some (.bool true)) (some t11)) fun t12 =>
  B (gd t12 false (fa 0 p1.1)) fun t14 =>
  B (gd t12 false (ld1 t14 p1.2)) fun t15 =>
  B (gd t12 false (bo .lss 25 t15 (.int .i8 0))) fun t16 =>
  B (pk t12 (some (.bool true)) (some t16)) fun t17 =>
  B (gd t17 false (fa 0 p1.1)) fun t19 =>
  B (gd t17 false (ld1 t19 p1.2)) fun t20 =>
  B (gd t17 false (bo .gtr 25 t20 (.int .i8 2))) fun t21 =>
  B (pk t17 (some (.bool true)) (some t21)) fun t22 =>
  br t22 (
   some (.tuple #[(U 0), (I 30)], p1.2)) (
   B (fa 1 p1.1) fun t23 =>
   B (ld1 t23 p1.2) fun t24 =>
   B (cvI .u64 t24) fun t25 =>
   B (bo .shl 22 t25 (U 12)) fun t26 =>
   B (fa 4 p1.1) fun t27 =>
   B (ld1 t27 p1.2) fun t28 =>
   B (call 20 [t28, (I 6)] p1.2) fun p2 =>
   B (bo .or 22 t26 p2.1) fun t30 =>
   B (fa 3 p1.1) fun t31 =>
   B (ld1 t31 p2.2) fun t32 =>
   B (call 20 [t32, (I 7)] p2.2) fun p3 =>
   B (bo .or 22 t30 p3.1) fun t34 =>
   B (fa 2 p1.1) fun t35 =>
   B (ld1 t35 p3.2) fun t36 =>
   B (call 20 [t36, (I 10)] p3.2) fun p4 =>
   B (bo .or 22 t34 p4.1) fun t38 =>
   B (fa 5 p1.1) fun t39 =>
   B (ld1 t39 p4.2) fun t40 =>
   B (call 20 [t40, (I 11)] p4.2) fun p5 =>
   B (bo .or 22 t38 p5.1) fun t42 =>
   B (fa 0 p1.1) fun t43 =>
   B (ld1 t43 p5.2) fun t44 =>
   B (bo .neq 25 t44 (.int .i8 0)) fun t45 =>
   B (call 20 [t45, (I 0)] p5.2) fun p6 =>
   B (bo .or 22 t42 p6.1) fun t47 =>
   B (fa 0 p1.1) fun t48 =>
   B (ld1 t48 p6.2) fun t49 =>
   B (bo .neq 25 t49 (.int .i8 0)) fun t50 =>
   B (call 20 [t50, (I 1)] p6.2) fun p7 =>
   B (bo .or 22 t47 p7.1) fun t52 =>
   B (fa 0 p1.1) fun t54 =>
   B (ld1 t54 p7.2) fun t55 =>
   B (call 17 [t55] p7.2) fun p8 =>
   B (bo .andNot 22 t52 p8.1) fun t57 =>
   B (bo .neq 22 t57 (U 0)) fun t58 =>
   br t58 (
    some (.tuple #[(U 0), (I 30)], p8.2)) (
    some (.tuple #[t52, (I 0)], p8.2)))
noncomputable def af11 : AF := ⟨cd11, 60, Try.f11.results.toList, true⟩
theorem fn11 : C0.fn 11 = some af11 := by kernel_rfl
theorem b11 {a0 : Value} {H : Hp} {r : Value × Hp} (h : F11 a0 H = some r) : ∃ d, bodyE C0 (evF C0 d) af11 [a0] H = some r :=
  body_ok noX (by kernel_rfl) .e ((show evX C0 (ev C0) 60 cd11 .e (args0 60 [a0]) H (kRet C0 Try.f11.results.toList) = F11 a0 H by kernel_rfl).trans h)
theorem c11 {a0 : Value} {H : Hp} {v : Value} (hv : plainV v = true) (h : (F11 a0 (H.fresh [a0])).map (·.1) = some v) : call 11 [a0] H = some (v, H) := pure_map noX fn11 rfl hv h b11

/-! tenement/tenementref03.Encode -/
noncomputable def cd12 : Code := (Try.f12.body).getD .skip
noncomputable def F12 (a0 : Value) (H : Hp) : O :=
  B (al (cellsOf a0) H) fun p1 =>
  B (fa 2 p1.1) fun t5 =>
  B (ld1 t5 p1.2) fun t6 =>
  B (unE .not t6) fun t7 =>
  B (gd t7 true (fa 3 p1.1)) fun t9 =>
  B (gd t7 true (ld1 t9 p1.2)) fun t10 =>
  B (gd t7 true (unE .not t10)) fun t11 =>
  B (pk t7 (some t11) (some (.bool false))) fun t12 =>
  B (gd t12 true (fa 4 p1.1)) fun t14 =>
  B (gd t12 true (ld1 t14 p1.2)) fun t15 =>
  B (gd t12 true (unE .not t15)) fun t16 =>
  B (pk t12 (some t16) (some (.bool false))) fun t17 =>
  B (gd t17 true (fa 5 p1.1)) fun t19 =>
  B (gd t17 true (ld1 t19 p1.2)) fun t20 =>
  B (gd t17 true (unE .not t20)) fun t21 =>
  B (pk t17 (some t21) (some (.bool false))) fun t22 =>
  B (fa 0 p1.1) fun t23 =>
  B (ld1 t23 p1.2) fun t24 =>
  B (bo .eql 25 t24 (.int .i8 0)) fun t25 =>
  B (gd t25 true (some t22)) fun t27 =>
  B (pk t25 (some t27) (some (.bool false))) fun t28 =>
  B (gd t28 true (fa 1 p1.1)) fun t30 =>
  B (gd t28 true (ld1 t30 p1.2)) fun t31 =>
  B (gd t28 true (bo .eql 3 t31 (I 0))) fun t32 =>
  B (pk t28 (some t32) (some (.bool false))) fun t33 =>
  br t33 (
   some (.tuple #[(U 0), (I 0)], p1.2)) (
   B (fa 1 p1.1) fun t34 =>
   B (ld1 t34 p1.2) fun t35 =>
   B (bo .lss 3 t35 (I 0)) fun t36 =>
   B (gd t36 false (fa 1 p1.1)) fun t38 =>
   B (gd t36 false (ld1 t38 p1.2)) fun t39 =>
   B (gd t36 false (bo .geq 3 t39 (I 64))) fun t40 =>
   B (pk t36 (some (.bool true)) (some t40)) fun t41 =>
   B (gd t41 false (fa 0 p1.1)) fun t43 =>
   B (gd t41 false (ld1 t43 p1.2)) fun t44 =>
   B (gd t41 false (bo .neq 25 t44 (.int .i8 2))) fun t45 =>
   B (gd t41 false (some t45)) fun t46 =>
   B (gd t46 true (fa 0 p1.1)) fun t47 =>
   B (gd t46 true (ld1 t47 p1.2)) fun t48 =>
   B (gd t46 true (bo .neq 25 t48 (.int .i8 1))) fun t49 =>
   B (gd t46 true (some t49)) fun t50 =>
   B (gd t50 false (some t22)) fun t51 =>
   B (gd t50 false (unE .not t51)) fun t52 =>
   B (gd t46 true (pk t50 (some (.bool true)) (some t52))) fun t53 =>
   B (gd t41 false (pk t46 (some t53) (some (.bool false)))) fun t54 =>
   B (pk t41 (some (.bool true)) (some t54)) fun t55 =>
   br t55 (
    some (.tuple #[(U 0), (I 30)], p1.2)) (
    B (fa 1 p1.1) fun t56 =>
    B (ld1 t56 p1.2) fun t57 =>
    B (cvI .u64 t57) fun t58 =>
    B (bo .shl 22 t58 (U 12)) fun t59 =>
    B (bo .or 22 (U 3) t59) fun t60 =>
    B (fa 4 p1.1) fun t61 =>
    B (ld1 t61 p1.2) fun t62 =>
    B (call 21 [t62, (I 6)] p1.2) fun p2 =>
    B (bo .or 22 t60 p2.1) fun t64 =>
    B (fa 3 p1.1) fun t65 =>
    B (ld1 t65 p2.2) fun t66 =>
    B (call 21 [t66, (I 7)] p2.2) fun p3 =>
    B (bo .or 22 t64 p3.1) fun t68 =>
    B (fa 2 p1.1) fun t69 =>
    B (ld1 t69 p3.2) fun t70 =>
    B (call 21 [t70, (I 10)] p3.2) fun p4 =>
    B (bo .or 22 t68 p4.1) fun t72 =>
    B (fa 5 p1.1) fun t73 =>
    B (ld1 t73 p4.2) fun t74 =>
    B (call 21 [t74, (I 11)] p4.2) fun p5 =>
    B (bo .or 22 t72 p5.1) fun t76 =>
    some (.tuple #[t76, (I 0)], p5.2)))
noncomputable def af12 : AF := ⟨cd12, 77, Try.f12.results.toList, true⟩
theorem fn12 : C0.fn 12 = some af12 := by kernel_rfl
theorem b12 {a0 : Value} {H : Hp} {r : Value × Hp} (h : F12 a0 H = some r) : ∃ d, bodyE C0 (evF C0 d) af12 [a0] H = some r :=
  body_ok noX (by kernel_rfl) .e ((show evX C0 (ev C0) 77 cd12 .e (args0 77 [a0]) H (kRet C0 Try.f12.results.toList) = F12 a0 H by kernel_rfl).trans h)
theorem c12 {a0 : Value} {H : Hp} {v : Value} (hv : plainV v = true) (h : (F12 a0 (H.fresh [a0])).map (·.1) = some v) : call 12 [a0] H = some (v, H) := pure_map noX fn12 rfl hv h b12

/-! tenement/tenementref03.Decode -/
noncomputable def cd13 : Code := (Try.f13.body).getD .skip
noncomputable def F13j0 (t0 t4 t7 : Value) (H : Hp) (X : List Kx) : O :=
  B (ldA 6 t7 H) fun t47 =>
  B (call 12 [t47] H) fun p12 =>
  B (extractE p12.1 0) fun t49 =>
  B (extractE p12.1 1) fun t50 =>
  B (bo .neq 28 t50 (I 0)) fun t52 =>
  B (gd t52 false (some t49)) fun t54 =>
  B (gd t52 false (some t0)) fun t55 =>
  B (gd t52 false (bo .neq 22 t54 t55)) fun t56 =>
  B (pk t52 (some (.bool true)) (some t56)) fun t57 =>
  br t57 (
   B (bd [(0, 1), (1, 1), (2, 1), (3, 1), (4, 1), (5, 1)] [.int .i8 0, I 0, .bool false, .bool false, .bool false, .bool false] []) fun t58 =>
   B (st 6 t4 t58 p12.2) fun p13 =>
   nth X 0 [t4, (I 30)] p13.2) (
   B (ldA 6 t7 p12.2) fun t59 =>
   B (st 6 t4 t59 p12.2) fun p14 =>
   nth X 0 [t4, (I 0)] p14.2)
noncomputable def o13j0 : Orac C0 60 (rgt (rgt (rgt (rgt (rgt (rgt (rgt cd13))))))) := joinO noX .e [0, 4, 7] [(.rt, [4, 5])] (fun xs H X => F13j0 (gv xs 0) (gv xs 1) (gv xs 2) H X) fun xs H X => by kernel_rfl
noncomputable def F13 (a0 a1 : Value) (H : Hp) : O :=
  B (al [.int .i8 0, I 0, .bool false, .bool false, .bool false, .bool false] H) fun p1 =>
  B (bo .lss 3 a1 (I 0)) fun t11 =>
  B (gd t11 false (some a1)) fun t13 =>
  B (gd t11 false (bo .gtr 3 t13 (I 3))) fun t14 =>
  B (pk t11 (some (.bool true)) (some t14)) fun t15 =>
  br t15 (
   B (bd [(0, 1), (1, 1), (2, 1), (3, 1), (4, 1), (5, 1)] [.int .i8 0, I 0, .bool false, .bool false, .bool false, .bool false] []) fun t16 =>
   B (st 6 p1.1 t16 p1.2) fun p2 =>
   B (ldA 6 p1.1 p2.2) fun r3 =>
   some (.tuple #[r3, (I 2)], p2.2)) (
   B (call 22 [a0, (I 0), (I 0)] p1.2) fun p4 =>
   B (bo .eql 22 p4.1 (U 0)) fun t19 =>
   br t19 (
    B (bd [(0, 1), (1, 1), (2, 1), (3, 1), (4, 1), (5, 1)] [.int .i8 0, I 0, .bool false, .bool false, .bool false, .bool false] []) fun t20 =>
    B (st 6 p1.1 t20 p4.2) fun p5 =>
    B (ldA 6 p1.1 p5.2) fun r6 =>
    some (.tuple #[r6, (I 0)], p5.2)) (
    B (call 22 [a0, (I 47), (I 12)] p4.2) fun p7 =>
    B (bo .geq 22 p7.1 (U 64)) fun t24 =>
    br t24 (
     B (bd [(0, 1), (1, 1), (2, 1), (3, 1), (4, 1), (5, 1)] [.int .i8 0, I 0, .bool false, .bool false, .bool false, .bool false] []) fun t25 =>
     B (st 6 p1.1 t25 p7.2) fun p8 =>
     B (ldA 6 p1.1 p8.2) fun r9 =>
     some (.tuple #[r9, (I 30)], p8.2)) (
     B (cvI .i64 p7.1) fun t27 =>
     B (bd [(0, 1), (1, 1), (2, 1), (3, 1), (4, 1), (5, 1)] [.int .i8 0, I 0, .bool false, .bool false, .bool false, .bool false] [(0, (.int .i8 1)), (1, t27)]) fun t28 =>
     B (al [.int .i8 0, I 0, .bool false, .bool false, .bool false, .bool false] p7.2) fun p10 =>
     B (st 6 p10.1 t28 p10.2) fun p11 =>
     B (bo .eql 3 a1 (I 3)) fun t30 =>
     br t30 (
      B (cvI .i64 p7.1) fun t32 =>
      B (call 22 [a0, (I 10), (I 10)] p11.2) fun p15 =>
      B (bo .eql 22 p15.1 (U 1)) fun t35 =>
      B (call 22 [a0, (I 7), (I 7)] p15.2) fun p16 =>
      B (bo .eql 22 p16.1 (U 1)) fun t38 =>
      B (call 22 [a0, (I 6), (I 6)] p16.2) fun p17 =>
      B (bo .eql 22 p17.1 (U 1)) fun t41 =>
      B (call 22 [a0, (I 11), (I 11)] p17.2) fun p18 =>
      B (bo .eql 22 p18.1 (U 1)) fun t44 =>
      B (bd [(0, 1), (1, 1), (2, 1), (3, 1), (4, 1), (5, 1)] [.int .i8 0, I 0, .bool false, .bool false, .bool false, .bool false] [(0, (.int .i8 2)), (1, t32), (2, t35), (3, t38), (4, t41), (5, t44)]) fun t45 =>
      B (st 6 p10.1 t45 p18.2) fun p19 =>
      F13j0 a0 p1.1 p10.1 p19.2 [fun x20 h21 =>
        B (ldA 6 (gv x20 0) h21) fun r22 =>
        some (.tuple #[r22, (gv x20 1)], h21)]) (
      F13j0 a0 p1.1 p10.1 p11.2 [fun x23 h24 =>
        B (ldA 6 (gv x23 0) h24) fun r25 =>
        some (.tuple #[r25, (gv x23 1)], h24)]))))
noncomputable def af13 : AF := ⟨cd13, 60, Try.f13.results.toList, true⟩
theorem fn13 : C0.fn 13 = some af13 := by kernel_rfl
theorem b13 {a0 a1 : Value} {H : Hp} {r : Value × Hp} (h : F13 a0 a1 H = some r) : ∃ d, bodyE C0 (evF C0 d) af13 [a0, a1] H = some r :=
  body_ok noX (by kernel_rfl) (.n none .e (.n none .e (.n none .e (.n none .e (.n none .e (.n none .e (.n none .e (.n (some o13j0) .e .e)))))))) ((show evX C0 (ev C0) 60 cd13 (.n none .e (.n none .e (.n none .e (.n none .e (.n none .e (.n none .e (.n none .e (.n (some o13j0) .e .e)))))))) (args0 60 [a0, a1]) H (kRet C0 Try.f13.results.toList) = F13 a0 a1 H by kernel_rfl).trans h)
theorem c13 {a0 a1 : Value} {H : Hp} {v : Value} (hv : plainV v = true) (h : (F13 a0 a1 (H.fresh [a0, a1])).map (·.1) = some v) : call 13 [a0, a1] H = some (v, H) := pure_map noX fn13 rfl hv h b13

/-! tenement/tenementref03.Touch -/
noncomputable def cd14 : Code := (Try.f14.body).getD .skip
noncomputable def F14 (a0 : Value) (H : Hp) : O :=
  B (call 13 [a0, (I 3)] H) fun p1 =>
  B (extractE p1.1 0) fun t9 =>
  B (extractE p1.1 1) fun t10 =>
  B (al [.int .i8 0, I 0, .bool false, .bool false, .bool false, .bool false] p1.2) fun p2 =>
  B (st 6 p2.1 t9 p2.2) fun p3 =>
  B (bo .neq 28 t10 (I 0)) fun t12 =>
  B (gd t12 false (fa 0 p2.1)) fun t14 =>
  B (gd t12 false (ld1 t14 p3.2)) fun t15 =>
  B (gd t12 false (bo .neq 25 t15 (.int .i8 2))) fun t16 =>
  B (pk t12 (some (.bool true)) (some t16)) fun t17 =>
  B (gd t17 false (fa 2 p2.1)) fun t19 =>
  B (gd t17 false (ld1 t19 p3.2)) fun t20 =>
  B (pk t17 (some (.bool true)) (some t20)) fun t21 =>
  br t21 (
   some (.tuple #[a0, (.bool false)], p3.2)) (
   B (bo .add 22 a0 (U 1024)) fun t24 =>
   some (.tuple #[t24, (.bool true)], p3.2))
noncomputable def af14 : AF := ⟨cd14, 25, Try.f14.results.toList, true⟩
theorem fn14 : C0.fn 14 = some af14 := by kernel_rfl
theorem b14 {a0 : Value} {H : Hp} {r : Value × Hp} (h : F14 a0 H = some r) : ∃ d, bodyE C0 (evF C0 d) af14 [a0] H = some r :=
  body_ok noX (by kernel_rfl) .e ((show evX C0 (ev C0) 25 cd14 .e (args0 25 [a0]) H (kRet C0 Try.f14.results.toList) = F14 a0 H by kernel_rfl).trans h)
theorem c14 {a0 : Value} {H : Hp} {v : Value} (hv : plainV v = true) (h : (F14 a0 (H.fresh [a0])).map (·.1) = some v) : call 14 [a0] H = some (v, H) := pure_map noX fn14 rfl hv h b14

/-! tenement/tenementref03.Differ -/
noncomputable def cd15 : Code := (Try.f15.body).getD .skip
noncomputable def F15 (a0 a1 : Value) (H : Hp) : O :=
  B (call 13 [a0, (I 3)] H) fun p1 =>
  B (extractE p1.1 0) fun t12 =>
  B (extractE p1.1 1) fun t13 =>
  B (al [.int .i8 0, I 0, .bool false, .bool false, .bool false, .bool false] p1.2) fun p2 =>
  B (st 6 p2.1 t12 p2.2) fun p3 =>
  B (call 13 [a1, (I 3)] p3.2) fun p4 =>
  B (extractE p4.1 0) fun t17 =>
  B (extractE p4.1 1) fun t18 =>
  B (al [.int .i8 0, I 0, .bool false, .bool false, .bool false, .bool false] p4.2) fun p5 =>
  B (st 6 p5.1 t17 p5.2) fun p6 =>
  B (bo .eql 28 t13 (I 0)) fun t20 =>
  B (gd t20 true (some t18)) fun t22 =>
  B (gd t20 true (bo .eql 28 t22 (I 0))) fun t23 =>
  B (pk t20 (some t23) (some (.bool false))) fun t24 =>
  B (gd t24 true (fa 0 p2.1)) fun t26 =>
  B (gd t24 true (ld1 t26 p6.2)) fun t27 =>
  B (gd t24 true (bo .eql 25 t27 (.int .i8 2))) fun t28 =>
  B (pk t24 (some t28) (some (.bool false))) fun t29 =>
  B (gd t29 true (fa 0 p5.1)) fun t31 =>
  B (gd t29 true (ld1 t31 p6.2)) fun t32 =>
  B (gd t29 true (bo .eql 25 t32 (.int .i8 2))) fun t33 =>
  B (pk t29 (some t33) (some (.bool false))) fun t34 =>
  B (gd t34 true (fa 1 p2.1)) fun t36 =>
  B (gd t34 true (ld1 t36 p6.2)) fun t37 =>
  B (gd t34 true (fa 1 p5.1)) fun t38 =>
  B (gd t34 true (ld1 t38 p6.2)) fun t39 =>
  B (gd t34 true (bo .neq 3 t37 t39)) fun t40 =>
  B (pk t34 (some t40) (some (.bool false))) fun t41 =>
  some (t41, p6.2)
noncomputable def af15 : AF := ⟨cd15, 42, Try.f15.results.toList, true⟩
theorem fn15 : C0.fn 15 = some af15 := by kernel_rfl
theorem b15 {a0 a1 : Value} {H : Hp} {r : Value × Hp} (h : F15 a0 a1 H = some r) : ∃ d, bodyE C0 (evF C0 d) af15 [a0, a1] H = some r :=
  body_ok noX (by kernel_rfl) .e ((show evX C0 (ev C0) 42 cd15 .e (args0 42 [a0, a1]) H (kRet C0 Try.f15.results.toList) = F15 a0 a1 H by kernel_rfl).trans h)
theorem c15 {a0 a1 : Value} {H : Hp} {v : Value} (hv : plainV v = true) (h : (F15 a0 a1 (H.fresh [a0, a1])).map (·.1) = some v) : call 15 [a0, a1] H = some (v, H) := pure_map noX fn15 rfl hv h b15

/-! tenement/tenementlaw03.DescTouch -/
noncomputable def cd3 : Code := (Try.f3.body).getD .skip
noncomputable def F3j0 (t0 t1 t5 t12 : Value) (H : Hp) (X : List Kx) : O :=
  B (unE .not t12) fun t56 =>
  B (gd t56 true (some t0)) fun t58 =>
  B (gd t56 true (some t0)) fun t59 =>
  B (gh t56 true (call 9 [t58, t59] H) H) fun p9 =>
  B (gd t56 true (unE .not p9.1)) fun t61 =>
  B (pk t56 (some t61) (some (.bool false))) fun t62 =>
  B (gd t62 true (some t0)) fun t64 =>
  B (gd t62 true (some t5)) fun t65 =>
  B (gh t62 true (call 9 [t64, t65] p9.2) p9.2) fun p10 =>
  B (gd t62 true (unE .not p10.1)) fun t67 =>
  B (pk t62 (some t67) (some (.bool false))) fun t68 =>
  B (gd t68 true (some t0)) fun t70 =>
  B (gd t68 true (some t1)) fun t71 =>
  B (gh t68 true (call 9 [t70, t71] p10.2) p10.2) fun p11 =>
  B (gd t68 true (some t1)) fun t73 =>
  B (gd t68 true (some t0)) fun t74 =>
  B (gh t68 true (call 9 [t73, t74] p11.2) p11.2) fun p12 =>
  B (gd t68 true (bo .eql 4 p11.1 p12.1)) fun t76 =>
  B (pk t68 (some t76) (some (.bool false))) fun t77 =>
  B (gh t77 true (call 10 [] p12.2) p12.2) fun p13 =>
  B (pk t77 (some p13.1) (some (.bool false))) fun t80 =>
  nth X 0 [t80] p13.2
noncomputable def o3j0 : Orac C0 81 (rgt (rgt (rgt (rgt (rgt (rgt cd3)))))) := joinO noX .e [0, 1, 5, 12] [(.rt, [4])] (fun xs H X => F3j0 (gv xs 0) (gv xs 1) (gv xs 2) (gv xs 3) H X) fun xs H X => by kernel_rfl
noncomputable def F3 (a0 a1 : Value) (H : Hp) : O :=
  B (call 7 [a0] H) fun p1 =>
  B (extractE p1.1 0) fun t16 =>
  B (extractE p1.1 1) fun t17 =>
  B (call 8 [a0, (I 3)] p1.2) fun p2 =>
  B (extractE p2.1 0) fun t21 =>
  B (extractE p2.1 1) fun t22 =>
  B (al [.int .i8 0, I 0, .bool false, .bool false, .bool false, .bool false] p2.2) fun p3 =>
  B (st 6 p3.1 t21 p3.2) fun p4 =>
  B (call 8 [t16, (I 3)] p4.2) fun p5 =>
  B (extractE p5.1 0) fun t26 =>
  B (extractE p5.1 1) fun t27 =>
  B (al [.int .i8 0, I 0, .bool false, .bool false, .bool false, .bool false] p5.2) fun p6 =>
  B (st 6 p6.1 t26 p6.2) fun p7 =>
  B (call 7 [t16] p7.2) fun p8 =>
  B (extractE p8.1 0) fun t31 =>
  B (extractE p8.1 1) fun t32 =>
  br t17 (
   B (fa 2 p3.1) fun t34 =>
   B (st 1 t34 (.bool true) p8.2) fun p14 =>
   B (bo .neq 28 t22 (I 0)) fun t36 =>
   B (gd t36 false (some t27)) fun t38 =>
   B (gd t36 false (bo .neq 28 t38 (I 0))) fun t39 =>
   B (pk t36 (some (.bool true)) (some t39)) fun t40 =>
   B (gd t40 false (ldA 6 p3.1 p14.2)) fun t42 =>
   B (gd t40 false (ldA 6 p6.1 p14.2)) fun t43 =>
   B (gd t40 false (bo .neq 27 t42 t43)) fun t44 =>
   B (pk t40 (some (.bool true)) (some t44)) fun t45 =>
   B (gd t45 false (some t16)) fun t47 =>
   B (gd t45 false (some a0)) fun t48 =>
   B (gd t45 false (bo .xor 22 t47 t48)) fun t49 =>
   B (gd t45 false (bo .neq 22 t49 (U 1024))) fun t50 =>
   B (pk t45 (some (.bool true)) (some t50)) fun t51 =>
   br t51 (
    some ((.bool false), p14.2)) (
    F3j0 a0 a1 t16 t32 p14.2 [fun x15 h16 =>
      some ((gv x15 0), h16)])) (
   B (bo .neq 22 t16 a0) fun t54 =>
   br t54 (
    some ((.bool false), p8.2)) (
    F3j0 a0 a1 t16 t32 p8.2 [fun x17 h18 =>
      some ((gv x17 0), h18)]))
noncomputable def af3 : AF := ⟨cd3, 81, Try.f3.results.toList, true⟩
theorem fn3 : C0.fn 3 = some af3 := by kernel_rfl
theorem b3 {a0 a1 : Value} {H : Hp} {r : Value × Hp} (h : F3 a0 a1 H = some r) : ∃ d, bodyE C0 (evF C0 d) af3 [a0, a1] H = some r :=
  body_ok noX (by kernel_rfl) (.n none .e (.n none .e (.n none .e (.n none .e (.n none .e (.n none .e (.n (some o3j0) .e .e))))))) ((show evX C0 (ev C0) 81 cd3 (.n none .e (.n none .e (.n none .e (.n none .e (.n none .e (.n none .e (.n (some o3j0) .e .e))))))) (args0 81 [a0, a1]) H (kRet C0 Try.f3.results.toList) = F3 a0 a1 H by kernel_rfl).trans h)
theorem c3 {a0 a1 : Value} {H : Hp} {v : Value} (hv : plainV v = true) (h : (F3 a0 a1 (H.fresh [a0, a1])).map (·.1) = some v) : call 3 [a0, a1] H = some (v, H) := pure_map noX fn3 rfl hv h b3

/-! tenement/tenementlaw03.DescBack -/
noncomputable def cd4 : Code := (Try.f4.body).getD .skip
noncomputable def F4j2 (t1 t12 t13 : Value) (H : Hp) (X : List Kx) : O :=
  B (bo .eql 28 t13 (I 0)) fun t69 =>
  B (gd t69 true (some t1)) fun t71 =>
  B (gd t69 true (bo .and 22 t71 (U 1))) fun t72 =>
  B (gd t69 true (bo .eql 22 t72 (U 0))) fun t73 =>
  B (pk t69 (some t73) (some (.bool false))) fun t74 =>
  B (gd t74 true (fa 0 t12)) fun t76 =>
  B (gd t74 true (ld1 t76 H)) fun t77 =>
  B (gd t74 true (bo .neq 25 t77 (.int .i8 0))) fun t78 =>
  B (pk t74 (some t78) (some (.bool false))) fun t79 =>
  br t79 (
   nth X 0 [(.bool false)] H) (
   B (call 10 [] H) fun p6 =>
   nth X 0 [p6.1] p6.2)
noncomputable def o4j2 : Orac C0 81 (rgt (rgt (rgt (rgt (rgt (rgt (rgt cd4))))))) := joinO noX .e [1, 12, 13] [(.rt, [6])] (fun xs H X => F4j2 (gv xs 0) (gv xs 1) (gv xs 2) H X) fun xs H X => by kernel_rfl
noncomputable def F4j1 (t1 t2 : Value) (H : Hp) (X : List Kx) : O :=
  B (call 8 [t1, t2] H) fun p3 =>
  B (extractE p3.1 0) fun t47 =>
  B (extractE p3.1 1) fun t48 =>
  B (al [.int .i8 0, I 0, .bool false, .bool false, .bool false, .bool false] p3.2) fun p4 =>
  B (st 6 p4.1 t47 p4.2) fun p5 =>
  B (bo .eql 28 t48 (I 0)) fun t50 =>
  B (gd t50 true (some t1)) fun t52 =>
  B (gd t50 true (bo .and 22 t52 (U 1))) fun t53 =>
  B (gd t50 true (bo .eql 22 t53 (U 1))) fun t54 =>
  B (pk t50 (some t54) (some (.bool false))) fun t55 =>
  br t55 (
   B (ldA 6 p4.1 p5.2) fun t57 =>
   B (call 11 [t57] p5.2) fun p7 =>
   B (extractE p7.1 0) fun t59 =>
   B (extractE p7.1 1) fun t60 =>
   B (bo .neq 28 t60 (I 0)) fun t62 =>
   B (gd t62 false (some t59)) fun t64 =>
   B (gd t62 false (some t1)) fun t65 =>
   B (gd t62 false (bo .neq 22 t64 t65)) fun t66 =>
   B (pk t62 (some (.bool true)) (some t66)) fun t67 =>
   br t67 (
    nth X 0 [(.bool false)] p7.2) (
    F4j2 t1 p4.1 t48 p7.2 [fun x8 h9 =>
      nth X 0 [(gv x8 0)] h9])) (
   F4j2 t1 p4.1 t48 p5.2 [fun x10 h11 =>
     nth X 0 [(gv x10 0)] h11])
noncomputable def o4j1 : Orac C0 81 (rgt (rgt (rgt (rgt (rgt cd4))))) := joinO noX (.n none .e (.n none .e (.n (some o4j2) .e .e))) [1, 2] [(.rt, [6])] (fun xs H X => F4j1 (gv xs 0) (gv xs 1) H X) fun xs H X => by kernel_rfl
noncomputable def F4j0 (t1 t2 t3 t7 : Value) (H : Hp) (X : List Kx) : O :=
  B (ldA 6 t3 H) fun t24 =>
  B (call 11 [t24] H) fun p2 =>
  B (extractE p2.1 0) fun t26 =>
  B (extractE p2.1 1) fun t27 =>
  B (bo .eql 28 t27 (I 0)) fun t29 =>
  br t29 (
   B (call 8 [t26, t7] p2.2) fun p12 =>
   B (extractE p12.1 0) fun t34 =>
   B (extractE p12.1 1) fun t35 =>
   B (al [.int .i8 0, I 0, .bool false, .bool false, .bool false, .bool false] p12.2) fun p13 =>
   B (st 6 p13.1 t34 p13.2) fun p14 =>
   B (bo .neq 28 t35 (I 0)) fun t37 =>
   B (gd t37 false (ldA 6 p13.1 p14.2)) fun t39 =>
   B (gd t37 false (ldA 6 t3 p14.2)) fun t40 =>
   B (gd t37 false (bo .neq 27 t39 t40)) fun t41 =>
   B (pk t37 (some (.bool true)) (some t41)) fun t42 =>
   br t42 (
    nth X 0 [(.bool false)] p14.2) (
    F4j1 t1 t2 p14.2 [fun x15 h16 =>
      nth X 0 [(gv x15 0)] h16])) (
   F4j1 t1 t2 p2.2 [fun x17 h18 =>
     nth X 0 [(gv x17 0)] h18])
noncomputable def o4j0 : Orac C0 81 (rgt (rgt (rgt cd4))) := joinO noX (.n none .e (.n none .e (.n (some o4j1) .e (.n none .e (.n (some o4j2) .e .e))))) [1, 2, 3, 7] [(.rt, [6])] (fun xs H X => F4j0 (gv xs 0) (gv xs 1) (gv xs 2) (gv xs 3) H X) fun xs H X => by kernel_rfl
noncomputable def F4 (a0 a1 a2 : Value) (H : Hp) : O :=
  B (al (cellsOf a0) H) fun p1 =>
  B (fa 0 p1.1) fun t16 =>
  B (ld1 t16 p1.2) fun t17 =>
  B (bo .eql 25 t17 (.int .i8 1)) fun t18 =>
  br t18 (
   B (bo .rem 3 a2 (I 3)) fun t20 =>
   B (bo .add 3 t20 (I 3)) fun t21 =>
   B (bo .rem 3 t21 (I 3)) fun t22 =>
   F4j0 a1 a2 p1.1 t22 p1.2 [fun x19 h20 =>
     some ((gv x19 0), h20)]) (
   F4j0 a1 a2 p1.1 (I 3) p1.2 [fun x21 h22 =>
     some ((gv x21 0), h22)])
noncomputable def af4 : AF := ⟨cd4, 81, Try.f4.results.toList, true⟩
theorem fn4 : C0.fn 4 = some af4 := by kernel_rfl
theorem b4 {a0 a1 a2 : Value} {H : Hp} {r : Value × Hp} (h : F4 a0 a1 a2 H = some r) : ∃ d, bodyE C0 (evF C0 d) af4 [a0, a1, a2] H = some r :=
  body_ok noX (by kernel_rfl) (.n none .e (.n none .e (.n none .e (.n (some o4j0) .e (.n none .e (.n (some o4j1) .e (.n none .e (.n (some o4j2) .e .e)))))))) ((show evX C0 (ev C0) 81 cd4 (.n none .e (.n none .e (.n none .e (.n (some o4j0) .e (.n none .e (.n (some o4j1) .e (.n none .e (.n (some o4j2) .e .e)))))))) (args0 81 [a0, a1, a2]) H (kRet C0 Try.f4.results.toList) = F4 a0 a1 a2 H by kernel_rfl).trans h)
theorem c4 {a0 a1 a2 : Value} {H : Hp} {v : Value} (hv : plainV v = true) (h : (F4 a0 a1 a2 (H.fresh [a0, a1, a2])).map (·.1) = some v) : call 4 [a0, a1, a2] H = some (v, H) := pure_map noX fn4 rfl hv h b4

/-! tenement/tenementlaw03.DescOne -/
noncomputable def cd5 : Code := (Try.f5.body).getD .skip
noncomputable def F5 (a0 a1 a2 : Value) (H : Hp) : O :=
  B (al (cellsOf a0) H) fun p1 =>
  B (al (cellsOf a1) p1.2) fun p2 =>
  B (ldA 6 p1.1 p2.2) fun t15 =>
  B (call 11 [t15] p2.2) fun p3 =>
  B (extractE p3.1 0) fun t17 =>
  B (extractE p3.1 1) fun t18 =>
  B (ldA 6 p2.1 p3.2) fun t20 =>
  B (call 11 [t20] p3.2) fun p4 =>
  B (extractE p4.1 0) fun t22 =>
  B (extractE p4.1 1) fun t23 =>
  B (bo .eql 28 t18 (I 0)) fun t25 =>
  B (gd t25 true (some t23)) fun t27 =>
  B (gd t25 true (bo .eql 28 t27 (I 0))) fun t28 =>
  B (pk t25 (some t28) (some (.bool false))) fun t29 =>
  B (gd t29 true (fa 0 p1.1)) fun t31 =>
  B (gd t29 true (ld1 t31 p4.2)) fun t32 =>
  B (gd t29 true (fa 0 p2.1)) fun t33 =>
  B (gd t29 true (ld1 t33 p4.2)) fun t34 =>
  B (gd t29 true (bo .eql 25 t32 t34)) fun t35 =>
  B (pk t29 (some t35) (some (.bool false))) fun t36 =>
  B (gd t36 true (some t17)) fun t38 =>
  B (gd t36 true (some t22)) fun t39 =>
  B (gd t36 true (bo .eql 22 t38 t39)) fun t40 =>
  B (gd t36 true (ldA 6 p1.1 p4.2)) fun t41 =>
  B (gd t36 true (ldA 6 p2.1 p4.2)) fun t42 =>
  B (gd t36 true (bo .eql 27 t41 t42)) fun t43 =>
  B (gd t36 true (bo .neq 4 t40 t43)) fun t44 =>
  B (pk t36 (some t44) (some (.bool false))) fun t45 =>
  br t45 (
   some ((.bool false), p4.2)) (
   B (ldA 6 p1.1 p4.2) fun t46 =>
   B (al [.int .i8 0, I 0, .bool false, .bool false, .bool false, .bool false] p4.2) fun p5 =>
   B (st 6 p5.1 t46 p5.2) fun p6 =>
   B (fa 1 p5.1) fun t48 =>
   B (st 1 t48 a2 p6.2) fun p7 =>
   B (ldA 6 p5.1 p7.2) fun t50 =>
   B (call 11 [t50] p7.2) fun p8 =>
   B (extractE p8.1 0) fun t52 =>
   B (extractE p8.1 1) fun t53 =>
   B (bo .eql 28 t18 (I 0)) fun t55 =>
   B (gd t55 true (some t53)) fun t57 =>
   B (gd t55 true (bo .eql 28 t57 (I 0))) fun t58 =>
   B (pk t55 (some t58) (some (.bool false))) fun t59 =>
   B (gd t59 true (fa 0 p1.1)) fun t61 =>
   B (gd t59 true (ld1 t61 p8.2)) fun t62 =>
   B (gd t59 true (bo .neq 25 t62 (.int .i8 0))) fun t63 =>
   B (pk t59 (some t63) (some (.bool false))) fun t64 =>
   B (gd t64 true (some t52)) fun t66 =>
   B (gd t64 true (some t17)) fun t67 =>
   B (gd t64 true (bo .eql 22 t66 t67)) fun t68 =>
   B (gd t64 true (some a2)) fun t69 =>
   B (gd t64 true (fa 1 p1.1)) fun t70 =>
   B (gd t64 true (ld1 t70 p8.2)) fun t71 =>
   B (gd t64 true (bo .eql 3 t69 t71)) fun t72 =>
   B (gd t64 true (bo .neq 4 t68 t72)) fun t73 =>
   B (pk t64 (some t73) (some (.bool false))) fun t74 =>
   br t74 (
    some ((.bool false), p8.2)) (
    B (bo .neq 28 t18 (I 0)) fun t76 =>
    B (gd t76 false (fa 0 p1.1)) fun t78 =>
    B (gd t76 false (ld1 t78 p8.2)) fun t79 =>
    B (gd t76 false (bo .neq 25 t79 (.int .i8 2))) fun t80 =>
    B (pk t76 (some (.bool true)) (some t80)) fun t81 =>
    B (gd t81 false (some t53)) fun t83 =>
    B (gd t81 false (bo .neq 28 t83 (I 0))) fun t84 =>
    B (pk t81 (some (.bool true)) (some t84)) fun t85 =>
    B (gd t85 false (some t17)) fun t87 =>
    B (gd t85 false (some t52)) fun t88 =>
    B (gh t85 false (call 9 [t87, t88] p8.2) p8.2) fun p9 =>
    B (gd t85 false (some a2)) fun t90 =>
    B (gd t85 false (fa 1 p1.1)) fun t91 =>
    B (gd t85 false (ld1 t91 p9.2)) fun t92 =>
    B (gd t85 false (bo .neq 3 t90 t92)) fun t93 =>
    B (gd t85 false (bo .eql 4 p9.1 t93)) fun t94 =>
    B (pk t85 (some (.bool true)) (some t94)) fun t95 =>
    B (gh t95 true (call 10 [] p9.2) p9.2) fun p10 =>
    B (pk t95 (some p10.1) (some (.bool false))) fun t98 =>
    some (t98, p10.2)))
noncomputable def af5 : AF := ⟨cd5, 99, Try.f5.results.toList, true⟩
theorem fn5 : C0.fn 5 = some af5 := by kernel_rfl
theorem b5 {a0 a1 a2 : Value} {H : Hp} {r : Value × Hp} (h : F5 a0 a1 a2 H = some r) : ∃ d, bodyE C0 (evF C0 d) af5 [a0, a1, a2] H = some r :=
  body_ok noX (by kernel_rfl) .e ((show evX C0 (ev C0) 99 cd5 .e (args0 99 [a0, a1, a2]) H (kRet C0 Try.f5.results.toList) = F5 a0 a1 a2 H by kernel_rfl).trans h)
theorem c5 {a0 a1 a2 : Value} {H : Hp} {v : Value} (hv : plainV v = true) (h : (F5 a0 a1 a2 (H.fresh [a0, a1, a2])).map (·.1) = some v) : call 5 [a0, a1, a2] H = some (v, H) := pure_map noX fn5 rfl hv h b5

/-! tenement/tenementlaw03.DescTells -/
noncomputable def cd6 : Code := (Try.f6.body).getD .skip
noncomputable def F6 (a0 a1 a2 a3 : Value) (H : Hp) : O :=
  B (al (cellsOf a0) H) fun p1 =>
  B (ldA 6 p1.1 p1.2) fun t22 =>
  B (call 11 [t22] p1.2) fun p2 =>
  B (extractE p2.1 0) fun t24 =>
  B (extractE p2.1 1) fun t25 =>
  B (ldA 6 p1.1 p2.2) fun t27 =>
  B (call 12 [t27] p2.2) fun p3 =>
  B (extractE p3.1 0) fun t29 =>
  B (extractE p3.1 1) fun t30 =>
  B (call 8 [a1, a3] p3.2) fun p4 =>
  B (extractE p4.1 0) fun t35 =>
  B (extractE p4.1 1) fun t36 =>
  B (al [.int .i8 0, I 0, .bool false, .bool false, .bool false, .bool false] p4.2) fun p5 =>
  B (st 6 p5.1 t35 p5.2) fun p6 =>
  B (call 13 [a1, a3] p6.2) fun p7 =>
  B (extractE p7.1 0) fun t41 =>
  B (extractE p7.1 1) fun t42 =>
  B (al [.int .i8 0, I 0, .bool false, .bool false, .bool false, .bool false] p7.2) fun p8 =>
  B (st 6 p8.1 t41 p8.2) fun p9 =>
  B (call 7 [a1] p9.2) fun p10 =>
  B (extractE p10.1 0) fun t46 =>
  B (extractE p10.1 1) fun t47 =>
  B (call 14 [a1] p10.2) fun p11 =>
  B (extractE p11.1 0) fun t51 =>
  B (extractE p11.1 1) fun t52 =>
  B (bo .eql 22 t24 t29) fun t55 =>
  B (gd t55 true (some t25)) fun t57 =>
  B (gd t55 true (some t30)) fun t58 =>
  B (gd t55 true (bo .eql 28 t57 t58)) fun t59 =>
  B (pk t55 (some t59) (some (.bool false))) fun t60 =>
  B (gd t60 true (ldA 6 p5.1 p11.2)) fun t62 =>
  B (gd t60 true (ldA 6 p8.1 p11.2)) fun t63 =>
  B (gd t60 true (bo .eql 27 t62 t63)) fun t64 =>
  B (pk t60 (some t64) (some (.bool false))) fun t65 =>
  B (gd t65 true (some t36)) fun t67 =>
  B (gd t65 true (some t42)) fun t68 =>
  B (gd t65 true (bo .eql 28 t67 t68)) fun t69 =>
  B (pk t65 (some t69) (some (.bool false))) fun t70 =>
  B (gd t70 true (some t46)) fun t72 =>
  B (gd t70 true (some t51)) fun t73 =>
  B (gd t70 true (bo .eql 22 t72 t73)) fun t74 =>
  B (pk t70 (some t74) (some (.bool false))) fun t75 =>
  B (gd t75 true (some t47)) fun t77 =>
  B (gd t75 true (some t52)) fun t78 =>
  B (gd t75 true (bo .eql 4 t77 t78)) fun t79 =>
  B (pk t75 (some t79) (some (.bool false))) fun t80 =>
  B (gd t80 true (some a1)) fun t82 =>
  B (gd t80 true (some a2)) fun t83 =>
  B (gh t80 true (call 9 [t82, t83] p11.2) p11.2) fun p12 =>
  B (gd t80 true (some a1)) fun t85 =>
  B (gd t80 true (some a2)) fun t86 =>
  B (gh t80 true (call 15 [t85, t86] p12.2) p12.2) fun p13 =>
  B (gd t80 true (bo .eql 4 p12.1 p13.1)) fun t88 =>
  B (pk t80 (some t88) (some (.bool false))) fun t89 =>
  B (gh t89 true (call 10 [] p13.2) p13.2) fun p14 =>
  B (pk t89 (some p14.1) (some (.bool false))) fun t92 =>
  some (t92, p14.2)
noncomputable def af6 : AF := ⟨cd6, 93, Try.f6.results.toList, true⟩
theorem fn6 : C0.fn 6 = some af6 := by kernel_rfl
theorem b6 {a0 a1 a2 a3 : Value} {H : Hp} {r : Value × Hp} (h : F6 a0 a1 a2 a3 H = some r) : ∃ d, bodyE C0 (evF C0 d) af6 [a0, a1, a2, a3] H = some r :=
  body_ok noX (by kernel_rfl) .e ((show evX C0 (ev C0) 93 cd6 .e (args0 93 [a0, a1, a2, a3]) H (kRet C0 Try.f6.results.toList) = F6 a0 a1 a2 a3 H by kernel_rfl).trans h)
theorem c6 {a0 a1 a2 a3 : Value} {H : Hp} {v : Value} (hv : plainV v = true) (h : (F6 a0 a1 a2 a3 (H.fresh [a0, a1, a2, a3])).map (·.1) = some v) : call 6 [a0, a1, a2, a3] H = some (v, H) := pure_map noX fn6 rfl hv h b6
end Go.Proofs.Ytbipfjcfggdjiaa.X
