/- Printed by xp.py: functions of the program, and that the code says so. -/
import Derived.Test.YtiigiodagfalpaaSpaceC
set_option maxRecDepth 100000
set_option maxHeartbeats 1000000
namespace Go.Proofs.Ytiigiodagfalpaa.X
open Go.Ahe Go.Ahe.X
/-! tenement/desc.mask -/
noncomputable def cd38 : Code := (Try.f38.body).getD .skip
noncomputable def F38 (a0 : Value) (H : Hp) : O :=
  B (call 49 [(I 17), (I 12)] H) fun p1 =>
  B (bo .or 23 p1.1 (U 3)) fun t7 =>
  B (bo .or 23 p1.1 (U 3)) fun t9 =>
  B (call 49 [(I 7), (I 6)] p1.2) fun p2 =>
  B (bo .or 23 t9 p2.1) fun t11 =>
  B (call 49 [(I 11), (I 10)] p2.2) fun p3 =>
  B (bo .or 23 t11 p3.1) fun t13 =>
  B (bdA 1 [U 0, U 0, U 0] [(0, (U 0)), (1, t7), (2, t13)]) fun t14 =>
  B (al [U 0, U 0, U 0] p3.2) fun p4 =>
  B (st 3 p4.1 t14 p4.2) fun p5 =>
  B (bo .lss 25 a0 (.int .i8 0)) fun t16 =>
  B (gd t16 false (some a0)) fun t18 =>
  B (gd t16 false (cvI .i64 t18)) fun t19 =>
  B (gd t16 false (bo .geq 3 t19 (I 3))) fun t20 =>
  B (pk t16 (some (.bool true)) (some t20)) fun t21 =>
  br t21 (
   some ((U 0), p5.2)) (
   B (ixP 3 1 p4.1 a0) fun t23 =>
   B (ld1 t23 p5.2) fun t24 =>
   some (t24, p5.2))
noncomputable def af38 : AF := ⟨cd38, 25, Try.f38.results.toList, true, false⟩
theorem fn38 : C0.fn 38 = some af38 := by kernel_rfl
theorem b38 {a0 : Value} {H : Hp} {r : Value × Hp} (h : F38 a0 H = some r) : ∃ d, bodyE C0 (evF C0 d) af38 [a0] H = some r :=
  body_ok noX (by kernel_rfl) .e ((show evX C0 (ev C0) 25 cd38 .e (args0 25 [a0]) H (kRet C0 Try.f38.results.toList) = F38 a0 H by kernel_rfl).trans h)
theorem c38 {a0 : Value} {H : Hp} {v : Value} (hv : plainV v = true) (h : (F38 a0 (H.fresh [a0])).map (·.1) = some v) : call 38 [a0] H = some (v, H) := pure_map noX fn38 rfl hv h b38

/-! tenement/desc.Decode$1 -/
noncomputable def cd39 : Code := (Try.f39.body).getD .skip
noncomputable def F39 (a0 a1 : Value) (H : Hp) : O :=
  B (ld1 a1 H) fun t4 =>
  B (bo .shr 23 t4 a0) fun t6 =>
  B (bo .and 23 t6 (U 1)) fun t7 =>
  B (bo .eql 23 t7 (U 1)) fun t8 =>
  some (t8, H)
noncomputable def af39 : AF := ⟨cd39, 9, Try.f39.results.toList, true, false⟩
theorem fn39 : C0.fn 39 = some af39 := by kernel_rfl
theorem b39 {a0 a1 : Value} {H : Hp} {r : Value × Hp} (h : F39 a0 a1 H = some r) : ∃ d, bodyE C0 (evF C0 d) af39 [a0, a1] H = some r :=
  body_ok noX (by kernel_rfl) .e ((show evX C0 (ev C0) 9 cd39 .e (args0 9 [a0, a1]) H (kRet C0 Try.f39.results.toList) = F39 a0 a1 H by kernel_rfl).trans h)
theorem c39 {a0 a1 : Value} {H : Hp} {v : Value} (hv : plainV v = true) (h : (F39 a0 a1 (H.fresh [a0, a1])).map (·.1) = some v) : call 39 [a0, a1] H = some (v, H) := pure_map noX fn39 rfl hv h b39

/-! tenement/field.Get -/
noncomputable def cd40 : Code := (Try.f40.body).getD .skip
noncomputable def F40 (a0 a1 a2 : Value) (H : Hp) : O :=
  B (bd [(0, 1), (1, 1)] [I 0, I 0] [(0, a1), (1, a2)]) fun t10 =>
  B (call 50 [t10] H) fun p1 =>
  B (bo .neq 23 p1.1 (U 0)) fun t13 =>
  br t13 (
   B (bo .and 23 a0 p1.1) fun t16 =>
   B (bo .shr 23 t16 a2) fun t18 =>
   some (t18, p1.2)) (
   some ((U 0), p1.2))
noncomputable def af40 : AF := ⟨cd40, 19, Try.f40.results.toList, true, false⟩
theorem fn40 : C0.fn 40 = some af40 := by kernel_rfl
theorem b40 {a0 a1 a2 : Value} {H : Hp} {r : Value × Hp} (h : F40 a0 a1 a2 H = some r) : ∃ d, bodyE C0 (evF C0 d) af40 [a0, a1, a2] H = some r :=
  body_ok noX (by kernel_rfl) .e ((show evX C0 (ev C0) 19 cd40 .e (args0 19 [a0, a1, a2]) H (kRet C0 Try.f40.results.toList) = F40 a0 a1 a2 H by kernel_rfl).trans h)
theorem c40 {a0 a1 a2 : Value} {H : Hp} {v : Value} (hv : plainV v = true) (h : (F40 a0 a1 a2 (H.fresh [a0, a1, a2])).map (·.1) = some v) : call 40 [a0, a1, a2] H = some (v, H) := pure_map noX fn40 rfl hv h b40

/-! tenement/tenementref03.flag -/
noncomputable def cd41 : Code := (Try.f41.body).getD .skip
noncomputable def F41 (a0 a1 : Value) (H : Hp) : O :=
  br a0 (
   B (cvI .u64 a1) fun t7 =>
   B (bo .shl 23 (U 1) t7) fun t8 =>
   some (t8, H)) (
   some ((U 0), H))
noncomputable def af41 : AF := ⟨cd41, 9, Try.f41.results.toList, true, false⟩
theorem fn41 : C0.fn 41 = some af41 := by kernel_rfl
theorem b41 {a0 a1 : Value} {H : Hp} {r : Value × Hp} (h : F41 a0 a1 H = some r) : ∃ d, bodyE C0 (evF C0 d) af41 [a0, a1] H = some r :=
  body_ok noX (by kernel_rfl) .e ((show evX C0 (ev C0) 9 cd41 .e (args0 9 [a0, a1]) H (kRet C0 Try.f41.results.toList) = F41 a0 a1 H by kernel_rfl).trans h)
theorem c41 {a0 a1 : Value} {H : Hp} {v : Value} (hv : plainV v = true) (h : (F41 a0 a1 (H.fresh [a0, a1])).map (·.1) = some v) : call 41 [a0, a1] H = some (v, H) := pure_map noX fn41 rfl hv h b41

/-! tenement/field.Ones -/
noncomputable def cd49 : Code := (Try.f49.body).getD .skip
noncomputable def F49 (a0 a1 : Value) (H : Hp) : O :=
  B (bd [(0, 1), (1, 1)] [I 0, I 0] [(0, a0), (1, a1)]) fun t7 =>
  B (call 50 [t7] H) fun p1 =>
  some (p1.1, p1.2)
noncomputable def af49 : AF := ⟨cd49, 9, Try.f49.results.toList, true, false⟩
theorem fn49 : C0.fn 49 = some af49 := by kernel_rfl
theorem b49 {a0 a1 : Value} {H : Hp} {r : Value × Hp} (h : F49 a0 a1 H = some r) : ∃ d, bodyE C0 (evF C0 d) af49 [a0, a1] H = some r :=
  body_ok noX (by kernel_rfl) .e ((show evX C0 (ev C0) 9 cd49 .e (args0 9 [a0, a1]) H (kRet C0 Try.f49.results.toList) = F49 a0 a1 H by kernel_rfl).trans h)
theorem c49 {a0 a1 : Value} {H : Hp} {v : Value} (hv : plainV v = true) (h : (F49 a0 a1 (H.fresh [a0, a1])).map (·.1) = some v) : call 49 [a0, a1] H = some (v, H) := pure_map noX fn49 rfl hv h b49

/-! (tenement/field.span).mask -/
noncomputable def cd50 : Code := (Try.f50.body).getD .skip
noncomputable def F50j0 (t1 : Value) (H : Hp) (X : List Kx) : O :=
  B (fa 0 t1) fun t15 =>
  B (ld1 t15 H) fun t16 =>
  B (bo .sub 3 (I 63) t16) fun t17 =>
  B (fa 1 t1) fun t18 =>
  B (ld1 t18 H) fun t19 =>
  B (bo .add 3 t17 t19) fun t20 =>
  B (bo .shr 23 (U 18446744073709551615) t20) fun t21 =>
  B (fa 1 t1) fun t22 =>
  B (ld1 t22 H) fun t23 =>
  B (bo .shl 23 t21 t23) fun t24 =>
  nth X 0 [t24] H
noncomputable def o50j0 : Orac C0 25 (rgt (rgt cd50)) := joinO noX .e [1] [(.rt, [2])] (fun xs H X => F50j0 (gv xs 0) H X) fun xs H X => by kernel_rfl
noncomputable def F50j1 (t1 t3 : Value) (H : Hp) (X : List Kx) : O :=
  br t3 (
   nth X 1 [(U 0)] H) (
   nth X 0 [t1] H)
noncomputable def o50j1 : Orac C0 25 (rgt (lft (lft (rgt cd50)))) := joinO noX .e [1, 3] [(.nx, [1]), (.rt, [2])] (fun xs H X => F50j1 (gv xs 0) (gv xs 1) H X) fun xs H X => by kernel_rfl
noncomputable def F50 (a0 : Value) (H : Hp) : O :=
  B (al (cellsOf a0) H) fun p1 =>
  B (fa 1 p1.1) fun t4 =>
  B (ld1 t4 p1.2) fun t5 =>
  B (bo .lss 3 t5 (I 0)) fun t6 =>
  br t6 (
   F50j1 p1.1 t6 p1.2 [fun x2 h3 =>
     F50j0 (gv x2 0) h3 [fun x4 h5 =>
       some ((gv x4 0), h5)],
    fun x6 h7 =>
     some ((gv x6 0), h7)]) (
   B (fa 0 p1.1) fun t7 =>
   B (ld1 t7 p1.2) fun t8 =>
   B (fa 1 p1.1) fun t9 =>
   B (ld1 t9 p1.2) fun t10 =>
   B (bo .lss 3 t8 t10) fun t11 =>
   br t11 (
    F50j1 p1.1 t11 p1.2 [fun x8 h9 =>
      F50j0 (gv x8 0) h9 [fun x10 h11 =>
        some ((gv x10 0), h11)],
     fun x12 h13 =>
      some ((gv x12 0), h13)]) (
    B (fa 0 p1.1) fun t12 =>
    B (ld1 t12 p1.2) fun t13 =>
    B (bo .gtr 3 t13 (I 63)) fun t14 =>
    F50j1 p1.1 t14 p1.2 [fun x14 h15 =>
      F50j0 (gv x14 0) h15 [fun x16 h17 =>
        some ((gv x16 0), h17)],
     fun x18 h19 =>
      some ((gv x18 0), h19)]))
noncomputable def af50 : AF := ⟨cd50, 25, Try.f50.results.toList, true, false⟩
theorem fn50 : C0.fn 50 = some af50 := by kernel_rfl
theorem b50 {a0 : Value} {H : Hp} {r : Value × Hp} (h : F50 a0 H = some r) : ∃ d, bodyE C0 (evF C0 d) af50 [a0] H = some r :=
  body_ok noX (by kernel_rfl) (.n none .e (.n none (.n none (.n none .e (.n (some o50j1) .e .e)) .e) (.n (some o50j0) .e .e))) ((show evX C0 (ev C0) 25 cd50 (.n none .e (.n none (.n none (.n none .e (.n (some o50j1) .e .e)) .e) (.n (some o50j0) .e .e))) (args0 25 [a0]) H (kRet C0 Try.f50.results.toList) = F50 a0 H by kernel_rfl).trans h)
theorem c50 {a0 : Value} {H : Hp} {v : Value} (hv : plainV v = true) (h : (F50 a0 (H.fresh [a0])).map (·.1) = some v) : call 50 [a0] H = some (v, H) := pure_map noX fn50 rfl hv h b50

/-! tenement/desc.Decode -/
noncomputable def cd27 : Code := (Try.f27.body).getD .skip
noncomputable def F27j0 (t2 t4 t6 : Value) (H : Hp) (X : List Kx) : O :=
  B (ld1 t2 H) fun t22 =>
  B (bo .and 23 t22 (U 3)) fun t23 =>
  B (bo .neq 23 t23 (U 3)) fun t24 =>
  B (gd t24 false (ld1 t2 H)) fun t26 =>
  B (gd t24 false (some t6)) fun t27 =>
  B (gh t24 false (call 38 [t27] H) H) fun p3 =>
  B (gd t24 false (bo .andNot 23 t26 p3.1)) fun t29 =>
  B (gd t24 false (bo .neq 23 t29 (U 0))) fun t30 =>
  B (pk t24 (some (.bool true)) (some t30)) fun t31 =>
  br t31 (
   B (bd [(0, 1), (1, 1), (2, 1), (3, 1), (4, 1), (5, 1)] [.int .i8 0, I 0, .bool false, .bool false, .bool false, .bool false] []) fun t32 =>
   B (st 6 t4 t32 p3.2) fun p4 =>
   nth X 0 [t4, (I 30)] p4.2) (
   B (ld1 t2 p3.2) fun t35 =>
   B (call 40 [t35, (I 17), (I 12)] p3.2) fun p5 =>
   B (cvI .i64 p5.1) fun t37 =>
   B (cl (ev C0) (.func (.func 39) #[] #[t2]) [(I 6)] p5.2) fun p6 =>
   B (cl (ev C0) (.func (.func 39) #[] #[t2]) [(I 7)] p6.2) fun p7 =>
   B (cl (ev C0) (.func (.func 39) #[] #[t2]) [(I 10)] p7.2) fun p8 =>
   B (cl (ev C0) (.func (.func 39) #[] #[t2]) [(I 11)] p8.2) fun p9 =>
   B (bd [(0, 1), (1, 1), (2, 1), (3, 1), (4, 1), (5, 1)] [.int .i8 0, I 0, .bool false, .bool false, .bool false, .bool false] [(0, t6), (1, t37), (4, p6.1), (3, p7.1), (2, p8.1), (5, p9.1)]) fun t46 =>
   B (st 6 t4 t46 p9.2) fun p10 =>
   nth X 0 [t4, (I 0)] p10.2)
noncomputable def o27j0 : Orac C0 47 (rgt (rgt (rgt cd27))) := joinO noX .e [2, 4, 6] [(.rt, [4, 5])] (fun xs H X => F27j0 (gv xs 0) (gv xs 1) (gv xs 2) H X) fun xs H X => by kernel_rfl
noncomputable def F27j1 (t1 t2 t4 t6 t8 : Value) (H : Hp) (X : List Kx) : O :=
  br t8 (
   B (bd [(0, 1), (1, 1), (2, 1), (3, 1), (4, 1), (5, 1)] [.int .i8 0, I 0, .bool false, .bool false, .bool false, .bool false] []) fun t13 =>
   B (st 6 t4 t13 H) fun p11 =>
   nth X 1 [t4, (I 2)] p11.2) (
   B (ld1 t2 H) fun t15 =>
   B (bo .and 23 t15 (U 1)) fun t16 =>
   B (bo .eql 23 t16 (U 0)) fun t17 =>
   br t17 (
    B (bd [(0, 1), (1, 1), (2, 1), (3, 1), (4, 1), (5, 1)] [.int .i8 0, I 0, .bool false, .bool false, .bool false, .bool false] []) fun t18 =>
    B (st 6 t4 t18 H) fun p12 =>
    nth X 1 [t4, (I 0)] p12.2) (
    B (bo .eql 3 t1 (I 3)) fun t21 =>
    br t21 (
     nth X 0 [t2, t4, (.int .i8 2)] H) (
     nth X 0 [t2, t4, t6] H)))
noncomputable def o27j1 : Orac C0 47 (rgt (lft (lft (rgt (rgt cd27))))) := joinO noX .e [1, 2, 4, 6, 8] [(.nx, [2, 4, 6]), (.rt, [4, 5])] (fun xs H X => F27j1 (gv xs 0) (gv xs 1) (gv xs 2) (gv xs 3) (gv xs 4) H X) fun xs H X => by kernel_rfl
noncomputable def F27 (a0 a1 : Value) (H : Hp) : O :=
  B (al (cellsOf a0) H) fun p1 =>
  B (al [.int .i8 0, I 0, .bool false, .bool false, .bool false, .bool false] p1.2) fun p2 =>
  B (bo .lss 3 a1 (I 0)) fun t10 =>
  br t10 (
   F27j1 a1 p1.1 p2.1 (.int .i8 1) t10 p2.2 [fun x13 h14 =>
     F27j0 (gv x13 0) (gv x13 1) (gv x13 2) h14 [fun x15 h16 =>
       B (ldA 6 (gv x15 0) h16) fun r17 =>
       some (.tuple #[r17, (gv x15 1)], h16)],
    fun x18 h19 =>
     B (ldA 6 (gv x18 0) h19) fun r20 =>
     some (.tuple #[r20, (gv x18 1)], h19)]) (
   B (bo .gtr 3 a1 (I 3)) fun t12 =>
   F27j1 a1 p1.1 p2.1 (.int .i8 1) t12 p2.2 [fun x21 h22 =>
     F27j0 (gv x21 0) (gv x21 1) (gv x21 2) h22 [fun x23 h24 =>
       B (ldA 6 (gv x23 0) h24) fun r25 =>
       some (.tuple #[r25, (gv x23 1)], h24)],
    fun x26 h27 =>
     B (ldA 6 (gv x26 0) h27) fun r28 =>
     some (.tuple #[r28, (gv x26 1)], h27)])
noncomputable def af27 : AF := ⟨cd27, 47, Try.f27.results.toList, true, false⟩
theorem fn27 : C0.fn 27 = some af27 := by kernel_rfl
theorem b27 {a0 a1 : Value} {H : Hp} {r : Value × Hp} (h : F27 a0 a1 H = some r) : ∃ d, bodyE C0 (evF C0 d) af27 [a0, a1] H = some r :=
  body_ok noX (by kernel_rfl) (.n none .e (.n none .e (.n none (.n none (.n none .e (.n (some o27j1) .e .e)) .e) (.n (some o27j0) .e .e)))) ((show evX C0 (ev C0) 47 cd27 (.n none .e (.n none .e (.n none (.n none (.n none .e (.n (some o27j1) .e .e)) .e) (.n (some o27j0) .e .e)))) (args0 47 [a0, a1]) H (kRet C0 Try.f27.results.toList) = F27 a0 a1 H by kernel_rfl).trans h)
theorem c27 {a0 a1 : Value} {H : Hp} {v : Value} (hv : plainV v = true) (h : (F27 a0 a1 (H.fresh [a0, a1])).map (·.1) = some v) : call 27 [a0, a1] H = some (v, H) := pure_map noX fn27 rfl hv h b27

/-! tenement/tenementref19.in -/
noncomputable def cd28 : Code := (Try.f28.body).getD .skip
noncomputable def F28 (a0 a1 : Value) (H : Hp) : O :=
  B (al (cellsOf a0) H) fun p1 =>
  B (fa 0 p1.1) fun t6 =>
  B (ld1 t6 p1.2) fun t7 =>
  B (bo .geq 23 a1 t7) fun t8 =>
  B (gd t8 true (some a1)) fun t10 =>
  B (gd t8 true (fa 0 p1.1)) fun t11 =>
  B (gd t8 true (ld1 t11 p1.2)) fun t12 =>
  B (gd t8 true (bo .sub 23 t10 t12)) fun t13 =>
  B (gd t8 true (fa 1 p1.1)) fun t14 =>
  B (gd t8 true (ld1 t14 p1.2)) fun t15 =>
  B (gd t8 true (cvI .u64 t15)) fun t16 =>
  B (gd t8 true (bo .lss 23 t13 t16)) fun t17 =>
  B (pk t8 (some t17) (some (.bool false))) fun t18 =>
  some (t18, p1.2)
noncomputable def af28 : AF := ⟨cd28, 19, Try.f28.results.toList, true, false⟩
theorem fn28 : C0.fn 28 = some af28 := by kernel_rfl
theorem b28 {a0 a1 : Value} {H : Hp} {r : Value × Hp} (h : F28 a0 a1 H = some r) : ∃ d, bodyE C0 (evF C0 d) af28 [a0, a1] H = some r :=
  body_ok noX (by kernel_rfl) .e ((show evX C0 (ev C0) 19 cd28 .e (args0 19 [a0, a1]) H (kRet C0 Try.f28.results.toList) = F28 a0 a1 H by kernel_rfl).trans h)
theorem c28 {a0 a1 : Value} {H : Hp} {v : Value} (hv : plainV v = true) (h : (F28 a0 a1 (H.fresh [a0, a1])).map (·.1) = some v) : call 28 [a0, a1] H = some (v, H) := pure_map noX fn28 rfl hv h b28

/-! tenement/tenementref03.Encode -/
noncomputable def cd29 : Code := (Try.f29.body).getD .skip
noncomputable def F29 (a0 : Value) (H : Hp) : O :=
  B (al (cellsOf a0) H) fun p1 =>
  B (fa 2 p1.1) fun t5 =>
  B (ld1 t5 p1.2) fun t6 =>
  B (unE .not t6) fun t7 =>
  B (gd t7 true (fa 3 p1.1)) fun t9 =>
  B (gd t7 true (ld1 t9 p1.2)) fun t10 =>
  B (gd t7 true (unE .not t10)) fun t11 =>
  B (pk t7 (some t11) (some (.bool false))) fun t12 =>
  B (gd t12 true (fa 4 p1.1)) fun t14 =>
  B (gd t12 true (ld1 t14 p1.2)) fun t15 =>
  B (gd t12 true (unE .not t15)) fun t16 =>
  B (pk t12 (some t16) (some (.bool false))) fun t17 =>
  B (gd t17 true (fa 5 p1.1)) fun t19 =>
  B (gd t17 true (ld1 t19 p1.2)) fun t20 =>
  B (gd t17 true (unE .not t20)) fun t21 =>
  B (pk t17 (some t21) (some (.bool false))) fun t22 =>
  B (fa 0 p1.1) fun t23 =>
  B (ld1 t23 p1.2) fun t24 =>
  B (bo .eql 25 t24 (.int .i8 0)) fun t25 =>
  B (gd t25 true (some t22)) fun t27 =>
  B (pk t25 (some t27) (some (.bool false))) fun t28 =>
  B (gd t28 true (fa 1 p1.1)) fun t30 =>
  B (gd t28 true (ld1 t30 p1.2)) fun t31 =>
  B (gd t28 true (bo .eql 3 t31 (I 0))) fun t32 =>
  B (pk t28 (some t32) (some (.bool false))) fun t33 =>
  br t33 (
   some (.tuple #[(U 0), (I 0)], p1.2)) (
   B (fa 1 p1.1) fun t34 =>
   B (ld1 t34 p1.2) fun t35 =>
   B (bo .lss 3 t35 (I 0)) fun t36 =>
   B (gd t36 false (fa 1 p1.1)) fun t38 =>
   B (gd t36 false (ld1 t38 p1.2)) fun t39 =>
   B (gd t36 false (bo .geq 3 t39 (I 64))) fun t40 =>
   B (pk t36 (some (.bool true)) (some t40)) fun t41 =>
   B (gd t41 false (fa 0 p1.1)) fun t43 =>
   B (gd t41 false (ld1 t43 p1.2)) fun t44 =>
   B (gd t41 false (bo .neq 25 t44 (.int .i8 2))) fun t45 =>
   B (gd t41 false (some t45)) fun t46 =>
   B (gd t46 true (fa 0 p1.1)) fun t47 =>
   B (gd t46 true (ld1 t47 p1.2)) fun t48 =>
   B (gd t46 true (bo .neq 25 t48 (.int .i8 1))) fun t49 =>
   B (gd t46 true (some t49)) fun t50 =>
   B (gd t50 false (some t22)) fun t51 =>
   B (gd t50 false (unE .not t51)) fun t52 =>
   B (gd t46 true (pk t50 (some (.bool true)) (some t52))) fun t53 =>
   B (gd t41 false (pk t46 (some t53) (some (.bool false)))) fun t54 =>
   B (pk t41 (some (.bool true)) (some t54)) fun t55 =>
   br t55 (
    some (.tuple #[(U 0), (I 30)], p1.2)) (
    B (fa 1 p1.1) fun t56 =>
    B (ld1 t56 p1.2) fun t57 =>
    B (cvI .u64 t57) fun t58 =>
    B (bo .shl 23 t58 (U 12)) fun t59 =>
    B (bo .or 23 (U 3) t59) fun t60 =>
    B (fa 4 p1.1) fun t61 =>
    B (ld1 t61 p1.2) fun t62 =>
    B (call 41 [t62, (I 6)] p1.2) fun p2 =>
    B (bo .or 23 t60 p2.1) fun t64 =>
    B (fa 3 p1.1) fun t65 =>
    B (ld1 t65 p2.2) fun t66 =>
    B (call 41 [t66, (I 7)] p2.2) fun p3 =>
    B (bo .or 23 t64 p3.1) fun t68 =>
    B (fa 2 p1.1) fun t69 =>
    B (ld1 t69 p3.2) fun t70 =>
    B (call 41 [t70, (I 10)] p3.2) fun p4 =>
    B (bo .or 23 t68 p4.1) fun t72 =>
    B (fa 5 p1.1) fun t73 =>
    B (ld1 t73 p4.2) fun t74 =>
    B (call 41 [t74, (I 11)] p4.2) fun p5 =>
    B (bo .or 23 t72 p5.1) fun t76 =>
    some (.tuple #[t76, (I 0)], p5.2)))
noncomputable def af29 : AF := ⟨cd29, 77, Try.f29.results.toList, true, false⟩
theorem fn29 : C0.fn 29 = some af29 := by kernel_rfl
theorem b29 {a0 : Value} {H : Hp} {r : Value × Hp} (h : F29 a0 H = some r) : ∃ d, bodyE C0 (evF C0 d) af29 [a0] H = some r :=
  body_ok noX (by kernel_rfl) .e ((show evX C0 (ev C0) 77 cd29 .e (args0 77 [a0]) H (kRet C0 Try.f29.results.toList) = F29 a0 H by kernel_rfl).trans h)
theorem c29 {a0 : Value} {H : Hp} {v : Value} (hv : plainV v = true) (h : (F29 a0 (H.fresh [a0])).map (·.1) = some v) : call 29 [a0] H = some (v, H) := pure_map noX fn29 rfl hv h b29

/-! tenement/space.end -/
noncomputable def cd30 : Code := (Try.f30.body).getD .skip
noncomputable def F30 (a0 : Value) (H : Hp) : O :=
  B (al (cellsOf a0) H) fun p1 =>
  B (fa 0 p1.1) fun t3 =>
  B (ld1 t3 p1.2) fun t4 =>
  B (fa 1 p1.1) fun t5 =>
  B (ld1 t5 p1.2) fun t6 =>
  B (cvI .u64 t6) fun t7 =>
  B (bo .add 23 t4 t7) fun t8 =>
  some (t8, p1.2)
noncomputable def af30 : AF := ⟨cd30, 9, Try.f30.results.toList, true, false⟩
theorem fn30 : C0.fn 30 = some af30 := by kernel_rfl
theorem b30 {a0 : Value} {H : Hp} {r : Value × Hp} (h : F30 a0 H = some r) : ∃ d, bodyE C0 (evF C0 d) af30 [a0] H = some r :=
  body_ok noX (by kernel_rfl) .e ((show evX C0 (ev C0) 9 cd30 .e (args0 9 [a0]) H (kRet C0 Try.f30.results.toList) = F30 a0 H by kernel_rfl).trans h)
theorem c30 {a0 : Value} {H : Hp} {v : Value} (hv : plainV v = true) (h : (F30 a0 (H.fresh [a0])).map (·.1) = some v) : call 30 [a0] H = some (v, H) := pure_map noX fn30 rfl hv h b30

/-! tenement/tenementref19.Find -/
noncomputable def cd10 : Code := (Try.f10.body).getD .skip
noncomputable def F10b0 (k : Kx) (t0 t1 t4 t6 : Value) (H : Hp) (X : List Kx) : O :=
  B (lnS t0) fun t9 =>
  B (bo .lss 3 t6 t9) fun t10 =>
  B (gd t10 true (some t0)) fun t12 =>
  B (gh t10 true (call 11 [t12] H) H) fun p2 =>
  B (gd t10 true (bo .eql 28 p2.1 (I 0))) fun t14 =>
  B (pk t10 (some t14) (some (.bool false))) fun t15 =>
  br t15 (
   B (ixS 3 t0 t6) fun t20 =>
   B (ldA 3 t20 p2.2) fun t21 =>
   B (call 28 [t21, t1] p2.2) fun p3 =>
   br p3.1 (
    B (ixS 3 t0 t6) fun t26 =>
    B (ldA 3 t26 p3.2) fun t27 =>
    B (st 3 t4 t27 p3.2) fun p4 =>
    nth X 0 [t4, (.bool true)] p4.2) (
    B (bo .add 3 t6 (I 1)) fun t17 =>
    k [t0, t1, t4, t17] p3.2)) (
   nth X 1 [t4] p2.2)
noncomputable def F10b0L : Kx → List Value → Hp → List Kx → O := fun k xs H X => F10b0 k (gv xs 0) (gv xs 1) (gv xs 2) (gv xs 3) H X
noncomputable def o10b0 : Orac C0 29 (lft (rgt (lft (rgt cd10)))) := loopO noX (by kernel_rfl) .e [0, 1, 4, 6] [(.rt, [4, 5]), (.ex 0, [4])] F10b0L fun k xs H X => by kernel_rfl
noncomputable def F10 (a0 a1 : Value) (H : Hp) : O :=
  B (al [U 0, I 0, .bool false] H) fun p1 =>
  loopS F10b0L rnd [a0, a1, p1.1, (I 0)] p1.2 [fun x5 h6 =>
    B (ldA 3 (gv x5 0) h6) fun r7 =>
    some (.tuple #[r7, (gv x5 1)], h6),
   fun x8 h9 =>
    B (bd [(0, 1), (1, 1), (2, 1)] [U 0, I 0, .bool false] []) fun t28 =>
    B (st 3 (gv x8 0) t28 h9) fun p10 =>
    B (ldA 3 (gv x8 0) p10.2) fun r11 =>
    some (.tuple #[r11, (.bool false)], p10.2)]
noncomputable def af10 : AF := ⟨cd10, 29, Try.f10.results.toList, true, false⟩
theorem fn10 : C0.fn 10 = some af10 := by kernel_rfl
theorem b10 {a0 a1 : Value} {H : Hp} {r : Value × Hp} (h : F10 a0 a1 H = some r) : ∃ d, bodyE C0 (evF C0 d) af10 [a0, a1] H = some r :=
  body_ok noX (by kernel_rfl) (.n none .e (.n none (.n none .e (.n none (.n (some o10b0) .e .e) .e)) .e)) ((show evX C0 (ev C0) 29 cd10 (.n none .e (.n none (.n none .e (.n none (.n (some o10b0) .e .e) .e)) .e)) (args0 29 [a0, a1]) H (kRet C0 Try.f10.results.toList) = F10 a0 a1 H by kernel_rfl).trans h)
theorem c10 {a0 a1 : Value} {H : Hp} {v : Value} (hv : plainV v = true) (h : (F10 a0 a1 (H.fresh [a0, a1])).map (·.1) = some v) : call 10 [a0, a1] H = some (v, H) := pure_map noX fn10 rfl hv h b10

/-! tenement/tenementref19.Check -/
noncomputable def cd11 : Code := (Try.f11.body).getD .skip
noncomputable def F11b0 (k : Kx) (t0 t3 t4 t5 : Value) (H : Hp) (X : List Kx) : O :=
  B (lnS t0) fun t12 =>
  B (bo .lss 3 t5 t12) fun t13 =>
  br t13 (
   B (ixS 3 t0 t5) fun t18 =>
   B (ldA 3 t18 H) fun t19 =>
   B (al [U 0, I 0, .bool false] H) fun p1 =>
   B (st 3 p1.1 t19 p1.2) fun p2 =>
   B (fa 1 p1.1) fun t20 =>
   B (ld1 t20 p2.2) fun t21 =>
   B (bo .lss 3 t21 (I 1)) fun t22 =>
   B (gd t22 false (fa 1 p1.1)) fun t24 =>
   B (gd t22 false (ld1 t24 p2.2)) fun t25 =>
   B (gd t22 false (bo .gtr 3 t25 (I 16))) fun t26 =>
   B (pk t22 (some (.bool true)) (some t26)) fun t27 =>
   B (gd t27 false (fa 0 p1.1)) fun t29 =>
   B (gd t27 false (ld1 t29 p2.2)) fun t30 =>
   B (gd t27 false (fa 1 p1.1)) fun t31 =>
   B (gd t27 false (ld1 t31 p2.2)) fun t32 =>
   B (gd t27 false (cvI .u64 t32)) fun t33 =>
   B (gd t27 false (bo .sub 23 (U 34359738368) t33)) fun t34 =>
   B (gd t27 false (bo .gtr 23 t30 t34)) fun t35 =>
   B (pk t27 (some (.bool true)) (some t35)) fun t36 =>
   B (gd t36 false (some t5)) fun t38 =>
   B (gd t36 false (bo .gtr 3 t38 (I 0))) fun t39 =>
   B (gd t36 false (some t39)) fun t40 =>
   B (gd t40 true (fa 0 p1.1)) fun t41 =>
   B (gd t40 true (ld1 t41 p2.2)) fun t42 =>
   B (gd t40 true (some t4)) fun t43 =>
   B (gd t40 true (bo .lss 23 t42 t43)) fun t44 =>
   B (gd t36 false (pk t40 (some t44) (some (.bool false)))) fun t45 =>
   B (pk t36 (some (.bool true)) (some t45)) fun t46 =>
   br t46 (
    nth X 0 [(I 2)] p2.2) (
    B (fa 0 p1.1) fun t47 =>
    B (ld1 t47 p2.2) fun t48 =>
    B (fa 1 p1.1) fun t49 =>
    B (ld1 t49 p2.2) fun t50 =>
    B (cvI .u64 t50) fun t51 =>
    B (bo .add 23 t48 t51) fun t52 =>
    B (fa 1 p1.1) fun t54 =>
    B (ld1 t54 p2.2) fun t55 =>
    B (bo .add 3 t3 t55) fun t56 =>
    B (bo .add 3 t5 (I 1)) fun t15 =>
    k [t0, t56, t52, t15] p2.2)) (
   nth X 1 [t3] H)
noncomputable def F11b0L : Kx → List Value → Hp → List Kx → O := fun k xs H X => F11b0 k (gv xs 0) (gv xs 1) (gv xs 2) (gv xs 3) H X
noncomputable def o11b0 : Orac C0 59 (lft (rgt (lft (rgt (rgt (rgt (rgt cd11))))))) := loopO noX (by kernel_rfl) .e [0, 3, 4, 5] [(.rt, [2]), (.ex 0, [3])] F11b0L fun k xs H X => by kernel_rfl
noncomputable def F11 (a0 : Value) (H : Hp) : O :=
  B (lnS a0) fun t8 =>
  B (bo .gtr 3 t8 (I 8)) fun t9 =>
  br t9 (
   some ((I 2), H)) (
   loopS F11b0L rnd [a0, (I 0), (U 0), (I 0)] H [fun x3 h4 =>
     some ((gv x3 0), h4),
    fun x5 h6 =>
     B (bo .gtr 3 (gv x5 0) (I 16)) fun t58 =>
     br t58 (
      some ((I 2), h6)) (
      some ((I 0), h6))])
noncomputable def af11 : AF := ⟨cd11, 59, Try.f11.results.toList, true, false⟩
theorem fn11 : C0.fn 11 = some af11 := by kernel_rfl
theorem b11 {a0 : Value} {H : Hp} {r : Value × Hp} (h : F11 a0 H = some r) : ∃ d, bodyE C0 (evF C0 d) af11 [a0] H = some r :=
  body_ok noX (by kernel_rfl) (.n none .e (.n none .e (.n none .e (.n none .e (.n none (.n none .e (.n none (.n (some o11b0) .e .e) .e)) .e))))) ((show evX C0 (ev C0) 59 cd11 (.n none .e (.n none .e (.n none .e (.n none .e (.n none (.n none .e (.n none (.n (some o11b0) .e .e) .e)) .e))))) (args0 59 [a0]) H (kRet C0 Try.f11.results.toList) = F11 a0 H by kernel_rfl).trans h)
theorem c11 {a0 : Value} {H : Hp} {v : Value} (hv : plainV v = true) (h : (F11 a0 (H.fresh [a0])).map (·.1) = some v) : call 11 [a0] H = some (v, H) := pure_map noX fn11 rfl hv h b11

/-! tenement/tenementref16.Leaf -/
noncomputable def cd12 : Code := (Try.f12.body).getD .skip
noncomputable def F12 (a0 a1 : Value) (H : Hp) : O :=
  B (bd [(0, 1), (1, 1), (2, 1), (3, 1), (4, 1), (5, 1)] [.int .i8 0, I 0, .bool false, .bool false, .bool false, .bool false] [(0, (.int .i8 2)), (1, a0), (3, a1), (4, (.bool true)), (5, (.bool true))]) fun t10 =>
  B (call 29 [t10] H) fun p1 =>
  B (extractE p1.1 0) fun t12 =>
  B (extractE p1.1 1) fun t13 =>
  B (bo .neq 28 t13 (I 0)) fun t15 =>
  br t15 (
   some ((U 0), p1.2)) (
   some (t12, p1.2))
noncomputable def af12 : AF := ⟨cd12, 17, Try.f12.results.toList, true, false⟩
theorem fn12 : C0.fn 12 = some af12 := by kernel_rfl
theorem b12 {a0 a1 : Value} {H : Hp} {r : Value × Hp} (h : F12 a0 a1 H = some r) : ∃ d, bodyE C0 (evF C0 d) af12 [a0, a1] H = some r :=
  body_ok noX (by kernel_rfl) .e ((show evX C0 (ev C0) 17 cd12 .e (args0 17 [a0, a1]) H (kRet C0 Try.f12.results.toList) = F12 a0 a1 H by kernel_rfl).trans h)
theorem c12 {a0 a1 : Value} {H : Hp} {v : Value} (hv : plainV v = true) (h : (F12 a0 a1 (H.fresh [a0, a1])).map (·.1) = some v) : call 12 [a0, a1] H = some (v, H) := pure_map noX fn12 rfl hv h b12

/-! tenement/share.Room -/
noncomputable def cd13 : Code := (Try.f13.body).getD .skip
noncomputable def F13 (a0 a1 : Value) (H : Hp) : O :=
  B (al (cellsOf a0) H) fun p1 =>
  B (fa 0 p1.1) fun t6 =>
  B (ld1 t6 p1.2) fun t7 =>
  B (bd [(0, 1), (1, 1)] [.int .i8 0, .int .i8 0] [(0, t7)]) fun t8 =>
  B (al [.int .i8 0, .int .i8 0] p1.2) fun p2 =>
  B (st 2 p2.1 t8 p2.2) fun p3 =>
  B (ldA 2 p2.1 p3.2) fun t10 =>
  B (bd [(0, 1), (1, 1)] [.int .i8 0, .int .i8 0] [(0, (.int .i8 2))]) fun t11 =>
  B (bo .eql 27 t10 t11) fun t12 =>
  br t12 (
   B (maxE [a1, (I 0)]) fun t14 =>
   B (bo .add 3 (I 1) t14) fun t15 =>
   some (t15, p3.2)) (
   B (ldA 2 p2.1 p3.2) fun t17 =>
   B (bd [(0, 1), (1, 1)] [.int .i8 0, .int .i8 0] [(0, (.int .i8 4))]) fun t18 =>
   B (bo .eql 27 t17 t18) fun t19 =>
   br t19 (
    some ((I 1), p3.2)) (
    some ((I 0), p3.2)))
noncomputable def af13 : AF := ⟨cd13, 20, Try.f13.results.toList, true, false⟩
theorem fn13 : C0.fn 13 = some af13 := by kernel_rfl
theorem b13 {a0 a1 : Value} {H : Hp} {r : Value × Hp} (h : F13 a0 a1 H = some r) : ∃ d, bodyE C0 (evF C0 d) af13 [a0, a1] H = some r :=
  body_ok noX (by kernel_rfl) .e ((show evX C0 (ev C0) 20 cd13 .e (args0 20 [a0, a1]) H (kRet C0 Try.f13.results.toList) = F13 a0 a1 H by kernel_rfl).trans h)
theorem c13 {a0 a1 : Value} {H : Hp} {v : Value} (hv : plainV v = true) (h : (F13 a0 a1 (H.fresh [a0, a1])).map (·.1) = some v) : call 13 [a0, a1] H = some (v, H) := pure_map noX fn13 rfl hv h b13

/-! tenement/space.at$1 -/
noncomputable def cd43 : Code := (Try.f43.body).getD .skip
noncomputable def F43 (a0 a1 : Value) (H : Hp) : O :=
  B (al (cellsOf a0) H) fun p1 =>
  B (ldA 3 p1.1 p1.2) fun t6 =>
  B (call 30 [t6] p1.2) fun p2 =>
  B (bo .leq 23 p2.1 a1) fun t9 =>
  br t9 (
   some ((I (-1)), p2.2)) (
   B (fa 0 p1.1) fun t11 =>
   B (ld1 t11 p2.2) fun t12 =>
   B (bo .gtr 23 t12 a1) fun t14 =>
   br t14 (
    some ((I 1), p2.2)) (
    some ((I 0), p2.2)))
noncomputable def af43 : AF := ⟨cd43, 15, Try.f43.results.toList, true, false⟩
theorem fn43 : C0.fn 43 = some af43 := by kernel_rfl
theorem b43 {a0 a1 : Value} {H : Hp} {r : Value × Hp} (h : F43 a0 a1 H = some r) : ∃ d, bodyE C0 (evF C0 d) af43 [a0, a1] H = some r :=
  body_ok noX (by kernel_rfl) .e ((show evX C0 (ev C0) 15 cd43 .e (args0 15 [a0, a1]) H (kRet C0 Try.f43.results.toList) = F43 a0 a1 H by kernel_rfl).trans h)
theorem c43 {a0 a1 : Value} {H : Hp} {v : Value} (hv : plainV v = true) (h : (F43 a0 a1 (H.fresh [a0, a1])).map (·.1) = some v) : call 43 [a0, a1] H = some (v, H) := pure_map noX fn43 rfl hv h b43

/-! slices.BinarySearchFunc[[]tenement/api.Region,tenement/api.Region,uint64] -/
noncomputable def cd42 : Code := (Try.f42.body).getD .skip
noncomputable def F42b0 (k : Kx) (t0 t1 t2 t8 t9 t10 : Value) (H : Hp) (X : List Kx) : O :=
  B (bo .lss 3 t9 t10) fun t17 =>
  br t17 (
   B (bo .add 3 t9 t10) fun t20 =>
   B (cvI .u64 t20) fun t21 =>
   B (bo .shr 73 t21 (U 1)) fun t22 =>
   B (cvI .i64 t22) fun t23 =>
   B (ixS 3 t0 t23) fun t27 =>
   B (ldA 3 t27 H) fun t28 =>
   B (cl (ev C0) t2 [t28, t1] H) fun p1 =>
   B (bo .lss 3 p1.1 (I 0)) fun t31 =>
   br t31 (
    B (bo .add 3 t23 (I 1)) fun t33 =>
    k [t0, t1, t2, t8, t33, t10] p1.2) (
    k [t0, t1, t2, t8, t9, t23] p1.2)) (
   nth X 0 [t0, t1, t2, t8, t9] H)
noncomputable def F42b0L : Kx → List Value → Hp → List Kx → O := fun k xs H X => F42b0 k (gv xs 0) (gv xs 1) (gv xs 2) (gv xs 3) (gv xs 4) (gv xs 5) H X
noncomputable def o42b0 : Orac C0 49 (lft (lft (rgt (rgt (rgt cd42))))) := loopO noX (by kernel_rfl) .e [0, 1, 2, 8, 9, 10] [(.ex 0, [0, 1, 2, 8, 9])] F42b0L fun k xs H X => by kernel_rfl
noncomputable def F42 (a0 a1 a2 : Value) (H : Hp) : O :=
  B (lnS a0) fun t13 =>
  loopS F42b0L rnd [a0, a1, a2, t13, (I 0), t13] H [fun x2 h3 =>
    B (bo .lss 3 (gv x2 4) (gv x2 3)) fun t38 =>
    B (gd t38 true (some (gv x2 2))) fun t40 =>
    B (gd t38 true (some (gv x2 0))) fun t41 =>
    B (gd t38 true (some (gv x2 4))) fun t42 =>
    B (gd t38 true (ixS 3 t41 t42)) fun t43 =>
    B (gd t38 true (ldA 3 t43 h3)) fun t44 =>
    B (gd t38 true (some (gv x2 1))) fun t45 =>
    B (gh t38 true (cl (ev C0) t40 [t44, t45] h3) h3) fun p4 =>
    B (gd t38 true (bo .eql 3 p4.1 (I 0))) fun t47 =>
    B (pk t38 (some t47) (some (.bool false))) fun t48 =>
    some (.tuple #[(gv x2 4), t48], p4.2)]
noncomputable def af42 : AF := ⟨cd42, 49, Try.f42.results.toList, true, false⟩
theorem fn42 : C0.fn 42 = some af42 := by kernel_rfl
theorem b42 {a0 a1 a2 : Value} {H : Hp} {r : Value × Hp} (h : F42 a0 a1 a2 H = some r) : ∃ d, bodyE C0 (evF C0 d) af42 [a0, a1, a2] H = some r :=
  body_ok noX (by kernel_rfl) (.n none .e (.n none .e (.n none .e (.n none (.n none (.n (some o42b0) .e .e) .e) .e)))) ((show evX C0 (ev C0) 49 cd42 (.n none .e (.n none .e (.n none .e (.n none (.n none (.n (some o42b0) .e .e) .e) .e)))) (args0 49 [a0, a1, a2]) H (kRet C0 Try.f42.results.toList) = F42 a0 a1 a2 H by kernel_rfl).trans h)
theorem c42 {a0 a1 a2 : Value} {H : Hp} {v : Value} (hv : plainV v = true) (h : (F42 a0 a1 a2 (H.fresh [a0, a1, a2])).map (·.1) = some v) : call 42 [a0, a1, a2] H = some (v, H) := pure_map noX fn42 rfl hv h b42

/-! tenement/space.at -/
noncomputable def cd31 : Code := (Try.f31.body).getD .skip
noncomputable def F31 (a0 a1 : Value) (H : Hp) : O :=
  B (call 42 [a0, a1, (fnv 43)] H) fun p1 =>
  B (extractE p1.1 0) fun t9 =>
  B (extractE p1.1 1) fun t10 =>
  some (.tuple #[t9, t10], p1.2)
noncomputable def af31 : AF := ⟨cd31, 11, Try.f31.results.toList, true, false⟩
theorem fn31 : C0.fn 31 = some af31 := by kernel_rfl
theorem b31 {a0 a1 : Value} {H : Hp} {r : Value × Hp} (h : F31 a0 a1 H = some r) : ∃ d, bodyE C0 (evF C0 d) af31 [a0, a1] H = some r :=
  body_ok noX (by kernel_rfl) .e ((show evX C0 (ev C0) 11 cd31 .e (args0 11 [a0, a1]) H (kRet C0 Try.f31.results.toList) = F31 a0 a1 H by kernel_rfl).trans h)
theorem c31 {a0 a1 : Value} {H : Hp} {v : Value} (hv : plainV v = true) (h : (F31 a0 a1 (H.fresh [a0, a1])).map (·.1) = some v) : call 31 [a0, a1] H = some (v, H) := pure_map noX fn31 rfl hv h b31

/-! tenement/space.Check -/
noncomputable def cd14 : Code := (Try.f14.body).getD .skip
noncomputable def F14b0 (k : Kx) (t3 t4 t10 t11 t12 : Value) (H : Hp) (X : List Kx) : O :=
  B (bo .lss 3 t12 t11) fun t13 =>
  br t13 (
   B (ixS 3 t10 t12) fun t14 =>
   B (ldA 3 t14 H) fun t15 =>
   B (al [U 0, I 0, .bool false] H) fun p1 =>
   B (st 3 p1.1 t15 p1.2) fun p2 =>
   B (fa 1 p1.1) fun t16 =>
   B (ld1 t16 p2.2) fun t17 =>
   B (bo .lss 3 t17 (I 1)) fun t18 =>
   B (gd t18 false (fa 1 p1.1)) fun t20 =>
   B (gd t18 false (ld1 t20 p2.2)) fun t21 =>
   B (gd t18 false (bo .gtr 3 t21 (I 16))) fun t22 =>
   B (pk t18 (some (.bool true)) (some t22)) fun t23 =>
   B (gd t23 false (fa 0 p1.1)) fun t25 =>
   B (gd t23 false (ld1 t25 p2.2)) fun t26 =>
   B (gd t23 false (fa 1 p1.1)) fun t27 =>
   B (gd t23 false (ld1 t27 p2.2)) fun t28 =>
   B (gd t23 false (cvI .u64 t28)) fun t29 =>
   B (gd t23 false (bo .sub 23 (U 34359738368) t29)) fun t30 =>
   B (gd t23 false (bo .gtr 23 t26 t30)) fun t31 =>
   B (pk t23 (some (.bool true)) (some t31)) fun t32 =>
   B (gd t32 false (fa 0 p1.1)) fun t34 =>
   B (gd t32 false (ld1 t34 p2.2)) fun t35 =>
   B (gd t32 false (some t4)) fun t36 =>
   B (gd t32 false (bo .lss 23 t35 t36)) fun t37 =>
   B (pk t32 (some (.bool true)) (some t37)) fun t38 =>
   br t38 (
    nth X 0 [(I 2)] p2.2) (
    B (fa 1 p1.1) fun t40 =>
    B (ld1 t40 p2.2) fun t41 =>
    B (bo .add 3 t3 t41) fun t42 =>
    B (ldA 3 p1.1 p2.2) fun t43 =>
    B (call 30 [t43] p2.2) fun p3 =>
    B (bo .add 3 t12 (I 1)) fun t45 =>
    k [t42, p3.1, t10, t11, t45] p3.2)) (
   nth X 1 [t3] H)
noncomputable def F14b0L : Kx → List Value → Hp → List Kx → O := fun k xs H X => F14b0 k (gv xs 0) (gv xs 1) (gv xs 2) (gv xs 3) (gv xs 4) H X
noncomputable def o14b0 : Orac C0 48 (lft (rgt (lft (rgt (rgt (rgt cd14)))))) := loopO noX (by kernel_rfl) .e [3, 4, 10, 11, 12] [(.rt, [2]), (.ex 0, [3])] F14b0L fun k xs H X => by kernel_rfl
noncomputable def F14 (a0 : Value) (H : Hp) : O :=
  B (lnS a0) fun t8 =>
  B (bo .gtr 3 t8 (I 8)) fun t9 =>
  br t9 (
   some ((I 2), H)) (
   B (lnS a0) fun t11 =>
   loopS F14b0L rnd [(I 0), (U 0), a0, t11, (I 0)] H [fun x4 h5 =>
     some ((gv x4 0), h5),
    fun x6 h7 =>
     B (bo .gtr 3 (gv x6 0) (I 16)) fun t47 =>
     br t47 (
      some ((I 2), h7)) (
      some ((I 0), h7))])
noncomputable def af14 : AF := ⟨cd14, 48, Try.f14.results.toList, true, false⟩
theorem fn14 : C0.fn 14 = some af14 := by kernel_rfl
theorem b14 {a0 : Value} {H : Hp} {r : Value × Hp} (h : F14 a0 H = some r) : ∃ d, bodyE C0 (evF C0 d) af14 [a0] H = some r :=
  body_ok noX (by kernel_rfl) (.n none .e (.n none .e (.n none .e (.n none (.n none .e (.n none (.n (some o14b0) .e .e) .e)) .e)))) ((show evX C0 (ev C0) 48 cd14 (.n none .e (.n none .e (.n none .e (.n none (.n none .e (.n none (.n (some o14b0) .e .e) .e)) .e)))) (args0 48 [a0]) H (kRet C0 Try.f14.results.toList) = F14 a0 H by kernel_rfl).trans h)
theorem c14 {a0 : Value} {H : Hp} {v : Value} (hv : plainV v = true) (h : (F14 a0 (H.fresh [a0])).map (·.1) = some v) : call 14 [a0] H = some (v, H) := pure_map noX fn14 rfl hv h b14

/-! tenement/space.Find -/
noncomputable def cd20 : Code := (Try.f20.body).getD .skip
noncomputable def F20 (a0 a1 : Value) (H : Hp) : O :=
  B (al [U 0, I 0, .bool false] H) fun p1 =>
  B (call 14 [a0] p1.2) fun p2 =>
  B (bo .neq 28 p2.1 (I 0)) fun t10 =>
  br t10 (
   B (bd [(0, 1), (1, 1), (2, 1)] [U 0, I 0, .bool false] []) fun t11 =>
   B (st 3 p1.1 t11 p2.2) fun p3 =>
   B (ldA 3 p1.1 p3.2) fun r4 =>
   some (.tuple #[r4, (.bool false)], p3.2)) (
   B (call 31 [a0, a1] p2.2) fun p5 =>
   B (extractE p5.1 0) fun t16 =>
   B (extractE p5.1 1) fun t17 =>
   B (unE .not t17) fun t19 =>
   br t19 (
    B (bd [(0, 1), (1, 1), (2, 1)] [U 0, I 0, .bool false] []) fun t20 =>
    B (st 3 p1.1 t20 p5.2) fun p6 =>
    B (ldA 3 p1.1 p6.2) fun r7 =>
    some (.tuple #[r7, (.bool false)], p6.2)) (
    B (ixS 3 a0 t16) fun t23 =>
    B (ldA 3 t23 p5.2) fun t24 =>
    B (st 3 p1.1 t24 p5.2) fun p8 =>
    B (ldA 3 p1.1 p8.2) fun r9 =>
    some (.tuple #[r9, (.bool true)], p8.2)))
noncomputable def af20 : AF := ⟨cd20, 25, Try.f20.results.toList, true, false⟩
theorem fn20 : C0.fn 20 = some af20 := by kernel_rfl
theorem b20 {a0 a1 : Value} {H : Hp} {r : Value × Hp} (h : F20 a0 a1 H = some r) : ∃ d, bodyE C0 (evF C0 d) af20 [a0, a1] H = some r :=
  body_ok noX (by kernel_rfl) .e ((show evX C0 (ev C0) 25 cd20 .e (args0 25 [a0, a1]) H (kRet C0 Try.f20.results.toList) = F20 a0 a1 H by kernel_rfl).trans h)
theorem c20 {a0 a1 : Value} {H : Hp} {v : Value} (hv : plainV v = true) (h : (F20 a0 a1 (H.fresh [a0, a1])).map (·.1) = some v) : call 20 [a0, a1] H = some (v, H) := pure_map noX fn20 rfl hv h b20

/-! tenement/share.Decide -/
noncomputable def cd9 : Code := (Try.f9.body).getD .skip
noncomputable def F9j0 (t10 t17 : Value) (H : Hp) (X : List Kx) : O :=
  B (bd [(0, 1), (1, 1)] [.int .i8 0, .int .i8 0] [(0, t17)]) fun t75 =>
  B (st 2 t10 t75 H) fun p11 =>
  nth X 0 [t10, (I 0)] p11.2
noncomputable def o9j0 : Orac C0 76 (rgt (rgt (rgt (rgt (rgt (rgt (rgt cd9))))))) := joinO noX .e [10, 17] [(.rt, [10, 11])] (fun xs H X => F9j0 (gv xs 0) (gv xs 1) H X) fun xs H X => by kernel_rfl
noncomputable def F9 (a0 a1 a2 a3 a4 : Value) (H : Hp) : O :=
  B (al [.int .i8 0, .int .i8 0] H) fun p1 =>
  B (bo .lss 3 a4 (I 0)) fun t19 =>
  B (gd t19 false (some a0)) fun t21 =>
  B (gh t19 false (call 14 [t21] p1.2) p1.2) fun p2 =>
  B (gd t19 false (bo .neq 28 p2.1 (I 0))) fun t23 =>
  B (pk t19 (some (.bool true)) (some t23)) fun t24 =>
  br t24 (
   B (bd [(0, 1), (1, 1)] [.int .i8 0, .int .i8 0] []) fun t25 =>
   B (st 2 p1.1 t25 p2.2) fun p3 =>
   B (ldA 2 p1.1 p3.2) fun r4 =>
   some (.tuple #[r4, (I 2)], p3.2)) (
   B (call 20 [a0, a1] p2.2) fun p5 =>
   B (extractE p5.1 0) fun t30 =>
   B (extractE p5.1 1) fun t31 =>
   B (al [U 0, I 0, .bool false] p5.2) fun p6 =>
   B (st 3 p6.1 t30 p6.2) fun p7 =>
   B (call 27 [a3, (I 3)] p7.2) fun p8 =>
   B (extractE p8.1 0) fun t35 =>
   B (extractE p8.1 1) fun t36 =>
   B (al [.int .i8 0, I 0, .bool false, .bool false, .bool false, .bool false] p8.2) fun p9 =>
   B (st 6 p9.1 t35 p9.2) fun p10 =>
   B (bo .eql 28 t36 (I 0)) fun t38 =>
   B (gd t38 true (fa 0 p9.1)) fun t40 =>
   B (gd t38 true (ld1 t40 p10.2)) fun t41 =>
   B (gd t38 true (bo .eql 25 t41 (.int .i8 2))) fun t42 =>
   B (pk t38 (some t42) (some (.bool false))) fun t43 =>
   B (gd t43 true (fa 4 p9.1)) fun t45 =>
   B (gd t43 true (ld1 t45 p10.2)) fun t46 =>
   B (pk t43 (some t46) (some (.bool false))) fun t47 =>
   B (unE .not t31) fun t50 =>
   br t50 (
    B (bd [(0, 1), (1, 1)] [.int .i8 0, .int .i8 0] [(0, (.int .i8 0)), (1, (.int .i8 1))]) fun t51 =>
    B (st 2 p1.1 t51 p10.2) fun p12 =>
    B (ldA 2 p1.1 p12.2) fun r13 =>
    some (.tuple #[r13, (I 0)], p12.2)) (
    B (gd a2 true (fa 2 p6.1)) fun t55 =>
    B (gd a2 true (ld1 t55 p10.2)) fun t56 =>
    B (gd a2 true (unE .not t56)) fun t57 =>
    B (pk a2 (some t57) (some (.bool false))) fun t58 =>
    br t58 (
     B (bd [(0, 1), (1, 1)] [.int .i8 0, .int .i8 0] [(0, (.int .i8 0)), (1, (.int .i8 2))]) fun t59 =>
     B (st 2 p1.1 t59 p10.2) fun p14 =>
     B (ldA 2 p1.1 p14.2) fun r15 =>
     some (.tuple #[r15, (I 0)], p14.2)) (
     B (unE .not t47) fun t62 =>
     br t62 (
      F9j0 p1.1 (.int .i8 2) p10.2 [fun x16 h17 =>
        B (ldA 2 (gv x16 0) h17) fun r18 =>
        some (.tuple #[r18, (gv x16 1)], h17)]) (
      B (unE .not a2) fun t65 =>
      B (gd t65 false (fa 3 p9.1)) fun t67 =>
      B (gd t65 false (ld1 t67 p10.2)) fun t68 =>
      B (gd t65 false (unE .not t68)) fun t69 =>
      B (pk t65 (some (.bool true)) (some t69)) fun t70 =>
      br t70 (
       F9j0 p1.1 (.int .i8 1) p10.2 [fun x19 h20 =>
         B (ldA 2 (gv x19 0) h20) fun r21 =>
         some (.tuple #[r21, (gv x19 1)], h20)]) (
       B (bo .eql 3 a4 (I 1)) fun t73 =>
       br t73 (
        F9j0 p1.1 (.int .i8 3) p10.2 [fun x22 h23 =>
          B (ldA 2 (gv x22 0) h23) fun r24 =>
          some (.tuple #[r24, (gv x22 1)], h23)]) (
        F9j0 p1.1 (.int .i8 4) p10.2 [fun x25 h26 =>
          B (ldA 2 (gv x25 0) h26) fun r27 =>
          some (.tuple #[r27, (gv x25 1)], h26)]))))))
noncomputable def af9 : AF := ⟨cd9, 76, Try.f9.results.toList, true, false⟩
theorem fn9 : C0.fn 9 = some af9 := by kernel_rfl
theorem b9 {a0 a1 a2 a3 a4 : Value} {H : Hp} {r : Value × Hp} (h : F9 a0 a1 a2 a3 a4 H = some r) : ∃ d, bodyE C0 (evF C0 d) af9 [a0, a1, a2, a3, a4] H = some r :=
  body_ok noX (by kernel_rfl) (.n none .e (.n none .e (.n none .e (.n none .e (.n none .e (.n none .e (.n none .e (.n (some o9j0) .e .e)))))))) ((show evX C0 (ev C0) 76 cd9 (.n none .e (.n none .e (.n none .e (.n none .e (.n none .e (.n none .e (.n none .e (.n (some o9j0) .e .e)))))))) (args0 76 [a0, a1, a2, a3, a4]) H (kRet C0 Try.f9.results.toList) = F9 a0 a1 a2 a3 a4 H by kernel_rfl).trans h)
theorem c9 {a0 a1 a2 a3 a4 : Value} {H : Hp} {v : Value} (hv : plainV v = true) (h : (F9 a0 a1 a2 a3 a4 (H.fresh [a0, a1, a2, a3, a4])).map (·.1) = some v) : call 9 [a0, a1, a2, a3, a4] H = some (v, H) := pure_map noX fn9 rfl hv h b9

/-! tenement/tenementlaw20.region -/
noncomputable def cd26 : Code := (Try.f26.body).getD .skip
noncomputable def F26 (H : Hp) : O :=
  B (bd [(0, 1), (1, 1), (2, 1)] [U 0, I 0, .bool false] [(0, (U 10)), (1, (I 2)), (2, (.bool true))]) fun t1 =>
  B (bsl 3 [U 0, I 0, .bool false] 1 [(0, t1)] H) fun p1 =>
  some (p1.1, p1.2)
noncomputable def af26 : AF := ⟨cd26, 3, Try.f26.results.toList, false, false⟩
theorem fn26 : C0.fn 26 = some af26 := by kernel_rfl
theorem b26 {H : Hp} {r : Value × Hp} (h : F26 H = some r) : ∃ d, bodyE C0 (evF C0 d) af26 [] H = some r :=
  body_ok noX (by kernel_rfl) .e ((show evX C0 (ev C0) 3 cd26 .e (args0 3 []) H (kRet C0 Try.f26.results.toList) = F26 H by kernel_rfl).trans h)
theorem c26 {H : Hp} {r : Value × Hp} (h : F26 H = some r) : call 26 [] H = some r := call_ok noX fn26 rfl rfl (b26 h)

/-! tenement/tenementlaw20.wakes -/
noncomputable def cd8 : Code := (Try.f8.body).getD .skip
noncomputable def F8 (H : Hp) : O :=
  B (call 9 [(.slice none 0 0), (U 10), (.bool true), (U 0), (I 0)] H) fun p1 =>
  B (extractE p1.1 0) fun t11 =>
  B (extractE p1.1 1) fun t12 =>
  B (al [.int .i8 0, .int .i8 0] p1.2) fun p2 =>
  B (st 2 p2.1 t11 p2.2) fun p3 =>
  B (call 26 [] p3.2) fun p4 =>
  B (call 12 [(I 5), (.bool true)] p4.2) fun p5 =>
  B (call 9 [p4.1, (U 10), (.bool true), p5.1, (I 2)] p5.2) fun p6 =>
  B (extractE p6.1 0) fun t17 =>
  B (extractE p6.1 1) fun t18 =>
  B (al [.int .i8 0, .int .i8 0] p6.2) fun p7 =>
  B (st 2 p7.1 t17 p7.2) fun p8 =>
  B (call 26 [] p8.2) fun p9 =>
  B (call 12 [(I 5), (.bool true)] p9.2) fun p10 =>
  B (call 9 [p9.1, (U 10), (.bool true), p10.1, (I 1)] p10.2) fun p11 =>
  B (extractE p11.1 0) fun t23 =>
  B (extractE p11.1 1) fun t24 =>
  B (al [.int .i8 0, .int .i8 0] p11.2) fun p12 =>
  B (st 2 p12.1 t23 p12.2) fun p13 =>
  B (call 26 [] p13.2) fun p14 =>
  B (call 12 [(I 5), (.bool true)] p14.2) fun p15 =>
  B (call 9 [p14.1, (U 10), (.bool false), p15.1, (I 2)] p15.2) fun p16 =>
  B (extractE p16.1 0) fun t29 =>
  B (extractE p16.1 1) fun t30 =>
  B (al [.int .i8 0, .int .i8 0] p16.2) fun p17 =>
  B (st 2 p17.1 t29 p17.2) fun p18 =>
  B (ldA 2 p2.1 p18.2) fun t31 =>
  B (bd [(0, 1), (1, 1)] [.int .i8 0, .int .i8 0] [(0, (.int .i8 0)), (1, (.int .i8 1))]) fun t32 =>
  B (bo .eql 27 t31 t32) fun t33 =>
  B (gd t33 true (some t12)) fun t35 =>
  B (gd t33 true (bo .eql 28 t35 (I 0))) fun t36 =>
  B (pk t33 (some t36) (some (.bool false))) fun t37 =>
  B (gd t37 true (fa 0 p7.1)) fun t39 =>
  B (gd t37 true (ld1 t39 p18.2)) fun t40 =>
  B (gd t37 true (bo .eql 25 t40 (.int .i8 4))) fun t41 =>
  B (pk t37 (some t41) (some (.bool false))) fun t42 =>
  B (gd t42 true (some t18)) fun t44 =>
  B (gd t42 true (bo .eql 28 t44 (I 0))) fun t45 =>
  B (pk t42 (some t45) (some (.bool false))) fun t46 =>
  B (gd t46 true (fa 0 p12.1)) fun t48 =>
  B (gd t46 true (ld1 t48 p18.2)) fun t49 =>
  B (gd t46 true (bo .eql 25 t49 (.int .i8 3))) fun t50 =>
  B (pk t46 (some t50) (some (.bool false))) fun t51 =>
  B (gd t51 true (some t24)) fun t53 =>
  B (gd t51 true (bo .eql 28 t53 (I 0))) fun t54 =>
  B (pk t51 (some t54) (some (.bool false))) fun t55 =>
  B (gd t55 true (fa 0 p17.1)) fun t57 =>
  B (gd t55 true (ld1 t57 p18.2)) fun t58 =>
  B (gd t55 true (bo .eql 25 t58 (.int .i8 1))) fun t59 =>
  B (pk t55 (some t59) (some (.bool false))) fun t60 =>
  B (gd t60 true (some t30)) fun t62 =>
  B (gd t60 true (bo .eql 28 t62 (I 0))) fun t63 =>
  B (pk t60 (some t63) (some (.bool false))) fun t64 =>
  some (t64, p18.2)
noncomputable def af8 : AF := ⟨cd8, 65, Try.f8.results.toList, true, false⟩
theorem fn8 : C0.fn 8 = some af8 := by kernel_rfl
theorem b8 {H : Hp} {r : Value × Hp} (h : F8 H = some r) : ∃ d, bodyE C0 (evF C0 d) af8 [] H = some r :=
  body_ok noX (by kernel_rfl) .e ((show evX C0 (ev C0) 65 cd8 .e (args0 65 []) H (kRet C0 Try.f8.results.toList) = F8 H by kernel_rfl).trans h)
theorem c8 {H : Hp} {v : Value} (hv : plainV v = true) (h : (F8 (H.fresh [])).map (·.1) = some v) : call 8 [] H = some (v, H) := pure_map noX fn8 rfl hv h b8

/-! tenement/tenementlaw20.ShareEnds -/
noncomputable def cd3 : Code := (Try.f3.body).getD .skip
noncomputable def F3j0 (t0 t1 t2 t3 : Value) (H : Hp) (X : List Kx) : O :=
  B (call 9 [t0, t1, (.bool true), t2, t3] H) fun p11 =>
  B (extractE p11.1 0) fun t84 =>
  B (extractE p11.1 1) fun t85 =>
  B (al [.int .i8 0, .int .i8 0] p11.2) fun p12 =>
  B (st 2 p12.1 t84 p12.2) fun p13 =>
  B (call 9 [t0, t1, (.bool false), t2, t3] p13.2) fun p14 =>
  B (extractE p14.1 0) fun t92 =>
  B (extractE p14.1 1) fun t93 =>
  B (al [.int .i8 0, .int .i8 0] p14.2) fun p15 =>
  B (st 2 p15.1 t92 p15.2) fun p16 =>
  B (bo .eql 28 t85 (I 0)) fun t95 =>
  B (gd t95 true (some t93)) fun t97 =>
  B (gd t95 true (bo .eql 28 t97 (I 0))) fun t98 =>
  B (pk t95 (some t98) (some (.bool false))) fun t99 =>
  B (gd t99 true (fa 0 p12.1)) fun t101 =>
  B (gd t99 true (ld1 t101 p16.2)) fun t102 =>
  B (gd t99 true (bo .eql 25 t102 (.int .i8 1))) fun t103 =>
  B (pk t99 (some t103) (some (.bool false))) fun t104 =>
  B (gd t104 true (fa 0 p15.1)) fun t106 =>
  B (gd t104 true (ld1 t106 p16.2)) fun t107 =>
  B (gd t104 true (bo .eql 25 t107 (.int .i8 1))) fun t108 =>
  B (pk t104 (some t108) (some (.bool false))) fun t109 =>
  B (gh t109 true (call 8 [] p16.2) p16.2) fun p17 =>
  B (pk t109 (some p17.1) (some (.bool false))) fun t112 =>
  nth X 0 [t112] p17.2
noncomputable def o3j0 : Orac C0 113 (rgt (rgt (rgt (rgt (rgt (rgt (rgt (rgt (rgt cd3))))))))) := joinO noX .e [0, 1, 2, 3] [(.rt, [10])] (fun xs H X => F3j0 (gv xs 0) (gv xs 1) (gv xs 2) (gv xs 3) H X) fun xs H X => by kernel_rfl
noncomputable def F3 (a0 a1 a2 a3 a4 : Value) (H : Hp) : O :=
  B (lnS a0) fun t20 =>
  B (bo .gtr 3 t20 (I 20)) fun t21 =>
  br t21 (
   B (call 8 [] H) fun p1 =>
   some (p1.1, p1.2)) (
   B (bo .rem 3 a4 (I 64)) fun t24 =>
   B (bo .add 3 t24 (I 64)) fun t25 =>
   B (bo .rem 3 t25 (I 64)) fun t26 =>
   B (call 9 [a0, a1, (.bool true), a2, a3] H) fun p2 =>
   B (extractE p2.1 0) fun t33 =>
   B (extractE p2.1 1) fun t34 =>
   B (al [.int .i8 0, .int .i8 0] p2.2) fun p3 =>
   B (st 2 p3.1 t33 p3.2) fun p4 =>
   B (call 10 [a0, a1] p4.2) fun p5 =>
   B (extractE p5.1 0) fun t39 =>
   B (extractE p5.1 1) fun t40 =>
   B (al [U 0, I 0, .bool false] p5.2) fun p6 =>
   B (st 3 p6.1 t39 p6.2) fun p7 =>
   B (bo .neq 28 t34 (I 0)) fun t42 =>
   br t42 (
    B (call 11 [a0] p7.2) fun p8 =>
    B (bo .neq 28 p8.1 (I 0)) fun t45 =>
    B (gd t45 false (some a3)) fun t47 =>
    B (gd t45 false (bo .lss 3 t47 (I 0))) fun t48 =>
    B (pk t45 (some (.bool true)) (some t48)) fun t49 =>
    B (gh t49 true (call 8 [] p8.2) p8.2) fun p9 =>
    B (pk t49 (some p9.1) (some (.bool false))) fun t52 =>
    some (t52, p9.2)) (
    B (fa 0 p3.1) fun t53 =>
    B (ld1 t53 p7.2) fun t54 =>
    B (bo .eql 25 t54 (.int .i8 0)) fun t55 =>
    br t55 (
     B (unE .not t40) fun t57 =>
     B (gd t57 false (fa 2 p6.1)) fun t59 =>
     B (gd t57 false (ld1 t59 p7.2)) fun t60 =>
     B (gd t57 false (unE .not t60)) fun t61 =>
     B (pk t57 (some (.bool true)) (some t61)) fun t62 =>
     B (gh t62 true (call 8 [] p7.2) p7.2) fun p10 =>
     B (pk t62 (some p10.1) (some (.bool false))) fun t65 =>
     some (t65, p10.2)) (
     B (unE .not t40) fun t67 =>
     B (gd t67 false (fa 2 p6.1)) fun t69 =>
     B (gd t67 false (ld1 t69 p7.2)) fun t70 =>
     B (gd t67 false (unE .not t70)) fun t71 =>
     B (pk t67 (some (.bool true)) (some t71)) fun t72 =>
     br t72 (
      some ((.bool false), p7.2)) (
      B (fa 0 p3.1) fun t73 =>
      B (ld1 t73 p7.2) fun t74 =>
      B (bo .neq 25 t74 (.int .i8 1)) fun t75 =>
      br t75 (
       B (call 12 [t26, (.bool false)] p7.2) fun p18 =>
       F3j0 a0 a1 p18.1 (I 1) p18.2 [fun x19 h20 =>
         some ((gv x19 0), h20)]) (
       F3j0 a0 a1 a2 a3 p7.2 [fun x21 h22 =>
         some ((gv x21 0), h22)])))))
noncomputable def af3 : AF := ⟨cd3, 113, Try.f3.results.toList, true, false⟩
theorem fn3 : C0.fn 3 = some af3 := by kernel_rfl
theorem b3 {a0 a1 a2 a3 a4 : Value} {H : Hp} {r : Value × Hp} (h : F3 a0 a1 a2 a3 a4 H = some r) : ∃ d, bodyE C0 (evF C0 d) af3 [a0, a1, a2, a3, a4] H = some r :=
  body_ok noX (by kernel_rfl) (.n none .e (.n none .e (.n none .e (.n none .e (.n none .e (.n none .e (.n none .e (.n none .e (.n none .e (.n (some o3j0) .e .e)))))))))) ((show evX C0 (ev C0) 113 cd3 (.n none .e (.n none .e (.n none .e (.n none .e (.n none .e (.n none .e (.n none .e (.n none .e (.n none .e (.n (some o3j0) .e .e)))))))))) (args0 113 [a0, a1, a2, a3, a4]) H (kRet C0 Try.f3.results.toList) = F3 a0 a1 a2 a3 a4 H by kernel_rfl).trans h)
theorem c3 {a0 a1 a2 a3 a4 : Value} {H : Hp} {v : Value} (hv : plainV v = true) (h : (F3 a0 a1 a2 a3 a4 (H.fresh [a0, a1, a2, a3, a4])).map (·.1) = some v) : call 3 [a0, a1, a2, a3, a4] H = some (v, H) := pure_map noX fn3 rfl hv h b3

/-! tenement/tenementlaw20.ShareLoads -/
noncomputable def cd4 : Code := (Try.f4.body).getD .skip
noncomputable def F4j0 (t0 t1 t2 t4 t13 : Value) (H : Hp) (X : List Kx) : O :=
  B (call 9 [t0, t1, (.bool false), t13, t4] H) fun p2 =>
  B (extractE p2.1 0) fun t36 =>
  B (extractE p2.1 1) fun t37 =>
  B (al [.int .i8 0, .int .i8 0] p2.2) fun p3 =>
  B (st 2 p3.1 t36 p3.2) fun p4 =>
  B (call 10 [t0, t1] p4.2) fun p5 =>
  B (extractE p5.1 0) fun t42 =>
  B (extractE p5.1 1) fun t43 =>
  B (al [U 0, I 0, .bool false] p5.2) fun p6 =>
  B (st 3 p6.1 t42 p6.2) fun p7 =>
  B (bo .neq 28 t37 (I 0)) fun t45 =>
  br t45 (
   B (call 11 [t0] p7.2) fun p8 =>
   B (bo .neq 28 p8.1 (I 0)) fun t48 =>
   B (gd t48 false (some t4)) fun t50 =>
   B (gd t48 false (bo .lss 3 t50 (I 0))) fun t51 =>
   B (pk t48 (some (.bool true)) (some t51)) fun t52 =>
   B (gh t52 true (call 8 [] p8.2) p8.2) fun p9 =>
   B (pk t52 (some p9.1) (some (.bool false))) fun t55 =>
   nth X 0 [t55] p9.2) (
   B (fa 0 p3.1) fun t56 =>
   B (ld1 t56 p7.2) fun t57 =>
   B (bo .eql 25 t57 (.int .i8 0)) fun t59 =>
   br t59 (
    B (unE .not t43) fun t61 =>
    B (gd t61 true (fa 1 p3.1)) fun t63 =>
    B (gd t61 true (ld1 t63 p7.2)) fun t64 =>
    B (gd t61 true (bo .eql 25 t64 (.int .i8 1))) fun t65 =>
    B (pk t61 (some t65) (some (.bool false))) fun t66 =>
    B (gh t66 true (call 8 [] p7.2) p7.2) fun p10 =>
    B (pk t66 (some p10.1) (some (.bool false))) fun t69 =>
    nth X 0 [t69] p10.2) (
    B (bo .eql 25 t57 (.int .i8 2)) fun t71 =>
    br t71 (
     B (gd t43 true (some t2)) fun t74 =>
     B (gd t43 true (unE .not t74)) fun t75 =>
     B (pk t43 (some t75) (some (.bool false))) fun t76 =>
     B (gd t76 true (ldA 2 p3.1 p7.2)) fun t78 =>
     B (gh t76 true (call 13 [t78, (I 0)] p7.2) p7.2) fun p11 =>
     B (gd t76 true (bo .eql 3 p11.1 (I 1))) fun t80 =>
     B (pk t76 (some t80) (some (.bool false))) fun t81 =>
     B (gh t81 true (call 8 [] p11.2) p11.2) fun p12 =>
     B (pk t81 (some p12.1) (some (.bool false))) fun t84 =>
     nth X 0 [t84] p12.2) (
     B (bo .eql 25 t57 (.int .i8 1)) fun t86 =>
     br t86 (
      B (gd t43 true (some t2)) fun t89 =>
      B (pk t43 (some t89) (some (.bool false))) fun t90 =>
      B (gd t90 true (ldA 2 p3.1 p7.2)) fun t92 =>
      B (gh t90 true (call 13 [t92, (I 3)] p7.2) p7.2) fun p13 =>
      B (gd t90 true (bo .eql 3 p13.1 (I 0))) fun t94 =>
      B (pk t90 (some t94) (some (.bool false))) fun t95 =>
      B (gh t95 true (call 8 [] p13.2) p13.2) fun p14 =>
      B (pk t95 (some p14.1) (some (.bool false))) fun t98 =>
      nth X 0 [t98] p14.2) (
      nth X 0 [(.bool false)] p7.2))))
noncomputable def o4j0 : Orac C0 99 (rgt (rgt (rgt (rgt (rgt cd4))))) := joinO noX .e [0, 1, 2, 4, 13] [(.rt, [12])] (fun xs H X => F4j0 (gv xs 0) (gv xs 1) (gv xs 2) (gv xs 3) (gv xs 4) H X) fun xs H X => by kernel_rfl
noncomputable def F4 (a0 a1 a2 a3 a4 a5 : Value) (H : Hp) : O :=
  B (lnS a0) fun t19 =>
  B (bo .gtr 3 t19 (I 20)) fun t20 =>
  br t20 (
   B (call 8 [] H) fun p1 =>
   some (p1.1, p1.2)) (
   B (bo .rem 3 a5 (I 64)) fun t23 =>
   B (bo .add 3 t23 (I 64)) fun t24 =>
   B (bo .rem 3 t24 (I 64)) fun t25 =>
   br a2 (
    B (call 12 [t25, a3] H) fun p15 =>
    F4j0 a0 a1 a2 a4 p15.1 p15.2 [fun x16 h17 =>
      some ((gv x16 0), h17)]) (
    F4j0 a0 a1 a2 a4 (U 0) H [fun x18 h19 =>
      some ((gv x18 0), h19)]))
noncomputable def af4 : AF := ⟨cd4, 99, Try.f4.results.toList, true, false⟩
theorem fn4 : C0.fn 4 = some af4 := by kernel_rfl
theorem b4 {a0 a1 a2 a3 a4 a5 : Value} {H : Hp} {r : Value × Hp} (h : F4 a0 a1 a2 a3 a4 a5 H = some r) : ∃ d, bodyE C0 (evF C0 d) af4 [a0, a1, a2, a3, a4, a5] H = some r :=
  body_ok noX (by kernel_rfl) (.n none .e (.n none .e (.n none .e (.n none .e (.n none .e (.n (some o4j0) .e .e)))))) ((show evX C0 (ev C0) 99 cd4 (.n none .e (.n none .e (.n none .e (.n none .e (.n none .e (.n (some o4j0) .e .e)))))) (args0 99 [a0, a1, a2, a3, a4, a5]) H (kRet C0 Try.f4.results.toList) = F4 a0 a1 a2 a3 a4 a5 H by kernel_rfl).trans h)
theorem c4 {a0 a1 a2 a3 a4 a5 : Value} {H : Hp} {v : Value} (hv : plainV v = true) (h : (F4 a0 a1 a2 a3 a4 a5 (H.fresh [a0, a1, a2, a3, a4, a5])).map (·.1) = some v) : call 4 [a0, a1, a2, a3, a4, a5] H = some (v, H) := pure_map noX fn4 rfl hv h b4
end Go.Proofs.Ytiigiodagfalpaa.X
