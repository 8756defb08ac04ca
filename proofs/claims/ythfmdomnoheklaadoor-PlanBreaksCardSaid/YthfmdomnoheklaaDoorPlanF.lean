/- Printed by xp.py: functions of the program, and that the code says so. -/
import Derived.Test.YthfmdomnoheklaaDoorPlanC
set_option maxRecDepth 100000
set_option maxHeartbeats 1000000
namespace Go.Proofs.YthfmdomnoheklaaDoor.X
open Go.Ahe Go.Ahe.X
/-! tenement/tenementref03.flag -/
noncomputable def cd34 : Code := (Tryd.f34.body).getD .skip
noncomputable def F34 (a0 a1 : Value) (H : Hp) : O :=
  br a0 (
   B (cvI .u64 a1) fun t7 =>
   B (bo .shl 22 (U 1) t7) fun t8 =>
   some (t8, H)) (
   some ((U 0), H))
noncomputable def af34 : AF := ⟨cd34, 9, Tryd.f34.results.toList, true⟩
theorem fn34 : C0.fn 34 = some af34 := by kernel_rfl
theorem b34 {a0 a1 : Value} {H : Hp} {r : Value × Hp} (h : F34 a0 a1 H = some r) : ∃ d, bodyE C0 (evF C0 d) af34 [a0, a1] H = some r :=
  body_ok noX (by kernel_rfl) .e ((show evX C0 (ev C0) 9 cd34 .e (args0 9 [a0, a1]) H (kRet C0 Tryd.f34.results.toList) = F34 a0 a1 H by kernel_rfl).trans h)
theorem c34 {a0 a1 : Value} {H : Hp} {v : Value} (hv : plainV v = true) (h : (F34 a0 a1 (H.fresh [a0, a1])).map (·.1) = some v) : call 34 [a0, a1] H = some (v, H) := pure_map noX fn34 rfl hv h b34

/-! tenement/tenementref03.Encode -/
noncomputable def cd10 : Code := (Tryd.f10.body).getD .skip
noncomputable def F10 (a0 : Value) (H : Hp) : O :=
  B (al (cellsOf a0) H) fun p1 =>
  B (fa 2 p1.1) fun t5 =>
  B (ld1 t5 p1.2) fun t6 =>
  B (unE .not t6) fun t7 =>
  B (gd t7 true (fa 3 p1.1)) fun t9 =>
  B (gd t7 true (ld1 t9 p1.2)) fun t10 =>
  B (gd t7 true (unE .not t10)) fun t11 =>
  B (pk t7 (some t11) (some (.bool false))) fun t12 =>
  B (gd t12 true (fa 4 p1.1)) fun t14 =>
  B (gd t12 true (ld1 t14 p1.2)) fun t15 =>
  B (gd t12 true (unE .not t15)) fun t16 =>
  B (pk t12 (some t16) (some (.bool false))) fun t17 =>
  B (gd t17 true (fa 5 p1.1)) fun t19 =>
  B (gd t17 true (ld1 t19 p1.2)) fun t20 =>
  B (gd t17 true (unE .not t20)) fun t21 =>
  B (pk t17 (some t21) (some (.bool false))) fun t22 =>
  B (fa 0 p1.1) fun t23 =>
  B (ld1 t23 p1.2) fun t24 =>
  B (bo .eql 24 t24 (.int .i8 0)) fun t25 =>
  B (gd t25 true (some t22)) fun t27 =>
  B (pk t25 (some t27) (some (.bool false))) fun t28 =>
  B (gd t28 true (fa 1 p1.1)) fun t30 =>
  B (gd t28 true (ld1 t30 p1.2)) fun t31 =>
  B (gd t28 true (bo .eql 3 t31 (I 0))) fun t32 =>
  B (pk t28 (some t32) (some (.bool false))) fun t33 =>
  br t33 (
   some (.tuple #[(U 0), (I 0)], p1.2)) (
   B (fa 1 p1.1) fun t34 =>
   B (ld1 t34 p1.2) fun t35 =>
   B (bo .lss 3 t35 (I 0)) fun t36 =>
   B (gd t36 false (fa 1 p1.1)) fun t38 =>
   B (gd t36 false (ld1 t38 p1.2)) fun t39 =>
   B (gd t36 false (bo .geq 3 t39 (I 64))) fun t40 =>
   B (pk t36 (some (.bool true)) (some t40)) fun t41 =>
   B (gd t41 false (fa 0 p1.1)) fun t43 =>
   B (gd t41 false (ld1 t43 p1.2)) fun t44 =>
   B (gd t41 false (bo .neq 24 t44 (.int .i8 2))) fun t45 =>
   B (gd t41 false (some t45)) fun t46 =>
   B (gd t46 true (fa 0 p1.1)) fun t47 =>
   B (gd t46 true (ld1 t47 p1.2)) fun t48 =>
   B (gd t46 true (bo .neq 24 t48 (.int .i8 1))) fun t49 =>
   B (gd t46 true (some t49)) fun t50 =>
   B (gd t50 false (some t22)) fun t51 =>
   B (gd t50 false (unE .not t51)) fun t52 =>
   B (gd t46 true (pk t50 (some (.bool true)) (some t52))) fun t53 =>
   B (gd t41 false (pk t46 (some t53) (some (.bool false)))) fun t54 =>
   B (pk t41 (some (.bool true)) (some t54)) fun t55 =>
   br t55 (
    some (.tuple #[(U 0), (I 30)], p1.2)) (
    B (fa 1 p1.1) fun t56 =>
    B (ld1 t56 p1.2) fun t57 =>
    B (cvI .u64 t57) fun t58 =>
    B (bo .shl 22 t58 (U 12)) fun t59 =>
    B (bo .or 22 (U 3) t59) fun t60 =>
    B (fa 4 p1.1) fun t61 =>
    B (ld1 t61 p1.2) fun t62 =>
    B (call 34 [t62, (I 6)] p1.2) fun p2 =>
    B (bo .or 22 t60 p2.1) fun t64 =>
    B (fa 3 p1.1) fun t65 =>
    B (ld1 t65 p2.2) fun t66 =>
    B (call 34 [t66, (I 7)] p2.2) fun p3 =>
    B (bo .or 22 t64 p3.1) fun t68 =>
    B (fa 2 p1.1) fun t69 =>
    B (ld1 t69 p3.2) fun t70 =>
    B (call 34 [t70, (I 10)] p3.2) fun p4 =>
    B (bo .or 22 t68 p4.1) fun t72 =>
    B (fa 5 p1.1) fun t73 =>
    B (ld1 t73 p4.2) fun t74 =>
    B (call 34 [t74, (I 11)] p4.2) fun p5 =>
    B (bo .or 22 t72 p5.1) fun t76 =>
    some (.tuple #[t76, (I 0)], p5.2)))
noncomputable def af10 : AF := ⟨cd10, 77, Tryd.f10.results.toList, true⟩
theorem fn10 : C0.fn 10 = some af10 := by kernel_rfl
theorem b10 {a0 : Value} {H : Hp} {r : Value × Hp} (h : F10 a0 H = some r) : ∃ d, bodyE C0 (evF C0 d) af10 [a0] H = some r :=
  body_ok noX (by kernel_rfl) .e ((show evX C0 (ev C0) 77 cd10 .e (args0 77 [a0]) H (kRet C0 Tryd.f10.results.toList) = F10 a0 H by kernel_rfl).trans h)
theorem c10 {a0 : Value} {H : Hp} {v : Value} (hv : plainV v = true) (h : (F10 a0 (H.fresh [a0])).map (·.1) = some v) : call 10 [a0] H = some (v, H) := pure_map noX fn10 rfl hv h b10

/-! tenement/tenementref16.Leaf -/
noncomputable def cd5 : Code := (Tryd.f5.body).getD .skip
noncomputable def F5 (a0 a1 : Value) (H : Hp) : O :=
  B (bd [(0, 1), (1, 1), (2, 1), (3, 1), (4, 1), (5, 1)] [.int .i8 0, I 0, .bool false, .bool false, .bool false, .bool false] [(0, (.int .i8 2)), (1, a0), (3, a1), (4, (.bool true)), (5, (.bool true))]) fun t10 =>
  B (call 10 [t10] H) fun p1 =>
  B (extractE p1.1 0) fun t12 =>
  B (extractE p1.1 1) fun t13 =>
  B (bo .neq 34 t13 (I 0)) fun t15 =>
  br t15 (
   some ((U 0), p1.2)) (
   some (t12, p1.2))
noncomputable def af5 : AF := ⟨cd5, 17, Tryd.f5.results.toList, true⟩
theorem fn5 : C0.fn 5 = some af5 := by kernel_rfl
theorem b5 {a0 a1 : Value} {H : Hp} {r : Value × Hp} (h : F5 a0 a1 H = some r) : ∃ d, bodyE C0 (evF C0 d) af5 [a0, a1] H = some r :=
  body_ok noX (by kernel_rfl) .e ((show evX C0 (ev C0) 17 cd5 .e (args0 17 [a0, a1]) H (kRet C0 Tryd.f5.results.toList) = F5 a0 a1 H by kernel_rfl).trans h)
theorem c5 {a0 a1 : Value} {H : Hp} {v : Value} (hv : plainV v = true) (h : (F5 a0 a1 (H.fresh [a0, a1])).map (·.1) = some v) : call 5 [a0, a1] H = some (v, H) := pure_map noX fn5 rfl hv h b5

/-! (*tenement/plan.order).write -/
noncomputable def cd12 : Code := (Tryd.f12.body).getD .skip
noncomputable def F12j0 (t0 t3 t5 : Value) (H : Hp) (X : List Kx) : O :=
  B (nilc t0) fun t29 =>
  B (fa 1 t29) fun t30 =>
  B (st 1 t30 (.bool true) H) fun p3 =>
  B (fa 2 t3) fun t31 =>
  B (ld1 t31 p3.2) fun t32 =>
  B (bo .eql 22 t32 (U 0)) fun t33 =>
  B (gd t33 false (some t5)) fun t35 =>
  B (gd t33 false (bo .eql 3 t35 (I 0))) fun t36 =>
  B (pk t33 (some (.bool true)) (some t36)) fun t37 =>
  B (gd t37 false (some t5)) fun t39 =>
  B (gd t37 false (bo .eql 3 t39 (I 4))) fun t40 =>
  B (pk t37 (some (.bool true)) (some t40)) fun t41 =>
  B (gd t41 true (fa 2 t3)) fun t43 =>
  B (gd t41 true (ld1 t43 p3.2)) fun t44 =>
  B (gd t41 true (bo .and 22 t44 (U 1))) fun t45 =>
  B (gd t41 true (bo .eql 22 t45 (U 0))) fun t46 =>
  B (gd t41 true (some t46)) fun t47 =>
  B (gd t47 false (some t0)) fun t48 =>
  B (gd t47 false (nilc t48)) fun t49 =>
  B (gd t47 false (fa 2 t49)) fun t50 =>
  B (gd t47 false (ld1 t50 p3.2)) fun t51 =>
  B (gd t47 false (fa 2 t3)) fun t52 =>
  B (gd t47 false (ld1 t52 p3.2)) fun t53 =>
  B (gd t47 false (bo .shr 22 t53 (U 12))) fun t54 =>
  B (gd t47 false (bo .and 22 t54 (U 68719476735))) fun t55 =>
  B (gd t47 false (cvI .i64 t55)) fun t56 =>
  B (gd t47 false (lookupE C0 52 t51 t56 false p3.2)) fun t57 =>
  B (gd t47 false (unE .not t57)) fun t58 =>
  B (gd t41 true (pk t47 (some (.bool true)) (some t58))) fun t59 =>
  B (pk t41 (some t59) (some (.bool false))) fun t60 =>
  nth X 0 [t60] p3.2
noncomputable def o12j0 : Orac C0 61 (rgt (rgt (rgt (rgt cd12)))) := joinO noX .e [0, 3, 5] [(.rt, [4])] (fun xs H X => F12j0 (gv xs 0) (gv xs 1) (gv xs 2) H X) fun xs H X => by kernel_rfl
noncomputable def F12 (a0 a1 : Value) (H : Hp) : O :=
  B (al (cellsOf a1) H) fun p1 =>
  B (nilc a0) fun t7 =>
  B (fa 0 t7) fun t8 =>
  B (ld1 t8 p1.2) fun t9 =>
  B (fa 1 p1.1) fun t10 =>
  B (ld1 t10 p1.2) fun t11 =>
  B (lookupE C0 51 t9 t11 false p1.2) fun t12 =>
  B (nilc a0) fun t14 =>
  B (fa 0 t14) fun t15 =>
  B (ld1 t15 p1.2) fun t16 =>
  B (fa 1 p1.1) fun t17 =>
  B (ld1 t17 p1.2) fun t18 =>
  B (builtinE C0 .delete [51, 22] [t16, t18] p1.2) fun p2 =>
  B (fa 2 p1.1) fun t19 =>
  B (ld1 t19 p2.2) fun t20 =>
  B (bo .eql 22 t20 (U 0)) fun t21 =>
  br t21 (
   B (nilc a0) fun t23 =>
   B (fa 0 t23) fun t24 =>
   B (ld1 t24 p2.2) fun t25 =>
   B (fa 1 p1.1) fun t26 =>
   B (ld1 t26 p2.2) fun t27 =>
   B (un (mapPutE C0 51 t25 t27 (I 1) p2.2)) fun p4 =>
   F12j0 a0 p1.1 t12 p4.2 [fun x5 h6 =>
     some ((gv x5 0), h6)]) (
   F12j0 a0 p1.1 t12 p2.2 [fun x7 h8 =>
     some ((gv x7 0), h8)])
noncomputable def af12 : AF := ⟨cd12, 61, Tryd.f12.results.toList, false⟩
theorem fn12 : C0.fn 12 = some af12 := by kernel_rfl
theorem b12 {a0 a1 : Value} {H : Hp} {r : Value × Hp} (h : F12 a0 a1 H = some r) : ∃ d, bodyE C0 (evF C0 d) af12 [a0, a1] H = some r :=
  body_ok noX (by kernel_rfl) (.n none .e (.n none .e (.n none .e (.n none .e (.n (some o12j0) .e .e))))) ((show evX C0 (ev C0) 61 cd12 (.n none .e (.n none .e (.n none .e (.n none .e (.n (some o12j0) .e .e))))) (args0 61 [a0, a1]) H (kRet C0 Tryd.f12.results.toList) = F12 a0 a1 H by kernel_rfl).trans h)
theorem c12 {a0 a1 : Value} {H : Hp} {r : Value × Hp} (h : F12 a0 a1 H = some r) : call 12 [a0, a1] H = some r := call_ok noX fn12 rfl (b12 h)

/-! (*tenement/plan.order).barrier -/
noncomputable def cd11 : Code := (Tryd.f11.body).getD .skip
noncomputable def F11b0 (k : Kx) (t0 t15 : Value) (H : Hp) (X : List Kx) : O :=
  B (nextE t15 H) fun p4 =>
  B (extractE p4.1 0) fun t17 =>
  br t17 (
   B (entryE t15 p4.2) fun t18 =>
   B (extractE t18 0) fun t19 =>
   B (extractE t18 1) fun t20 =>
   B (bo .eql 3 t20 (I 1)) fun t22 =>
   B (gd t22 false (some t20)) fun t24 =>
   B (gd t22 false (bo .eql 3 t24 (I 3))) fun t25 =>
   B (pk t22 (some (.bool true)) (some t25)) fun t26 =>
   br t26 (
    B (nilc t0) fun t28 =>
    B (fa 0 t28) fun t29 =>
    B (ld1 t29 p4.2) fun t30 =>
    B (lookupE C0 51 t30 t19 false p4.2) fun t32 =>
    B (bo .add 3 t32 (I 1)) fun t33 =>
    B (un (mapPutE C0 51 t30 t19 t33 p4.2)) fun p5 =>
    k [t0, t15] p5.2) (
    k [t0, t15] p4.2)) (
   nth X 0 [] p4.2)
noncomputable def F11b0L : Kx → List Value → Hp → List Kx → O := fun k xs H X => F11b0 k (gv xs 0) (gv xs 1) H X
noncomputable def o11b0 : Orac C0 34 (lft (rgt (rgt (rgt cd11)))) := loopO noX (by kernel_rfl) .e [0, 15] [(.ex 0, [])] F11b0L fun k xs H X => by kernel_rfl
noncomputable def F11 (a0 : Value) (H : Hp) : O :=
  B (nilc a0) fun t5 =>
  B (fa 1 t5) fun t6 =>
  B (st 1 t6 (.bool false) H) fun p1 =>
  B (nilc a0) fun t8 =>
  B (fa 2 t8) fun t9 =>
  B (ld1 t9 p1.2) fun t10 =>
  B (builtinE C0 .clear [52] [t10] p1.2) fun p2 =>
  B (nilc a0) fun t12 =>
  B (fa 0 t12) fun t13 =>
  B (ld1 t13 p2.2) fun t14 =>
  B (rangeE C0 51 t14 p2.2) fun p3 =>
  loopS F11b0L rnd [a0, p3.1] p3.2 [fun x6 h7 =>
    some (.tuple #[], h7)]
noncomputable def af11 : AF := ⟨cd11, 34, Tryd.f11.results.toList, false⟩
theorem fn11 : C0.fn 11 = some af11 := by kernel_rfl
theorem b11 {a0 : Value} {H : Hp} {r : Value × Hp} (h : F11 a0 H = some r) : ∃ d, bodyE C0 (evF C0 d) af11 [a0] H = some r :=
  body_ok noX (by kernel_rfl) (.n none .e (.n none .e (.n none .e (.n none (.n (some o11b0) .e .e) .e)))) ((show evX C0 (ev C0) 34 cd11 (.n none .e (.n none .e (.n none .e (.n none (.n (some o11b0) .e .e) .e)))) (args0 34 [a0]) H (kRet C0 Tryd.f11.results.toList) = F11 a0 H by kernel_rfl).trans h)
theorem c11 {a0 : Value} {H : Hp} {r : Value × Hp} (h : F11 a0 H = some r) : call 11 [a0] H = some r := call_ok noX fn11 rfl (b11 h)

/-! tenement/plan.Check -/
noncomputable def cd6 : Code := (Tryd.f6.body).getD .skip
noncomputable def F6j1 (t0 t4 t5 t7 t14 t15 t16 : Value) (H : Hp) (X : List Kx) : O :=
  B (unE .not t7) fun t76 =>
  br t76 (
   nth X 1 [t5, (.bool false)] H) (
   nth X 0 [t0, t4, t14, t15, t16] H)
noncomputable def o6j1 : Orac C0 81 (rgt (rgt (rgt (lft (lft (rgt (rgt (lft (lft (rgt (lft (rgt (rgt cd6))))))))))))) := joinO noX .e [0, 4, 5, 7, 14, 15, 16] [(.nx, [0, 4, 14, 15, 16]), (.rt, [2, 3])] (fun xs H X => F6j1 (gv xs 0) (gv xs 1) (gv xs 2) (gv xs 3) (gv xs 4) (gv xs 5) (gv xs 6) H X) fun xs H X => by kernel_rfl
noncomputable def F6b3 (k : Kx) (t0 t4 t5 t7 t14 t15 t16 t55 : Value) (H : Hp) (X : List Kx) : O :=
  B (nextE t55 H) fun p21 =>
  B (extractE p21.1 0) fun t57 =>
  br t57 (
   B (entryE t55 p21.2) fun t58 =>
   B (extractE t58 0) fun t59 =>
   B (extractE t58 1) fun t60 =>
   B (bo .eql 3 t60 (I 2)) fun t62 =>
   br t62 (
    B (nilc t4) fun t64 =>
    B (fa 0 t64) fun t65 =>
    B (ld1 t65 p21.2) fun t66 =>
    B (un (mapPutE C0 51 t66 t59 (I 3) p21.2)) fun p22 =>
    k [t0, t4, t5, t7, t14, t15, t16, t55] p22.2) (
    k [t0, t4, t5, t7, t14, t15, t16, t55] p21.2)) (
   nth X 0 [t0, t4, t5, t7, t14, t15, t16] p21.2)
noncomputable def F6b3L : Kx → List Value → Hp → List Kx → O := fun k xs H X => F6b3 k (gv xs 0) (gv xs 1) (gv xs 2) (gv xs 3) (gv xs 4) (gv xs 5) (gv xs 6) (gv xs 7) H X
noncomputable def o6b3 : Orac C0 81 (lft (rgt (rgt (lft (rgt (rgt (rgt (rgt (rgt (rgt (rgt (lft (rgt (lft (rgt (rgt (lft (lft (rgt (rgt (lft (lft (rgt (lft (rgt (rgt cd6)))))))))))))))))))))))))) := loopO noX (by kernel_rfl) .e [0, 4, 5, 7, 14, 15, 16, 55] [(.ex 3, [0, 4, 5, 7, 14, 15, 16])] F6b3L fun k xs H X => by kernel_rfl
noncomputable def F6j2 (t0 t4 t5 t6 t7 t14 t15 t16 t22 t32 : Value) (H : Hp) (X : List Kx) : O :=
  br t32 (
   B (nilc t4) fun t37 =>
   B (fa 2 t37) fun t38 =>
   B (ld1 t38 H) fun t39 =>
   B (fa 3 t6) fun t40 =>
   B (ld1 t40 H) fun t41 =>
   B (nilc t4) fun t42 =>
   B (fa 1 t42) fun t43 =>
   B (st 1 t43 (.bool true) H) fun p16 =>
   ck true (ld1 t40 p16.2) t41 (
   B (mapEntryE C0 52 t39 t41 p16.2) fun p17 =>
   B (extractE p17.1 1) fun t45 =>
   B (un (entryStoreE t39 t45 (.bool true) p17.2)) fun p18 =>
   nth X 0 [t0, t4, t5, t7, t14, t15, t16] p18.2)) (
   B (bo .eql 24 t22 (.int .i8 4)) fun t47 =>
   br t47 (
    B (nilc t4) fun t49 =>
    B (fa 1 t49) fun t50 =>
    B (st 1 t50 (.bool true) H) fun p19 =>
    B (nilc t4) fun t52 =>
    B (fa 0 t52) fun t53 =>
    B (ld1 t53 p19.2) fun t54 =>
    B (rangeE C0 51 t54 p19.2) fun p20 =>
    loopS F6b3L rnd [t0, t4, t5, t7, t14, t15, t16, p20.1] p20.2 [fun x23 h24 =>
      nth X 0 [(gv x23 0), (gv x23 1), (gv x23 2), (gv x23 3), (gv x23 4), (gv x23 5), (gv x23 6)] h24]) (
    B (bo .eql 24 t22 (.int .i8 8)) fun t69 =>
    br t69 (
     B (nilc t4) fun t71 =>
     B (fa 1 t71) fun t72 =>
     B (ld1 t72 H) fun t73 =>
     B (unE .not t73) fun t74 =>
     nth X 0 [t0, t4, t5, t74, t14, t15, t16] H) (
     nth X 0 [t0, t4, t5, t7, t14, t15, t16] H)))
noncomputable def o6j2 : Orac C0 81 (rgt (rgt (rgt (rgt (rgt (lft (rgt (lft (rgt (rgt (lft (lft (rgt (rgt (lft (lft (rgt (lft (rgt (rgt cd6)))))))))))))))))))) := joinO noX (.n none .e (.n none .e (.n none (.n none .e (.n none .e (.n none (.n (some o6b3) .e .e) .e))) .e))) [0, 4, 5, 6, 7, 14, 15, 16, 22, 32] [(.nx, [0, 4, 5, 7, 14, 15, 16])] (fun xs H X => F6j2 (gv xs 0) (gv xs 1) (gv xs 2) (gv xs 3) (gv xs 4) (gv xs 5) (gv xs 6) (gv xs 7) (gv xs 8) (gv xs 9) H X) fun xs H X => by kernel_rfl
noncomputable def F6b0 (k : Kx) (t0 t4 t14 t15 t16 : Value) (H : Hp) (X : List Kx) : O :=
  B (bo .lss 3 t16 t15) fun t17 =>
  br t17 (
   B (ixS 13 t14 t16) fun t19 =>
   B (ldA 13 t19 H) fun t20 =>
   B (al [.int .i8 0, U 0, U 0, I 0, I 0, .int .i8 0, I 0, U 0, I 0, I 0, I 0, .int .i8 0, I 0] H) fun p4 =>
   B (st 13 p4.1 t20 p4.2) fun p5 =>
   B (fa 0 p4.1) fun t21 =>
   B (ld1 t21 p5.2) fun t22 =>
   B (bo .eql 24 t22 (.int .i8 3)) fun t24 =>
   br t24 (
    B (call 11 [t4] p5.2) fun p6 =>
    F6j1 t0 t4 t16 (.bool true) t14 t15 t16 p6.2 [fun x7 h8 =>
      B (bo .add 3 (gv x7 4) (I 1)) fun t78 =>
      k [(gv x7 0), (gv x7 1), (gv x7 2), (gv x7 3), t78] h8,
     fun x9 h10 =>
      nth X 0 [(gv x9 0), (gv x9 1)] h10]) (
    B (bo .eql 24 t22 (.int .i8 0)) fun t28 =>
    br t28 (
     B (ldA 13 p4.1 p5.2) fun t30 =>
     B (call 12 [t4, t30] p5.2) fun p11 =>
     F6j1 t0 t4 t16 p11.1 t14 t15 t16 p11.2 [fun x12 h13 =>
       B (bo .add 3 (gv x12 4) (I 1)) fun t78 =>
       k [(gv x12 0), (gv x12 1), (gv x12 2), (gv x12 3), t78] h13,
      fun x14 h15 =>
       nth X 0 [(gv x14 0), (gv x14 1)] h15]) (
     B (bo .eql 24 t22 (.int .i8 1)) fun t33 =>
     br t33 (
      F6j2 t0 t4 t16 p4.1 (.bool true) t14 t15 t16 t22 t33 p5.2 [fun x25 h26 =>
        F6j1 (gv x25 0) (gv x25 1) (gv x25 2) (gv x25 3) (gv x25 4) (gv x25 5) (gv x25 6) h26 [fun x27 h28 =>
          B (bo .add 3 (gv x27 4) (I 1)) fun t78 =>
          k [(gv x27 0), (gv x27 1), (gv x27 2), (gv x27 3), t78] h28,
         fun x29 h30 =>
          nth X 0 [(gv x29 0), (gv x29 1)] h30]]) (
      B (bo .eql 24 t22 (.int .i8 2)) fun t34 =>
      F6j2 t0 t4 t16 p4.1 (.bool true) t14 t15 t16 t22 t34 p5.2 [fun x31 h32 =>
        F6j1 (gv x31 0) (gv x31 1) (gv x31 2) (gv x31 3) (gv x31 4) (gv x31 5) (gv x31 6) h32 [fun x33 h34 =>
          B (bo .add 3 (gv x33 4) (I 1)) fun t78 =>
          k [(gv x33 0), (gv x33 1), (gv x33 2), (gv x33 3), t78] h34,
         fun x35 h36 =>
          nth X 0 [(gv x35 0), (gv x35 1)] h36]])))) (
   nth X 1 [t0] H)
noncomputable def F6b0L : Kx → List Value → Hp → List Kx → O := fun k xs H X => F6b0 k (gv xs 0) (gv xs 1) (gv xs 2) (gv xs 3) (gv xs 4) H X
noncomputable def o6b0 : Orac C0 81 (lft (rgt (lft (rgt (rgt cd6))))) := loopO noX (by kernel_rfl) (.n none .e (.n none .e (.n none (.n none (.n none .e (.n none .e (.n none (.n none .e (.n none (.n none .e (.n none .e (.n none .e (.n none .e (.n none .e (.n (some o6j2) .e (.n none .e (.n none (.n none .e (.n none .e (.n none (.n (some o6b3) .e .e) .e))) .e)))))))) .e)) (.n (some o6j1) .e .e)))) .e) .e))) [0, 4, 14, 15, 16] [(.rt, [2, 3]), (.ex 0, [0])] F6b0L fun k xs H X => by kernel_rfl
noncomputable def F6 (a0 : Value) (H : Hp) : O :=
  B (mm H) fun p1 =>
  B (mm p1.2) fun p2 =>
  B (bd [(0, 1), (1, 1), (2, 1)] [.map none, .bool false, .map none] [(0, p1.1), (2, p2.1)]) fun t12 =>
  B (al (cellsOf t12) p2.2) fun p3 =>
  B (lnS a0) fun t15 =>
  loopS F6b0L rnd [a0, p3.1, a0, t15, (I 0)] p3.2 [fun x37 h38 =>
    some (.tuple #[(gv x37 0), (gv x37 1)], h38),
   fun x39 h40 =>
    B (lnS (gv x39 0)) fun t80 =>
    some (.tuple #[t80, (.bool true)], h40)]
noncomputable def af6 : AF := ⟨cd6, 81, Tryd.f6.results.toList, true⟩
theorem fn6 : C0.fn 6 = some af6 := by kernel_rfl
theorem b6 {a0 : Value} {H : Hp} {r : Value × Hp} (h : F6 a0 H = some r) : ∃ d, bodyE C0 (evF C0 d) af6 [a0] H = some r :=
  body_ok noX (by kernel_rfl) (.n none .e (.n none .e (.n none (.n none .e (.n none (.n (some o6b0) (.n none .e (.n none .e (.n none (.n none (.n none .e (.n none .e (.n none (.n none .e (.n none (.n none .e (.n none .e (.n none .e (.n none .e (.n none .e (.n (some o6j2) .e (.n none .e (.n none (.n none .e (.n none .e (.n none (.n (some o6b3) .e .e) .e))) .e)))))))) .e)) (.n (some o6j1) .e .e)))) .e) .e))) .e) .e)) .e))) ((show evX C0 (ev C0) 81 cd6 (.n none .e (.n none .e (.n none (.n none .e (.n none (.n (some o6b0) (.n none .e (.n none .e (.n none (.n none (.n none .e (.n none .e (.n none (.n none .e (.n none (.n none .e (.n none .e (.n none .e (.n none .e (.n none .e (.n (some o6j2) .e (.n none .e (.n none (.n none .e (.n none .e (.n none (.n (some o6b3) .e .e) .e))) .e)))))))) .e)) (.n (some o6j1) .e .e)))) .e) .e))) .e) .e)) .e))) (args0 81 [a0]) H (kRet C0 Tryd.f6.results.toList) = F6 a0 H by kernel_rfl).trans h)
theorem c6 {a0 : Value} {H : Hp} {v : Value} (hv : plainV v = true) (h : (F6 a0 (H.fresh [a0])).map (·.1) = some v) : call 6 [a0] H = some (v, H) := pure_map noX fn6 rfl hv h b6

/-! tenement/tenementlaw23.wakes -/
noncomputable def cd4 : Code := (Tryd.f4.body).getD .skip
noncomputable def F4 (H : Hp) : O :=
  B (bd [(0, 1), (1, 1), (2, 1)] [U 0, I 0, .bool false] [(0, (U 10)), (1, (I 1)), (2, (.bool true))]) fun t7 =>
  B (bsl 3 [U 0, I 0, .bool false] 1 [(0, t7)] H) fun p1 =>
  B (bd [(0, 1), (1, 1), (2, 1), (3, 1), (4, 1)] [.slice none 0 0, I 0, I 0, I 0, I 0] [(0, p1.1), (1, (I 1))]) fun t9 =>
  B (bd [(0, 1), (1, 1), (2, 1), (3, 1), (4, 1)] [.int .i8 0, .bool false, .int .i8 0, .int .i8 0, U 0] []) fun t10 =>
  B (call 7 [t9, (.pointer none), (.pointer none), (I 1), (I 1), (I 1), t10] p1.2) fun p2 =>
  B (extractE p2.1 0) fun t12 =>
  B (extractE p2.1 1) fun t13 =>
  B (bd [(0, 1), (1, 1), (2, 1), (3, 1), (4, 1), (5, 3), (8, 1), (9, 1), (10, 1), (11, 1), (12, 1)] [.int .i8 0, U 0, U 0, I 0, I 0, .int .i8 0, I 0, U 0, I 0, I 0, I 0, .int .i8 0, I 0] [(0, (.int .i8 0)), (1, (U 7))]) fun t15 =>
  B (bd [(0, 1), (1, 1), (2, 1), (3, 1), (4, 1), (5, 3), (8, 1), (9, 1), (10, 1), (11, 1), (12, 1)] [.int .i8 0, U 0, U 0, I 0, I 0, .int .i8 0, I 0, U 0, I 0, I 0, I 0, .int .i8 0, I 0] [(0, (.int .i8 0)), (1, (U 7)), (2, (U 3))]) fun t16 =>
  B (bsl 13 [.int .i8 0, U 0, U 0, I 0, I 0, .int .i8 0, I 0, U 0, I 0, I 0, I 0, .int .i8 0, I 0] 2 [(0, t15), (1, t16)] p2.2) fun p3 =>
  B (call 6 [p3.1] p3.2) fun p4 =>
  B (extractE p4.1 0) fun t19 =>
  B (extractE p4.1 1) fun t20 =>
  B (call 8 [] p4.2) fun p5 =>
  B (lnS t12) fun t23 =>
  B (bo .eql 3 t23 (I 0)) fun t24 =>
  B (gd t24 true (some t13)) fun t26 =>
  B (gd t24 true (bo .eql 34 t26 (I 2))) fun t27 =>
  B (pk t24 (some t27) (some (.bool false))) fun t28 =>
  B (gd t28 true (some t19)) fun t30 =>
  B (gd t28 true (bo .eql 3 t30 (I 1))) fun t31 =>
  B (pk t28 (some t31) (some (.bool false))) fun t32 =>
  B (gd t32 true (some t20)) fun t34 =>
  B (gd t32 true (unE .not t34)) fun t35 =>
  B (pk t32 (some t35) (some (.bool false))) fun t36 =>
  B (gd t36 true (some p5.1)) fun t38 =>
  B (gd t36 true (lnS t38)) fun t39 =>
  B (gd t36 true (bo .eql 3 t39 (I 4))) fun t40 =>
  B (pk t36 (some t40) (some (.bool false))) fun t41 =>
  B (gd t41 true (some p5.1)) fun t43 =>
  B (gd t41 true (ixS 13 t43 (I 1))) fun t44 =>
  B (gd t41 true (fa 0 t44)) fun t45 =>
  B (gd t41 true (ld1 t45 p5.2)) fun t46 =>
  B (gd t41 true (bo .eql 24 t46 (.int .i8 12))) fun t47 =>
  B (pk t41 (some t47) (some (.bool false))) fun t48 =>
  B (gh t48 true (call 9 [(I 0), (I 0), (I 0), (.bool false)] p5.2) p5.2) fun p6 =>
  B (gd t48 true (lnS p6.1)) fun t51 =>
  B (gd t48 true (bo .eql 3 t51 (I 3))) fun t52 =>
  B (pk t48 (some t52) (some (.bool false))) fun t53 =>
  some (t53, p6.2)
noncomputable def af4 : AF := ⟨cd4, 54, Tryd.f4.results.toList, true⟩
theorem fn4 : C0.fn 4 = some af4 := by kernel_rfl
theorem b4 {H : Hp} {r : Value × Hp} (h : F4 H = some r) : ∃ d, bodyE C0 (evF C0 d) af4 [] H = some r :=
  body_ok noX (by kernel_rfl) .e ((show evX C0 (ev C0) 54 cd4 .e (args0 54 []) H (kRet C0 Tryd.f4.results.toList) = F4 H by kernel_rfl).trans h)
theorem c4 {H : Hp} {v : Value} (hv : plainV v = true) (h : (F4 (H.fresh [])).map (·.1) = some v) : call 4 [] H = some (v, H) := pure_map noX fn4 rfl hv h b4

/-! tenement/tenementlaw23.PlanBreaks -/
noncomputable def cd3 : Code := (Tryd.f3.body).getD .skip
noncomputable def F3j0 (t10 t11 t12 t13 : Value) (H : Hp) (X : List Kx) : O :=
  B (slc C0 30 t10 none (some t13) none) fun t67 =>
  B (appendE C0 30 30 (.slice none 0 0) t67 H) fun p7 =>
  B (bo .add 3 t13 (I 1)) fun t72 =>
  B (slc C0 30 t10 (some t72) none none) fun t73 =>
  B (appendE C0 30 30 p7.1 t73 p7.2) fun p8 =>
  B (call 6 [p8.1] p8.2) fun p9 =>
  B (extractE p9.1 0) fun t78 =>
  B (extractE p9.1 1) fun t79 =>
  B (gd t12 true (some t11)) fun t82 =>
  B (gd t12 true (some t10)) fun t83 =>
  B (gd t12 true (lnS t83)) fun t84 =>
  B (gd t12 true (bo .eql 3 t82 t84)) fun t85 =>
  B (pk t12 (some t85) (some (.bool false))) fun t86 =>
  B (gd t86 true (some t79)) fun t88 =>
  B (gd t86 true (unE .not t88)) fun t89 =>
  B (pk t86 (some t89) (some (.bool false))) fun t90 =>
  B (gd t90 true (some t78)) fun t92 =>
  B (gd t90 true (some t13)) fun t93 =>
  B (gd t90 true (bo .geq 3 t92 t93)) fun t94 =>
  B (pk t90 (some t94) (some (.bool false))) fun t95 =>
  B (gd t95 true (some t78)) fun t97 =>
  B (gd t95 true (some p8.1)) fun t98 =>
  B (gd t95 true (lnS t98)) fun t99 =>
  B (gd t95 true (bo .lss 3 t97 t99)) fun t100 =>
  B (pk t95 (some t100) (some (.bool false))) fun t101 =>
  B (gh t101 true (call 4 [] p9.2) p9.2) fun p10 =>
  B (pk t101 (some p10.1) (some (.bool false))) fun t104 =>
  nth X 0 [t104] p10.2
noncomputable def o3j0 : Orac C0 105 (rgt (rgt (rgt (rgt (rgt (rgt (rgt (rgt (rgt cd3))))))))) := joinO noX .e [10, 11, 12, 13] [(.rt, [8])] (fun xs H X => F3j0 (gv xs 0) (gv xs 1) (gv xs 2) (gv xs 3) H X) fun xs H X => by kernel_rfl
noncomputable def F3 (a0 a1 a2 a3 : Value) (H : Hp) : O :=
  B (bo .rem 3 a1 (I 63)) fun t18 =>
  B (bo .add 3 t18 (I 63)) fun t19 =>
  B (bo .rem 3 t19 (I 63)) fun t20 =>
  B (bo .add 3 (I 1) t20) fun t21 =>
  B (bo .rem 3 a2 (I 63)) fun t23 =>
  B (bo .add 3 t23 (I 63)) fun t24 =>
  B (bo .rem 3 t24 (I 63)) fun t25 =>
  B (bo .add 3 (I 1) t25) fun t26 =>
  B (bo .eql 3 t21 t26) fun t29 =>
  br t29 (
   B (call 4 [] H) fun p1 =>
   some (p1.1, p1.2)) (
   B (bd [(0, 1), (1, 1), (2, 1), (3, 1), (4, 1), (5, 3), (8, 1), (9, 1), (10, 1), (11, 1), (12, 1)] [.int .i8 0, U 0, U 0, I 0, I 0, .int .i8 0, I 0, U 0, I 0, I 0, I 0, .int .i8 0, I 0] [(0, (.int .i8 3))]) fun t31 =>
   B (al [.int .i8 0, U 0, U 0, I 0, I 0, .int .i8 0, I 0, U 0, I 0, I 0, I 0, .int .i8 0, I 0] H) fun p2 =>
   B (st 13 p2.1 t31 p2.2) fun p3 =>
   B (bd [(0, 1), (1, 1), (2, 1), (3, 1), (4, 1), (5, 3), (8, 1), (9, 1), (10, 1), (11, 1), (12, 1)] [.int .i8 0, U 0, U 0, I 0, I 0, .int .i8 0, I 0, U 0, I 0, I 0, I 0, .int .i8 0, I 0] [(0, (.int .i8 6)), (3, t26)]) fun t33 =>
   B (bd [(0, 1), (1, 1), (2, 1), (3, 1), (4, 1), (5, 3), (8, 1), (9, 1), (10, 1), (11, 1), (12, 1)] [.int .i8 0, U 0, U 0, I 0, I 0, .int .i8 0, I 0, U 0, I 0, I 0, I 0, .int .i8 0, I 0] [(0, (.int .i8 0)), (1, a0)]) fun t35 =>
   B (ldA 13 p2.1 p3.2) fun t36 =>
   B (bd [(0, 1), (1, 1), (2, 1), (3, 1), (4, 1), (5, 3), (8, 1), (9, 1), (10, 1), (11, 1), (12, 1)] [.int .i8 0, U 0, U 0, I 0, I 0, .int .i8 0, I 0, U 0, I 0, I 0, I 0, .int .i8 0, I 0] [(0, (.int .i8 4))]) fun t37 =>
   B (ldA 13 p2.1 p3.2) fun t38 =>
   B (bd [(0, 1), (1, 1), (2, 1), (3, 1), (4, 1), (5, 3), (8, 1), (9, 1), (10, 1), (11, 1), (12, 1)] [.int .i8 0, U 0, U 0, I 0, I 0, .int .i8 0, I 0, U 0, I 0, I 0, I 0, .int .i8 0, I 0] [(0, (.int .i8 2)), (3, t26), (4, t21)]) fun t41 =>
   B (ldA 13 p2.1 p3.2) fun t42 =>
   B (call 5 [t26, (.bool false)] p3.2) fun p4 =>
   B (bd [(0, 1), (1, 1), (2, 1), (3, 1), (4, 1), (5, 3), (8, 1), (9, 1), (10, 1), (11, 1), (12, 1)] [.int .i8 0, U 0, U 0, I 0, I 0, .int .i8 0, I 0, U 0, I 0, I 0, I 0, .int .i8 0, I 0] [(0, (.int .i8 0)), (1, a0), (2, p4.1)]) fun t46 =>
   B (ldA 13 p2.1 p4.2) fun t47 =>
   B (bd [(0, 1), (1, 1), (2, 1), (3, 1), (4, 1), (5, 3), (8, 1), (9, 1), (10, 1), (11, 1), (12, 1)] [.int .i8 0, U 0, U 0, I 0, I 0, .int .i8 0, I 0, U 0, I 0, I 0, I 0, .int .i8 0, I 0] [(0, (.int .i8 8)), (3, t21)]) fun t49 =>
   B (bsl 13 [.int .i8 0, U 0, U 0, I 0, I 0, .int .i8 0, I 0, U 0, I 0, I 0, I 0, .int .i8 0, I 0] 10 [(0, t33), (1, t35), (2, t36), (3, t37), (4, t38), (5, t41), (6, t42), (7, t46), (8, t47), (9, t49)] p4.2) fun p5 =>
   B (call 6 [p5.1] p5.2) fun p6 =>
   B (extractE p6.1 0) fun t54 =>
   B (extractE p6.1 1) fun t55 =>
   B (bo .and 3 a3 (I 3)) fun t57 =>
   B (bo .eql 3 t57 (I 1)) fun t59 =>
   br t59 (
    F3j0 p5.1 t54 t55 (I 3) p6.2 [fun x11 h12 =>
      some ((gv x11 0), h12)]) (
    B (bo .eql 3 t57 (I 2)) fun t61 =>
    br t61 (
     F3j0 p5.1 t54 t55 (I 6) p6.2 [fun x13 h14 =>
       some ((gv x13 0), h14)]) (
     B (bo .eql 3 t57 (I 3)) fun t63 =>
     br t63 (
      F3j0 p5.1 t54 t55 (I 8) p6.2 [fun x15 h16 =>
        some ((gv x15 0), h16)]) (
      F3j0 p5.1 t54 t55 (I 2) p6.2 [fun x17 h18 =>
        some ((gv x17 0), h18)]))))
noncomputable def af3 : AF := ⟨cd3, 105, Tryd.f3.results.toList, true⟩
theorem fn3 : C0.fn 3 = some af3 := by kernel_rfl
theorem b3 {a0 a1 a2 a3 : Value} {H : Hp} {r : Value × Hp} (h : F3 a0 a1 a2 a3 H = some r) : ∃ d, bodyE C0 (evF C0 d) af3 [a0, a1, a2, a3] H = some r :=
  body_ok noX (by kernel_rfl) (.n none .e (.n none .e (.n none .e (.n none .e (.n none .e (.n none .e (.n none .e (.n none .e (.n none .e (.n (some o3j0) .e .e)))))))))) ((show evX C0 (ev C0) 105 cd3 (.n none .e (.n none .e (.n none .e (.n none .e (.n none .e (.n none .e (.n none .e (.n none .e (.n none .e (.n (some o3j0) .e .e)))))))))) (args0 105 [a0, a1, a2, a3]) H (kRet C0 Tryd.f3.results.toList) = F3 a0 a1 a2 a3 H by kernel_rfl).trans h)
theorem c3 {a0 a1 a2 a3 : Value} {H : Hp} {v : Value} (hv : plainV v = true) (h : (F3 a0 a1 a2 a3 (H.fresh [a0, a1, a2, a3])).map (·.1) = some v) : call 3 [a0, a1, a2, a3] H = some (v, H) := pure_map noX fn3 rfl hv h b3
end Go.Proofs.YthfmdomnoheklaaDoor.X
