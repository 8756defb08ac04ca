/- The desc seat: what the functions answer. -/
import Derived.Test.YtbipfjcfggdjiaaDescF
import Derived.Test.YtbipfjcfggdjiaaZxWord
set_option maxRecDepth 100000
set_option maxHeartbeats 1000000
namespace Go.Proofs.Ytbipfjcfggdjiaa.X
open Go.Ahe Go.Ahe.X
instance : Std C0 := ⟨rfl, rfl⟩
abbrev E0 : Hp := ⟨.nl, 0, 0⟩

theorem S17_0 (H : Hp) : call 17 [.int .i8 0] H = some (U 0, H) := pure_any noX fn17 rfl rfl (d := 8) (H0 := E0) (H1 := E0) (by kernel_rfl) H
theorem S17_1 (H : Hp) : call 17 [.int .i8 1] H = some (U 258051, H) := pure_any noX fn17 rfl rfl (d := 8) (H0 := E0) (H1 := E0) (by kernel_rfl) H
theorem S17_2 (H : Hp) : call 17 [.int .i8 2] H = some (U 261315, H) := pure_any noX fn17 rfl rfl (d := 8) (H0 := E0) (H1 := E0) (by kernel_rfl) H
theorem S24 (H : Hp) : call 24 [.agg #[I 17, I 12]] H = some (U 258048, H) := pure_any noX fn24 rfl rfl (d := 8) (H0 := E0) (H1 := E0) (by kernel_rfl) H
theorem S10 (H : Hp) : call 10 [] H = some (.bool true, H) := pure_any noX fn10 rfl rfl (d := 12) (H0 := E0) (H1 := E0) (by kernel_rfl) H

theorem S19 (w : Nat) (hw : w < 18446744073709551616) (H : Hp) : call 19 [U w, I 17, I 12] H = some (U (w / 4096 % 64 : Nat), H) := by
  refine c19 rfl ?_
  generalize H.fresh [U ↑w, I 17, I 12] = H
  have h1 : bitsE .and .u64 (w : Int) 258048 = some (U (w &&& 258048 : Nat)) := and_u64 hw (by decide)
  have h2 : shiftE .shr .u64 ((w &&& 258048 : Nat) : Int) 12 = some (U ((w &&& 258048 : Nat) / 2 ^ 12 : Nat)) := shr_nat _ 12 (by decide) _ rfl
  have h3 : (w &&& 258048) / 2 ^ 12 = w / 4096 % 64 := by
    rw [and_field w 6 12 258048 (by decide)]; omega
  simp only [F19, show bd [(0, 1), (1, 1)] [I 0, I 0] [(0, I 17), (1, I 12)] = some (.agg #[I 17, I 12]) from rfl, B_some, S24, bin_neq, br_bool]
  rw [if_pos (by decide)]
  simp only [bin_and, h1, B_some, bin_shr, h2, h3, Option.map_some]

/-- A closure that tells a bit. -/
theorem S18 (w : Nat) (hw : w < 18446744073709551616) (k : Nat) (hk : k ≤ 64) {H : Hp} {i o : Nat} (h0 : ld1 (P i o) H = some (U w)) : call 18 [I k, P i o] H = some (.bool (decide (w / 2 ^ k % 2 = 1)), H) := by
  refine c18 rfl ?_
  have hf : (H.fresh [I k, P i o]) = H.raised := rfl
  have h0 : ld1 (P i o) H.raised = some (U w) := h0
  have h1 : bitsE .and .u64 ((w / 2 ^ k : Nat) : Int) 1 = some (U ((w / 2 ^ k) &&& 1 : Nat)) := and_u64 (Nat.lt_of_le_of_lt (Nat.div_le_self _ _) hw) (by decide)
  have key : ∀ q : Nat, decide (((q % 2 ^ 1 : Nat) : Int) = 1) = decide (q % 2 = 1) := fun q => decide_eq_decide.2 (by omega)
  rw [hf]
  simp only [F18, h0, B_some, bin_shr, shr_nat w k hk .u64 rfl, bin_and, h1, bin_eql, Option.map_some]
  rw [and_mod _ 1 1 (by decide), key]

/-- A page's word; a table's word. -/
def okP (w : Nat) : Prop := w % 4 = 3 ∧ w = 1024 * (w / 1024 % 256) + 64 * (w / 64 % 4) + w % 4
def okT (w : Nat) : Prop := w % 4 = 3 ∧ w = 4096 * (w / 4096 % 64) + w % 4
instance (w : Nat) : Decidable (okP w) := by unfold okP; infer_instance
instance (w : Nat) : Decidable (okT w) := by unfold okT; infer_instance
abbrev D (k f : Int) (af ro us ng : Bool) : Value := .agg #[.int .i8 k, I f, .bool af, .bool ro, .bool us, .bool ng]
abbrev zD : Value := D 0 0 false false false false
abbrev bt (w k : Nat) : Bool := decide (w / 2 ^ k % 2 = 1)
def wD (k : Int) (w : Nat) : Value := D k ((w : Int) / 4096 % 64) (bt w 10) (bt w 7) (bt w 6) (bt w 11)
def decS (w : Nat) (l : Int) : Value × Int :=
  if l < 0 ∨ 3 < l then (zD, 2) else if w % 2 = 0 then (zD, 0) else
  if l = 3 then (if okP w then (wD 2 w, 0) else (zD, 30)) else (if okT w then (wD 1 w, 0) else (zD, 30))

theorem and_P (w : Nat) : w &&& 261315 = 1024 * (w / 1024 % 256) + 64 * (w / 64 % 4) + w % 4 := by
  have h : (261315 : Nat) = (255 * 2 ^ 10 ||| 3 * 2 ^ 6) ||| 3 := by decide
  rw [h, Nat.and_or_distrib_left, Nat.and_or_distrib_left, and_field w 8 10 _ (by decide), and_field w 2 6 _ (by decide), and_mod w 2 3 (by decide)]
  rw [or_add (by omega), show w / 2 ^ 10 % 2 ^ 8 * 2 ^ 10 + w / 2 ^ 6 % 2 ^ 2 * 2 ^ 6 = (w / 2 ^ 10 % 2 ^ 8 * 2 ^ 4 + w / 2 ^ 6 % 2 ^ 2) * 2 ^ 6 by omega, or_add (by omega)]
  omega
theorem and_T (w : Nat) : w &&& 258051 = 4096 * (w / 4096 % 64) + w % 4 := by
  have h : (258051 : Nat) = 63 * 2 ^ 12 ||| 3 := by decide
  rw [h, Nat.and_or_distrib_left, and_field w 6 12 _ (by decide), and_mod w 2 3 (by decide), or_add (by omega)]
  omega
theorem and_1 {w : Nat} (hw : w < 18446744073709551616) : bitsE .and .u64 (w : Int) 1 = some (U (w % 2 : Nat)) := by
  rw [show (1 : Int) = ((1 : Nat) : Int) from rfl, and_u64 hw (by decide), and_mod w 1 1 (by decide)]
theorem and_3 {w : Nat} (hw : w < 18446744073709551616) : bitsE .and .u64 (w : Int) 3 = some (U (w % 4 : Nat)) := by
  rw [show (3 : Int) = ((3 : Nat) : Int) from rfl, and_u64 hw (by decide), and_mod w 2 3 (by decide)]
theorem not_P (w : Nat) : bitsE .andNot .u64 (w : Int) 261315 = some (U (dif w 261315 : Nat)) := andNot_u64 w 261315
theorem not_T (w : Nat) : bitsE .andNot .u64 (w : Int) 258051 = some (U (dif w 258051 : Nat)) := andNot_u64 w 258051

theorem S8 (w : Nat) (hw : w < 18446744073709551616) (l : Int) (H : Hp) : call 8 [U w, I l] H = some (.tuple #[(decS w l).1, I (decS w l).2], H) := by
  have e1 := and_1 hw
  have e3 := and_3 hw
  have hwr : IntKind.i64.wrap ((w : Int) / 4096 % 64) = (w : Int) / 4096 % 64 := wr_i64 (by omega) (by omega)
  have c6 : ∀ {H i o}, ld1 (P i o) H = some (U w) → call 18 [I 6, P i o] H = some (.bool (bt w 6), H) := fun h => S18 w hw 6 (by decide) h
  have c7 : ∀ {H i o}, ld1 (P i o) H = some (U w) → call 18 [I 7, P i o] H = some (.bool (bt w 7), H) := fun h => S18 w hw 7 (by decide) h
  have c10 : ∀ {H i o}, ld1 (P i o) H = some (U w) → call 18 [I 10, P i o] H = some (.bool (bt w 10), H) := fun h => S18 w hw 10 (by decide) h
  have c11 : ∀ {H i o}, ld1 (P i o) H = some (U w) → call 18 [I 11, P i o] H = some (.bool (bt w 11), H) := fun h => S18 w hw 11 (by decide) h
  by_cases h1 : l < 0
  · simp only [decS, h1, true_or, if_true]
    refine c8 rfl ?_
    have hf := fresh_ok H [U ↑w, I l]
    generalize H.fresh [U ↑w, I l] = H at *
    simp [F8, F8j1, h1, hf, le_more]
  · by_cases h2 : 3 < l
    · simp only [decS, h2, or_true, if_true]
      refine c8 rfl ?_
      have hf := fresh_ok H [U ↑w, I l]
      generalize H.fresh [U ↑w, I l] = H at *
      simp [F8, F8j1, h1, h2, hf, le_more]
    · by_cases h3 : w % 2 = 0
      · simp only [decS, h1, h2, h3, or_self, if_true, if_false]
        refine c8 rfl ?_
        have hf := fresh_ok H [U ↑w, I l]
        generalize H.fresh [U ↑w, I l] = H at *
        simp [F8, F8j1, h1, h2, h3, hf, le_more, e1]
      · have h3i : ¬ (w : Int) % 2 = 0 := by omega
        by_cases h4 : l = 3
        · subst h4
          simp only [decS, h3, h1, h2, or_self, if_true, if_false]
          by_cases h5 : okP w
          · simp only [h5, if_true]
            refine c8 rfl ?_
            have hf := fresh_ok H [U ↑w, I 3]
            generalize H.fresh [U ↑w, I 3] = H at *
            have d0 : dif w 261315 = 0 := (dif_zero hw (by decide)).2 (by rw [and_P, ← h5.2])
            simp [F8, F8j1, F8j0, h3i, hf, le_more, e1, e3, h5.1, S17_2, not_P, d0, S19 w hw, c6, c7, c10, c11, wD, hwr]
          · simp only [h5, if_false]
            refine c8 rfl ?_
            have hf := fresh_ok H [U ↑w, I 3]
            generalize H.fresh [U ↑w, I 3] = H at *
            by_cases h6 : w % 4 = 3
            · have h6i : (w : Int) % 4 = 3 := by omega
              have d0 : dif w 261315 ≠ 0 := fun h => h5 ⟨h6, by rw [← and_P, (dif_zero hw (by decide)).1 h]⟩
              simp [F8, F8j1, F8j0, h3i, hf, le_more, e1, e3, h6i, S17_2, not_P, d0]
            · have h6i : ¬ (w : Int) % 4 = 3 := by omega
              simp [F8, F8j1, F8j0, h3i, hf, le_more, e1, e3, h6i]
        · simp only [decS, h3, h4, h1, h2, or_self, if_false]
          by_cases h5 : okT w
          · simp only [h5, if_true]
            refine c8 rfl ?_
            have hf := fresh_ok H [U ↑w, I l]
            generalize H.fresh [U ↑w, I l] = H at *
            have d0 : dif w 258051 = 0 := (dif_zero hw (by decide)).2 (by rw [and_T, ← h5.2])
            simp [F8, F8j1, F8j0, h1, h2, h3i, h4, hf, le_more, e1, e3, h5.1, S17_1, not_T, d0, S19 w hw, c6, c7, c10, c11, wD, hwr]
          · simp only [h5, if_false]
            refine c8 rfl ?_
            have hf := fresh_ok H [U ↑w, I l]
            generalize H.fresh [U ↑w, I l] = H at *
            by_cases h6 : w % 4 = 3
            · have h6i : (w : Int) % 4 = 3 := by omega
              have d0 : dif w 258051 ≠ 0 := fun h => h5 ⟨h6, by rw [← and_T, (dif_zero hw (by decide)).1 h]⟩
              simp [F8, F8j1, F8j0, h1, h2, h3i, h4, hf, le_more, e1, e3, h6i, S17_1, not_T, d0]
            · have h6i : ¬ (w : Int) % 4 = 3 := by omega
              simp [F8, F8j1, F8j0, h1, h2, h3i, h4, hf, le_more, e1, e3, h6i]
end Go.Proofs.Ytbipfjcfggdjiaa.X
