/- The space seat: descriptors (the texts of the desc seat, with this seat's numbers). -/
import Derived.Test.YtiigiodagfalpaaSpaceF
import Derived.Test.YtiigiodagfalpaaZxC
set_option maxRecDepth 100000
set_option maxHeartbeats 1000000
namespace Go.Proofs.Ytiigiodagfalpaa.X
open Go.Ahe Go.Ahe.X Go.RowKit

theorem S38_0 (H : Hp) : call 38 [.int .i8 0] H = some (U 0, H) := pure_any noX fn38 rfl rfl (d := 8) (H0 := E0) (H1 := E0) (by kernel_rfl) H
theorem S38_1 (H : Hp) : call 38 [.int .i8 1] H = some (U 258051, H) := pure_any noX fn38 rfl rfl (d := 8) (H0 := E0) (H1 := E0) (by kernel_rfl) H
theorem S38_2 (H : Hp) : call 38 [.int .i8 2] H = some (U 261315, H) := pure_any noX fn38 rfl rfl (d := 8) (H0 := E0) (H1 := E0) (by kernel_rfl) H
theorem S50 (H : Hp) : call 50 [.agg #[I 17, I 12]] H = some (U 258048, H) := pure_any noX fn50 rfl rfl (d := 8) (H0 := E0) (H1 := E0) (by kernel_rfl) H
theorem S40 (w : Nat) (hw : w < 18446744073709551616) (H : Hp) : call 40 [U w, I 17, I 12] H = some (U (w / 4096 % 64 : Nat), H) := by
  refine c40 rfl ?_
  generalize H.fresh [U ↑w, I 17, I 12] = H
  have h1 : bitsE .and .u64 (w : Int) 258048 = some (U (w &&& 258048 : Nat)) := and_u64 hw (by decide)
  have h2 : shiftE .shr .u64 ((w &&& 258048 : Nat) : Int) 12 = some (U ((w &&& 258048 : Nat) / 2 ^ 12 : Nat)) := shr_nat _ 12 (by decide) _ rfl
  have h3 : (w &&& 258048) / 2 ^ 12 = w / 4096 % 64 := by
    rw [and_field w 6 12 258048 (by decide)]; omega
  simp only [F40, show bd [(0, 1), (1, 1)] [I 0, I 0] [(0, I 17), (1, I 12)] = some (.agg #[I 17, I 12]) from rfl, B_some, S50, bin_neq, br_bool]
  rw [if_pos (by decide)]
  simp only [bin_and, h1, B_some, bin_shr, h2, h3, Option.map_some]
/-- A closure that tells a bit. -/
theorem S39 (w : Nat) (hw : w < 18446744073709551616) (k : Nat) (hk : k ≤ 64) {H : Hp} {i o : Nat} (h0 : ld1 (P i o) H = some (U w)) : call 39 [I k, P i o] H = some (.bool (decide (w / 2 ^ k % 2 = 1)), H) := by
  refine c39 rfl ?_
  have hf : (H.fresh [I k, P i o]) = H.raised := rfl
  have h0 : ld1 (P i o) H.raised = some (U w) := h0
  have h1 : bitsE .and .u64 ((w / 2 ^ k : Nat) : Int) 1 = some (U ((w / 2 ^ k) &&& 1 : Nat)) := and_u64 (Nat.lt_of_le_of_lt (Nat.div_le_self _ _) hw) (by decide)
  have key : ∀ q : Nat, decide (((q % 2 ^ 1 : Nat) : Int) = 1) = decide (q % 2 = 1) := fun q => decide_eq_decide.2 (by omega)
  rw [hf]
  simp only [F39, h0, B_some, bin_shr, shr_nat w k hk .u64 rfl, bin_and, h1, bin_eql, Option.map_some]
  rw [and_mod _ 1 1 (by decide), key]
/-- A page's word; a table's word. -/
def okP (w : Nat) : Prop := w % 4 = 3 ∧ w = 1024 * (w / 1024 % 256) + 64 * (w / 64 % 4) + w % 4
def okT (w : Nat) : Prop := w % 4 = 3 ∧ w = 4096 * (w / 4096 % 64) + w % 4
instance (w : Nat) : Decidable (okP w) := by unfold okP; infer_instance
instance (w : Nat) : Decidable (okT w) := by unfold okT; infer_instance
abbrev D (k f : Int) (af ro us ng : Bool) : Value := .agg #[.int .i8 k, I f, .bool af, .bool ro, .bool us, .bool ng]
abbrev zD : Value := D 0 0 false false false false
abbrev bt (w k : Nat) : Bool := decide (w / 2 ^ k % 2 = 1)
def wD (k : Int) (w : Nat) : Value := D k ((w : Int) / 4096 % 64) (bt w 10) (bt w 7) (bt w 6) (bt w 11)
def decS (w : Nat) (l : Int) : Value × Int :=
  if l < 0 ∨ 3 < l then (zD, 2) else if w % 2 = 0 then (zD, 0) else
  if l = 3 then (if okP w then (wD 2 w, 0) else (zD, 30)) else (if okT w then (wD 1 w, 0) else (zD, 30))
theorem and_P (w : Nat) : w &&& 261315 = 1024 * (w / 1024 % 256) + 64 * (w / 64 % 4) + w % 4 := by
  have h : (261315 : Nat) = (255 * 2 ^ 10 ||| 3 * 2 ^ 6) ||| 3 := by decide
  rw [h, Nat.and_or_distrib_left, Nat.and_or_distrib_left, and_field w 8 10 _ (by decide), and_field w 2 6 _ (by decide), and_mod w 2 3 (by decide)]
  rw [or_add (by omega), show w / 2 ^ 10 % 2 ^ 8 * 2 ^ 10 + w / 2 ^ 6 % 2 ^ 2 * 2 ^ 6 = (w / 2 ^ 10 % 2 ^ 8 * 2 ^ 4 + w / 2 ^ 6 % 2 ^ 2) * 2 ^ 6 by omega, or_add (by omega)]
  omega
theorem and_T (w : Nat) : w &&& 258051 = 4096 * (w / 4096 % 64) + w % 4 := by
  have h : (258051 : Nat) = 63 * 2 ^ 12 ||| 3 := by decide
  rw [h, Nat.and_or_distrib_left, and_field w 6 12 _ (by decide), and_mod w 2 3 (by decide), or_add (by omega)]
  omega
theorem and_1 {w : Nat} (hw : w < 18446744073709551616) : bitsE .and .u64 (w : Int) 1 = some (U (w % 2 : Nat)) := by
  rw [show (1 : Int) = ((1 : Nat) : Int) from rfl, and_u64 hw (by decide), and_mod w 1 1 (by decide)]
theorem and_3 {w : Nat} (hw : w < 18446744073709551616) : bitsE .and .u64 (w : Int) 3 = some (U (w % 4 : Nat)) := by
  rw [show (3 : Int) = ((3 : Nat) : Int) from rfl, and_u64 hw (by decide), and_mod w 2 3 (by decide)]
theorem not_P (w : Nat) : bitsE .andNot .u64 (w : Int) 261315 = some (U (dif w 261315 : Nat)) := andNot_u64 w 261315
theorem not_T (w : Nat) : bitsE .andNot .u64 (w : Int) 258051 = some (U (dif w 258051 : Nat)) := andNot_u64 w 258051
theorem S27 (w : Nat) (hw : w < 18446744073709551616) (l : Int) (H : Hp) : call 27 [U w, I l] H = some (.tuple #[(decS w l).1, I (decS w l).2], H) := by
  have e1 := and_1 hw
  have e3 := and_3 hw
  have hwr : IntKind.i64.wrap ((w : Int) / 4096 % 64) = (w : Int) / 4096 % 64 := wr_i64 (by omega) (by omega)
  have c6 : ∀ {H i o}, ld1 (P i o) H = some (U w) → call 39 [I 6, P i o] H = some (.bool (bt w 6), H) := fun h => S39 w hw 6 (by decide) h
  have c7 : ∀ {H i o}, ld1 (P i o) H = some (U w) → call 39 [I 7, P i o] H = some (.bool (bt w 7), H) := fun h => S39 w hw 7 (by decide) h
  have c10 : ∀ {H i o}, ld1 (P i o) H = some (U w) → call 39 [I 10, P i o] H = some (.bool (bt w 10), H) := fun h => S39 w hw 10 (by decide) h
  have c11 : ∀ {H i o}, ld1 (P i o) H = some (U w) → call 39 [I 11, P i o] H = some (.bool (bt w 11), H) := fun h => S39 w hw 11 (by decide) h
  by_cases h1 : l < 0
  · simp only [decS, h1, true_or, if_true]
    refine c27 rfl ?_
    have hf := fresh_ok H [U ↑w, I l]
    generalize H.fresh [U ↑w, I l] = H at *
    simp [F27, F27j1, h1, hf, le_more]
  · by_cases h2 : 3 < l
    · simp only [decS, h2, or_true, if_true]
      refine c27 rfl ?_
      have hf := fresh_ok H [U ↑w, I l]
      generalize H.fresh [U ↑w, I l] = H at *
      simp [F27, F27j1, h1, h2, hf, le_more]
    · by_cases h3 : w % 2 = 0
      · simp only [decS, h1, h2, h3, or_self, if_true, if_false]
        refine c27 rfl ?_
        have hf := fresh_ok H [U ↑w, I l]
        generalize H.fresh [U ↑w, I l] = H at *
        simp [F27, F27j1, h1, h2, h3, hf, le_more, e1]
      · have h3i : ¬ (w : Int) % 2 = 0 := by omega
        by_cases h4 : l = 3
        · subst h4
          simp only [decS, h3, h1, h2, or_self, if_true, if_false]
          by_cases h5 : okP w
          · simp only [h5, if_true]
            refine c27 rfl ?_
            have hf := fresh_ok H [U ↑w, I 3]
            generalize H.fresh [U ↑w, I 3] = H at *
            have d0 : dif w 261315 = 0 := (dif_zero hw (by decide)).2 (by rw [and_P, ← h5.2])
            simp [F27, F27j1, F27j0, h3i, hf, le_more, e1, e3, h5.1, S38_2, not_P, d0, S40 w hw, c6, c7, c10, c11, wD, hwr]
          · simp only [h5, if_false]
            refine c27 rfl ?_
            have hf := fresh_ok H [U ↑w, I 3]
            generalize H.fresh [U ↑w, I 3] = H at *
            by_cases h6 : w % 4 = 3
            · have h6i : (w : Int) % 4 = 3 := by omega
              have d0 : dif w 261315 ≠ 0 := fun h => h5 ⟨h6, by rw [← and_P, (dif_zero hw (by decide)).1 h]⟩
              simp [F27, F27j1, F27j0, h3i, hf, le_more, e1, e3, h6i, S38_2, not_P, d0]
            · have h6i : ¬ (w : Int) % 4 = 3 := by omega
              simp [F27, F27j1, F27j0, h3i, hf, le_more, e1, e3, h6i]
        · simp only [decS, h3, h4, h1, h2, or_self, if_false]
          by_cases h5 : okT w
          · simp only [h5, if_true]
            refine c27 rfl ?_
            have hf := fresh_ok H [U ↑w, I l]
            generalize H.fresh [U ↑w, I l] = H at *
            have d0 : dif w 258051 = 0 := (dif_zero hw (by decide)).2 (by rw [and_T, ← h5.2])
            simp [F27, F27j1, F27j0, h1, h2, h3i, h4, hf, le_more, e1, e3, h5.1, S38_1, not_T, d0, S40 w hw, c6, c7, c10, c11, wD, hwr]
          · simp only [h5, if_false]
            refine c27 rfl ?_
            have hf := fresh_ok H [U ↑w, I l]
            generalize H.fresh [U ↑w, I l] = H at *
            by_cases h6 : w % 4 = 3
            · have h6i : (w : Int) % 4 = 3 := by omega
              have d0 : dif w 258051 ≠ 0 := fun h => h5 ⟨h6, by rw [← and_T, (dif_zero hw (by decide)).1 h]⟩
              simp [F27, F27j1, F27j0, h1, h2, h3i, h4, hf, le_more, e1, e3, h6i, S38_1, not_T, d0]
            · have h6i : ¬ (w : Int) % 4 = 3 := by omega
              simp [F27, F27j1, F27j0, h1, h2, h3i, h4, hf, le_more, e1, e3, h6i]
/-- A truth as a bit. -/
def bv (b : Bool) (k : Nat) : Nat := bif b then 2 ^ k else 0
theorem bv_le (b : Bool) (k : Nat) : bv b k ≤ 2 ^ k := by cases b <;> simp [bv]
theorem S41 (b : Bool) (k : Nat) (hk : k = 0 ∨ k = 1 ∨ k = 6 ∨ k = 7 ∨ k = 10 ∨ k = 11) (H : Hp) : call 41 [.bool b, I k] H = some (U (bv b k), H) := by
  rcases hk with rfl | rfl | rfl | rfl | rfl | rfl <;> cases b <;> exact pure_any noX fn41 rfl rfl (d := 8) (H0 := E0) (H1 := E0) (by kernel_rfl) H
/-- The sum of a word's parts. -/
def wsum (f : Nat) (a r u n : Bool) : Nat := f * 4096 + bv n 11 + bv a 10 + bv r 7 + bv u 6
theorem or_wsum (f : Nat) (a r u n : Bool) (hf : f < 64) : f * 2 ^ 12 ||| bv u 6 ||| bv r 7 ||| bv a 10 ||| bv n 11 = wsum f a r u n := by
  have h : ∀ c, c < 4096 → f * 2 ^ 12 ||| c = f * 4096 + c := fun c hc => by rw [or_add (by omega)]
  simp only [Nat.or_assoc]
  cases a <;> cases r <;> cases u <;> cases n <;> simp only [bv, wsum, cond_true, cond_false] <;> rw [h _ (by decide)] <;> (simp (decide := true) only [Nat.add_assoc]; rfl)
theorem or_3 (f : Nat) (a r u n : Bool) : wsum f a r u n ||| 1 ||| 2 = wsum f a r u n + 3 := by
  rw [Nat.or_assoc, show (1 ||| 2 : Nat) = 3 from rfl]
  have h : wsum f a r u n = (wsum f a r u n / 4) * 2 ^ 2 := by
    unfold wsum; cases a <;> cases r <;> cases u <;> cases n <;> simp only [bv, cond_true, cond_false] <;> omega
  rw [h, or_add (by decide)]
theorem or_0 (f : Nat) (a r u n : Bool) : wsum f a r u n ||| 0 ||| 0 = wsum f a r u n := by simp
theorem wsum_lt (f : Nat) (a r u n : Bool) (hf : f < 64) : wsum f a r u n < 262144 := by
  unfold wsum; cases a <;> cases r <;> cases u <;> cases n <;> simp only [bv, cond_true, cond_false] <;> omega
/-- May a descriptor be, and what is its word? -/
def bare (a r u n : Bool) : Bool := !a && !r && !u && !n
def encOk (k f : Int) (a r u n : Bool) : Bool := decide (0 ≤ f ∧ f < 64) && (decide (k = 2) || (decide (k = 1) && bare a r u n) || (decide (k = 0) && bare a r u n && decide (f = 0)))
def encW (k f : Int) (a r u n : Bool) : Nat := bif encOk k f a r u n then wsum f.toNat a r u n + (if k = 0 then 0 else 3) else 0
def encE (k f : Int) (a r u n : Bool) : Int := bif encOk k f a r u n then 0 else 30
theorem or_wsum3 (f : Nat) (a r u n : Bool) (hf : f < 64) : 3 ||| f * 2 ^ 12 ||| bv u 6 ||| bv r 7 ||| bv a 10 ||| bv n 11 = wsum f a r u n + 3 := by
  have h : 3 ||| f * 2 ^ 12 ||| bv u 6 ||| bv r 7 ||| bv a 10 ||| bv n 11 = 3 ||| (f * 2 ^ 12 ||| bv u 6 ||| bv r 7 ||| bv a 10 ||| bv n 11) := by simp only [Nat.or_assoc]
  rw [h, or_wsum f a r u n hf]
  have h : wsum f a r u n = (wsum f a r u n / 4) * 2 ^ 2 := by
    unfold wsum; cases a <;> cases r <;> cases u <;> cases n <;> simp only [bv, cond_true, cond_false] <;> omega
  rw [h, add_or (by decide)]
theorem bare_ok {a r u n : Bool} (h : bare a r u n = true) : a = false ∧ r = false ∧ u = false ∧ n = false := by
  revert h; cases a <;> cases r <;> cases u <;> cases n <;> decide
theorem bare_no {a r u n : Bool} (h : bare a r u n = false) : a = true ∨ r = true ∨ u = true ∨ n = true := by
  revert h; cases a <;> cases r <;> cases u <;> cases n <;> decide
/-- Where the document's word is made. -/
theorem F29_ok (k f : Int) (a r u n : Bool) (h1 : 0 ≤ f) (h2 : f < 64) (hk : k = 2 ∨ k = 1 ∧ bare a r u n = true) (H : Hp) (hf : H.floor ≤ H.next) : (F29 (D k f a r u n) H).map (·.1) = some (.tuple #[U (encW k f a r u n), I 0]) := by
  have n1 : ¬ f < 0 := by omega
  have n2 : ¬ 64 ≤ f := by omega
  obtain ⟨F, rfl⟩ := Int.eq_ofNat_of_zero_le h1
  have hF : F < 64 := by omega
  have hw : IntKind.u64.wrap (F : Int) = F := wr_u64_nat (by omega)
  obtain ⟨W0, e0⟩ : ∃ x, x = F * 2 ^ 12 := ⟨_, rfl⟩
  have s0 : shiftE .shl .u64 (F : Int) 12 = some (U W0) := by rw [e0]; exact shl_u64 F 12 (by decide) (by omega)
  obtain ⟨b1, f1⟩ : ∃ x, x = bv u 6 := ⟨_, rfl⟩
  obtain ⟨b2, f2⟩ : ∃ x, x = bv r 7 := ⟨_, rfl⟩
  obtain ⟨b3, f3⟩ : ∃ x, x = bv a 10 := ⟨_, rfl⟩
  obtain ⟨b4, f4⟩ : ∃ x, x = bv n 11 := ⟨_, rfl⟩
  have q1 : ∀ H, call 41 [.bool u, I 6] H = some (U b1, H) := by rw [f1]; exact S41 u 6 (by decide)
  have q2 : ∀ H, call 41 [.bool r, I 7] H = some (U b2, H) := by rw [f2]; exact S41 r 7 (by decide)
  have q3 : ∀ H, call 41 [.bool a, I 10] H = some (U b3, H) := by rw [f3]; exact S41 a 10 (by decide)
  have q4 : ∀ H, call 41 [.bool n, I 11] H = some (U b4, H) := by rw [f4]; exact S41 n 11 (by decide)
  have l1 := bv_le u 6
  have l2 := bv_le r 7
  have l3 := bv_le a 10
  have l4 := bv_le n 11
  obtain ⟨V0, v0⟩ : ∃ x, x = 3 ||| W0 := ⟨_, rfl⟩
  obtain ⟨W1, e1⟩ : ∃ x, x = V0 ||| b1 := ⟨_, rfl⟩
  obtain ⟨W2, e2⟩ : ∃ x, x = W1 ||| b2 := ⟨_, rfl⟩
  obtain ⟨W3, e3⟩ : ∃ x, x = W2 ||| b3 := ⟨_, rfl⟩
  obtain ⟨W4, e4⟩ : ∃ x, x = W3 ||| b4 := ⟨_, rfl⟩
  have k0 : V0 < 2 ^ 20 := by rw [v0]; exact Nat.or_lt_two_pow (by decide) (by omega)
  have k1 : W1 < 2 ^ 20 := by rw [e1]; exact Nat.or_lt_two_pow k0 (by omega)
  have k2 : W2 < 2 ^ 20 := by rw [e2]; exact Nat.or_lt_two_pow k1 (by omega)
  have k3 : W3 < 2 ^ 20 := by rw [e3]; exact Nat.or_lt_two_pow k2 (by omega)
  have o0 : bitsE .or .u64 3 (W0 : Int) = some (U V0) := by rw [v0]; exact or_u64 (w := 3) (by omega) (by omega)
  have o1 : bitsE .or .u64 (V0 : Int) (b1 : Int) = some (U W1) := by rw [e1]; exact or_u64 (by omega) (by omega)
  have o2 : bitsE .or .u64 (W1 : Int) (b2 : Int) = some (U W2) := by rw [e2]; exact or_u64 (by omega) (by omega)
  have o3 : bitsE .or .u64 (W2 : Int) (b3 : Int) = some (U W3) := by rw [e3]; exact or_u64 (by omega) (by omega)
  have o4 : bitsE .or .u64 (W3 : Int) (b4 : Int) = some (U W4) := by rw [e4]; exact or_u64 (by omega) (by omega)
  have w4 : W4 = wsum F a r u n + 3 := by rw [e4, e3, e2, e1, v0, e0, f1, f2, f3, f4, or_wsum3 F a r u n hF]
  have hok : encOk k F a r u n = true := by
    unfold encOk
    rcases hk with rfl | ⟨rfl, hb⟩
    · simp; omega
    · simp [hb]; omega
  have hv : encW k F a r u n = W4 := by
    simp only [encW, hok, cond_true, Int.toNat_natCast]; rw [if_neg (by omega), w4]
  rw [hv]
  clear e0 e1 e2 e3 e4 f1 f2 f3 f4 v0 w4 hok hv
  rcases hk with rfl | ⟨rfl, hb⟩
  · cases a <;> cases r <;> cases u <;> cases n <;> simp [F29, n1, n2, hf, le_more, hw, s0, q1, q2, q3, q4, o0, o1, o2, o3, o4]
  · obtain ⟨rfl, rfl, rfl, rfl⟩ := bare_ok hb
    simp [F29, n1, n2, hf, le_more, hw, s0, q1, q2, q3, q4, o0, o1, o2, o3, o4]
theorem S29 (k f : Int) (a r u n : Bool) (H : Hp) : call 29 [D k f a r u n] H = some (.tuple #[U (encW k f a r u n), I (encE k f a r u n)], H) := by
  refine c29 (by unfold encW encE; cases encOk k f a r u n <;> rfl) ?_
  have hf := fresh_ok H [D k f a r u n]
  generalize H.fresh [D k f a r u n] = H at *
  by_cases h0 : k = 0 ∧ f = 0 ∧ bare a r u n = true
  · obtain ⟨rfl, rfl, hb⟩ := h0
    obtain ⟨rfl, rfl, rfl, rfl⟩ := bare_ok hb
    simp [F29, hf, le_more]
    exact ⟨rfl, rfl⟩
  · by_cases h1 : 0 ≤ f ∧ f < 64 ∧ (k = 2 ∨ k = 1 ∧ bare a r u n = true)
    · obtain ⟨h1, h2, hk⟩ := h1
      have he : encE k f a r u n = 0 := by
        have hok : encOk k f a r u n = true := by
          unfold encOk
          rcases hk with rfl | ⟨rfl, hb⟩
          · simp; omega
          · simp [hb]; omega
        simp only [encE, hok, cond_true]
      rw [he]
      exact F29_ok k f a r u n h1 h2 hk H hf
    · have hok : encOk k f a r u n = false := by
        cases hok : encOk k f a r u n with
        | false => rfl
        | true =>
          exfalso
          unfold encOk at hok; simp at hok
          rcases hok with ⟨⟨g1, g2⟩, (g | g) | g⟩
          · exact h1 ⟨g1, g2, .inl g⟩
          · exact h1 ⟨g1, g2, .inr g⟩
          · exact h0 ⟨g.1.1, g.2, g.1.2⟩
      simp only [encW, encE, hok, cond_false]
      clear hok
      by_cases g1 : f < 0
      · have g2 : ¬ f = 0 := by omega
        cases a <;> cases r <;> cases u <;> cases n <;> by_cases g3 : k = 0 <;> simp [F29, g1, g2, g3, hf, le_more]
      · by_cases g2 : 64 ≤ f
        · have g4 : ¬ f = 0 := by omega
          cases a <;> cases r <;> cases u <;> cases n <;> by_cases g3 : k = 0 <;> simp [F29, g1, g2, g3, g4, hf, le_more]
        · have h1 : k ≠ 2 ∧ (k = 1 → bare a r u n = false) := ⟨fun h => h1 ⟨by omega, by omega, .inl h⟩, fun h => by
            cases hb : bare a r u n with
            | false => rfl
            | true => exact absurd ⟨by omega, by omega, .inr ⟨h, hb⟩⟩ h1⟩
          obtain ⟨i1, i2⟩ := h1
          by_cases g3 : k = 0
          · subst g3
            cases a <;> cases r <;> cases u <;> cases n <;> first
              | (simp [F29, g1, g2, hf, le_more]; done)
              | (have g4 : ¬ f = 0 := fun h => h0 ⟨rfl, h, rfl⟩
                 simp [F29, g1, g2, g4, hf, le_more])
          · by_cases g5 : k = 1
            · subst g5
              have i2 := i2 rfl
              revert i2
              cases a <;> cases r <;> cases u <;> cases n <;> intro i2 <;> first
                | (exact absurd i2 (by decide))
                | simp [F29, g1, g2, hf, le_more]
            · cases a <;> cases r <;> cases u <;> cases n <;> simp [F29, g1, g2, g3, g5, i1, hf, le_more]

end Go.Proofs.Ytiigiodagfalpaa.X
