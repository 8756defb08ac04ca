/- The desc seat: descriptors as words. -/
import Derived.Test.YtbipfjcfggdjiaaDescS2
set_option maxRecDepth 100000
set_option maxHeartbeats 1000000
namespace Go.Proofs.Ytbipfjcfggdjiaa.X
open Go.Ahe Go.Ahe.X Go.RowKit

/-- A truth as a bit. -/
def bv (b : Bool) (k : Nat) : Nat := bif b then 2 ^ k else 0
theorem bv_le (b : Bool) (k : Nat) : bv b k ≤ 2 ^ k := by cases b <;> simp [bv]

theorem S20 (b : Bool) (k : Nat) (hk : k = 0 ∨ k = 1 ∨ k = 6 ∨ k = 7 ∨ k = 10 ∨ k = 11) (H : Hp) : call 20 [.bool b, I k] H = some (U (bv b k), H) := by
  rcases hk with rfl | rfl | rfl | rfl | rfl | rfl <;> cases b <;> exact pure_any noX fn20 rfl rfl (d := 8) (H0 := E0) (H1 := E0) (by kernel_rfl) H
theorem S21 (b : Bool) (k : Nat) (hk : k = 0 ∨ k = 1 ∨ k = 6 ∨ k = 7 ∨ k = 10 ∨ k = 11) (H : Hp) : call 21 [.bool b, I k] H = some (U (bv b k), H) := by
  rcases hk with rfl | rfl | rfl | rfl | rfl | rfl <;> cases b <;> exact pure_any noX fn21 rfl rfl (d := 8) (H0 := E0) (H1 := E0) (by kernel_rfl) H

/-- The sum of a word's parts. -/
def wsum (f : Nat) (a r u n : Bool) : Nat := f * 4096 + bv n 11 + bv a 10 + bv r 7 + bv u 6
theorem or_wsum (f : Nat) (a r u n : Bool) (hf : f < 64) : f * 2 ^ 12 ||| bv u 6 ||| bv r 7 ||| bv a 10 ||| bv n 11 = wsum f a r u n := by
  have h : ∀ c, c < 4096 → f * 2 ^ 12 ||| c = f * 4096 + c := fun c hc => by rw [or_add (by omega)]
  simp only [Nat.or_assoc]
  cases a <;> cases r <;> cases u <;> cases n <;> simp only [bv, wsum, cond_true, cond_false] <;> rw [h _ (by decide)] <;> (simp (decide := true) only [Nat.add_assoc]; rfl)
theorem or_3 (f : Nat) (a r u n : Bool) : wsum f a r u n ||| 1 ||| 2 = wsum f a r u n + 3 := by
  rw [Nat.or_assoc, show (1 ||| 2 : Nat) = 3 from rfl]
  have h : wsum f a r u n = (wsum f a r u n / 4) * 2 ^ 2 := by
    unfold wsum; cases a <;> cases r <;> cases u <;> cases n <;> simp only [bv, cond_true, cond_false] <;> omega
  rw [h, or_add (by decide)]
theorem or_0 (f : Nat) (a r u n : Bool) : wsum f a r u n ||| 0 ||| 0 = wsum f a r u n := by simp
theorem wsum_lt (f : Nat) (a r u n : Bool) (hf : f < 64) : wsum f a r u n < 262144 := by
  unfold wsum; cases a <;> cases r <;> cases u <;> cases n <;> simp only [bv, cond_true, cond_false] <;> omega

/-- May a descriptor be, and what is its word? -/
def bare (a r u n : Bool) : Bool := !a && !r && !u && !n
def encOk (k f : Int) (a r u n : Bool) : Bool := decide (0 ≤ f ∧ f < 64) && (decide (k = 2) || (decide (k = 1) && bare a r u n) || (decide (k = 0) && bare a r u n && decide (f = 0)))
def encW (k f : Int) (a r u n : Bool) : Nat := bif encOk k f a r u n then wsum f.toNat a r u n + (if k = 0 then 0 else 3) else 0
def encE (k f : Int) (a r u n : Bool) : Int := bif encOk k f a r u n then 0 else 30

theorem S11 (k f : Int) (a r u n : Bool) (H : Hp) : call 11 [D k f a r u n] H = some (.tuple #[U (encW k f a r u n), I (encE k f a r u n)], H) := by
  by_cases h1 : 0 ≤ f ∧ f < 64 ∧ 0 ≤ k ∧ k ≤ 2
  · obtain ⟨h1, h2, h3, h4⟩ := h1
    have n1 : ¬ f < 0 := by omega
    have n2 : ¬ 64 ≤ f := by omega
    have n3 : ¬ k < 0 := by omega
    have n4 : ¬ 2 < k := by omega
    obtain ⟨F, rfl⟩ := Int.eq_ofNat_of_zero_le h1
    have hF : F < 64 := by omega
    have hw : IntKind.u64.wrap (F : Int) = F := wr_u64_nat (by omega)
    obtain ⟨W0, e0⟩ : ∃ x, x = F * 2 ^ 12 := ⟨_, rfl⟩
    have s0 : shiftE .shl .u64 (F : Int) 12 = some (U W0) := by rw [e0]; exact shl_u64 F 12 (by decide) (by omega)
    obtain ⟨b1, f1⟩ : ∃ x, x = bv u 6 := ⟨_, rfl⟩
    obtain ⟨b2, f2⟩ : ∃ x, x = bv r 7 := ⟨_, rfl⟩
    obtain ⟨b3, f3⟩ : ∃ x, x = bv a 10 := ⟨_, rfl⟩
    obtain ⟨b4, f4⟩ : ∃ x, x = bv n 11 := ⟨_, rfl⟩
    have q1 : ∀ H, call 20 [.bool u, I 6] H = some (U b1, H) := by rw [f1]; exact S20 u 6 (by decide)
    have q2 : ∀ H, call 20 [.bool r, I 7] H = some (U b2, H) := by rw [f2]; exact S20 r 7 (by decide)
    have q3 : ∀ H, call 20 [.bool a, I 10] H = some (U b3, H) := by rw [f3]; exact S20 a 10 (by decide)
    have q4 : ∀ H, call 20 [.bool n, I 11] H = some (U b4, H) := by rw [f4]; exact S20 n 11 (by decide)
    have l1 := bv_le u 6
    have l2 := bv_le r 7
    have l3 := bv_le a 10
    have l4 := bv_le n 11
    obtain ⟨W1, e1⟩ : ∃ x, x = W0 ||| b1 := ⟨_, rfl⟩
    obtain ⟨W2, e2⟩ : ∃ x, x = W1 ||| b2 := ⟨_, rfl⟩
    obtain ⟨W3, e3⟩ : ∃ x, x = W2 ||| b3 := ⟨_, rfl⟩
    obtain ⟨W4, e4⟩ : ∃ x, x = W3 ||| b4 := ⟨_, rfl⟩
    have k0 : W0 < 2 ^ 20 := by omega
    have k1 : W1 < 2 ^ 20 := by rw [e1]; exact Nat.or_lt_two_pow k0 (by omega)
    have k2 : W2 < 2 ^ 20 := by rw [e2]; exact Nat.or_lt_two_pow k1 (by omega)
    have k3 : W3 < 2 ^ 20 := by rw [e3]; exact Nat.or_lt_two_pow k2 (by omega)
    have o1 : bitsE .or .u64 (W0 : Int) (b1 : Int) = some (U W1) := by rw [e1]; exact or_u64 (by omega) (by omega)
    have o2 : bitsE .or .u64 (W1 : Int) (b2 : Int) = some (U W2) := by rw [e2]; exact or_u64 (by omega) (by omega)
    have o3 : bitsE .or .u64 (W2 : Int) (b3 : Int) = some (U W3) := by rw [e3]; exact or_u64 (by omega) (by omega)
    have o4 : bitsE .or .u64 (W3 : Int) (b4 : Int) = some (U W4) := by rw [e4]; exact or_u64 (by omega) (by omega)
    have w4 : W4 = wsum F a r u n := by rw [e4, e3, e2, e1, e0, f1, f2, f3, f4, or_wsum F a r u n hF]
    have lt4 := wsum_lt F a r u n hF
    have q5 : ∀ (b : Bool) H, call 20 [.bool b, I 0] H = some (U (bv b 0), H) := fun b => S20 b 0 (by decide)
    have q6 : ∀ (b : Bool) H, call 20 [.bool b, I 1] H = some (U (bv b 1), H) := fun b => S20 b 1 (by decide)
    clear e0 e1 e2 e3 e4 f1 f2 f3 f4
    by_cases hk0 : k = 0
    · subst hk0
      have o5 : bitsE .or .u64 (W4 : Int) 0 = some (U W4) := by
        have := or_u64 (w := W4) (m := 0) (by omega) (by decide); rw [Nat.or_zero] at this; exact this
      have d : bitsE .andNot .u64 (W4 : Int) 0 = some (U (dif W4 0)) := andNot_u64 W4 0
      have dz := dif_zero (w := W4) (m := 0) (by omega) (by decide)
      rw [Nat.and_zero] at dz
      by_cases hz : W4 = 0
      · have hd : dif W4 0 = 0 := dz.2 hz.symm
        have hb : encOk 0 F a r u n = true := by
          rw [w4] at hz; unfold wsum at hz
          have hF0 : F = 0 := by omega
          subst hF0
          revert hz; cases a <;> cases r <;> cases u <;> cases n <;> decide
        have hv : encW 0 F a r u n = W4 := by simp only [encW, hb, cond_true, Int.toNat_natCast, if_true]; omega
        simp only [hv, encE, hb, cond_true]
        refine c11 rfl ?_
        have hf := fresh_ok H [D 0 F a r u n]
        generalize H.fresh [D 0 F a r u n] = H at *
        simp [F11, n1, n2, hf, le_more, hw, s0, q1, q2, q3, q4, o1, o2, o3, o4, q5, q6, bv, S17_0, o5, d, hd]
      · have hd : dif W4 0 ≠ 0 := fun h => hz (dz.1 h).symm
        have hb : encOk 0 F a r u n = false := by
          rw [w4] at hz; unfold wsum at hz
          cases hb : encOk 0 F a r u n with
          | false => rfl
          | true =>
            exfalso; revert hz hb
            unfold encOk bare
            cases a <;> cases r <;> cases u <;> cases n <;> simp [bv]
            omega
        simp only [encW, encE, hb, cond_false]
        refine c11 rfl ?_
        have hf := fresh_ok H [D 0 F a r u n]
        generalize H.fresh [D 0 F a r u n] = H at *
        simp [F11, n1, n2, hf, le_more, hw, s0, q1, q2, q3, q4, o1, o2, o3, o4, q5, q6, bv, S17_0, o5, d, hd]
    · obtain ⟨W5, e5⟩ : ∃ x, x = W4 ||| 1 := ⟨_, rfl⟩
      obtain ⟨W6, e6⟩ : ∃ x, x = W5 ||| 2 := ⟨_, rfl⟩
      have k5 : W5 < 2 ^ 20 := by rw [e5]; exact Nat.or_lt_two_pow (by omega) (by decide)
      have o5 : bitsE .or .u64 (W4 : Int) 1 = some (U W5) := by rw [e5]; exact or_u64 (by omega) (by decide)
      have o6 : bitsE .or .u64 (W5 : Int) 2 = some (U W6) := by rw [e6]; exact or_u64 (by omega) (by decide)
      have w6 : W6 = wsum F a r u n + 3 := by rw [e6, e5, w4, or_3]
      clear e5 e6
      by_cases hk1 : k = 1
      · subst hk1
        have d : bitsE .andNot .u64 (W6 : Int) 258051 = some (U (dif W6 258051)) := not_T W6
        have dz := dif_zero (w := W6) (m := 258051) (by omega) (by decide)
        rw [and_T] at dz
        cases hb : encOk 1 F a r u n with
        | true =>
          have hd : dif W6 258051 = 0 := by
            rw [dz, w6]; revert hb; unfold encOk bare wsum
            cases a <;> cases r <;> cases u <;> cases n <;> simp [bv]
            omega
          have hv : encW 1 F a r u n = W6 := by simp only [encW, hb, cond_true, Int.toNat_natCast]; rw [if_neg (by decide)]; omega
          simp only [hv, encE, hb, cond_true]
          refine c11 rfl ?_
          have hf := fresh_ok H [D 1 F a r u n]
          generalize H.fresh [D 1 F a r u n] = H at *
          simp [F11, n1, n2, hf, le_more, hw, s0, q1, q2, q3, q4, o1, o2, o3, o4, q5, q6, bv, S17_1, o5, o6, d, hd]
        | false =>
          have hd : dif W6 258051 ≠ 0 := by
            rw [Ne, dz, w6]; revert hb; unfold encOk bare wsum
            cases a <;> cases r <;> cases u <;> cases n <;> simp [bv] <;> omega
          simp only [encW, encE, hb, cond_false]
          refine c11 rfl ?_
          have hf := fresh_ok H [D 1 F a r u n]
          generalize H.fresh [D 1 F a r u n] = H at *
          simp [F11, n1, n2, hf, le_more, hw, s0, q1, q2, q3, q4, o1, o2, o3, o4, q5, q6, bv, S17_1, o5, o6, d, hd]
      · have hk2 : k = 2 := by omega
        subst hk2
        have d : bitsE .andNot .u64 (W6 : Int) 261315 = some (U (dif W6 261315)) := not_P W6
        have dz := dif_zero (w := W6) (m := 261315) (by omega) (by decide)
        rw [and_P] at dz
        have hb : encOk 2 F a r u n = true := by unfold encOk; simp; omega
        have hd : dif W6 261315 = 0 := by
          rw [dz, w6]; unfold wsum
          cases a <;> cases r <;> cases u <;> cases n <;> simp only [bv, cond_true, cond_false] <;> omega
        have hv : encW 2 F a r u n = W6 := by simp only [encW, hb, cond_true, Int.toNat_natCast]; rw [if_neg (by decide)]; omega
        simp only [hv, encE, hb, cond_true]
        refine c11 rfl ?_
        have hf := fresh_ok H [D 2 F a r u n]
        generalize H.fresh [D 2 F a r u n] = H at *
        simp [F11, n1, n2, hf, le_more, hw, s0, q1, q2, q3, q4, o1, o2, o3, o4, q5, q6, bv, S17_2, o5, o6, d, hd]
  · have hb : encOk k f a r u n = false := by
      cases hb : encOk k f a r u n with
      | false => rfl
      | true => exfalso; unfold encOk at hb; simp at hb; omega
    simp only [encW, encE, hb, cond_false]
    refine c11 rfl ?_
    have hf := fresh_ok H [D k f a r u n]
    generalize H.fresh [D k f a r u n] = H at *
    by_cases g1 : f < 0
    · simp [F11, g1, hf, le_more]
    · by_cases g2 : 64 ≤ f
      · simp [F11, g1, g2, hf, le_more]
      · by_cases g3 : k < 0
        · simp [F11, g1, g2, g3, hf, le_more]
        · have g4 : 2 < k := by omega
          simp [F11, g1, g2, g3, g4, hf, le_more]
end Go.Proofs.Ytbipfjcfggdjiaa.X
