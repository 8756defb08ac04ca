/- The desc seat: the document's answers. -/
import Derived.Test.YtbipfjcfggdjiaaDescS5
set_option maxRecDepth 100000
set_option maxHeartbeats 1000000
namespace Go.Proofs.Ytbipfjcfggdjiaa.X
open Go.Ahe Go.Ahe.X Go.RowKit

theorem or_wsum3 (f : Nat) (a r u n : Bool) (hf : f < 64) : 3 ||| f * 2 ^ 12 ||| bv u 6 ||| bv r 7 ||| bv a 10 ||| bv n 11 = wsum f a r u n + 3 := by
  have h : 3 ||| f * 2 ^ 12 ||| bv u 6 ||| bv r 7 ||| bv a 10 ||| bv n 11 = 3 ||| (f * 2 ^ 12 ||| bv u 6 ||| bv r 7 ||| bv a 10 ||| bv n 11) := by simp only [Nat.or_assoc]
  rw [h, or_wsum f a r u n hf]
  have h : wsum f a r u n = (wsum f a r u n / 4) * 2 ^ 2 := by
    unfold wsum; cases a <;> cases r <;> cases u <;> cases n <;> simp only [bv, cond_true, cond_false] <;> omega
  rw [h, add_or (by decide)]

theorem bare_ok {a r u n : Bool} (h : bare a r u n = true) : a = false ∧ r = false ∧ u = false ∧ n = false := by
  revert h; cases a <;> cases r <;> cases u <;> cases n <;> decide
theorem bare_no {a r u n : Bool} (h : bare a r u n = false) : a = true ∨ r = true ∨ u = true ∨ n = true := by
  revert h; cases a <;> cases r <;> cases u <;> cases n <;> decide

/-- Where the document's word is made. -/
theorem F12_ok (k f : Int) (a r u n : Bool) (h1 : 0 ≤ f) (h2 : f < 64) (hk : k = 2 ∨ k = 1 ∧ bare a r u n = true) (H : Hp) (hf : H.floor ≤ H.next) : (F12 (D k f a r u n) H).map (·.1) = some (.tuple #[U (encW k f a r u n), I 0]) := by
  have n1 : ¬ f < 0 := by omega
  have n2 : ¬ 64 ≤ f := by omega
  obtain ⟨F, rfl⟩ := Int.eq_ofNat_of_zero_le h1
  have hF : F < 64 := by omega
  have hw : IntKind.u64.wrap (F : Int) = F := wr_u64_nat (by omega)
  obtain ⟨W0, e0⟩ : ∃ x, x = F * 2 ^ 12 := ⟨_, rfl⟩
  have s0 : shiftE .shl .u64 (F : Int) 12 = some (U W0) := by rw [e0]; exact shl_u64 F 12 (by decide) (by omega)
  obtain ⟨b1, f1⟩ : ∃ x, x = bv u 6 := ⟨_, rfl⟩
  obtain ⟨b2, f2⟩ : ∃ x, x = bv r 7 := ⟨_, rfl⟩
  obtain ⟨b3, f3⟩ : ∃ x, x = bv a 10 := ⟨_, rfl⟩
  obtain ⟨b4, f4⟩ : ∃ x, x = bv n 11 := ⟨_, rfl⟩
  have q1 : ∀ H, call 21 [.bool u, I 6] H = some (U b1, H) := by rw [f1]; exact S21 u 6 (by decide)
  have q2 : ∀ H, call 21 [.bool r, I 7] H = some (U b2, H) := by rw [f2]; exact S21 r 7 (by decide)
  have q3 : ∀ H, call 21 [.bool a, I 10] H = some (U b3, H) := by rw [f3]; exact S21 a 10 (by decide)
  have q4 : ∀ H, call 21 [.bool n, I 11] H = some (U b4, H) := by rw [f4]; exact S21 n 11 (by decide)
  have l1 := bv_le u 6
  have l2 := bv_le r 7
  have l3 := bv_le a 10
  have l4 := bv_le n 11
  obtain ⟨V0, v0⟩ : ∃ x, x = 3 ||| W0 := ⟨_, rfl⟩
  obtain ⟨W1, e1⟩ : ∃ x, x = V0 ||| b1 := ⟨_, rfl⟩
  obtain ⟨W2, e2⟩ : ∃ x, x = W1 ||| b2 := ⟨_, rfl⟩
  obtain ⟨W3, e3⟩ : ∃ x, x = W2 ||| b3 := ⟨_, rfl⟩
  obtain ⟨W4, e4⟩ : ∃ x, x = W3 ||| b4 := ⟨_, rfl⟩
  have k0 : V0 < 2 ^ 20 := by rw [v0]; exact Nat.or_lt_two_pow (by decide) (by omega)
  have k1 : W1 < 2 ^ 20 := by rw [e1]; exact Nat.or_lt_two_pow k0 (by omega)
  have k2 : W2 < 2 ^ 20 := by rw [e2]; exact Nat.or_lt_two_pow k1 (by omega)
  have k3 : W3 < 2 ^ 20 := by rw [e3]; exact Nat.or_lt_two_pow k2 (by omega)
  have o0 : bitsE .or .u64 3 (W0 : Int) = some (U V0) := by rw [v0]; exact or_u64 (w := 3) (by omega) (by omega)
  have o1 : bitsE .or .u64 (V0 : Int) (b1 : Int) = some (U W1) := by rw [e1]; exact or_u64 (by omega) (by omega)
  have o2 : bitsE .or .u64 (W1 : Int) (b2 : Int) = some (U W2) := by rw [e2]; exact or_u64 (by omega) (by omega)
  have o3 : bitsE .or .u64 (W2 : Int) (b3 : Int) = some (U W3) := by rw [e3]; exact or_u64 (by omega) (by omega)
  have o4 : bitsE .or .u64 (W3 : Int) (b4 : Int) = some (U W4) := by rw [e4]; exact or_u64 (by omega) (by omega)
  have w4 : W4 = wsum F a r u n + 3 := by rw [e4, e3, e2, e1, v0, e0, f1, f2, f3, f4, or_wsum3 F a r u n hF]
  have hok : encOk k F a r u n = true := by
    unfold encOk
    rcases hk with rfl | ⟨rfl, hb⟩
    · simp; omega
    · simp [hb]; omega
  have hv : encW k F a r u n = W4 := by
    simp only [encW, hok, cond_true, Int.toNat_natCast]; rw [if_neg (by omega), w4]
  rw [hv]
  clear e0 e1 e2 e3 e4 f1 f2 f3 f4 v0 w4 hok hv
  rcases hk with rfl | ⟨rfl, hb⟩
  · cases a <;> cases r <;> cases u <;> cases n <;> simp [F12, n1, n2, hf, le_more, hw, s0, q1, q2, q3, q4, o0, o1, o2, o3, o4]
  · obtain ⟨rfl, rfl, rfl, rfl⟩ := bare_ok hb
    simp [F12, n1, n2, hf, le_more, hw, s0, q1, q2, q3, q4, o0, o1, o2, o3, o4]

theorem S12 (k f : Int) (a r u n : Bool) (H : Hp) : call 12 [D k f a r u n] H = some (.tuple #[U (encW k f a r u n), I (encE k f a r u n)], H) := by
  refine c12 (by unfold encW encE; cases encOk k f a r u n <;> rfl) ?_
  have hf := fresh_ok H [D k f a r u n]
  generalize H.fresh [D k f a r u n] = H at *
  by_cases h0 : k = 0 ∧ f = 0 ∧ bare a r u n = true
  · obtain ⟨rfl, rfl, hb⟩ := h0
    obtain ⟨rfl, rfl, rfl, rfl⟩ := bare_ok hb
    simp [F12, hf, le_more]
    exact ⟨rfl, rfl⟩
  · by_cases h1 : 0 ≤ f ∧ f < 64 ∧ (k = 2 ∨ k = 1 ∧ bare a r u n = true)
    · obtain ⟨h1, h2, hk⟩ := h1
      have he : encE k f a r u n = 0 := by
        have hok : encOk k f a r u n = true := by
          unfold encOk
          rcases hk with rfl | ⟨rfl, hb⟩
          · simp; omega
          · simp [hb]; omega
        simp only [encE, hok, cond_true]
      rw [he]
      exact F12_ok k f a r u n h1 h2 hk H hf
    · have hok : encOk k f a r u n = false := by
        cases hok : encOk k f a r u n with
        | false => rfl
        | true =>
          exfalso
          unfold encOk at hok; simp at hok
          rcases hok with ⟨⟨g1, g2⟩, (g | g) | g⟩
          · exact h1 ⟨g1, g2, .inl g⟩
          · exact h1 ⟨g1, g2, .inr g⟩
          · exact h0 ⟨g.1.1, g.2, g.1.2⟩
      simp only [encW, encE, hok, cond_false]
      clear hok
      by_cases g1 : f < 0
      · have g2 : ¬ f = 0 := by omega
        cases a <;> cases r <;> cases u <;> cases n <;> by_cases g3 : k = 0 <;> simp [F12, g1, g2, g3, hf, le_more]
      · by_cases g2 : 64 ≤ f
        · have g4 : ¬ f = 0 := by omega
          cases a <;> cases r <;> cases u <;> cases n <;> by_cases g3 : k = 0 <;> simp [F12, g1, g2, g3, g4, hf, le_more]
        · have h1 : k ≠ 2 ∧ (k = 1 → bare a r u n = false) := ⟨fun h => h1 ⟨by omega, by omega, .inl h⟩, fun h => by
            cases hb : bare a r u n with
            | false => rfl
            | true => exact absurd ⟨by omega, by omega, .inr ⟨h, hb⟩⟩ h1⟩
          obtain ⟨i1, i2⟩ := h1
          by_cases g3 : k = 0
          · subst g3
            cases a <;> cases r <;> cases u <;> cases n <;> first
              | (simp [F12, g1, g2, hf, le_more]; done)
              | (have g4 : ¬ f = 0 := fun h => h0 ⟨rfl, h, rfl⟩
                 simp [F12, g1, g2, g4, hf, le_more])
          · by_cases g5 : k = 1
            · subst g5
              have i2 := i2 rfl
              revert i2
              cases a <;> cases r <;> cases u <;> cases n <;> intro i2 <;> first
                | (exact absurd i2 (by decide))
                | simp [F12, g1, g2, hf, le_more]
            · cases a <;> cases r <;> cases u <;> cases n <;> simp [F12, g1, g2, g3, g5, i1, hf, le_more]
end Go.Proofs.Ytbipfjcfggdjiaa.X
