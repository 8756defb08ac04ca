/- The desc seat: there and back. -/
import Derived.Test.YtbipfjcfggdjiaaDescS3
set_option maxRecDepth 100000
set_option maxHeartbeats 1000000
namespace Go.Proofs.Ytbipfjcfggdjiaa.X
open Go.Ahe Go.Ahe.X Go.RowKit

theorem bv_c (b : Bool) (k : Nat) : ∃ c, bv b k = 2 ^ k * c ∧ c ≤ 1 ∧ b = decide (c = 1) := by
  cases b with
  | true => exact ⟨1, by simp [bv], Nat.le_refl _, rfl⟩
  | false => exact ⟨0, by simp [bv], by decide, rfl⟩

/-- What was written is read. -/
theorem dec_enc {k f : Int} {a r u n : Bool} (h : encOk k f a r u n = true) {l : Int} (hl : k = 1 ∧ 0 ≤ l ∧ l ≤ 2 ∨ k ≠ 1 ∧ l = 3) : decS (encW k f a r u n) l = (D k f a r u n, 0) ∧ encW k f a r u n < 18446744073709551616 := by
  have hv : encW k f a r u n = wsum f.toNat a r u n + (if k = 0 then 0 else 3) := by simp only [encW, h, cond_true]
  have hlt : 0 ≤ f ∧ f < 64 := by unfold encOk at h; simp at h; exact h.1
  obtain ⟨F, rfl⟩ := Int.eq_ofNat_of_zero_le hlt.1
  have hF : F < 64 := by omega
  have hlt2 := wsum_lt F a r u n hF
  simp only [Int.toNat_natCast] at hv
  have hk : k = 2 ∨ (k = 1 ∧ bare a r u n = true) ∨ (k = 0 ∧ bare a r u n = true ∧ F = 0) := by
    unfold encOk at h; simp at h
    rcases h.2 with (h | h) | h
    · exact .inl h
    · exact .inr (.inl h)
    · exact .inr (.inr ⟨h.1.1, h.1.2, h.2⟩)
  have bare_ok : bare a r u n = true → a = false ∧ r = false ∧ u = false ∧ n = false := by cases a <;> cases r <;> cases u <;> cases n <;> decide
  rcases hk with rfl | ⟨rfl, hb⟩ | ⟨rfl, hb, rfl⟩
  · rw [if_neg (by decide)] at hv
    have hl : l = 3 := by rcases hl with hl | hl <;> omega
    subst hl
    rw [hv]
    refine ⟨?_, by omega⟩
    have ho : okP (wsum F a r u n + 3) := by
      unfold okP wsum; cases a <;> cases r <;> cases u <;> cases n <;> simp only [bv, cond_true, cond_false] <;> omega
    unfold decS
    rw [if_neg (by omega), if_neg (okP_odd ho), if_pos rfl, if_pos ho]
    unfold wD bt wsum
    obtain ⟨c1, p1, q1, r1⟩ := bv_c u 6
    obtain ⟨c2, p2, q2, r2⟩ := bv_c r 7
    obtain ⟨c3, p3, q3, r3⟩ := bv_c a 10
    obtain ⟨c4, p4, q4, r4⟩ := bv_c n 11
    rw [p1, p2, p3, p4, r1, r2, r3, r4]
    clear hv hlt2 h hl ho p1 p2 p3 p4 r1 r2 r3 r4 hlt
    have e1 : ((F * 4096 + 2 ^ 11 * c4 + 2 ^ 10 * c3 + 2 ^ 7 * c2 + 2 ^ 6 * c1 + 3 : Nat) : Int) / 4096 % 64 = F := by omega
    have e2 : decide ((F * 4096 + 2 ^ 11 * c4 + 2 ^ 10 * c3 + 2 ^ 7 * c2 + 2 ^ 6 * c1 + 3) / 2 ^ 10 % 2 = 1) = decide (c3 = 1) := decide_eq_decide.2 (by omega)
    have e3 : decide ((F * 4096 + 2 ^ 11 * c4 + 2 ^ 10 * c3 + 2 ^ 7 * c2 + 2 ^ 6 * c1 + 3) / 2 ^ 7 % 2 = 1) = decide (c2 = 1) := decide_eq_decide.2 (by omega)
    have e4 : decide ((F * 4096 + 2 ^ 11 * c4 + 2 ^ 10 * c3 + 2 ^ 7 * c2 + 2 ^ 6 * c1 + 3) / 2 ^ 6 % 2 = 1) = decide (c1 = 1) := decide_eq_decide.2 (by omega)
    have e5 : decide ((F * 4096 + 2 ^ 11 * c4 + 2 ^ 10 * c3 + 2 ^ 7 * c2 + 2 ^ 6 * c1 + 3) / 2 ^ 11 % 2 = 1) = decide (c4 = 1) := decide_eq_decide.2 (by omega)
    rw [e1, e2, e3, e4, e5]
  · rw [if_neg (by decide)] at hv
    obtain ⟨rfl, rfl, rfl, rfl⟩ := bare_ok hb
    rw [hv]
    refine ⟨?_, by omega⟩
    have hl : 0 ≤ l ∧ l ≤ 2 := by rcases hl with hl | hl <;> omega
    have hw : wsum F false false false false + 3 = F * 4096 + 3 := rfl
    rw [hw]
    have ho : okT (F * 4096 + 3) := by unfold okT; omega
    unfold decS
    rw [if_neg (by omega), if_neg (by omega), if_neg (by omega), if_pos ho]
    unfold wD bt
    have e1 : ((F * 4096 + 3 : Nat) : Int) / 4096 % 64 = F := by omega
    have e2 : decide ((F * 4096 + 3) / 2 ^ 10 % 2 = 1) = false := decide_eq_false (by omega)
    have e3 : decide ((F * 4096 + 3) / 2 ^ 7 % 2 = 1) = false := decide_eq_false (by omega)
    have e4 : decide ((F * 4096 + 3) / 2 ^ 6 % 2 = 1) = false := decide_eq_false (by omega)
    have e5 : decide ((F * 4096 + 3) / 2 ^ 11 % 2 = 1) = false := decide_eq_false (by omega)
    rw [e1, e2, e3, e4, e5]
  · obtain ⟨rfl, rfl, rfl, rfl⟩ := bare_ok hb
    have hl : l = 3 := by rcases hl with hl | hl <;> omega
    subst hl
    rw [hv]
    refine ⟨?_, by decide⟩
    show decS 0 3 = _
    unfold decS
    rw [if_neg (by omega), if_pos (by decide)]; rfl

/-- What was read is written. -/
theorem enc_dec {w : Nat} {k : Int} (hw : w < 18446744073709551616) (h : k = 2 ∧ okP w ∨ k = 1 ∧ okT w) : encW k ((w : Int) / 4096 % 64) (bt w 10) (bt w 7) (bt w 6) (bt w 11) = w ∧ encE k ((w : Int) / 4096 % 64) (bt w 10) (bt w 7) (bt w 6) (bt w 11) = 0 := by
  have hf : ((w : Int) / 4096 % 64).toNat = w / 4096 % 64 := by omega
  have hs : ∀ b : Bool, ∀ j, bt w j = b → (bv b j = if w / 2 ^ j % 2 = 1 then 2 ^ j else 0) := fun b j hb => by
    subst hb
    unfold bv bt
    by_cases hq : w / 2 ^ j % 2 = 1
    · rw [decide_eq_true hq, if_pos hq]; rfl
    · rw [decide_eq_false hq, if_neg hq]; rfl
  have hok : encOk k ((w : Int) / 4096 % 64) (bt w 10) (bt w 7) (bt w 6) (bt w 11) = true := by
    unfold encOk
    rcases h with ⟨rfl, h⟩ | ⟨rfl, h⟩
    · simp; omega
    · unfold okT at h
      have h1 : bt w 10 = false := decide_eq_false (by omega)
      have h2 : bt w 7 = false := decide_eq_false (by omega)
      have h3 : bt w 6 = false := decide_eq_false (by omega)
      have h4 : bt w 11 = false := decide_eq_false (by omega)
      rw [h1, h2, h3, h4]
      simp [bare]; omega
  have hk : ¬ k = 0 := by rcases h with h | h <;> omega
  refine ⟨?_, by simp only [encE, hok, cond_true]⟩
  simp only [encW, hok, cond_true, hf, if_neg hk, wsum, hs _ 11 rfl, hs _ 10 rfl, hs _ 7 rfl, hs _ 6 rfl]
  rcases h with ⟨rfl, h⟩ | ⟨rfl, h⟩
  · unfold okP at h; split <;> split <;> split <;> split <;> omega
  · unfold okT at h; split <;> split <;> split <;> split <;> omega


/-- What decoding may come to. -/
theorem decS_cases (w : Nat) (l : Int) : (decS w l = (zD, 2)) ∨ (decS w l = (zD, 0) ∧ w % 2 = 0) ∨ (decS w l = (zD, 30) ∧ w % 2 = 1) ∨ (∃ k, (k = 2 ∧ okP w ∨ k = 1 ∧ okT w) ∧ decS w l = (wD k w, 0) ∧ w % 2 = 1) := by
  unfold decS
  split
  · exact .inl rfl
  · split
    · rename_i h; exact .inr (.inl ⟨rfl, h⟩)
    · have h1 : w % 2 = 1 := by omega
      split
      · split
        · rename_i h; exact .inr (.inr (.inr ⟨2, .inl ⟨rfl, h⟩, rfl, h1⟩))
        · exact .inr (.inr (.inl ⟨rfl, h1⟩))
      · split
        · rename_i h; exact .inr (.inr (.inr ⟨1, .inr ⟨rfl, h⟩, rfl, h1⟩))
        · exact .inr (.inr (.inl ⟨rfl, h1⟩))

theorem F4j1_ok (w : Nat) (hw : w < 18446744073709551616) (l : Int) (H : Hp) (hf : H.floor ≤ H.next) (X : List Kx) : ∃ H', F4j1 (U w) (I l) H X = nth X 0 [.bool true] H' := by
  have q := S8 w hw l
  have e1 := and_1 hw
  rcases decS_cases w l with h | ⟨h, h2⟩ | ⟨h, h2⟩ | ⟨k, hk, h, h2⟩
  · rw [h] at q
    exact ⟨_, by simp [-nth_eq, F4j1, F4j2, q, hf, le_more, S10]; rfl⟩
  · rw [h] at q
    have h2i : (w : Int) % 2 = 0 := by omega
    exact ⟨_, by simp [-nth_eq, F4j1, F4j2, q, hf, le_more, S10, e1, h2i]; rfl⟩
  · rw [h] at q
    exact ⟨_, by simp [-nth_eq, F4j1, F4j2, q, hf, le_more, S10]; rfl⟩
  · rw [h] at q
    have h2i : (w : Int) % 2 = 1 := by omega
    obtain ⟨z1, z2⟩ := enc_dec hw hk
    have q2 := S11 k ((w : Int) / 4096 % 64) (bt w 10) (bt w 7) (bt w 6) (bt w 11)
    rw [z1, z2] at q2
    unfold wD at q
    exact ⟨_, by simp [-nth_eq, F4j1, F4j2, q, q2, hf, le_more, S10, e1, h2i]; rfl⟩
end Go.Proofs.Ytbipfjcfggdjiaa.X
