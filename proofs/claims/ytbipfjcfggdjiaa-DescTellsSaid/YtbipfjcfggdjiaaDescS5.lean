/- The desc seat: the laws DescBack and DescOne. -/
import Derived.Test.YtbipfjcfggdjiaaDescS4
set_option maxRecDepth 100000
set_option maxHeartbeats 1000000
namespace Go.Proofs.Ytbipfjcfggdjiaa.X
open Go.Ahe Go.Ahe.X Go.RowKit

theorem eq_refl_D (k f : Int) (a r u n : Bool) : (decide (k = k) && (decide (f = f) && ((a == a) && ((r == r) && ((u == u) && ((n == n) && true)))))) = true := by simp

theorem F4j0_ok (k f : Int) (a r u n : Bool) (w : Nat) (hw : w < 18446744073709551616) (l o : Int) (ho : k = 1 ∧ 0 ≤ o ∧ o ≤ 2 ∨ k ≠ 1 ∧ o = 3) (H : Hp) (hf : H.floor ≤ H.next) (X : List Kx) :
    ∃ H', F4j0 (U w) (I l) (P H.next 0) (I o) (H.new (.cells [.int .i8 k, I f, .bool a, .bool r, .bool u, .bool n] false)) X = nth X 0 [.bool true] H' := by
  have q1 := S11 k f a r u n
  cases hb : encOk k f a r u n with
  | false =>
    have he : encE k f a r u n = 30 := by simp only [encE, hb, cond_false]
    rw [he] at q1
    obtain ⟨H', h⟩ := F4j1_ok w hw l (H.new (.cells [.int .i8 k, I f, .bool a, .bool r, .bool u, .bool n] false)) (by simpa using le_more hf) [fun x h => nth X 0 [gv x 0] h]
    exact ⟨H', by simp [-nth_eq, -gv_eq, F4j0, q1, hf, le_more]; exact h⟩
  | true =>
    have he : encE k f a r u n = 0 := by simp only [encE, hb, cond_true]
    rw [he] at q1
    obtain ⟨h1, h2⟩ := dec_enc hb ho
    obtain ⟨W, hW⟩ : ∃ W, W = encW k f a r u n := ⟨_, rfl⟩
    rw [← hW] at q1 h1 h2
    have q2 := S8 W h2 o
    rw [h1] at q2
    obtain ⟨H', h⟩ := F4j1_ok w hw l ((H.new (.cells [.int .i8 k, I f, .bool a, .bool r, .bool u, .bool n] false)).new (.cells [.int .i8 k, I f, .bool a, .bool r, .bool u, .bool n] false)) (by simpa using le_more (k := 2) hf) [fun x h => nth X 0 [gv x 0] h]
    exact ⟨H', by simp [-nth_eq, -gv_eq, F4j0, q1, q2, hf, le_more, ne_D]; exact h⟩

theorem tmod3 (x : Int) : -2 ≤ x.tmod 3 ∧ x.tmod 3 ≤ 2 ∧ (0 ≤ x → 0 ≤ x.tmod 3) := by
  rcases Int.le_total 0 x with h | h
  · rw [Int.tmod_eq_emod_of_nonneg h]; omega
  · obtain ⟨y, rfl⟩ : ∃ y, x = -y := ⟨-x, by omega⟩
    rw [Int.neg_tmod, Int.tmod_eq_emod_of_nonneg (by omega)]; omega

theorem S4 (k f : Int) (a r u n : Bool) (w : Nat) (hw : w < 18446744073709551616) (l : Int) (H : Hp) : call 4 [D k f a r u n, U w, I l] H = some (.bool true, H) := by
  refine c4 rfl ?_
  have hf := fresh_ok H [D k f a r u n, U w, I l]
  generalize H.fresh [D k f a r u n, U w, I l] = H at *
  by_cases hk : k = 1
  · have ht := tmod3 l
    have ht2 := tmod3 (l.tmod 3 + 3)
    have w1 : IntKind.i64.wrap (l.tmod 3 + 3) = l.tmod 3 + 3 := wr_i64 (by omega) (by omega)
    obtain ⟨H', h⟩ := F4j0_ok k f a r u n w hw l ((l.tmod 3 + 3).tmod 3) (.inl ⟨hk, by omega, by omega⟩) H hf [fun x h => some (gv x 0, h)]
    subst hk
    simp [-nth_eq, -gv_eq, F4, hf, le_more, w1]
    exact ⟨H', h⟩
  · obtain ⟨H', h⟩ := F4j0_ok k f a r u n w hw l 3 (.inr ⟨hk, rfl⟩) H hf [fun x h => some (gv x 0, h)]
    simp [-nth_eq, -gv_eq, F4, hf, le_more, hk]
    exact ⟨H', h⟩
end Go.Proofs.Ytbipfjcfggdjiaa.X

namespace Go.Proofs.Ytbipfjcfggdjiaa.X
open Go.Ahe Go.Ahe.X Go.RowKit
/-- One word, one descriptor. -/
theorem enc_inj {k f f' : Int} {a r u n a' r' u' n' : Bool} (h : encOk k f a r u n = true) (h' : encOk k f' a' r' u' n' = true) : decide ((encW k f a r u n : Int) = encW k f' a' r' u' n') = (decide (k = k) && (decide (f = f') && ((a == a') && ((r == r') && ((u == u') && ((n == n') && true)))))) := by
  by_cases hw : encW k f a r u n = encW k f' a' r' u' n'
  · have hl : ∃ l : Int, k = 1 ∧ 0 ≤ l ∧ l ≤ 2 ∨ k ≠ 1 ∧ l = 3 := by
      by_cases hk : k = 1
      · exact ⟨0, .inl ⟨hk, by omega⟩⟩
      · exact ⟨3, .inr ⟨hk, rfl⟩⟩
    obtain ⟨l, hl⟩ := hl
    have e1 := (dec_enc h hl).1
    have e2 := (dec_enc h' hl).1
    rw [hw, e2] at e1
    simp at e1
    obtain ⟨rfl, rfl, rfl, rfl, rfl⟩ := e1
    simp
  · rw [decide_eq_false (by omega)]
    by_cases hd : f = f' ∧ a = a' ∧ r = r' ∧ u = u' ∧ n = n'
    · obtain ⟨rfl, rfl, rfl, rfl, rfl⟩ := hd
      exact absurd rfl hw
    · symm
      rw [Bool.eq_false_iff]
      intro hc
      simp at hc
      exact hd hc

theorem enc_lt (k f : Int) (a r u n : Bool) : encW k f a r u n < 18446744073709551616 := by
  cases h : encOk k f a r u n with
  | false => simp only [encW, h, cond_false]; decide
  | true =>
    by_cases hk : k = 1
    · exact (dec_enc h (l := 0) (.inl ⟨hk, by omega⟩)).2
    · exact (dec_enc h (l := 3) (.inr ⟨hk, rfl⟩)).2

theorem enc_dfb {f f' : Int} {a r u n : Bool} (h : encOk 2 f a r u n = true) (h' : encOk 2 f' a r u n = true) : dfb (encW 2 f a r u n) (encW 2 f' a r u n) = decide (f' ≠ f) := by
  have e1 := (dec_enc h (l := 3) (.inr ⟨by decide, rfl⟩)).1
  have e2 := (dec_enc h' (l := 3) (.inr ⟨by decide, rfl⟩)).1
  have ok : ∀ {w : Nat} {f : Int}, decS w 3 = (D 2 f a r u n, 0) → okPb w = true ∧ ((w / 4096 % 64 : Nat) : Int) = f := fun {w f} he => by
    rcases decS_cases w 3 with h | ⟨h, _⟩ | ⟨h, _⟩ | ⟨k, hk, h, _⟩
    · rw [h] at he; simp at he
    · rw [h] at he; simp at he
    · rw [h] at he; simp at he
    · rw [h] at he
      simp [wD] at he
      obtain ⟨rfl, h1, _⟩ := he
      rcases hk with ⟨_, hk⟩ | ⟨hk, _⟩
      · exact ⟨decide_eq_true hk, by omega⟩
      · cases hk
  obtain ⟨o1, g1⟩ := ok e1
  obtain ⟨o2, g2⟩ := ok e2
  unfold dfb
  rw [o1, o2, Bool.true_and, Bool.true_and]
  exact decide_eq_decide.2 (by omega)

theorem ne_bool (a b : Bool) : binE C0 .neq 4 (.bool a) (.bool b) = some (.bool !(a == b)) := id (by kernel_rfl)
theorem encE_ok {k f : Int} {a r u n : Bool} (h : encE k f a r u n = 0) : encOk k f a r u n = true := by
  cases h2 : encOk k f a r u n with
  | true => rfl
  | false => simp [encE, h2] at h

theorem S5 (k f k' f' fr : Int) (a r u n a' r' u' n' : Bool) (H : Hp) : call 5 [D k f a r u n, D k' f' a' r' u' n', I fr] H = some (.bool true, H) := by
  refine c5 rfl ?_
  have hf := fresh_ok H [D k f a r u n, D k' f' a' r' u' n', I fr]
  generalize H.fresh [D k f a r u n, D k' f' a' r' u' n', I fr] = H at *
  have q1 := S11 k f a r u n
  have q2 := S11 k' f' a' r' u' n'
  have q3 := S11 k fr a r u n
  have q4 := S9 (encW k f a r u n) (encW k fr a r u n) (enc_lt _ _ _ _ _ _) (enc_lt _ _ _ _ _ _)
  by_cases g1 : encE k f a r u n = 0
  · have h1 := encE_ok g1
    rw [g1] at q1
    -- what the second question comes to
    have second : ∀ (g3 : encE k fr a r u n = 0), (k ≠ 0 → (encW k fr a r u n = encW k f a r u n ↔ fr = f)) ∧ (k = 2 → dfb (encW k f a r u n) (encW k fr a r u n) = decide (¬ fr = f)) := fun g3 => by
      have h3 := encE_ok g3
      refine ⟨fun _ => ?_, ?_⟩
      · have := enc_inj h3 h1
        simp only [decide_true, Bool.true_and, Bool.and_true, BEq.rfl] at this
        have := decide_eq_decide.1 this
        omega
      · rintro rfl; exact enc_dfb h1 h3
    have first : k = k' → encE k' f' a' r' u' n' = 0 → binE C0 .eql 27 (D k f a r u n) (D k' f' a' r' u' n') = some (.bool (decide ((encW k f a r u n : Int) = encW k' f' a' r' u' n'))) := by
      rintro rfl g2
      rw [eq_D, enc_inj h1 (encE_ok g2)]
    generalize encW k f a r u n = W1 at *
    generalize encW k' f' a' r' u' n' = W2 at *
    generalize encW k fr a r u n = W3 at *
    generalize encE k' f' a' r' u' n' = E2 at *
    generalize encE k fr a r u n = E3 at *
    generalize dfb W1 W3 = dd at *
    clear h1 g1
    have second' : ∀ (g3 : E3 = 0), (k ≠ 0 → ((W3 : Int) = W1 ↔ fr = f)) ∧ (k = 2 → dd = decide (¬ fr = f)) := fun g3 => ⟨fun hk => Int.ofNat_inj.trans ((second g3).1 hk), (second g3).2⟩
    clear second
    -- the first question
    have main : ∀ b1 : Bool, (b1 = true → E2 = 0 ∧ k = k') → (b1 = false → ¬ (E2 = 0 ∧ k = k')) → (F5 (D k f a r u n) (D k' f' a' r' u' n') (I fr) H).map (·.1) = some (.bool true) := by
      intro b1 hb1 hb2
      have g2c : (E2 = 0 ∧ k = k') ∨ (E2 = 0 ∧ ¬ k = k') ∨ ¬ E2 = 0 := by
        by_cases h1 : E2 = 0 <;> by_cases h2 : k = k' <;> simp [h1, h2]
      by_cases g3 : E3 = 0
      · obtain ⟨s1, s2⟩ := second' g3
        subst g3
        by_cases gz : k = 0
        · subst gz
          rcases g2c with ⟨rfl, rfl⟩ | ⟨g2, gk⟩ | g2
          · simp [F5, q1, q2, q3, q4, hf, le_more, S10, eq_bool, ne_bool, first rfl rfl]
          · simp [F5, q1, q2, q3, q4, hf, le_more, S10, eq_bool, ne_bool, g2, gk]
          · simp [F5, q1, q2, q3, q4, hf, le_more, S10, eq_bool, ne_bool, g2]
        · have s1' := s1 gz
          by_cases gp : k = 2
          · have s2' := s2 gp
            subst gp
            subst s2'
            rcases g2c with ⟨rfl, rfl⟩ | ⟨g2, gk⟩ | g2
            · simp [F5, q1, q2, q3, q4, hf, le_more, S10, eq_bool, ne_bool, first rfl rfl, s1']
            · simp [F5, q1, q2, q3, q4, hf, le_more, S10, eq_bool, ne_bool, s1', g2, gk]
            · simp [F5, q1, q2, q3, q4, hf, le_more, S10, eq_bool, ne_bool, s1', g2]
          · rcases g2c with ⟨rfl, rfl⟩ | ⟨g2, gk⟩ | g2
            · simp [F5, q1, q2, q3, q4, hf, le_more, S10, eq_bool, ne_bool, first rfl rfl, s1', gz, gp]
            · simp [F5, q1, q2, q3, q4, hf, le_more, S10, eq_bool, ne_bool, s1', gz, gp, g2, gk]
            · simp [F5, q1, q2, q3, q4, hf, le_more, S10, eq_bool, ne_bool, s1', gz, gp, g2]
      · by_cases gp : k = 2
        · subst gp
          rcases g2c with ⟨rfl, rfl⟩ | ⟨g2, gk⟩ | g2
          · simp [F5, q1, q2, q3, q4, hf, le_more, S10, eq_bool, ne_bool, first rfl rfl, g3]
          · simp [F5, q1, q2, q3, q4, hf, le_more, S10, eq_bool, ne_bool, g3, g2, gk]
          · simp [F5, q1, q2, q3, q4, hf, le_more, S10, eq_bool, ne_bool, g3, g2]
        · rcases g2c with ⟨rfl, rfl⟩ | ⟨g2, gk⟩ | g2
          · simp [F5, q1, q2, q3, q4, hf, le_more, S10, eq_bool, ne_bool, first rfl rfl, g3, gp]
          · simp [F5, q1, q2, q3, q4, hf, le_more, S10, eq_bool, ne_bool, g3, gp, g2, gk]
          · simp [F5, q1, q2, q3, q4, hf, le_more, S10, eq_bool, ne_bool, g3, gp, g2]
    exact main (decide (E2 = 0 ∧ k = k')) (fun h => of_decide_eq_true h) (fun h => of_decide_eq_false h)
  · generalize encW k f a r u n = W1 at *
    generalize encW k' f' a' r' u' n' = W2 at *
    generalize encW k fr a r u n = W3 at *
    generalize encE k f a r u n = E1 at *
    simp [F5, q1, q2, q3, q4, hf, le_more, S10, eq_bool, ne_bool, g1]
end Go.Proofs.Ytbipfjcfggdjiaa.X
