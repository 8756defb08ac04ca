/- The desc seat: pages, touching, differing. -/
import Derived.Test.YtbipfjcfggdjiaaDescS
set_option maxRecDepth 100000
set_option maxHeartbeats 1000000
namespace Go.Proofs.Ytbipfjcfggdjiaa.X
open Go.Ahe Go.Ahe.X

def okPb (w : Nat) : Bool := decide (okP w)
def pgD (w : Nat) : Value := bif okPb w then wD 2 w else zD
theorem okP_odd {w : Nat} (h : okP w) : ¬ w % 2 = 0 := by have := h.1; omega

theorem S16 (w : Nat) (hw : w < 18446744073709551616) (H : Hp) : call 16 [U w] H = some (.tuple #[pgD w, .bool (okPb w)], H) := by
  by_cases h : okP w
  · have hb : okPb w = true := decide_eq_true h
    have hd : decS w 3 = (wD 2 w, 0) := by unfold decS; rw [if_neg (by omega), if_neg (okP_odd h), if_pos rfl, if_pos h]
    simp only [pgD, hb, cond_true]
    refine c16 rfl ?_
    have hf := fresh_ok H [U ↑w]
    generalize H.fresh [U ↑w] = H at *
    simp [F16, S8 w hw, hd, hf, le_more, wD, same, valEq, valEq1, cellEq]
  · have hb : okPb w = false := decide_eq_false h
    simp only [pgD, hb, cond_false]
    have hd : (decS w 3).1 = zD ∧ ((decS w 3).2 = 0 ∨ (decS w 3).2 = 30) := by
      unfold decS; rw [if_neg (by omega)]
      by_cases h2 : w % 2 = 0
      · rw [if_pos h2]; exact ⟨rfl, .inl rfl⟩
      · rw [if_neg h2, if_pos rfl, if_neg h]; exact ⟨rfl, .inr rfl⟩
    refine c16 rfl ?_
    have hf := fresh_ok H [U ↑w]
    generalize H.fresh [U ↑w] = H at *
    rcases hd with ⟨hd1, hd2 | hd2⟩
    · simp [F16, S8 w hw, hd1, hd2, hf, le_more, same, valEq, valEq1, cellEq]
    · simp [F16, S8 w hw, hd1, hd2, hf, le_more, same, valEq, valEq1, cellEq]

/-- A word is touched: a page whose AF is not set. -/
def tchb (w : Nat) : Bool := okPb w && !bt w 10
def tch (w : Nat) : Nat := bif tchb w then w + 1024 else w

theorem or_1024 {w : Nat} (hw : w < 18446744073709551616) (h : bt w 10 = false) : bitsE .or .u64 (w : Int) 1024 = some (U (w + 1024 : Nat)) := by
  rw [show (1024 : Int) = ((1024 : Nat) : Int) from rfl, or_u64 hw (by decide)]
  have h0 : w / 2 ^ 10 % 2 = 0 := by
    have := of_decide_eq_false h
    omega
  have h2 : w ||| 1024 = w + 1024 := by
    have h1 : w / 2 ^ 11 * 2 ^ 11 ||| w % 2 ^ 10 = w := by rw [or_add (by omega)]; omega
    have h3 : 1 * 2 ^ 10 ||| w % 2 ^ 10 = 1 * 2 ^ 10 + w % 2 ^ 10 := or_add (by omega)
    calc w ||| 1024 = (w / 2 ^ 11 * 2 ^ 11 ||| w % 2 ^ 10) ||| 1 * 2 ^ 10 := by rw [h1]
      _ = w / 2 ^ 11 * 2 ^ 11 ||| (1 * 2 ^ 10 ||| w % 2 ^ 10) := by rw [Nat.or_assoc, Nat.or_comm (w % 2 ^ 10)]
      _ = w + 1024 := by rw [h3, or_add (by omega)]; omega
  rw [h2]

theorem S7 (w : Nat) (hw : w < 18446744073709551616) (H : Hp) : call 7 [U w] H = some (.tuple #[U (tch w), .bool (tchb w)], H) := by
  refine c7 rfl ?_
  have hf := fresh_ok H [U ↑w]
  generalize H.fresh [U ↑w] = H at *
  cases h : okPb w with
  | false => simp [F7, S16 w hw, tch, tchb, pgD, h, hf, le_more]
  | true =>
    cases h2 : bt w 10 with
    | true => simp [F7, S16 w hw, tch, tchb, pgD, h, h2, hf, le_more, wD]
    | false => simp [F7, S16 w hw, tch, tchb, pgD, h, h2, hf, le_more, wD, or_1024 hw h2]

def dfb (a b : Nat) : Bool := okPb a && okPb b && decide (a / 4096 % 64 ≠ b / 4096 % 64)
theorem S9 (a b : Nat) (ha : a < 18446744073709551616) (hb : b < 18446744073709551616) (H : Hp) : call 9 [U a, U b] H = some (.bool (dfb a b), H) := by
  refine c9 rfl ?_
  have hf := fresh_ok H [U ↑a, U ↑b]
  generalize H.fresh [U ↑a, U ↑b] = H at *
  cases h : okPb a with
  | false => cases h2 : okPb b <;> simp [F9, S16 a ha, S16 b hb, dfb, pgD, h, h2, hf, le_more, wD]
  | true =>
    cases h2 : okPb b with
    | false => simp [F9, S16 a ha, S16 b hb, dfb, pgD, h, h2, hf, le_more, wD]
    | true =>
      simp [F9, S16 a ha, S16 b hb, dfb, pgD, h, h2, hf, le_more, wD]
      omega

theorem eq_bool (a b : Bool) : binE C0 .eql 4 (.bool a) (.bool b) = some (.bool (a == b)) := id (by kernel_rfl)
theorem ne_D (k f k' f' : Int) (a r u n a' r' u' n' : Bool) : binE C0 .neq 27 (D k f a r u n) (D k' f' a' r' u' n') = some (.bool !(decide (k = k') && (decide (f = f') && ((a == a') && ((r == r') && ((u == u') && ((n == n') && true))))))) := id (by kernel_rfl)
theorem eq_D (k f k' f' : Int) (a r u n a' r' u' n' : Bool) : binE C0 .eql 27 (D k f a r u n) (D k' f' a' r' u' n') = some (.bool (decide (k = k') && (decide (f = f') && ((a == a') && ((r == r') && ((u == u') && ((n == n') && true))))))) := id (by kernel_rfl)

/-- What touching does. -/
theorem tch_ok {w : Nat} (h : tchb w = true) : okPb (w + 1024) = true ∧ bt (w + 1024) 10 = true ∧ bt (w + 1024) 7 = bt w 7 ∧ bt (w + 1024) 6 = bt w 6 ∧ bt (w + 1024) 11 = bt w 11 ∧ (w + 1024) / 4096 % 64 = w / 4096 % 64 ∧ w + 1024 < 18446744073709551616 := by
  unfold tchb at h
  rw [Bool.and_eq_true, Bool.not_eq_true'] at h
  obtain ⟨h1, h2⟩ := h
  have h1 := of_decide_eq_true h1
  unfold okP at h1
  have h2 := of_decide_eq_false h2
  refine ⟨decide_eq_true ⟨?_, ?_⟩, decide_eq_true ?_, decide_eq_decide.2 ?_, decide_eq_decide.2 ?_, decide_eq_decide.2 ?_, ?_, ?_⟩ <;> omega
theorem xor_1024 {w : Nat} (hw : w < 18446744073709551616) (h : bt w 10 = false) (hw2 : w + 1024 < 18446744073709551616) : bitsE .xor .u64 ((w + 1024 : Nat) : Int) (w : Int) = some (U 1024) := by
  rw [xor_u64 hw2 hw]
  have h1 := or_1024 hw h
  rw [show (1024 : Int) = ((1024 : Nat) : Int) from rfl, or_u64 hw (by decide)] at h1
  have h2 : w ||| 1024 = w + 1024 := by injection h1 with h1; injection h1 with _ h1; exact Int.ofNat.inj h1
  have h0 : w.testBit 10 = false := by rw [Nat.testBit_eq_decide_div_mod_eq]; exact h
  rw [← h2]
  have h3 : (w ||| 1024) ^^^ w = 1024 := by
    apply Nat.eq_of_testBit_eq
    intro i
    rw [Nat.testBit_xor, Nat.testBit_or, show (1024 : Nat) = 2 ^ 10 from rfl, Nat.testBit_two_pow]
    by_cases hi : 10 = i
    · subst hi; rw [h0]; rfl
    · simp [hi]
  rw [h3]; rfl

theorem dfb_comm (a b : Nat) : dfb a b = dfb b a := by
  unfold dfb
  cases okPb a <;> cases okPb b <;> simp [eq_comm]
theorem dfb_self (a : Nat) : dfb a a = false := by simp [dfb]
theorem dfb_tch (w : Nat) : dfb w (tch w) = false := by
  cases h : tchb w with
  | false => simp [tch, h, dfb]
  | true => simp [tch, h, dfb, (tch_ok h).2.2.2.2.2.1]
theorem tch_again (w : Nat) : tchb (tch w) = false := by
  cases h : tchb w with
  | false => simp [tch, h]
  | true =>
    simp only [tch, h, cond_true]
    unfold tchb
    rw [(tch_ok h).2.1]; simp
theorem tch_lt {w : Nat} (hw : w < 18446744073709551616) : tch w < 18446744073709551616 := by
  cases h : tchb w with
  | false => simpa [tch, h] using hw
  | true => simpa [tch, h] using (tch_ok h).2.2.2.2.2.2


theorem decS_ex (w : Nat) : ∃ k f a r u n e, decS w 3 = (D k f a r u n, e) := by
  unfold decS wD
  split
  · exact ⟨_, _, _, _, _, _, _, rfl⟩
  · split
    · exact ⟨_, _, _, _, _, _, _, rfl⟩
    · rw [if_pos rfl]
      split
      · exact ⟨_, _, _, _, _, _, _, rfl⟩
      · exact ⟨_, _, _, _, _, _, _, rfl⟩
theorem decS_ok {w : Nat} (h : okPb w = true) : decS w 3 = (wD 2 w, 0) := by
  have h := of_decide_eq_true h
  unfold decS; rw [if_neg (by omega), if_neg (okP_odd h), if_pos rfl, if_pos h]

theorem S3 (w v : Nat) (hw : w < 18446744073709551616) (hv : v < 18446744073709551616) (H : Hp) : call 3 [U w, U v] H = some (.bool true, H) := by
  refine c3 rfl ?_
  have hf := fresh_ok H [U ↑w, U ↑v]
  generalize H.fresh [U ↑w, U ↑v] = H at *
  have hx := tch_lt hw
  have q1 := S9 w w hw hw
  have q2 := S9 w (tch w) hw hx
  have q3 := S9 w v hw hv
  have q4 := S9 v w hv hw
  rw [dfb_self] at q1
  rw [dfb_tch] at q2
  rw [dfb_comm] at q4
  have q5 := S7 (tch w) hx
  rw [tch_again] at q5
  have q6 := S7 w hw
  have q7 := S8 w hw 3
  have q8 := S8 (tch w) hx 3
  cases h : tchb w with
  | false =>
    have ht : tch w = w := by simp [tch, h]
    rw [ht] at q2 q5 q6
    rw [h] at q6
    obtain ⟨k, f, a, r, u, n, e, hd⟩ := decS_ex w
    rw [hd] at q7
    simp [F3, F3j0, q6, q7, S10, q1, q3, q4, hf, le_more, eq_bool]
  | true =>
    have ht : tch w = w + 1024 := by simp [tch, h]
    obtain ⟨t1, t2, t3, t4, t5, t6, t7⟩ := tch_ok h
    have hb : okPb w = true := by unfold tchb at h; simp at h; exact h.1
    have h10 : bt w 10 = false := by unfold tchb at h; simp at h; exact decide_eq_false (by omega)
    rw [h] at q6
    rw [decS_ok hb] at q7
    rw [ht] at q2 q5 q6 q8
    rw [decS_ok t1] at q8
    simp only [wD, t2, t3, t4, t5] at q7 q8
    have x1 := xor_1024 hw h10 t7
    have t6' : ((w + 1024 : Nat) : Int) / 4096 % 64 = (w : Int) / 4096 % 64 := by omega
    rw [t6'] at q8
    clear t6' t7 t6 hx ht t1 t2 t3 t4 t5
    generalize w + 1024 = W at *
    simp [F3, F3j0, q6, q7, q8, q5, S10, q1, q2, q3, q4, hf, le_more, eq_bool, ne_D, x1]
end Go.Proofs.Ytbipfjcfggdjiaa.X

namespace Go.Proofs.Ytbipfjcfggdjiaa.X
open Go.Ahe Go.Ahe.X Go.RowKit
theorem wf_u64 {a : Int} (h : (Lit.int .u64 a).wf = true) : ∃ n : Nat, a = n ∧ n < 18446744073709551616 := by
  have h : IntKind.u64.min ≤ a ∧ a ≤ IntKind.u64.max := by simpa [Lit.wf] using h
  have h1 : IntKind.u64.min = 0 := rfl
  have h2 : IntKind.u64.max = 18446744073709551615 := rfl
  exact ⟨a.toNat, by omega, by omega⟩
/-- What the evaluator says of a law, the program does. -/
theorem law_ev {f : FuncId} {a : AF} (haf : C0.fn f = some a) {args : List Value} (ha : args.all plainV = true) (h : call f args E0 = some (.bool true, E0)) (w : World) : Calls Try.prog f args.toArray w fun e w' => e = .returned (.bool true) ∧ Below w.heap.size w w' := by
  obtain ⟨d, hd⟩ := ev_iff.1 h
  exact law_flat fits0 (evF_ok fits0 noExt_ok d) w ha rfl haf hd
theorem walk3 (a0 a1 : Int) (w : World) (h0 : (Lit.int .u64 a0).wf = true) (h1 : (Lit.int .u64 a1).wf = true) : Calls Try.prog 3 #[.int .u64 a0, .int .u64 a1] w fun e w' => e = .returned (.bool true) ∧ Below w.heap.size w w' := by
  obtain ⟨m, rfl, hm⟩ := wf_u64 h0
  obtain ⟨n, rfl, hn⟩ := wf_u64 h1
  exact law_ev fn3 rfl (S3 m n hm hn E0) w
end Go.Proofs.Ytbipfjcfggdjiaa.X
