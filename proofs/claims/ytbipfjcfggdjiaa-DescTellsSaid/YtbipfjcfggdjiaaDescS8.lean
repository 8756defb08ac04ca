/- The desc seat: the law DescTells. -/
import Derived.Test.YtbipfjcfggdjiaaDescS7
set_option maxRecDepth 100000
set_option maxHeartbeats 1000000
namespace Go.Proofs.Ytbipfjcfggdjiaa.X
open Go.Ahe Go.Ahe.X Go.RowKit

theorem decS_page (w : Nat) : (okPb w = true ∧ decS w 3 = (wD 2 w, 0)) ∨ (okPb w = false ∧ (decS w 3 = (zD, 0) ∨ decS w 3 = (zD, 30))) := by
  cases h : okPb w with
  | true => exact .inl ⟨rfl, decS_ok h⟩
  | false =>
    have h := of_decide_eq_false h
    right
    refine ⟨rfl, ?_⟩
    unfold decS
    rw [if_neg (by omega), if_pos rfl, if_neg h]
    split
    · exact .inl rfl
    · exact .inr rfl

theorem S14 (w : Nat) (hw : w < 18446744073709551616) (H : Hp) : call 14 [U w] H = some (.tuple #[U (tch w), .bool (tchb w)], H) := by
  refine c14 rfl ?_
  have hf := fresh_ok H [U ↑w]
  generalize H.fresh [U ↑w] = H at *
  have q := S13 w hw 3
  rcases decS_page w with ⟨h, hd⟩ | ⟨h, hd | hd⟩
  · rw [hd] at q
    unfold wD at q
    cases h2 : bt w 10 with
    | true =>
      rw [h2] at q
      simp [F14, q, tch, tchb, h, h2, hf, le_more]
    | false =>
      rw [h2] at q
      have h3 : tchb w = true := by simp [tchb, h, h2]
      have hlt := (tch_ok h3).2.2.2.2.2.2
      have hwr : IntKind.u64.wrap ((w : Int) + 1024) = (w : Int) + 1024 := wr_u64 (by omega) (by omega)
      simp [F14, q, tch, h3, hf, le_more, hwr]
  · rw [hd] at q
    simp [F14, q, tch, tchb, h, hf, le_more]
  · rw [hd] at q
    simp [F14, q, tch, tchb, h, hf, le_more]

theorem S15 (a b : Nat) (ha : a < 18446744073709551616) (hb : b < 18446744073709551616) (H : Hp) : call 15 [U a, U b] H = some (.bool (dfb a b), H) := by
  refine c15 rfl ?_
  have hf := fresh_ok H [U ↑a, U ↑b]
  generalize H.fresh [U ↑a, U ↑b] = H at *
  have qa := S13 a ha 3
  have qb := S13 b hb 3
  rcases decS_page a with ⟨h, hd⟩ | ⟨h, hd | hd⟩ <;> rcases decS_page b with ⟨h', hd'⟩ | ⟨h', hd' | hd'⟩ <;> rw [hd] at qa <;> rw [hd'] at qb <;> simp only [wD] at qa qb
  · simp [F15, qa, qb, dfb, h, h', hf, le_more]
    omega
  all_goals simp [F15, qa, qb, dfb, h, h', hf, le_more]

theorem S6 (k f : Int) (a r u n : Bool) (w v : Nat) (hw : w < 18446744073709551616) (hv : v < 18446744073709551616) (l : Int) (H : Hp) : call 6 [D k f a r u n, U w, U v, I l] H = some (.bool true, H) := by
  refine c6 rfl ?_
  have hf := fresh_ok H [D k f a r u n, U w, U v, I l]
  generalize H.fresh [D k f a r u n, U w, U v, I l] = H at *
  have q1 := S11 k f a r u n
  have q2 := S12 k f a r u n
  have q3 := S8 w hw l
  have q4 := S13 w hw l
  have q5 := S7 w hw
  have q6 := S14 w hw
  have q7 := S9 w v hw hv
  have q8 := S15 w v hw hv
  have hd : ∃ k f a r u n e, decS w l = (D k f a r u n, e) := by
    rcases decS_cases w l with h | ⟨h, _⟩ | ⟨h, _⟩ | ⟨k, _, h, _⟩ <;> rw [h]
    · exact ⟨_, _, _, _, _, _, _, rfl⟩
    · exact ⟨_, _, _, _, _, _, _, rfl⟩
    · exact ⟨_, _, _, _, _, _, _, rfl⟩
    · unfold wD; exact ⟨_, _, _, _, _, _, _, rfl⟩
  obtain ⟨k2, f2, a2, r2, u2, n2, e2, hd⟩ := hd
  rw [hd] at q3 q4
  generalize encW k f a r u n = W1 at *
  generalize encE k f a r u n = E1 at *
  generalize tch w = T at *
  generalize tchb w = tb at *
  generalize dfb w v = db at *
  simp [F6, q1, q2, q3, q4, q5, q6, q7, q8, hf, le_more, S10, eq_bool, ne_bool, eq_D]
theorem walk6 (k f : Int) (a r u n : Bool) (x y l : Int) (w : World) (_ : (Lit.int .i8 k).wf = true) (_ : (Lit.int .i64 f).wf = true) (hx : (Lit.int .u64 x).wf = true) (hy : (Lit.int .u64 y).wf = true) (_ : (Lit.int .i64 l).wf = true) :
    Calls Try.prog 6 #[.agg #[.int .i8 k, .int .i64 f, .bool a, .bool r, .bool u, .bool n], .int .u64 x, .int .u64 y, .int .i64 l] w fun e w' => e = .returned (.bool true) ∧ Below w.heap.size w w' := by
  obtain ⟨m, rfl, hm⟩ := wf_u64 hx
  obtain ⟨o, rfl, ho⟩ := wf_u64 hy
  exact law_ev fn6 rfl (S6 k f a r u n m o hm ho l E0) w
end Go.Proofs.Ytbipfjcfggdjiaa.X
