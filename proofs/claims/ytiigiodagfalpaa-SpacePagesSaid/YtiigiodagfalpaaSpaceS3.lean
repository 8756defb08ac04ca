/- The space seat: the search. -/
import Derived.Test.YtiigiodagfalpaaSpaceS2
set_option maxRecDepth 100000
set_option maxHeartbeats 1000000
namespace Go.Proofs.Ytiigiodagfalpaa.X
open Go.Ahe Go.Ahe.X

/-- How many regions end at or before a page. -/
theorem cut_ex (p : Nat) : ∀ (l : List Rg), (∀ r ∈ l, 1 ≤ r.count) → (l.Pairwise fun a b => (a.first : Int) + a.count ≤ b.first) → ∃ q, q ≤ l.length ∧ ∀ k (hk : k < l.length), (l[k].first : Int) + l[k].count ≤ p ↔ k < q
  | [], _, _ => ⟨0, Nat.le_refl _, fun k hk => by simp at hk⟩
  | r :: l, h1, h2 => by
    obtain ⟨h3, h4⟩ := List.pairwise_cons.1 h2
    by_cases hr : (r.first : Int) + r.count ≤ p
    · obtain ⟨q, hq, h⟩ := cut_ex p l (fun x hx => h1 x (List.mem_cons_of_mem _ hx)) h4
      refine ⟨q + 1, by simpa using hq, fun k hk => ?_⟩
      cases k with
      | zero => simpa using hr
      | succ k => simpa using h k (by simpa using hk)
    · refine ⟨0, Nat.zero_le _, fun k hk => ?_⟩
      cases k with
      | zero => simpa using hr
      | succ k =>
        have hk' : k < l.length := by simpa using hk
        have a1 := h3 l[k] (List.getElem_mem hk')
        have a2 := h1 l[k] (List.mem_cons_of_mem _ (List.getElem_mem hk'))
        simp
        omega

theorem find_cut {l : List Rg} {p q : Nat} (h1 : ∀ r ∈ l, 1 ≤ r.count) (h2 : l.Pairwise fun a b => (a.first : Int) + a.count ≤ b.first) (hq : ∀ k (hk : k < l.length), (l[k].first : Int) + l[k].count ≤ p ↔ k < q) :
    l.find? (Rg.has · p) = if h : q < l.length then (if l[q].first ≤ p then some l[q] else none) else none := by
  by_cases h : q < l.length
  · rw [dif_pos h]
    have nq : ¬ ((l[q].first : Int) + l[q].count ≤ p) := fun hc => Nat.lt_irrefl _ ((hq q h).1 hc)
    by_cases hf : l[q].first ≤ p
    · rw [if_pos hf]
      rw [List.find?_eq_some_iff_getElem]
      refine ⟨by unfold Rg.has; simp; omega, q, h, rfl, fun k hk => ?_⟩
      have := (hq k (by omega)).2 hk
      unfold Rg.has; simp; omega
    · rw [if_neg hf, List.find?_eq_none]
      intro x hx
      obtain ⟨k, hk, rfl⟩ := List.getElem_of_mem hx
      rcases Nat.lt_trichotomy k q with hkq | rfl | hkq
      · have := (hq k hk).2 hkq
        unfold Rg.has; simp; omega
      · unfold Rg.has; simp; omega
      · have hp := List.pairwise_iff_getElem.1 h2 q k h hk hkq
        unfold Rg.has; simp; omega
  · rw [dif_neg h, List.find?_eq_none]
    intro x hx
    obtain ⟨k, hk, rfl⟩ := List.getElem_of_mem hx
    have := (hq k hk).2 (by omega)
    unfold Rg.has; simp; omega

/-- What is compared. -/
def cmp (r : Rg) (p : Nat) : Int := if r.stop ≤ p then -1 else if p < r.first then 1 else 0
theorem S43 (r : Rg) (p : Nat) (H : Hp) : call 43 [r.val, U p] H = some (I (cmp r p), H) := by
  refine c43 (by unfold cmp; split <;> first | rfl | (split <;> rfl)) ?_
  have hf := fresh_ok H [r.val, U p]
  generalize H.fresh [r.val, U p] = H at *
  have s30 := S30 r
  unfold cmp
  by_cases c1 : r.stop ≤ p
  · simp [F43, hf, le_more, s30, c1]
  · by_cases c2 : p < r.first
    · simp [F43, hf, le_more, s30, c1, c2]
    · simp [F43, hf, le_more, s30, c1, c2]

theorem loop42 {v : Value} {l : List Rg} {p q : Nat} {H : Hp} (hs : Sl Rg.enc H v l) (X : List Kx) (hl : l.length < 1000000) (hq : ∀ k (hk : k < l.length), l[k].stop ≤ p ↔ k < q) (hql : q ≤ l.length) : ∀ (m i j fuel : Nat), j - i ≤ m → m < fuel → i ≤ q → q ≤ j → j ≤ l.length →
    loopS F42b0L fuel [v, U p, fnv 43, I l.length, I i, I j] H X = nth X 0 [v, U p, fnv 43, I l.length, I q] H
  | m, i, j, 0, _, hm, _, _, _ => absurd hm (Nat.not_lt_zero _)
  | m, i, j, fuel + 1, hk, hm, h1, h2, h3 => by
    simp only [loopS, F42b0L, gv, List.getD_cons_zero, List.getD_cons_succ]
    by_cases g : i < j
    · have hx : ∃ x, x = (i + j) / 2 := ⟨_, rfl⟩
      obtain ⟨x, hx⟩ := hx
      have hxl : x < l.length := by omega
      obtain ⟨b, io, hb, e1, e2⟩ := hs.at enc_len hxl
      have hqx := hq x hxl
      have ih1 := loop42 hs X hl hq hql (m - 1) (x + 1) j fuel (by omega) (by omega)
      have ih2 := loop42 hs X hl hq hql (m - 1) i x fuel (by omega) (by omega)
      generalize l[x] = r at *
      have e2 : ldA 3 (P b io) H = some r.val := e2
      have s43 := S43 r p
      have w1 : IntKind.i64.wrap ((i : Int) + j) = (i + j : Nat) := by rw [wr_i64 (by omega) (by omega)]; omega
      have w2 : IntKind.u64.wrap ((i + j : Nat) : Int) = (i + j : Nat) := wr_u64_nat (by omega)
      have w3 : shiftE .shr .u64 ((i + j : Nat) : Int) 1 = some (U x) := by
        rw [show (1 : Int) = ((1 : Nat) : Int) from rfl, shr_nat _ 1 (by decide) .u64 rfl, hx]
      have w4 : IntKind.i64.wrap (x : Int) = x := wr_i64 (by omega) (by omega)
      have w5 : IntKind.i64.wrap ((x : Int) + 1) = (x + 1 : Nat) := by rw [wr_i64 (by omega) (by omega)]; omega
      have gi : (i : Int) < j := by omega
      by_cases c : r.stop ≤ p
      · have hc : cmp r p = -1 := by unfold cmp; rw [if_pos c]
        rw [hc] at s43
        have := hqx.1 c
        rw [← ih1 (by omega) h2 h3]
        generalize (i + j : Nat) = s at *
        generalize (x + 1 : Nat) = x1 at *
        simp [-nth_eq, F42b0, g, w1, w2, w3, w4, w5, e1, e2, s43]
      · have hc : ¬ cmp r p < 0 := by unfold cmp; rw [if_neg c]; split <;> decide
        generalize cmp r p = cc at *
        have : ¬ x < q := fun h => c (hqx.2 h)
        rw [← ih2 h1 (by omega) (by omega)]
        generalize (i + j : Nat) = s at *
        simp [-nth_eq, F42b0, g, w1, w2, w3, w4, e1, e2, s43, hc]
    · have : i = q := by omega
      subst this
      simp [-nth_eq, F42b0, g]

theorem S42 {v : Value} {l : List Rg} {p q : Nat} (H : Hp) (hs : Sl Rg.enc H v l) (hl : l.length < 1000000) (hq : ∀ k (hk : k < l.length), l[k].stop ≤ p ↔ k < q) (hql : q ≤ l.length) :
    call 42 [v, U p, fnv 43] H = some (.tuple #[I q, .bool (if h : q < l.length then decide (l[q].first ≤ p) else false)], H) := by
  refine c42 rfl ?_
  have hs := hs.fresh (args := [v, U p, fnv 43]) (List.mem_cons_self ..)
  have hf := fresh_ok H [v, U p, fnv 43]
  generalize H.fresh [v, U p, fnv 43] = H at *
  have hln := hs.len
  have h := fun X => loop42 hs X hl hq hql l.length 0 l.length rnd (by omega) (by rw [rnd_eq]; show _ < 4611686018427387904; omega) (by omega) hql (Nat.le_refl _)
  have h : ∀ X, loopS F42b0L rnd [v, U p, fnv 43, I l.length, I 0, I l.length] H X = _ := h
  by_cases g : q < l.length
  · obtain ⟨b, io, hb, e1, e2⟩ := hs.at enc_len g
    have hqx := hq q g
    rw [dif_pos g]
    generalize l[q] = r at *
    have e2 : ldA 3 (P b io) H = some r.val := e2
    have s43 := S43 r p
    have c : ¬ r.stop ≤ p := fun hc => Nat.lt_irrefl _ (hqx.1 hc)
    by_cases c2 : p < r.first
    · have hc : cmp r p = 1 := by unfold cmp; rw [if_neg c, if_pos c2]
      rw [hc] at s43
      have c3 : ¬ r.first ≤ p := by omega
      simp [F42, hln, h, g, e1, e2, s43, c3]
    · have hc : cmp r p = 0 := by unfold cmp; rw [if_neg c, if_neg c2]
      rw [hc] at s43
      have c3 : r.first ≤ p := by omega
      simp [F42, hln, h, g, e1, e2, s43, c3]
  · rw [dif_neg g]
    simp [F42, hln, h, g]
end Go.Proofs.Ytiigiodagfalpaa.X
