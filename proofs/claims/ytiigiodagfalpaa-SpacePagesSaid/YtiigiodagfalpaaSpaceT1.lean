/- The space seat: whole stretches. -/
import Derived.Test.YtiigiodagfalpaaSpaceG
import Derived.Test.YtiigiodagfalpaaSpaceS5
import Derived.Test.YtiigiodagfalpaaZxC
set_option maxRecDepth 100000
set_option maxHeartbeats 1000000
namespace Go.Proofs.Ytiigiodagfalpaa.X
open Go.Ahe Go.Ahe.X

theorem S15 (H : Hp) : call 15 [] H = some (.bool true, H) := pure_any noX fn15 rfl rfl (d := 40) (H0 := E0) (H1 := E0) (by kernel_rfl) H

/-- From a page on so many pages are in regions. -/
def cov (l : List Rg) : Nat → Nat → Bool
  | _, 0 => true
  | p, m + 1 => (find l p).isSome && cov l (p + 1) m
theorem cov_skip {l : List Rg} : ∀ {d p m : Nat}, d ≤ m → (∀ i, i < d → (find l (p + i)).isSome = true) → cov l p m = cov l (p + d) (m - d)
  | 0, p, m, _, _ => by simp
  | d + 1, p, 0, h, _ => by omega
  | d + 1, p, m + 1, h, hf => by
    have h0 := hf 0 (by omega)
    rw [Nat.add_zero] at h0
    rw [cov, h0, Bool.true_and, cov_skip (d := d) (by omega) (fun i hi => by have := hf (i + 1) (by omega); rwa [show p + (i + 1) = p + 1 + i by omega] at this)]
    rw [show p + 1 + d = p + (d + 1) by omega, show m + 1 - (d + 1) = m - d by omega]
def whole (l : List Rg) (p : Nat) (c : Int) : Bool := decide (1 ≤ c) && (decide (c ≤ 16) && (decide ((p : Int) ≤ 34359738368 - c) && cov l p c.toNat))

/-- The document's loop. -/
theorem loop22 {v : Value} {l : List Rg} {p : Nat} {c : Int} {H : Hp} (hs : Sl Rg.enc H v l) (hl : l.length < 4611686018427387903) (hc : 1 ≤ c ∧ c ≤ 16) (hp : (p : Int) ≤ 34359738368 - c) (hf : H.floor ≤ H.next) (X : List Kx) : ∀ (m k fuel : Nat), (k : Int) + m = c → m < fuel →
    ∀ H1, Keep (fun _ => False) H H1 → ∃ H', loopS F22b0L fuel [v, U p, I c, I k] H1 X = if cov l (p + k) m = true then nth X 1 [] H' else nth X 0 [.bool false] H'
  | 0, k, fuel + 1, hk, _, H1, hk1 => by
    have g : ¬ (k : Int) < c := by omega
    refine ⟨H1, ?_⟩
    simp [-nth_eq, loopS, F22b0L, F22b0, g, cov]
  | m + 1, k, fuel + 1, hk, hm, H1, hk1 => by
    have g : (k : Int) < c := by omega
    have wk : IntKind.u64.wrap (k : Int) = (k : Int) := wr_u64 (by omega) (by omega)
    obtain ⟨q, hq⟩ : ∃ q, q = p + k := ⟨_, rfl⟩
    have wp : IntKind.u64.wrap ((p : Int) + k) = (q : Int) := by rw [wr_u64 (by omega) (by omega)]; omega
    have wi : IntKind.i64.wrap ((k : Int) + 1) = (k : Int) + 1 := wr_i64 (by omega) (by omega)
    rw [← hq]
    have hs1 : Sl Rg.enc H1 v l := (hs.keep (Nat.le_refl _) hk1 (fun _ _ h => h)).mono hk1.next
    have s10 := S10 (p := q) (by omega) H1 hs1 hl
    have hf1 : H1.floor ≤ H1.next := by rw [hk1.floor]; exact Nat.le_trans hf hk1.next
    simp only [loopS, F22b0L, gv, List.getD_cons_zero, List.getD_cons_succ]
    unfold fnd at s10
    cases hfd : find l q with
    | none =>
      rw [hfd] at s10
      simp only at s10
      refine ⟨H1.new (.cells [U 0, I 0, .bool false] false), ?_⟩
      simp only [cov, hfd]
      simp [-nth_eq, F22b0, g, wk, wp, s10, hf1, zR, Rg.enc]
    | some r =>
      rw [hfd] at s10
      simp only at s10
      obtain ⟨H', h⟩ := loop22 hs hl hc hp hf X m (k + 1) fuel (by omega) (by omega) (H1.new (.cells r.enc false)) (hk1.trans (.new _ _ _))
      refine ⟨H', ?_⟩
      simp only [cov, hfd, Option.isSome_some, Bool.true_and]
      rw [show p + (k + 1) = q + 1 by omega, show ((k + 1 : Nat) : Int) = (k : Int) + 1 from rfl] at h
      rw [← h]
      simp [-nth_eq, F22b0, g, wk, wp, wi, s10, hf1, Rg.enc]

theorem S22 {v : Value} {l : List Rg} {p : Nat} (hp : p < 18446744073709551616) (c : Int) (H : Hp) (hs : Sl Rg.enc H v l) (hl : l.length < 4611686018427387903) : call 22 [v, U p, I c] H = some (.bool (whole l p c), H) := by
  refine c22 rfl ?_
  have hs := hs.fresh (args := [v, U p, I c]) (List.mem_cons_self ..)
  have hf := fresh_ok H [v, U p, I c]
  generalize H.fresh [v, U p, I c] = H at *
  unfold whole
  by_cases c1 : c < 1
  · have : ¬ 1 ≤ c := by omega
    simp [F22, c1, this]
  · have c1' : 1 ≤ c := by omega
    by_cases c2 : 16 < c
    · have : ¬ c ≤ 16 := by omega
      simp [F22, c1, c2, this]
    · have c2' : c ≤ 16 := by omega
      have wc : IntKind.u64.wrap c = c := wr_u64 (by omega) (by omega)
      have ws : IntKind.u64.wrap (34359738368 - c) = 34359738368 - c := wr_u64 (by omega) (by omega)
      by_cases c3 : 34359738368 - c < p
      · have : ¬ ((p : Int) ≤ 34359738368 - c) := by omega
        simp [F22, c1, c2, wc, ws, c3, this]
      · have c3' : (p : Int) ≤ 34359738368 - c := by omega
        obtain ⟨H', h⟩ := loop22 hs hl ⟨c1', c2'⟩ c3' hf [fun x h => some (gv x 0, h), fun _ h => some (.bool true, h)] c.toNat 0 rnd (by omega) (by rw [rnd_eq]; show _ < 4611686018427387904; omega) H (.refl _ _)
        rw [Nat.add_zero] at h
        simp only [gv_eq] at h
        simp [F22, c1, c2, c1', c2', wc, ws, c3, c3']
        have h := h
        simp at h
        rw [h]
        cases cov l p c.toNat <;> simp

/-- What the search tells of regions that may be. -/
theorem at31 {l : List Rg} (hc : check l = 0) (p : Nat) : ∃ q, q ≤ l.length ∧ (∀ k (hk : k < l.length), (l[k].first : Int) + l[k].count ≤ p ↔ k < q) ∧
    (∀ (h : q < l.length), find l p = if l[q].first ≤ p then some l[q] else none) ∧ (¬ q < l.length → find l p = none) ∧
    ∀ v H, Sl Rg.enc H v l → call 31 [v, U p] H = some (.tuple #[I q, .bool (if h : q < l.length then decide (l[q].first ≤ p) else false)], H) := by
  obtain ⟨h8, m, hm, _⟩ := check_ok hc
  obtain ⟨c1, c2⟩ := chk_ok hm
  obtain ⟨q, hql, hq⟩ := cut_ex p l (fun r hr => (c1 r hr).1) c2
  have hfc := find_cut (fun r hr => (c1 r hr).1) c2 hq
  refine ⟨q, hql, hq, fun h => ?_, fun h => ?_, fun v H hs => S31 (p := p) (q := q) _ hs (by omega) (fun k hk => by rw [← hq k hk, (c1 l[k] (List.getElem_mem hk)).2.2.2.2]) hql⟩
  · unfold find; rw [if_pos hc, hfc, dif_pos h]
  · unfold find; rw [if_pos hc, hfc, dif_neg h]

/-- The program's loop. -/
theorem loop21 {v : Value} {l : List Rg} {last : Nat} {H : Hp} (hs : Sl Rg.enc H v l) (hc : check l = 0) (hl : last < 9223372036854775808) (X : List Kx) : ∀ (m p fuel : Nat), last - p ≤ m → m < fuel → p < 9223372036854775808 →
    loopS F21b0L fuel [v, U p, U last] H X = if cov l p (last - p) = true then nth X 1 [] H else nth X 0 [.bool false] H
  | m, p, 0, hm, hmf, hp => absurd hmf (Nat.not_lt_zero _)
  | m, p, fuel + 1, hm, hmf, hp => by
    simp only [loopS, F21b0L, gv, List.getD_cons_zero, List.getD_cons_succ]
    by_cases g : p < last
    · have gi : (p : Int) < last := by omega
      obtain ⟨q, hql, hq, f1, f2, s31⟩ := at31 hc p
      have s31 := s31 v H hs
      by_cases hqn : q < l.length
      · have f1 := f1 hqn
        simp only [hqn, dif_pos] at s31
        obtain ⟨b, io, hb, e1, e2⟩ := hs.at enc_len hqn
        have hin := check_in hc l[q] (List.getElem_mem hqn)
        have hst : ¬ ((l[q].first : Int) + l[q].count ≤ p) := fun hx => Nat.lt_irrefl _ ((hq q hqn).1 hx)
        have hfd : ∀ j, l[q].first ≤ j → (j : Int) < l[q].first + l[q].count → (find l j).isSome = true := fun j h1 h2 => by
          unfold find
          rw [if_pos hc, List.find?_isSome]
          exact ⟨l[q], List.getElem_mem hqn, by unfold Rg.has; simp; omega⟩
        generalize l[q] = r at *
        have e2 : ldA 3 (P b io) H = some r.val := e2
        have s30 := S30 r H
        by_cases hfp : r.first ≤ p
        · obtain ⟨e, he⟩ : ∃ e : Nat, r.stop = e ∧ (e : Int) = r.first + r.count := ⟨(r.first + r.count).toNat, by rw [hin.2.2.2]; omega, by omega⟩
          simp only [hfp, decide_true] at s31
          rw [he.1] at s30
          have ih := loop21 hs hc hl X (m - 1) e fuel (by omega) (by omega) (by omega)
          have hcv : cov l p (last - p) = cov l e (last - e) := by
            by_cases hle : e ≤ last
            · rw [cov_skip (d := e - p) (by omega) (fun i hi => hfd _ (by omega) (by omega)), show p + (e - p) = e by omega, show last - p - (e - p) = last - e by omega]
            · rw [cov_skip (d := last - p) (Nat.le_refl _) (fun i hi => hfd _ (by omega) (by omega)), show last - p - (last - p) = 0 by omega, show last - e = 0 by omega]
              rfl
          rw [hcv, ← ih]
          simp [-nth_eq, F21b0, gi, s31, e1, e2, s30]
        · simp only [hfp, decide_false] at s31
          rw [if_neg hfp] at f1
          have hcv : cov l p (last - p) = false := by
            obtain ⟨d, hd⟩ : ∃ d, last - p = d + 1 := ⟨last - p - 1, by omega⟩
            rw [hd, cov, f1]; rfl
          simp [-nth_eq, F21b0, gi, s31, hcv]
      · have f2 := f2 hqn
        simp only [hqn, dif_neg, not_false_eq_true] at s31
        have hcv : cov l p (last - p) = false := by
          obtain ⟨d, hd⟩ : ∃ d, last - p = d + 1 := ⟨last - p - 1, by omega⟩
          rw [hd, cov, f2]; rfl
        simp [-nth_eq, F21b0, gi, s31, hcv]
    · have gi : ¬ (p : Int) < last := by omega
      have h0 : last - p = 0 := by omega
      simp [-nth_eq, F21b0, gi, h0, cov]

theorem S21 {v : Value} {l : List Rg} {p : Nat} (hp : p < 18446744073709551616) (c : Int) (H : Hp) (hs : Sl Rg.enc H v l) : call 21 [v, U p, I c] H = some (.bool (whole l p c), H) := by
  refine c21 rfl ?_
  have hs := hs.fresh (args := [v, U p, I c]) (List.mem_cons_self ..)
  have hf := fresh_ok H [v, U p, I c]
  generalize H.fresh [v, U p, I c] = H at *
  have s14 := S14 _ hs
  unfold whole
  by_cases hc : check l = 0
  · by_cases c1 : c < 1
    · have : ¬ 1 ≤ c := by omega
      simp [F21, s14, hc, c1, this]
    · have c1' : 1 ≤ c := by omega
      by_cases c2 : 16 < c
      · have : ¬ c ≤ 16 := by omega
        simp [F21, s14, hc, c1, c2, this]
      · have c2' : c ≤ 16 := by omega
        have wc : IntKind.u64.wrap c = c := wr_u64 (by omega) (by omega)
        have ws : IntKind.u64.wrap (34359738368 - c) = 34359738368 - c := wr_u64 (by omega) (by omega)
        by_cases c3 : 34359738368 - c < p
        · have : ¬ ((p : Int) ≤ 34359738368 - c) := by omega
          simp [F21, s14, hc, c1, c2, wc, ws, c3, this]
        · have c3' : (p : Int) ≤ 34359738368 - c := by omega
          have wl : IntKind.u64.wrap ((p : Int) + c) = ((p + c.toNat : Nat) : Int) := by rw [wr_u64 (by omega) (by omega)]; omega
          have h := loop21 hs hc (last := p + c.toNat) (by omega) [fun x h => some (gv x 0, h), fun _ h => some (.bool true, h)] 16 p rnd (by omega) (by rw [rnd_eq]; show _ < 4611686018427387904; omega) (by omega)
          rw [show p + c.toNat - p = c.toNat by omega] at h
          simp [F21, s14, hc, c1, c2, c1', c2', wc, ws, c3, c3', wl]
          simp at h
          rw [h]
          cases cov l p c.toNat <;> simp
  · have : (decide (1 ≤ c) && (decide (c ≤ 16) && (decide ((p : Int) ≤ 34359738368 - c) && cov l p c.toNat))) = false := by
      by_cases c1 : 1 ≤ c
      · obtain ⟨d, hd⟩ : ∃ d, c.toNat = d + 1 := ⟨c.toNat - 1, by omega⟩
        have : find l p = none := by unfold find; rw [if_neg hc]
        rw [hd, cov, this]
        simp
      · simp [c1]
    rw [this]
    simp [F21, s14, hc]
end Go.Proofs.Ytiigiodagfalpaa.X
