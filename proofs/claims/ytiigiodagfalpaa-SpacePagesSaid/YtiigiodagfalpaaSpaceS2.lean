/- The space seat: which region a page is in. -/
import Derived.Test.YtiigiodagfalpaaSpaceS
set_option maxRecDepth 100000
set_option maxHeartbeats 1000000
namespace Go.Proofs.Ytiigiodagfalpaa.X
open Go.Ahe Go.Ahe.X

theorem S28 (r : Rg) (p : Nat) (h1 : 1 ≤ r.count) (h2 : r.count ≤ 16) (hp : p < 18446744073709551616) (H : Hp) : call 28 [r.val, U p] H = some (.bool (r.has p), H) := by
  refine c28 rfl ?_
  have hf := fresh_ok H [r.val, U p]
  generalize H.fresh [r.val, U p] = H at *
  have wc : IntKind.u64.wrap r.count = r.count := wr_u64 (by omega) (by omega)
  unfold Rg.has
  by_cases c : r.first ≤ p
  · have ws : IntKind.u64.wrap ((p : Int) - r.first) = (p : Int) - r.first := wr_u64 (by omega) (by omega)
    have e : decide ((p : Int) - r.first < r.count) = decide ((p : Int) < r.first + r.count) := decide_eq_decide.2 (by omega)
    simp [F28, hf, le_more, c, wc, ws]
    omega
  · simp [F28, hf, le_more, c]

theorem loop10 {v : Value} {l : List Rg} {p : Nat} (hp : p < 18446744073709551616) {H : Hp} (hs : Sl Rg.enc H v l) {j : Nat} {cs : List Value} (hg : H.get j = some (.cells cs false)) (hj : H.floor ≤ j) (hc : cs.length = 3) (X : List Kx) (hv : ∀ r ∈ l, check l = 0 → 1 ≤ r.count ∧ r.count ≤ 16) (hl8 : check l = 0 → l.length ≤ 8) : ∀ (m k fuel : Nat), k + m = l.length → m < fuel →
    loopS F10b0L fuel [v, U p, P j 0, I k] H X = match (if check l = 0 then (l.drop k).find? (Rg.has · p) else none) with
      | some r => nth X 0 [P j 0, .bool true] (H.setO j (.cells r.enc false))
      | none => nth X 1 [P j 0] H
  | 0, k, fuel + 1, hk, _ => by
    have g : ¬ (k : Int) < l.length := by omega
    rw [List.drop_eq_nil_of_le (by omega)]
    have hln := hs.len
    have hkl : ¬ k < l.length := by omega
    simp only [loopS, F10b0L, gv, List.getD_cons_zero, List.getD_cons_succ]
    simp [-nth_eq, F10b0, hln, hkl]
  | m + 1, k, fuel + 1, hk, hm => by
    have hkl : k < l.length := by omega
    have hln := hs.len
    have s11 := S11 H hs
    by_cases hch : check l = 0
    · obtain ⟨i, io, hi, h1, h2⟩ := hs.at enc_len hkl
      have hd : l.drop k = l[k] :: l.drop (k + 1) := List.drop_eq_getElem_cons hkl
      have hvk := hv l[k] (List.getElem_mem hkl) hch
      have ih := loop10 hp hs hg hj hc X hv hl8 m (k + 1) fuel (by omega) (by omega)
      rw [if_pos hch] at ih ⊢
      rw [hd]
      generalize l[k] = r at *
      have h2 : ldA 3 (P i io) H = some r.val := h2
      have s28 := S28 r p hvk.1 hvk.2 hp
      have h8 := hl8 hch
      have wk : IntKind.i64.wrap ((k : Int) + 1) = (k : Int) + 1 := wr_i64 (by omega) (by omega)
      have hst : st 3 (P j 0) r.val H = some (.tuple #[], H.setO j (.cells r.enc false)) := by
        rw [st_get hg hj 3 0 rfl, if_pos ⟨rfl, by omega⟩, List.drop_eq_nil_of_le (by omega)]; rfl
      rw [hch] at s11
      simp only [loopS, F10b0L, gv, List.getD_cons_zero, List.getD_cons_succ]
      rw [show ((k + 1 : Nat) : Int) = (k : Int) + 1 by omega] at ih
      cases hh : r.has p with
      | true =>
        rw [hh] at s28
        simp [-nth_eq, F10b0, hln, hkl, s11, h1, h2, s28, hst, List.find?_cons, hh]
      | false =>
        rw [hh] at s28
        simp [-nth_eq, F10b0, hln, hkl, s11, h1, h2, s28, hst, List.find?_cons, hh, wk, ih]
    · rw [if_neg hch]
      simp only [loopS, F10b0L, gv, List.getD_cons_zero, List.getD_cons_succ]
      simp [-nth_eq, F10b0, hln, hkl, s11, hch]

theorem check_ok {l : List Rg} (h : check l = 0) : l.length ≤ 8 ∧ ∃ m, chk l 0 0 = some m ∧ m ≤ 16 := by
  unfold check at h
  split at h
  · cases h
  · rename_i h8
    cases hc : chk l 0 0 with
    | none => rw [hc] at h; cases h
    | some m =>
      rw [hc] at h
      simp only at h
      split at h
      · cases h
      · exact ⟨by omega, m, rfl, by omega⟩
theorem check_in {l : List Rg} (h : check l = 0) : ∀ r ∈ l, 1 ≤ r.count ∧ r.count ≤ 16 ∧ (r.first : Int) + r.count ≤ 34359738368 ∧ r.stop = r.first + r.count := fun r hr => by
  obtain ⟨_, m, hm, _⟩ := check_ok h
  obtain ⟨a, b, c, _, d⟩ := (chk_ok hm).1 r hr
  exact ⟨a, b, c, d⟩

/-- What finding hands back. -/
def fnd (l : List Rg) (p : Nat) : Value := match find l p with
  | some r => .tuple #[r.val, .bool true]
  | none => .tuple #[zR.val, .bool false]

theorem S10 {v : Value} {l : List Rg} {p : Nat} (hp : p < 18446744073709551616) (H : Hp) (hs : Sl Rg.enc H v l) (hl : l.length < 4611686018427387903) : call 10 [v, U p] H = some (fnd l p, H) := by
  refine c10 (by unfold fnd; cases find l p <;> rfl) ?_
  have hs := hs.fresh (args := [v, U p]) (List.mem_cons_self ..)
  have hf := fresh_ok H [v, U p]
  generalize H.fresh [v, U p] = H at *
  have hl := loop10 hp (hs.new (.cells [U 0, I 0, .bool false] false)) (j := H.next) (cs := [U 0, I 0, .bool false]) (by rw [Hp.get_new, if_pos rfl]) (by simpa using hf) rfl
    [fun x h => B (ldA 3 (gv x 0) h) fun r => some (.tuple #[r, gv x 1], h), fun x h => B (bd [(0, 1), (1, 1), (2, 1)] [U 0, I 0, .bool false] []) fun t => B (st 3 (gv x 0) t h) fun q => B (ldA 3 (gv x 0) q.2) fun r => some (.tuple #[r, .bool false], q.2)]
    (fun r hr hc => by have := check_in hc r hr; exact ⟨this.1, this.2.1⟩) (fun hc => (check_ok hc).1) l.length 0 rnd (by omega) (by rw [rnd_eq]; show _ < 4611686018427387904; omega)
  rw [List.drop_zero] at hl
  have hl : loopS F10b0L rnd [v, U p, P H.next 0, I 0] (H.new (.cells [U 0, I 0, .bool false] false)) _ = _ := hl
  simp only [F10, al_eq, B_some, hl, fnd, find]
  cases (if check l = 0 then l.find? (Rg.has · p) else none) with
  | some r => simp [Hp.setO_new, Rg.enc]
  | none => simp [hf, le_more, zR]
end Go.Proofs.Ytiigiodagfalpaa.X
