/- The space seat: the range over pages: each page in turn, till one says no. -/
import Derived.Test.YtiigiodagfalpaaSpaceT3
import Derived.Test.YtiigiodagfalpaaZxC
set_option maxRecDepth 100000
set_option maxHeartbeats 1000000
namespace Go.Proofs.Ytiigiodagfalpaa.X
open Go.Ahe Go.Ahe.X

/-- What is asked of a range's rounds: J holds ahead of round k; Dn behind one that says no. -/
structure It (y : Nat) (ps : List Nat) (D : Nat → Prop) (J : Nat → Hp → Prop) (Dn : Hp → Prop) : Prop where
  new : ∀ k H o, J k H → J k (H.new o)
  hy : ∀ (k : Nat) (H : Hp) (h : k < ps.length), J k H → ∃ (b : Bool) (H' : Hp), ev C0 (.yield y) [U ps[k]] H = some (.bool b, H') ∧ Keep D H H' ∧ (b = true → J (k + 1) H') ∧ (b = false → Dn H')

section
variable {y : Nat} {ps : List Nat} {D : Nat → Prop} {J : Nat → Hp → Prop} {Dn : Hp → Prop} (I0 : It y ps D J Dn)
include I0

theorem loop37i {r : Rg} (hin : 1 ≤ r.count ∧ r.count ≤ 16 ∧ (r.first : Int) + r.count ≤ 34359738368 ∧ r.stop = r.first + r.count) {q base : Nat} (hps : ∀ j, j < r.count.toNat → ps[base + j]? = some (r.first + j)) (hq : ¬ D q) (w : Value) (a b : Int) :
    ∀ (m j fuel : Nat) (H : Hp), j + m = r.count.toNat → m < fuel → J (base + j) H → H.get q = some (.cells r.enc false) → q < H.next →
    ∃ H', Keep D H H' ∧ ((J (base + r.count.toNat) H' ∧ ∀ X, loopS F37b1L fuel [.func (.yield y) #[] #[], P q 0, U ((r.first : Int) + j), w, I a, I b] H X = nth X 1 [.func (.yield y) #[] #[], w, I a, I b] H') ∨
      (Dn H' ∧ ∀ X, loopS F37b1L fuel [.func (.yield y) #[] #[], P q 0, U ((r.first : Int) + j), w, I a, I b] H X = nth X 0 [] H'))
  | 0, j, fuel + 1, H, hj, _, hJ, hg, hlt => by
    have hd : ldA 3 (P q 0) H = some r.val := by rw [ldA_get hg]; rfl
    have s30 := S30 r H
    have g : ¬ ((r.first : Int) + j < r.stop) := by rw [hin.2.2.2]; omega
    refine ⟨H, .refl _ _, .inl ⟨by rwa [show r.count.toNat = j by omega], fun X => ?_⟩⟩
    simp [-nth_eq, loopS, F37b1L, F37b1, hd, s30, g]
  | m + 1, j, fuel + 1, H, hj, hm, hJ, hg, hlt => by
    have hd : ldA 3 (P q 0) H = some r.val := by rw [ldA_get hg]; rfl
    have s30 := S30 r H
    have g : (r.first : Int) + j < r.stop := by rw [hin.2.2.2]; omega
    have hp := hps j (by omega)
    obtain ⟨hpl, hpe⟩ := List.getElem?_eq_some_iff.1 hp
    obtain ⟨bb, H1, e1, k1, t1, f1⟩ := I0.hy (base + j) H hpl hJ
    rw [hpe, show (((r.first + j : Nat) : Int)) = (r.first : Int) + j from rfl] at e1
    have hg1 : H1.get q = some (.cells r.enc false) := (k1.get q hlt hq).trans hg
    have wi : IntKind.u64.wrap ((r.first : Int) + j + 1) = (r.first : Int) + j + 1 := wr_u64 (by omega) (by omega)
    cases bb with
    | false =>
      refine ⟨H1, k1, .inr ⟨f1 rfl, fun X => ?_⟩⟩
      simp [-nth_eq, loopS, F37b1L, F37b1, hd, s30, g, e1]
    | true =>
      obtain ⟨H2, k2, h2⟩ := loop37i hin hps hq w a b m (j + 1) fuel H1 (by omega) (by omega) (t1 rfl) hg1 (Nat.lt_of_lt_of_le hlt k1.next)
      rw [show ((r.first : Int) + ((j + 1 : Nat) : Int)) = (r.first : Int) + j + 1 by omega] at h2
      refine ⟨H2, k1.trans k2, h2.imp (fun h => ⟨h.1, fun X => ?_⟩) (fun h => ⟨h.1, fun X => ?_⟩)⟩
      · rw [← h.2 X]
        simp [-nth_eq, loopS, F37b1L, F37b1, hd, s30, g, e1, wi]
      · rw [← h.2 X]
        simp [-nth_eq, loopS, F37b1L, F37b1, hd, s30, g, e1, wi]

theorem loop37o {l : List Rg} (hc : check l = 0) (hps : ps = pgs l) {w : Value} {Q : Nat → Prop} {n0 : Nat} (hQ : ∀ i, Q i → i < n0 ∧ ¬ D i) (hD : ∀ i, D i → i < n0) :
    ∀ (m k fuel : Nat) (H : Hp), k + m = l.length → m < fuel → n0 ≤ H.next → H.floor ≤ H.next → J (pgs (l.take k)).length H → Sp Rg.enc Q H w l →
    ∃ H', Keep D H H' ∧ ((J ps.length H' ∧ ∀ X, loopS F37b0L fuel [.func (.yield y) #[] #[], w, I l.length, I k] H X = nth X 1 [] H') ∨
      (Dn H' ∧ ∀ X, loopS F37b0L fuel [.func (.yield y) #[] #[], w, I l.length, I k] H X = nth X 0 [] H'))
  | 0, k, fuel + 1, H, hk, _, hn, hf, hJ, hs => by
    have g : ¬ ((k : Int) < l.length) := by omega
    rw [List.take_of_length_le (by omega), ← hps] at hJ
    refine ⟨H, .refl _ _, .inl ⟨hJ, fun X => ?_⟩⟩
    simp [-nth_eq, loopS, F37b0L, F37b0, g]
  | m + 1, k, fuel + 1, H, hk, hm, hn, hf, hJ, hs => by
    have h8 := (check_ok hc).1
    have g : (k : Int) < l.length := by omega
    have hkl : k < l.length := by omega
    have hin := check_in hc l[k] (List.getElem_mem hkl)
    obtain ⟨i, io, hi, h1, h2⟩ := Sl.at enc_len (hs.same (Q' := fun i => i < H.next) (fun i hi => Nat.lt_of_lt_of_le (hQ i hi).1 hn) (fun _ _ => rfl)) hkl
    have hpg : (pgs (l.take k)).length + l[k].count.toNat = (pgs (l.take (k + 1))).length := by
      unfold pgs
      rw [List.take_succ_eq_append_getElem hkl, List.flatMap_append]
      simp [Rg.pg]
    have hpsj : ∀ j, j < l[k].count.toNat → ps[(pgs (l.take k)).length + j]? = some (l[k].first + j) := fun j hj => by
      have hsplit : ps = pgs (l.take k) ++ (l[k].pg ++ pgs (l.drop (k + 1))) := by
        rw [hps]
        conv => lhs; rw [← List.take_append_drop k l, List.drop_eq_getElem_cons hkl]
        unfold pgs
        rw [List.flatMap_append, List.flatMap_cons]
      rw [hsplit, List.getElem?_append_right (by omega), Nat.add_sub_cancel_left, List.getElem?_append_left (by simp [Rg.pg]; omega)]
      simp [Rg.pg, hj]
    generalize hr : l[k] = r at *
    have h2 : ldA 3 (P i io) H = some r.val := h2
    have hne : i ≠ H.next := Nat.ne_of_lt hi
    have hqD : ¬ D H.next := fun h => by have := hD _ h; omega
    have hJ1 := I0.new _ H (.cells r.enc false) hJ
    obtain ⟨H1, k1, c1⟩ := loop37i I0 hin hpsj hqD w l.length k r.count.toNat 0 rnd (H.new (.cells r.enc false)) (by omega) (by rw [rnd_eq]; show _ < 4611686018427387904; omega) hJ1 (by rw [Hp.get_new, if_pos rfl]) (by rw [Hp.next_new]; exact Nat.lt_succ_self _)
    rw [show (r.first : Int) + ((0 : Nat) : Int) = r.first by omega] at c1
    have kk : Keep D H H1 := (Keep.new D H _).trans k1
    have wk : IntKind.i64.wrap ((k : Int) + 1) = (k : Int) + 1 := wr_i64 (by omega) (by omega)
    rcases c1 with ⟨j1, c1⟩ | ⟨d1, c1⟩
    · rw [hpg] at j1
      obtain ⟨H2, k2, c2⟩ := loop37o hc hps hQ hD m (k + 1) fuel H1 (by omega) (by omega) (Nat.le_trans hn kk.next) (by rw [kk.floor]; exact Nat.le_trans hf kk.next) j1 (hs.keep kk fun i hi => ⟨Nat.lt_of_lt_of_le (hQ i hi).1 hn, (hQ i hi).2⟩)
      rw [show ((k + 1 : Nat) : Int) = (k : Int) + 1 from rfl] at c2
      refine ⟨H2, kk.trans k2, c2.imp (fun h => ⟨h.1, fun X => ?_⟩) (fun h => ⟨h.1, fun X => ?_⟩)⟩
      · rw [← h.2 X]
        simp [-nth_eq, loopS, F37b0L, F37b0, g, h1, h2, hne, hf, Rg.enc]
        have c1 := fun X => c1 X
        simp only [Rg.enc] at c1
        rw [c1]
        simp [wk]
      · rw [← h.2 X]
        simp [-nth_eq, loopS, F37b0L, F37b0, g, h1, h2, hne, hf, Rg.enc]
        simp only [Rg.enc] at c1
        rw [c1]
        simp [wk]
    · refine ⟨H1, kk, .inr ⟨d1, fun X => ?_⟩⟩
      simp [-nth_eq, loopS, F37b0L, F37b0, g, h1, h2, hne, hf, Rg.enc]
      simp only [Rg.enc] at c1
      rw [c1]
      simp

/-- The range's function. -/
theorem S37 {l : List Rg} (hps : ps = if check l = 0 then pgs l else []) {w : Value} {c : Nat} {Q : Nat → Prop} {H : Hp} (hQ : ∀ i, Q i → i < H.next ∧ ¬ D i) (hD : ∀ i, D i → i < H.next) (hf : H.floor ≤ H.next) (hJ : J 0 H) (hcell : H.get c = some (.cells [w] false)) (hs : Sp Rg.enc Q H w (if check l = 0 then l else [])) :
    ∃ H', call 37 [.func (.yield y) #[] #[], P c 0] H = some (.tuple #[], H') ∧ Keep D H H' ∧ (J ps.length H' ∨ Dn H') := by
  have hl1 : ld1 (P c 0) H = some w := by rw [ld1_get hcell]; rfl
  have hln := hs.len
  by_cases hc : check l = 0
  · rw [if_pos hc] at hps hs hln
    obtain ⟨H', k1, c1⟩ := loop37o I0 hc hps hQ hD l.length 0 rnd H (by omega) (by have := (check_ok hc).1; rw [rnd_eq]; show _ < 4611686018427387904; omega) (Nat.le_refl _) hf (by simpa [pgs] using hJ) hs
    rcases c1 with ⟨h1, c1⟩ | ⟨h1, c1⟩
    · refine ⟨H', c37 ?_, k1, .inl h1⟩
      have c1 := c1 [fun _ h => some (.tuple #[], h), fun _ h => some (.tuple #[], h)]
      simp at c1
      simp [F37, hl1, hln, c1]
    · refine ⟨H', c37 ?_, k1, .inr h1⟩
      have c1 := c1 [fun _ h => some (.tuple #[], h), fun _ h => some (.tuple #[], h)]
      simp at c1
      simp [F37, hl1, hln, c1]
  · rw [if_neg hc] at hps hs hln
    subst hps
    refine ⟨H, c37 ?_, .refl _ _, .inl hJ⟩
    have : ∃ m, rnd = m + 1 := ⟨4611686018427387903, by rw [rnd_eq]; rfl⟩
    obtain ⟨m, hm⟩ := this
    simp [F37, hl1, hln, hm, loopS, F37b0L, F37b0]
end
end Go.Proofs.Ytiigiodagfalpaa.X
