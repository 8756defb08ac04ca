/- The space seat: Unmap, Protect. -/
import Derived.Test.YtiigiodagfalpaaSpaceM3
set_option maxRecDepth 100000
set_option maxHeartbeats 4000000
namespace Go.Proofs.Ytiigiodagfalpaa.X
open Go.Ahe Go.Ahe.X

def chgO (l : List Rg) (f : Nat) (c : Int) (inn : Rg → List Rg) : List Rg := l.flatMap (cut1 f (f + c.toNat) inn)
def chgN (l : List Rg) (f : Nat) (c : Int) (inn : Rg → List Rg) : Int :=
  if check l ≠ 0 then 2 else if whole l f c = false then 190 else if 8 < (chgO l f c inn).length then 20 else 0
def chgL (l : List Rg) (f : Nat) (c : Int) (inn : Rg → List Rg) : List Rg := if chgN l f c inn = 0 then chgO l f c inn else []

theorem cut1_len {inn : Rg → List Rg} (h : ∀ x, (inn x).length ≤ 1) (f t : Nat) (r : Rg) : (cut1 f t inn r).length ≤ 3 := by
  unfold cut1
  have h1 := piece_len r.first (min (r.first + r.count.toNat) f) r.write
  have h2 := piece_len (max r.first f) (min (r.first + r.count.toNat) t) r.write
  have h3 := piece_len (max r.first t) (r.first + r.count.toNat) r.write
  generalize (piece (max r.first f) (min (r.first + r.count.toNat) t) r.write) = ps at *
  simp only [List.length_append]
  cases ps with
  | nil => simp; omega
  | cons x ps => cases ps with
    | nil => have := h x; simp; omega
    | cons => simp at h2

/-- What of a stretch is known. -/
theorem whole_in {l : List Rg} {f : Nat} {c : Int} (h : whole l f c = true) : 1 ≤ c ∧ c ≤ 16 ∧ (f : Int) ≤ 34359738368 - c ∧ cov l f c.toNat = true := by
  simpa [whole] using h

theorem S34 {H : Hp} {fv v : Value} {l : List Rg} {inn : Rg → List Rg} {f : Nat} (c : Int) (hp : f < 18446744073709551616) (hf : H.floor ≤ H.next) (hs : Sl Rg.enc H v l) (hcv : cellsOf fv = [fv]) (hone : oneCell fv = true) (hin : Inn H fv inn) :
    ∃ w H', call 34 [v, U f, I c, fv] H = some (.tuple #[w, I (chgN l f c inn)], H') ∧ Sl Rg.enc H' w (chgL l f c inn) ∧ Keep (fun _ => False) H H' := by
  obtain ⟨H1, hH1⟩ : ∃ H1, H1 = H.new (.cells [U f] false) := ⟨_, rfl⟩
  obtain ⟨H2, hH2⟩ : ∃ H2, H2 = H1.new (.cells [fv] false) := ⟨_, rfl⟩
  have k1 : Keep (fun _ => False) H H1 := by rw [hH1]; exact .new _ _ _
  have n1 : H1.next = H.next + 1 := by rw [hH1, Hp.next_new]
  have k12 : Keep (fun _ => False) H1 H2 := by rw [hH2]; exact .new _ _ _
  have n2 : H2.next = H1.next + 1 := by rw [hH2, Hp.next_new]
  have k2 := k1.trans k12
  have hs2 : Sl Rg.enc H2 v l := by rw [hH2, hH1]; exact (hs.new _).new _
  have s14 := S14 H2 hs2
  have s21 := S21 hp c H2 hs2
  have g2 : H2.get H.next = some (.cells [U f] false) := (k12.get _ (by omega) (fun h => h)).trans (by rw [hH1, Hp.get_new, if_pos rfl])
  have m2 : ld1 (P H.next 0) H2 = some (U f) := by rw [ld1_get g2]; rfl
  have nilc : ∀ e, chgN l f c inn = e → e ≠ 0 → chgL l f c inn = [] := fun e h1 h2 => by unfold chgL; rw [h1, if_neg h2]
  by_cases hc : check l = 0
  · cases hw : whole l f c with
    | false =>
      rw [hw] at s21
      have hm : chgN l f c inn = 190 := by unfold chgN; rw [if_neg (by simp [hc]), hw, if_pos rfl]
      refine ⟨_, _, by rw [hm]; exact c34 (r := (.tuple #[.slice none 0 0, I 190], H2)) (by simp [F34, hcv, ← hH1, ← hH2, s14, hc, m2, s21]), by rw [nilc _ hm (by decide)]; exact .inl ⟨rfl, rfl⟩, k2⟩
    | true =>
      rw [hw] at s21
      obtain ⟨w1, w2, w3, _⟩ := whole_in hw
      obtain ⟨t, ht⟩ : ∃ t : Nat, t = f + c.toNat := ⟨_, rfl⟩
      have wc : IntKind.u64.wrap c = c := wr_u64 (by omega) (by omega)
      have wt : IntKind.u64.wrap ((f : Int) + c) = (t : Int) := by rw [wr_u64 (by omega) (by omega)]; omega
      obtain ⟨H3, hH3⟩ : ∃ H3, H3 = H2.new (.cells [U t] false) := ⟨_, rfl⟩
      obtain ⟨H4, hH4⟩ : ∃ H4, H4 = H3.new (.cells [fnv 46] false) := ⟨_, rfl⟩
      have k23 : Keep (fun _ => False) H2 H3 := by rw [hH3]; exact .new _ _ _
      have n3 : H3.next = H2.next + 1 := by rw [hH3, Hp.next_new]
      have k34 : Keep (fun _ => False) H3 H4 := by rw [hH4]; exact .new _ _ _
      have n4 : H4.next = H3.next + 1 := by rw [hH4, Hp.next_new]
      have k4 := k2.trans (k23.trans k34)
      have f2 : H2.floor = H.floor := k2.floor
      have f3 : H3.floor = H.floor := (k2.trans k23).floor
      have st3 : st 1 (P H2.next 0) (U t) (H2.new (.cells [U 0] false)) = some (.tuple #[], H3) := by rw [st_new _ _ rfl (by omega) rfl, hH3]; rfl
      have st4 : st 1 (P H3.next 0) (fnv 46) (H3.new (.cells [.nilFunc] false)) = some (.tuple #[], H4) := by rw [st_new _ _ rfl (by omega) rfl, hH4]; rfl
      have hs4 : Sl Rg.enc H4 v l := by rw [hH4, hH3]; exact (hs2.new _).new _
      have he : Env48 H4 H3.next H.next H2.next H1.next f t fv := ⟨by rw [hH4, Hp.get_new, if_pos rfl], ((k23.trans k34).get _ (by omega) (fun h => h)).trans g2,
        (k34.get _ (by omega) (fun h => h)).trans (by rw [hH3, Hp.get_new, if_pos rfl]), ((k23.trans k34).get _ (by omega) (fun h => h)).trans (by rw [hH2, Hp.get_new, if_pos rfl]), by omega, by omega, by omega, by omega⟩
      obtain ⟨w, H', b1, b2, b3⟩ := S47 (H0 := H4) (a1 := .func (.func 48) #[] #[P H3.next 0, P H.next 0, P H2.next 0, P H1.next 0]) (cut1 f t inn) (cut1_len (fun x => (hin x H (.refl _ _) hf).1) f t) (check_ok hc).1 (fun r hr A hA kA => by
        have hi := check_in hc r hr
        exact S48 hin (c1 := H3.next) ⟨hi.1, hi.2.2⟩ (by omega) (by omega) hA (k4.trans kA) (he.keep (kA.mono (D' := fun i => H4.next ≤ i) fun _ _ h => h.elim) (Nat.le_refl _))) hs4 (by rw [k4.floor]; omega)
      have hln := b2.len
      have hO : chgO l f c inn = l.flatMap (cut1 f t inn) := by unfold chgO; rw [ht]
      rw [← hO] at b2 hln
      by_cases h8 : 8 < (chgO l f c inn).length
      · have hm : chgN l f c inn = 20 := by unfold chgN; rw [if_neg (by simp [hc]), hw, if_neg (by decide), if_pos h8]
        have h8i : (8 : Int) < (chgO l f c inn).length := by omega
        refine ⟨_, _, by rw [hm]; exact c34 (r := (.tuple #[.slice none 0 0, I 20], H')) (by simp [F34, hcv, ← hH1, ← hH2, s14, hc, m2, s21, wc, wt, st3, st4, b1, hln, h8i]), by rw [nilc _ hm (by decide)]; exact .inl ⟨rfl, rfl⟩, k4.trans b3⟩
      · have hm : chgN l f c inn = 0 := by unfold chgN; rw [if_neg (by simp [hc]), hw, if_neg (by decide), if_neg h8]
        have h8i : ¬ (8 : Int) < (chgO l f c inn).length := by omega
        refine ⟨_, _, by rw [hm]; exact c34 (r := (.tuple #[w, I 0], H')) (by simp [F34, hcv, ← hH1, ← hH2, s14, hc, m2, s21, wc, wt, st3, st4, b1, hln, h8i]), by unfold chgL; rw [if_pos hm]; exact b2, k4.trans b3⟩
  · have hm : chgN l f c inn = 2 := by unfold chgN; rw [if_pos hc]
    refine ⟨_, _, by rw [hm]; exact c34 (r := (.tuple #[.slice none 0 0, I 2], H2)) (by simp [F34, hcv, ← hH1, ← hH2, s14, hc]), by rw [nilc _ hm (by decide)]; exact .inl ⟨rfl, rfl⟩, k2⟩

/-- **Unmap.** -/
theorem S17 {H : Hp} {v : Value} {l : List Rg} {f : Nat} (c : Int) (hp : f < 18446744073709551616) (hf : H.floor ≤ H.next) (hs : Sl Rg.enc H v l) :
    ∃ w H', call 17 [v, U f, I c] H = some (.tuple #[w, I (chgN l f c fun _ => [])], H') ∧ Sl Rg.enc H' w (chgL l f c fun _ => []) ∧ Keep (fun _ => False) H H' := by
  obtain ⟨w, H', a1, a2, a3⟩ := S34 (fv := fnv 35) (inn := fun _ => []) c hp hf hs rfl rfl (fun x A _ _ => ⟨by simp, _, _, (cl_func ..).trans (c35 (r := (.slice none 0 0, A.new (.cells x.enc false))) (by simp [F35, Rg.enc])), .inl ⟨rfl, rfl⟩, .new _ _ _⟩)
  exact ⟨w, H', c17 (by simp [F17, a1]), a2, a3⟩

/-- **Protect.** -/
theorem S18 {H : Hp} {v : Value} {l : List Rg} {f : Nat} (c : Int) (b : Bool) (hp : f < 18446744073709551616) (hf : H.floor ≤ H.next) (hs : Sl Rg.enc H v l) :
    ∃ w H', call 18 [v, U f, I c, .bool b] H = some (.tuple #[w, I (chgN l f c fun r => [⟨r.first, r.count, b⟩])], H') ∧ Sl Rg.enc H' w (chgL l f c fun r => [⟨r.first, r.count, b⟩]) ∧ Keep (fun _ => False) H H' := by
  obtain ⟨H1, hH1⟩ : ∃ H1, H1 = H.new (.cells [.bool b] false) := ⟨_, rfl⟩
  have k1 : Keep (fun _ => False) H H1 := by rw [hH1]; exact .new _ _ _
  have n1 : H1.next = H.next + 1 := by rw [hH1, Hp.next_new]
  have g1 : H1.get H.next = some (.cells [.bool b] false) := by rw [hH1, Hp.get_new, if_pos rfl]
  have hs1 : Sl Rg.enc H1 v l := by rw [hH1]; exact hs.new _
  obtain ⟨w, H', a1, a2, a3⟩ := S34 (fv := .func (.func 36) #[] #[P H.next 0]) (inn := fun r => [⟨r.first, r.count, b⟩]) c hp (by rw [k1.floor]; omega) hs1 rfl rfl (fun x A kA hA => ⟨by simp, by
    have m : ld1 (P H.next 0) (A.new (.cells x.enc false)) = some (.bool b) := by rw [ld1_get (((kA.trans (.new _ _ _)).get _ (by omega) (fun h => h)).trans g1)]; rfl
    obtain ⟨A2, hA2⟩ : ∃ A2, A2 = A.new (.cells (Rg.enc ⟨x.first, x.count, b⟩) false) := ⟨_, rfl⟩
    have hst : st 1 (P A.next 2) (.bool b) (A.new (.cells [U x.first, I x.count, .bool x.write] false)) = some (.tuple #[], A2) := by
      rw [st_new _ _ rfl hA rfl, hA2]; rfl
    have m2 : ldA 3 (P A.next 0) A2 = some (.agg #[U x.first, I x.count, .bool b]) := by rw [hA2, ldA_get (by rw [Hp.get_new, if_pos rfl])]; rfl
    refine ⟨_, _, (cl_func ..).trans (c36 (r := (.slice (some ⟨A2.next, 0, none⟩) 1 1, A2.new (.cells (Rg.enc ⟨x.first, x.count, b⟩) false))) ?_), one_sl _, by rw [hA2]; exact (Keep.new _ _ _).trans (.new _ _ _)⟩
    have hb := bsl_one (a := x.first) (c := x.count) (w := b) A2
    simp only [Rg.enc] at m
    simp [F36, m, hst, m2, hb, Rg.enc]⟩)
  have hal : H.new (.cells [.bool b] false) = H1 := hH1.symm
  exact ⟨w, H', c18 (by simp [F18, hal, a1]), a2, k1.trans a3⟩
end Go.Proofs.Ytiigiodagfalpaa.X
