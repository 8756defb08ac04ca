/- The space seat: SpaceCounts, SpacePages. -/
import Derived.Test.YtiigiodagfalpaaSpaceM6
set_option maxRecDepth 100000
set_option maxHeartbeats 4000000
namespace Go.Proofs.Ytiigiodagfalpaa.X
open Go.Ahe Go.Ahe.X

abbrev prot (b : Bool) : Rg → List Rg := fun x => [⟨x.first, x.count, b⟩]
theorem chg_range {l : List Rg} {f : Nat} {c : Int} {inn : Rg → List Rg} (hc : check l = 0) (hw : whole l f c = false) : chgN l f c inn = 190 := by
  unfold chgN; rw [if_neg (by simp [hc]), hw, if_pos rfl]
theorem chg_190 {l : List Rg} {f : Nat} {c : Int} {inn : Rg → List Rg} (hc : check l = 0) (h : chgN l f c inn = 190) : whole l f c = false := by
  unfold chgN at h
  rw [if_neg (by simp [hc])] at h
  split at h
  · assumption
  · split at h <;> cases h

/-- **SpaceCounts.** -/
theorem S5 {v : Value} {l : List Rg} {r : Rg} (hr : r.wf) (H : Hp) (hs : Sl Rg.enc H v l) : call 5 [v, r.val] H = some (.bool true, H) := by
  refine c5 rfl ?_
  have hs := hs.fresh (args := [v, r.val]) (List.mem_cons_self ..)
  have hf := fresh_ok H [v, r.val]
  generalize H.fresh [v, r.val] = H at *
  obtain ⟨H1, hH1⟩ : ∃ H1, H1 = H.new (.cells r.enc false) := ⟨_, rfl⟩
  have hal : H.new (.cells [U r.first, I r.count, .bool r.write] false) = H1 := hH1.symm
  have k1 : Keep (fun _ => False) H H1 := by rw [hH1]; exact .new _ _ _
  have n1 : H1.next = H.next + 1 := by rw [hH1, Hp.next_new]
  have hs1 : Sl Rg.enc H1 v l := by rw [hH1]; exact hs.new _
  have g1 : H1.get H.next = some (.cells r.enc false) := by rw [hH1, Hp.get_new, if_pos rfl]
  have s14 := S14 H1 hs1
  have s15 := fun A => S15 A
  by_cases hc : check l = 0
  · have rd : ∀ A, Keep (fun _ => False) H1 A → ld1 (P H.next 0) A = some (U r.first) ∧ ld1 (P H.next 1) A = some (I r.count) ∧ ld1 (P H.next 2) A = some (.bool r.write) ∧ ldA 3 (P H.next 0) A = some r.val ∧ Sl Rg.enc A v l ∧ A.floor ≤ A.next := fun A hA => by
      have gA := (hA.get _ (show H.next < H1.next by omega) (fun h => h)).trans g1
      have hn := hA.next
      exact ⟨by rw [ld1_get gA]; rfl, by rw [ld1_get gA]; rfl, by rw [ld1_get gA]; rfl, by rw [ldA_get gA]; rfl, (Sp.keep hs1 hA fun i hi => ⟨hi, fun h => h⟩).same (fun i hi => Nat.lt_of_lt_of_le hi hn) fun _ _ => rfl, by rw [hA.floor, k1.floor]; omega⟩
    have r1 := rd H1 (.refl _ _)
    obtain ⟨wa, H2, a1, a2, a3⟩ := S16 r hr.1 H1 r1.2.2.2.2.1 r1.2.2.2.2.2
    have r2 := rd H2 a3
    obtain ⟨wb, H3, b1, b2, b3⟩ := S17 (f := r.first) r.count hr.1 r2.2.2.2.2.2 r2.2.2.2.2.1
    have r3 := rd H3 (a3.trans b3)
    obtain ⟨wc, H4, d1, d2, d3⟩ := S18 (f := r.first) r.count r.write hr.1 r3.2.2.2.2.2 r3.2.2.2.2.1
    have r4 := rd H4 (a3.trans (b3.trans d3))
    have la := Sb.len a2
    have lb := Sb.len b2
    have lc := Sb.len d2
    have sl : ∀ {A : Hp} {w : Value} {m : List Rg}, Sl Rg.enc A w m → Keep (fun _ => False) A H4 → Sl Rg.enc H4 w m := fun h k => (Sp.keep h k fun i hi => ⟨hi, fun h => h⟩).same (fun i hi => Nat.lt_of_lt_of_le hi k.next) fun _ _ => rfl
    have s19l := S19 hc H4 r4.2.2.2.2.1
    have few : pl l ≤ 16 := (check_of_ok hc).2.2.2
    -- the three answers
    have pa : mapN l r = 0 → call 19 [wa] H4 = some (I ((pl l : Int) + r.count), H4) ∧ IntKind.i64.wrap ((pl l : Int) + r.count) = pl l + r.count ∧ chgN l r.first r.count (fun _ => []) = 190 ∧ chgN l r.first r.count (prot r.write) = 190 := fun h => by
      have ok := map_ok hr h
      have hk := map_check ok
      have hp := map_pl ok
      have := ok.few
      have := ok.c1
      refine ⟨by rw [← hp]; exact S19 hk H4 (sl a2 (b3.trans d3)), wr_i64 (by omega) (by omega), chg_range hc (map_whole ok), chg_range hc (map_whole ok)⟩
    have pb : chgN l r.first r.count (fun _ => []) = 0 → call 19 [wb] H4 = some (I ((pl l : Int) - r.count), H4) ∧ IntKind.i64.wrap ((pl l : Int) - r.count) = pl l - r.count := fun h => by
      have hk := chg_check i2unmap h
      have hp := unmap_pl h
      obtain ⟨w1, w2, _⟩ := whole_in (chg_ok i2unmap h).2.1
      exact ⟨by rw [← hp]; exact S19 hk H4 (sl b2 d3), wr_i64 (by omega) (by omega)⟩
    have pc : chgN l r.first r.count (prot r.write) = 0 → call 19 [wc] H4 = some (I (pl l), H4) := fun h => by
      have hk := chg_check (i2prot r.write) h
      have hp := prot_pl h
      rw [← hp]; exact S19 hk H4 d2
    have pd : chgN l r.first r.count (fun _ => []) = 190 → chgN l r.first r.count (prot r.write) = 190 := fun h => chg_range hc (chg_190 hc h)
    have na : ¬ mapN l r = 0 → lnS wa = some (I 0) := fun h => by rw [la]; unfold mapL; rw [if_neg h]; rfl
    have nb : ¬ chgN l r.first r.count (fun _ => []) = 0 → lnS wb = some (I 0) := fun h => by rw [lb]; unfold chgL; rw [if_neg h]; rfl
    have nc : ¬ chgN l r.first r.count (prot r.write) = 0 → lnS wc = some (I 0) := fun h => by rw [lc]; unfold chgL; rw [if_neg h]; rfl
    clear a2 b2 d2 la lb lc
    have d1 : call 18 [v, U r.first, I r.count, .bool r.write] H3 = some (.tuple #[wc, I (chgN l r.first r.count (prot r.write))], H4) := d1
    generalize mapN l r = E at *
    generalize chgN l r.first r.count (fun _ => []) = F at *
    generalize chgN l r.first r.count (prot r.write) = G at *
    by_cases hE : E = 0
    · obtain ⟨p1, p2, p3, p4⟩ := pa hE
      subst hE p3 p4
      have nb := nb (by decide)
      have nc := nc (by decide)
      simp [F5, hal, s14, hc, r1, r2, r3, r4, a1, b1, d1, p1, p2, s19l, nb, nc, s15]
    · have na := na hE
      by_cases hF : F = 0
      · obtain ⟨p1, p2⟩ := pb hF
        subst hF
        by_cases hG : G = 0
        · have p3 := pc hG
          subst hG
          simp [F5, hal, s14, hc, r1, r2, r3, r4, a1, b1, d1, hE, na, p1, p2, p3, s19l, s15]
        · have nc := nc hG
          simp [F5, hal, s14, hc, r1, r2, r3, r4, a1, b1, d1, hE, na, p1, p2, s19l, hG, nc, s15]
      · have nb := nb hF
        by_cases hG : G = 0
        · have p3 := pc hG
          have h190 : ¬ F = 190 := fun h => by have := pd h; omega
          subst hG
          simp [F5, hal, s14, hc, r1, r2, r3, r4, a1, b1, d1, hE, na, p3, s19l, hF, nb, h190, s15]
        · have nc := nc hG
          by_cases h190 : F = 190
          · have := pd h190
            subst h190 this
            simp [F5, hal, s14, hc, r1, r2, r3, r4, a1, b1, d1, hE, na, nb, nc, s15]
          · simp [F5, hal, s14, hc, r1, r2, r3, r4, a1, b1, d1, hE, na, hF, nb, hG, nc, h190, s15]
  · simp [F5, hal, s14, hc, s15]

/-! SpacePages -/
theorem fnd_eq (l : List Rg) (p : Nat) : fnd l p = .tuple #[((find l p).getD zR).val, .bool (find l p).isSome] := by
  unfold fnd; cases find l p <;> rfl

theorem bneq (a b : Bool) : bo .neq 4 (.bool a) (.bool b) = some (.bool (a != b)) := by cases a <;> cases b <;> kernel_rfl
theorem join7 {l m : List Rg} {r : Rg} {p k : Nat} (hp : p < 18446744073709551616) (hk : k < 3) {n : Int} {c4 c7 : Nat} {v w : Value} {A : Hp} (hf : A.floor ≤ A.next) (h4 : A.get c4 = some (.cells r.enc false)) (h4l : c4 < A.next) (h7 : A.get c7 = some (.cells ((find l p).getD zR).enc false)) (h7l : c7 < A.next)
    (hn : n = 0 → (1 ≤ r.count ∧ (r.first : Int) + r.count ≤ 34359738368) ∧ check m = 0 ∧ Sl Rg.enc A w m ∧ Good k r p (find l p) (find m p)) :
    ∃ A' i, (i = 0 ∨ i = 2) ∧ (∀ X, F7j1 v (U p) (P c4 0) (P c7 0) (.bool (find l p).isSome) (I k) w (I n) (I k) A X = nth X i [v, U p, P c4 0, P c7 0, .bool (find l p).isSome, I k] A') ∧ Keep (fun _ => False) A A' := by
  by_cases h0 : n = 0
  · obtain ⟨hr, hm, hs, hg⟩ := hn h0
    subst h0
    have s14 := S14 A hs
    have s20 := S20 (p := p) A hs
    rw [fnd_eq] at s20
    generalize find m p = is at *
    generalize find l p = was at *
    obtain ⟨A1, hA1⟩ : ∃ A1, A1 = A.new (.cells (is.getD zR).enc false) := ⟨_, rfl⟩
    have kA : Keep (fun _ => False) A A1 := by rw [hA1]; exact .new _ _ _
    have hst : st 3 (P A.next 0) (is.getD zR).val (A.new (.cells [U 0, I 0, .bool false] false)) = some (.tuple #[], A1) := by
      rw [st_new _ _ rfl hf rfl, hA1]; rfl
    have g4 := (kA.get _ h4l (fun h => h)).trans h4
    have g7 := (kA.get _ h7l (fun h => h)).trans h7
    have g9 : A1.get A.next = some (.cells (is.getD zR).enc false) := by rw [hA1, Hp.get_new, if_pos rfl]
    have m4 : ldA 3 (P c4 0) A1 = some r.val := by rw [ldA_get g4]; rfl
    have q4 : ld1 (P c4 2) A1 = some (.bool r.write) := by rw [ld1_get g4]; rfl
    have q7 : ld1 (P c7 2) A1 = some (.bool (was.getD zR).write) := by rw [ld1_get g7]; rfl
    have q9 : ld1 (P A.next 2) A1 = some (.bool (is.getD zR).write) := by rw [ld1_get g9]; rfl
    have s25 := S25 (r := r) (p := p) hr hp A1
    refine ⟨A1, 0, .inl rfl, fun X => ?_, kA⟩
    cases hh : r.has p with
    | false =>
      rw [hh] at s25
      have ho := hg.out hh
      cases was with
      | none =>
        cases is with
        | none =>
          simp only [Option.getD_none] at s20 hst
          simp [-nth_eq, F7j1, bneq, s14, hm, s20, hst, m4, s25]
        | some x => cases ho
      | some y =>
        cases is with
        | none => cases ho
        | some x =>
          have hw : x.write = y.write := by simpa using ho
          simp only [Option.getD_some] at s20 hst q7 q9
          simp [-nth_eq, F7j1, bneq, s14, hm, s20, hst, m4, s25, q7, q9, hw]
    | true =>
      rw [hh] at s25
      by_cases hk1 : k = 1
      · obtain ⟨e1, e2⟩ := hg.un hh hk1
        subst e1 hk1
        rw [e2]
        simp only [Option.getD_none] at s20 hst
        simp [-nth_eq, F7j1, bneq, s14, hm, s20, hst, m4, s25]
      · obtain ⟨e1, e2⟩ := hg.on hh hk1
        rw [e2]
        cases is with
        | none => cases e1
        | some x =>
          have hw : x.write = r.write := by simpa using e1
          simp only [Option.getD_some] at s20 hst q9
          have hk3 : k = 0 ∨ k = 2 := by omega
          rcases hk3 with rfl | rfl <;> simp [-nth_eq, F7j1, bneq, s14, hm, s20, hst, m4, s25, q4, q9, hw]
  · exact ⟨A, 2, .inr rfl, fun X => by simp [-nth_eq, F7j1, h0], .refl _ _⟩

theorem step7 {v : Value} {l : List Rg} {r : Rg} {p c4 c7 : Nat} (hr : r.wf) (hp : p < 18446744073709551616) (hc : check l = 0) {H0 : Hp} (hf : H0.floor ≤ H0.next) (h4 : H0.get c4 = some (.cells r.enc false)) (h4l : c4 < H0.next) (h7 : H0.get c7 = some (.cells ((find l p).getD zR).enc false)) (h7l : c7 < H0.next) (hs : Sl Rg.enc H0 v l) {k : Nat} (hk : k < 3) {H : Hp} (kH : Keep (fun _ => False) H0 H) (K : Kx) (X : List Kx) :
    ∃ H', F7b0L K [v, U p, P c4 0, P c7 0, .bool (find l p).isSome, I k] H X = K [v, U p, P c4 0, P c7 0, .bool (find l p).isSome, I ((k + 1 : Nat) : Int)] H' ∧ Keep (fun _ => False) H0 H' := by
  have nx := kH.next
  have rd : ∀ A, Keep (fun _ => False) H0 A → (A.get c4 = some (.cells r.enc false) ∧ A.get c7 = some (.cells ((find l p).getD zR).enc false) ∧ c4 < A.next ∧ c7 < A.next) ∧ (ld1 (P c4 0) A = some (U r.first) ∧ ld1 (P c4 1) A = some (I r.count) ∧ ld1 (P c4 2) A = some (.bool r.write) ∧ ldA 3 (P c4 0) A = some r.val) ∧ Sl Rg.enc A v l ∧ A.floor ≤ A.next := fun A hA => by
    have gA := (hA.get _ h4l (fun h => h)).trans h4
    have hn := hA.next
    exact ⟨⟨gA, (hA.get _ h7l (fun h => h)).trans h7, by omega, by omega⟩, ⟨by rw [ld1_get gA]; rfl, by rw [ld1_get gA]; rfl, by rw [ld1_get gA]; rfl, by rw [ldA_get gA]; rfl⟩, (Sp.keep hs hA fun i hi => ⟨hi, fun h => h⟩).same (fun i hi => Nat.lt_of_lt_of_le hi hn) fun _ _ => rfl, by rw [hA.floor]; omega⟩
  obtain ⟨_, ⟨m0, m1, m2, mA⟩, hsH, hfH⟩ := rd H kH
  have fin : ∀ (n : Int) (w : Value) (m : List Rg) (A : Hp), Keep (fun _ => False) H A → (n = 0 → (1 ≤ r.count ∧ (r.first : Int) + r.count ≤ 34359738368) ∧ check m = 0 ∧ Sl Rg.enc A w m ∧ Good k r p (find l p) (find m p)) →
      (∀ Y, F7b0L K [v, U p, P c4 0, P c7 0, .bool (find l p).isSome, I k] H Y = F7j1 v (U p) (P c4 0) (P c7 0) (.bool (find l p).isSome) (I k) w (I n) (I k) A [fun x h => B (bo .add 3 (gv x 5) (I 1)) fun t => K [gv x 0, gv x 1, gv x 2, gv x 3, gv x 4, t] h, fun x h => nth Y 0 [gv x 0] h, fun x h => B (bo .add 3 (gv x 5) (I 1)) fun t => K [gv x 0, gv x 1, gv x 2, gv x 3, gv x 4, t] h]) →
      ∃ H', F7b0L K [v, U p, P c4 0, P c7 0, .bool (find l p).isSome, I k] H X = K [v, U p, P c4 0, P c7 0, .bool (find l p).isSome, I ((k + 1 : Nat) : Int)] H' ∧ Keep (fun _ => False) H0 H' := fun n w m A kA hn hF => by
    have kA0 := kH.trans kA
    obtain ⟨⟨g4, g7, l4, l7⟩, _, _, fA⟩ := rd A kA0
    obtain ⟨A', i, hi, hj, kA'⟩ := join7 (l := l) (m := m) (w := w) (v := v) (n := n) hp hk fA g4 l4 g7 l7 hn
    refine ⟨A', ?_, kA0.trans kA'⟩
    rw [hF X, hj]
    have wk : IntKind.i64.wrap ((k : Int) + 1) = (k : Int) + 1 := wr_i64 (by omega) (by omega)
    rcases hi with rfl | rfl <;> simp [wk]
  have hk3 : k = 0 ∨ k = 1 ∨ k = 2 := by omega
  rcases hk3 with rfl | rfl | rfl
  · obtain ⟨w, A, a1, a2, a3⟩ := S16 r hr.1 H hsH hfH
    refine fin (mapN l r) w (mapL l r) A a3 (fun h => ?_) fun Y => ?_
    · have ok := map_ok hr h
      exact ⟨⟨ok.c1, ok.le⟩, map_check ok, a2, good0 p ok⟩
    · simp [-nth_eq, F7b0L, F7b0, mA, a1]
  · obtain ⟨w, A, a1, a2, a3⟩ := S17 (f := r.first) r.count hr.1 hfH hsH
    refine fin (chgN l r.first r.count fun _ => []) w (chgL l r.first r.count fun _ => []) A a3 (fun h => ?_) fun Y => ?_
    · obtain ⟨w1, w2, w3, _⟩ := whole_in (chg_ok i2unmap h).2.1
      exact ⟨⟨w1, by omega⟩, chg_check i2unmap h, a2, good1 p h⟩
    · simp [-nth_eq, F7b0L, F7b0, m0, m1, a1]
  · obtain ⟨w, A, a1, a2, a3⟩ := S18 (f := r.first) r.count r.write hr.1 hfH hsH
    refine fin (chgN l r.first r.count fun x => [⟨x.first, x.count, r.write⟩]) w (chgL l r.first r.count fun x => [⟨x.first, x.count, r.write⟩]) A a3 (fun h => ?_) fun Y => ?_
    · obtain ⟨w1, w2, w3, _⟩ := whole_in (chg_ok (i2prot _) h).2.1
      exact ⟨⟨w1, by omega⟩, chg_check (i2prot _) h, a2, good2 p h⟩
    · simp [-nth_eq, F7b0L, F7b0, m0, m1, m2, a1]

/-- **SpacePages.** -/
theorem S7 {v : Value} {l : List Rg} {r : Rg} {p : Nat} (hr : r.wf) (hp : p < 18446744073709551616) (H : Hp) (hs : Sl Rg.enc H v l) : call 7 [v, r.val, U p] H = some (.bool true, H) := by
  refine c7 rfl ?_
  have hs := hs.fresh (args := [v, r.val, U p]) (List.mem_cons_self ..)
  have hf := fresh_ok H [v, r.val, U p]
  generalize H.fresh [v, r.val, U p] = H at *
  obtain ⟨H1, hH1⟩ : ∃ H1, H1 = H.new (.cells r.enc false) := ⟨_, rfl⟩
  have hal : H.new (.cells [U r.first, I r.count, .bool r.write] false) = H1 := hH1.symm
  have k1 : Keep (fun _ => False) H H1 := by rw [hH1]; exact .new _ _ _
  have n1 : H1.next = H.next + 1 := by rw [hH1, Hp.next_new]
  have hs1 : Sl Rg.enc H1 v l := by rw [hH1]; exact hs.new _
  have g1 : H1.get H.next = some (.cells r.enc false) := by rw [hH1, Hp.get_new, if_pos rfl]
  have s14 := S14 H1 hs1
  have s15 := fun A => S15 A
  by_cases hc : check l = 0
  · have s20 := S20 (p := p) H1 hs1
    rw [fnd_eq] at s20
    obtain ⟨H2, hH2⟩ : ∃ H2, H2 = H1.new (.cells ((find l p).getD zR).enc false) := ⟨_, rfl⟩
    have k2 : Keep (fun _ => False) H1 H2 := by rw [hH2]; exact .new _ _ _
    have n2 : H2.next = H1.next + 1 := by rw [hH2, Hp.next_new]
    have f2 : H2.floor ≤ H2.next := by rw [k2.floor, k1.floor]; omega
    have hst : st 3 (P H1.next 0) ((find l p).getD zR).val (H1.new (.cells [U 0, I 0, .bool false] false)) = some (.tuple #[], H2) := by
      rw [st_new _ _ rfl (by rw [k1.floor]; omega) rfl, hH2]; rfl
    have hs2 : Sl Rg.enc H2 v l := by rw [hH2]; exact hs1.new _
    have st := fun {k : Nat} (hk : k < 3) {A : Hp} (kA : Keep (fun _ => False) H2 A) (K : Kx) (X : List Kx) => step7 (v := v) (c4 := H.next) (c7 := H1.next) hr hp hc f2 ((k2.get _ (by omega) (fun h => h)).trans g1) (by omega) (by rw [hH2, Hp.get_new, if_pos rfl]) (by omega) hs2 hk kA K X
    have hlp : ∀ X fuel, 4 ≤ fuel → ∃ A, loopS F7b0L fuel [v, U p, P H.next 0, P H1.next 0, .bool (find l p).isSome, I 0] H2 X = nth X 1 [] A := fun X fuel h4 => by
      obtain ⟨m, rfl⟩ : ∃ m, fuel = m + 4 := ⟨fuel - 4, by omega⟩
      obtain ⟨A1, a1, a2⟩ := st (k := 0) (by decide) (.refl _ H2) (loopS F7b0L (m + 3) · · X) X
      obtain ⟨A2, b1, b2⟩ := st (k := 1) (by decide) a2 (loopS F7b0L (m + 2) · · X) X
      obtain ⟨A3, d1, d2⟩ := st (k := 2) (by decide) b2 (loopS F7b0L (m + 1) · · X) X
      refine ⟨A3, a1.trans (b1.trans (d1.trans ?_))⟩
      show loopS F7b0L (m + 1) _ A3 X = _
      simp [-nth_eq, loopS, F7b0L, F7b0]
    obtain ⟨A, hA⟩ := hlp [fun x39 h40 => some ((gv x39 0), h40), fun x41 h42 => B (call 15 [] h42) fun p43 => some (p43.1, p43.2)] rnd (by rw [rnd_eq]; decide)
    simp [s15] at hA
    simp [F7, hal, s14, hc, s20, hst, hA, s15]
  · simp [F7, hal, s14, hc, s15]
end Go.Proofs.Ytiigiodagfalpaa.X
