/- The space seat: what Map answers. -/
import Derived.Test.YtiigiodagfalpaaSpaceM1
set_option maxRecDepth 100000
set_option maxHeartbeats 4000000
namespace Go.Proofs.Ytiigiodagfalpaa.X
open Go.Ahe Go.Ahe.X

/-- The place where a page is looked for. -/
noncomputable def cutAt (l : List Rg) (p : Nat) : Nat := if h : check l = 0 then Classical.choose (at31 h p) else 0
/-- Is a place taken? -/
noncomputable def taken (l : List Rg) (r : Rg) : Bool := if h : cutAt l r.first < l.length then decide (l[cutAt l r.first].first ≤ r.first) || decide ((l[cutAt l r.first].first : Int) < r.stop) else false
/-- What Map answers: an error's number, and what is put. -/
noncomputable def mapN (l : List Rg) (r : Rg) : Int :=
  if check l ≠ 0 then 2 else if r.count < 1 ∨ 34359738368 < IntKind.u64.wrap r.count ∨ IntKind.u64.wrap (34359738368 - IntKind.u64.wrap r.count) < r.first then 190
  else if taken l r = true then 190 else if 8 ≤ l.length ∨ IntKind.i64.wrap (16 - (pgs l).length) < r.count then 20 else 0
noncomputable def mapL (l : List Rg) (r : Rg) : List Rg := if mapN l r = 0 then l.take (cutAt l r.first) ++ r :: l.drop (cutAt l r.first) else []

theorem range16 {v : Value} {l : List Rg} (hc : check l = 0) (H : Hp) (hs : Sl Rg.enc H v l) (hf : H.floor ≤ H.next) : ∃ (w : Value) (H6 H10 : Hp), call 24 [v] (H.new (.cells [I 0] false)) = some (w, H6) ∧ Keep (fun _ => False) H H10 ∧ H10.get H.next = some (.cells [I (pgs l).length] false) ∧
    ∀ kn ke kr, rfX C0 (ev C0) w (L16r1 [P H.next 0]) H6 kn ke kr = kn H10 := by
  obtain ⟨H5, hH5⟩ : ∃ H5, H5 = H.new (.cells [I 0] false) := ⟨_, rfl⟩
  have n5 : H5.next = H.next + 1 := by rw [hH5, Hp.next_new]
  have hs5 : Sl Rg.enc H5 v l := by rw [hH5]; exact hs.new _
  have k5 : Keep (fun _ => False) H H5 := by rw [hH5]; exact .new _ _ _
  have f5 : H5.floor = H.floor := k5.floor
  obtain ⟨u, H7, e7, c7, lt7, s7, k7⟩ := S24 H5 hs5 (by omega)
  have f7 : H7.floor = H.floor := by rw [k7.floor, f5]
  obtain ⟨L, hLd⟩ : ∃ L, L = L16r1 [P H.next 0] := ⟨_, rfl⟩
  have hL : IsL L := by rw [hLd]; exact isL16 _
  obtain ⟨H9, hH9⟩ : ∃ H9, H9 = H7.new (L .ready none) := ⟨_, rfl⟩
  have n9 : H9.next = H7.next + 1 := by rw [hH9, Hp.next_new]
  have k9 : Keep (fun _ => False) H7 H9 := by rw [hH9]; exact .new _ _ _
  have f9 : H9.floor = H.floor := by rw [k9.floor, f7]
  rw [if_pos hc] at s7
  have g9a : H9.get H.next = some (.cells [I 0] false) := ((k7.trans k9).get _ (by omega) (fun h => h)).trans (by rw [hH5, Hp.get_new, if_pos rfl])
  have g9e : H9.get H7.next = some (L .ready none) := by rw [hH9, Hp.get_new, if_pos rfl]
  have g9f : H9.get H5.next = some (.cells [u] false) := (k9.get _ lt7 (fun h => h)).trans c7
  have s9 : Sp Rg.enc (fun i => H5.next < i ∧ i < H7.next) H9 u l := Sp.keep s7 k9 fun i hi => ⟨hi.2, fun h => h⟩
  have few := pgs_few hc
  let D : Nat → Prop := fun i => i = H7.next ∨ i = H.next
  let J : Nat → Hp → Prop := fun k A => Keep D H9 A ∧ A.get H.next = some (.cells [I k] false) ∧ A.get H7.next = some (L .ready none)
  have hIt : It H7.next (pgs l) D J (fun _ => False) := by
    refine ⟨fun k A o ⟨a1, a2, a3⟩ => ?_, fun k A hk ⟨a1, a2, a3⟩ => ?_⟩
    · have := a1.next
      exact ⟨a1.trans (.new _ _ _), by rw [Hp.get_new, if_neg (by omega)]; exact a2, by rw [Hp.get_new, if_neg (by omega)]; exact a3⟩
    · rw [hLd] at a3
      obtain ⟨A', b1, b2, b3, b4⟩ := round16 (g := U (pgs l)[k]) a2 (by omega) a3 (by rw [a1.floor, f9]; omega) (by rw [a1.floor, f9]; omega) (by omega)
      rw [← hLd] at b4
      exact ⟨true, A', b1, b2, fun _ => ⟨a1.trans b2, b3, b4⟩, fun h => by cases h⟩
  obtain ⟨H10, e10, k10, j10⟩ := S37 hIt (l := l) (by rw [if_pos hc]) (w := u) (c := H5.next) (Q := fun i => H5.next < i ∧ i < H7.next) (H := H9) (fun i hi => ⟨by omega, fun h => by rcases h with h | h <;> omega⟩) (fun i h => by rcases h with h | h <;> omega) (by omega) ⟨.refl _ _, g9a, g9e⟩ g9f (by rw [if_pos hc]; exact s9)
  obtain ⟨a1, a2, a3⟩ := j10.resolve_right fun h => h
  have hrf := fun kn ke kr => rf_eq (C := C0) (call := ev C0) (L := L) (H := H7) (H' := H10) (g := 37) (x := #[]) (z := #[P H5.next 0]) fn37 (v := .tuple #[]) (by rw [← hH9]; exact e10) kn ke kr
  refine ⟨_, H7, H10.setO H7.next .dead, by rw [← hH5]; exact e7, ?_, ?_, fun kn ke kr => ?_⟩
  · have : Keep (fun i => i = H7.next ∨ i = H.next) H H10 := ((k5.trans (k7.trans k9)).mono fun _ _ h => h.elim).trans k10
    exact (this.mono fun i hi h => by rcases h with h | h <;> omega).newSet (by omega) _
  · rw [Hp.get_setO, if_neg (by omega)]; exact a2
  · rw [← hLd, hrf, aftN hL a3 (by rw [k10.floor, f9]; omega)]

/-- **Map.** -/
theorem S16 {v : Value} {l : List Rg} (r : Rg) (hp : r.first < 18446744073709551616) (H : Hp) (hs : Sl Rg.enc H v l) (hf : H.floor ≤ H.next) : ∃ (w : Value) (H' : Hp), call 16 [v, r.val] H = some (.tuple #[w, I (mapN l r)], H') ∧ Sl Rg.enc H' w (mapL l r) ∧ Keep (fun _ => False) H H' := by
  obtain ⟨H1, hH1⟩ : ∃ H1, H1 = H.new (.cells r.enc false) := ⟨_, rfl⟩
  have k1 : Keep (fun _ => False) H H1 := by rw [hH1]; exact .new _ _ _
  have n1 : H1.next = H.next + 1 := by rw [hH1, Hp.next_new]
  have f1 : H1.floor = H.floor := k1.floor
  have hs1 : Sl Rg.enc H1 v l := by rw [hH1]; exact hs.new _
  have g1 : H1.get H.next = some (.cells r.enc false) := by rw [hH1, Hp.get_new, if_pos rfl]
  have s14 := S14 H1 hs1
  have m0 := ld1_get g1 0
  have m1 := ld1_get g1 1
  have mA : ldA 3 (P H.next 0) H1 = some r.val := by rw [ldA_get g1]; rfl
  simp only [Rg.enc, List.getElem?_cons_zero, List.getElem?_cons_succ] at m0 m1
  have hal : H.new (.cells [U r.first, I r.count, .bool r.write] false) = H1 := hH1.symm
  have nilc : ∀ e, mapN l r = e → e ≠ 0 → mapL l r = [] := fun e h1 h2 => by unfold mapL; rw [h1, if_neg h2]
  have err : ∀ e : Int, mapN l r = e → e ≠ 0 → F16 v r.val H = some (.tuple #[.slice none 0 0, I e], H1) → ∃ (w : Value) (H' : Hp), call 16 [v, r.val] H = some (.tuple #[w, I (mapN l r)], H') ∧ Sl Rg.enc H' w (mapL l r) ∧ Keep (fun _ => False) H H' := fun e h1 h2 h3 =>
    ⟨_, _, by rw [h1]; exact c16 h3, by rw [nilc e h1 h2]; exact .inl ⟨rfl, rfl⟩, k1⟩
  by_cases hc : check l = 0
  · by_cases c1 : r.count < 1
    · refine err 190 (by unfold mapN; rw [if_neg (by simp [hc]), if_pos (.inl c1)]) (by decide) ?_
      simp [F16, F16j2, hal, s14, hc, m1, c1]
    · by_cases c2 : 34359738368 < IntKind.u64.wrap r.count
      · refine err 190 (by unfold mapN; rw [if_neg (by simp [hc]), if_pos (.inr (.inl c2))]) (by decide) ?_
        simp [F16, F16j2, hal, s14, hc, m1, c1, c2]
      · by_cases c3 : IntKind.u64.wrap (34359738368 - IntKind.u64.wrap r.count) < r.first
        · refine err 190 (by unfold mapN; rw [if_neg (by simp [hc]), if_pos (.inr (.inr c3))]) (by decide) ?_
          simp [F16, F16j2, hal, s14, hc, m0, m1, c1, c2, c3]
        · -- where it would lie
          have hspec := Classical.choose_spec (at31 hc r.first)
          have hq : Classical.choose (at31 hc r.first) = cutAt l r.first := by unfold cutAt; rw [dif_pos hc]
          rw [hq] at hspec
          obtain ⟨hql, hcut, _, _, s31⟩ := hspec
          have s31 := s31 v H1 hs1
          have htk : taken l r = (if h : cutAt l r.first < l.length then decide (l[cutAt l r.first].first ≤ r.first) || decide ((l[cutAt l r.first].first : Int) < r.stop) else false) := rfl
          have hmn : mapN l r = if taken l r = true then 190 else if 8 ≤ l.length ∨ IntKind.i64.wrap (16 - (pgs l).length) < r.count then 20 else 0 := by
            unfold mapN
            rw [if_neg (by simp [hc]), if_neg (fun h => by rcases h with h | h | h; exact c1 h; exact c2 h; exact c3 h)]
          have hmL := fun h0 : mapN l r = 0 => show mapL l r = l.take (cutAt l r.first) ++ r :: l.drop (cutAt l r.first) by unfold mapL; rw [if_pos h0]
          generalize cutAt l r.first = q at *
          have s30 := S30 r H1
          have start : ∀ w e H', (∀ X, F16j0 v (P H.next 0) H1 X = nth X 0 [w, e] H') → F16 v r.val H = some (.tuple #[w, e], H') := fun w e H' h => by
            simp [F16, F16j2, hal, s14, hc, m0, m1, c1, c2, c3, h]
          -- where the place is free
          have free : taken l r = false → (∀ X, F16j0 v (P H.next 0) H1 X = (B (al [I 0] H1) fun p4 => B (st 1 p4.1 (I 0) p4.2) fun p5 => B (call 24 [v] p5.2) fun p6 => rfX C0 (ev C0) p6.1 (L16r1 [p4.1]) p6.2 (fun h10 =>
              B (lnS v) fun t58 => B (bo .geq 3 t58 (I 8)) fun t59 => B (gd t59 false (fa 1 (P H.next 0))) fun t61 => B (gd t59 false (ld1 t61 h10)) fun t62 => B (gd t59 false (ld1 p4.1 h10)) fun t63 => B (gd t59 false (bo .sub 3 (I 16) t63)) fun t64 => B (gd t59 false (bo .gtr 3 t62 t64)) fun t65 => B (pk t59 (some (.bool true)) (some t65)) fun t66 =>
              br t66 (nth X 0 [(.slice none 0 0), (I 20)] h10) (
                B (call 33 [v] h10) fun p11 => B (ldA 3 (P H.next 0) p11.2) fun t70 => B (bsl 3 [U 0, I 0, .bool false] 1 [(0, t70)] p11.2) fun p12 => B (call 32 [p11.1, I q, p12.1] p12.2) fun p13 => nth X 0 [p13.1, (I 0)] p13.2)) [] (fun _ => none))) → ∃ (w : Value) (H' : Hp), call 16 [v, r.val] H = some (.tuple #[w, I (mapN l r)], H') ∧ Sl Rg.enc H' w (mapL l r) ∧ Keep (fun _ => False) H H' := fun ht hF => by
            obtain ⟨w, H6, H10, e24, k10, g10, hrf⟩ := range16 hc H1 hs1 (by omega)
            have hst : st 1 (P H1.next 0) (I 0) (H1.new (.cells [I 0] false)) = some (.tuple #[], H1.new (.cells [I 0] false)) := by rw [st_new _ _ rfl (by omega) rfl]; simp
            have hln := hs1.len
            have a1 : ld1 (P H.next 1) H10 = some (I r.count) := by rw [ld1_get ((k10.get _ (by omega) (fun h => h)).trans g1)]; rfl
            have aA : ∀ A, Keep (fun _ => False) H10 A → ldA 3 (P H.next 0) A = some r.val := fun A hA => by rw [ldA_get ((hA.get _ (by have := k10.next; omega) (fun h => h)).trans ((k10.get _ (by omega) (fun h => h)).trans g1))]; rfl
            have a2 : ld1 (P H1.next 0) H10 = some (I (pgs l).length) := by rw [ld1_get g10]; rfl
            have k0 : Keep (fun _ => False) H H10 := k1.trans k10
            by_cases h8 : 8 ≤ l.length
            · have h8i : (8 : Int) ≤ l.length := by omega
              have hm : mapN l r = 20 := by rw [hmn, ht, if_neg (by decide), if_pos (.inl h8)]
              refine ⟨.slice none 0 0, H10, by rw [hm]; exact c16 (start _ _ _ fun X => by simp [hF, hst, e24, hrf, hln, h8i]), by rw [nilc 20 hm (by decide)]; exact .inl ⟨rfl, rfl⟩, k0⟩
            · have h8i : ¬ ((8 : Int) ≤ l.length) := by omega
              by_cases h16 : IntKind.i64.wrap (16 - (pgs l).length) < r.count
              · have hm : mapN l r = 20 := by rw [hmn, ht, if_neg (by decide), if_pos (.inr h16)]
                refine ⟨.slice none 0 0, H10, by rw [hm]; exact c16 (start _ _ _ fun X => by simp [hF, hst, e24, hrf, hln, h8i, a1, a2, h16]), by rw [nilc 20 hm (by decide)]; exact .inl ⟨rfl, rfl⟩, k0⟩
              · have hm : mapN l r = 0 := by rw [hmn, ht, if_neg (by decide), if_neg (fun h => by rcases h with h | h; exact h8 h; exact h16 h)]
                have hs10 : Sl Rg.enc H10 v l := (Sp.keep hs1 k10 fun i hi => ⟨hi, fun h => h⟩).same (fun i hi => Nat.lt_of_lt_of_le hi k10.next) fun _ _ => rfl
                obtain ⟨w33, H11, e33, g33, k33⟩ := S33 H10 hs10 (by omega)
                obtain ⟨H12, hH12⟩ : ∃ H12, H12 = H11.new (.cells r.enc false) := ⟨_, rfl⟩
                have hb : bsl 3 [U 0, I 0, .bool false] 1 [(0, r.val)] H11 = some (.slice (some ⟨H11.next, 0, none⟩) 1 1, H12) := by rw [hH12]; kernel_rfl
                have k12 : Keep (fun _ => False) H11 H12 := by rw [hH12]; exact .new _ _ _
                have n12 : H12.next = H11.next + 1 := by rw [hH12, Hp.next_new]
                have n33 := k33.next
                have g12 : Gr Rg.enc 3 H10.next H12 w33 l := by rw [hH12]; exact g33.new _
                have f10 : H10.floor = H.floor := k0.floor
                obtain ⟨w', H13, e32, g32, k32⟩ := S32 (k := q) (j := H11.next) (r := r) g12 hql (by omega) (by rw [k12.floor, k33.floor, f10]; have := k0.next; omega) (by omega) (by rw [hH12, Hp.get_new, if_pos rfl]) (by omega) (fun i hi => by
                  rcases g33 with ⟨hx, _⟩ | ⟨i2, o2, hx, _⟩ | ⟨i2, hx, _, hx2, _⟩
                  · rw [hx] at hi; simp at hi
                  · rw [hx] at hi; simp at hi
                  · rw [hx] at hi; simp at hi; omega)
                refine ⟨w', H13, by have m70 := aA H11 k33; rw [hm]; exact c16 (start _ _ _ fun X => by simp [hF, hst, e24, hrf, hln, h8i, a1, a2, h16, e33, m70, hb, e32]), by rw [hmL hm]; exact g32.sl, ?_⟩
                · have k01 := k0.next
                  exact (((k0.trans (k33.trans k12)).mono fun _ _ h => h.elim).trans k32 : Keep (fun i => H10.next ≤ i) H H13).mono fun i hi h => by omega
          by_cases hqn : q < l.length
          · rw [dif_pos hqn] at htk s31
            obtain ⟨b, io, hb, e1, eA, e2⟩ := Sb.at enc_len hs1 hqn
            have z0 := e2 0 (by decide)
            simp only [Rg.enc, List.getElem?_cons_zero, Nat.add_zero] at z0
            have hqi : (q : Int) < l.length := by omega
            have hln := hs1.len
            by_cases d1 : l[q].first ≤ r.first
            · have ht : taken l r = true := by rw [htk]; simp [d1]
              rw [decide_eq_true d1] at s31
              refine err 190 (by rw [hmn, ht, if_pos rfl]) (by decide) (start _ _ _ fun X => ?_)
              simp [F16j0, s31, m0, hln]
            · rw [decide_eq_false d1] at s31
              by_cases d2 : (l[q].first : Int) < r.stop
              · have ht : taken l r = true := by rw [htk]; simp [d2]
                refine err 190 (by rw [hmn, ht, if_pos rfl]) (by decide) (start _ _ _ fun X => ?_)
                simp [F16j0, s31, m0, hln, hqi, e1, z0, mA, s30, d2]
              · have ht : taken l r = false := by rw [htk]; simp [d1, d2]
                refine free ht fun X => ?_
                simp [F16j0, s31, m0, hln, hqi, e1, z0, mA, s30, d2]
          · rw [dif_neg hqn] at htk s31
            have hqi : ¬ (q : Int) < l.length := by omega
            have hln := hs1.len
            refine free htk fun X => ?_
            simp [F16j0, s31, m0, hln, hqi]
  · refine err 2 (by unfold mapN; rw [if_pos hc]) (by decide) ?_
    simp [F16, hal, s14, hc]
end Go.Proofs.Ytiigiodagfalpaa.X
