/- The space seat: the laws ShareEnds and ShareLoads. -/
import Derived.Test.YtiigiodagfalpaaSpaceD2
set_option maxRecDepth 100000
set_option maxHeartbeats 1000000
namespace Go.Proofs.Ytiigiodagfalpaa.X
open Go.Ahe Go.Ahe.X Go.RowKit

theorem S8 (H : Hp) : call 8 [] H = some (.bool true, H) := pure_any noX fn8 rfl rfl (d := 20) (H0 := E0) (H1 := E0) (by kernel_rfl) H
theorem S13_2 (H : Hp) : call 13 [.agg #[.int .i8 2, .int .i8 0], I 0] H = some (I 1, H) := pure_any noX fn13 rfl rfl (d := 20) (H0 := E0) (H1 := E0) (by kernel_rfl) H
theorem S13_1 (H : Hp) : call 13 [.agg #[.int .i8 1, .int .i8 0], I 3] H = some (I 0, H) := pure_any noX fn13 rfl rfl (d := 20) (H0 := E0) (H1 := E0) (by kernel_rfl) H

theorem leaf_mpd {f : Int} (h : 0 ≤ f ∧ f < 64) (ro : Bool) : mpd (leafW f ro) = true ∧ bt (leafW f ro) 7 = ro := by
  have h1 := (leaf_dec h ro).1
  rcases decS_page (leafW f ro) with ⟨g, hd⟩ | ⟨g, hd | hd⟩
  · rw [hd] at h1
    simp [wD] at h1
    refine ⟨?_, h1.2.2.1⟩
    unfold mpd
    rw [g, Bool.true_and]
    exact decide_eq_true h1.2.2.2.1
  · rw [hd] at h1; simp at h1
  · rw [hd] at h1; simp at h1

theorem tmod64 (x : Int) : -63 ≤ x.tmod 64 ∧ x.tmod 64 ≤ 63 ∧ (0 ≤ x → 0 ≤ x.tmod 64) := by
  rcases Int.le_total 0 x with h | h
  · rw [Int.tmod_eq_emod_of_nonneg h]; omega
  · obtain ⟨y, rfl⟩ : ∃ y, x = -y := ⟨-x, by omega⟩
    rw [Int.neg_tmod, Int.tmod_eq_emod_of_nonneg (by omega)]; omega

theorem S3 {v : Value} {l : List Rg} {p w : Nat} (hp : p < 18446744073709551616) (hw : w < 18446744073709551616) (c fr : Int) (H : Hp) (hs : Sl Rg.enc H v l) : call 3 [v, U p, U w, I c, I fr] H = some (.bool true, H) := by
  refine c3 rfl ?_
  have hs := hs.fresh (args := [v, U p, U w, I c, I fr]) (List.mem_cons_self ..)
  have hf := fresh_ok H [v, U p, U w, I c, I fr]
  generalize H.fresh [v, U p, U w, I c, I fr] = H at *
  have hln := hs.len
  have hn : ∀ {H : Hp} {o : Ob}, Sl Rg.enc H v l → Sl Rg.enc (H.new o) v l := fun h => h.new _
  by_cases h20 : 20 < l.length
  · have h20i : (20 : Int) < l.length := by omega
    simp [F3, hln, h20i, S8]
  · have h20i : ¬ (20 : Int) < l.length := by omega
    have hl : l.length < 4611686018427387903 := by omega
    have t1 := tmod64 fr
    have t2 := tmod64 (fr.tmod 64 + 64)
    have wt : IntKind.i64.wrap (fr.tmod 64 + 64) = fr.tmod 64 + 64 := wr_i64 (by omega) (by omega)
    obtain ⟨f, hfe⟩ : ∃ f, f = (fr.tmod 64 + 64).tmod 64 := ⟨_, rfl⟩
    have hf64 : 0 ≤ f ∧ f < 64 := by omega
    rw [← hfe] at t2
    have q9 := fun (H : Hp) (hs : Sl Rg.enc H v l) => S9 (p := p) true hw c H (l := l) hs
    have q9f := fun (H : Hp) (hs : Sl Rg.enc H v l) => S9 (p := p) false hw c H (l := l) hs
    have ql := leaf_dec hf64 false
    have qm := leaf_mpd hf64 false
    have q12 := S12 hf64 false
    have q9' := fun (H : Hp) (hs : Sl Rg.enc H v l) => S9 (p := p) true ql.2 1 H (l := l) hs
    have q9f' := fun (H : Hp) (hs : Sl Rg.enc H v l) => S9 (p := p) false ql.2 1 H (l := l) hs
    have q10 := fun (H : Hp) (hs : Sl Rg.enc H v l) => S10 hp H (l := l) (v := v) hs hl
    have q11 := fun (H : Hp) (hs : Sl Rg.enc H v l) => S11 H (l := l) (v := v) hs
    generalize leafW f false = lw at *
    simp only [dcd] at q9 q9f q9' q9f'
    by_cases c1 : c < 0 ∨ check l ≠ 0
    · simp only [c1, if_true] at q9
      have hfn : ∃ r b, fnd l p = .tuple #[Rg.val r, .bool b] := by
        unfold fnd; cases find l p with
        | none => exact ⟨_, _, rfl⟩
        | some r => exact ⟨_, _, rfl⟩
      obtain ⟨r, b, hfn⟩ := hfn
      simp only [hfn] at q10
      by_cases c2 : check l = 0
      · have c3 : c < 0 := by rcases c1 with h | h; exact h; exact absurd c2 h
        simp only [c2] at q11
        simp (maxDischargeDepth := 12) [F3, hln, h20i, S8, wt, ← hfe, q9, q10, q11, hs, hn, hf, le_more, c3]
      · simp (maxDischargeDepth := 12) [F3, hln, h20i, S8, wt, ← hfe, q9, q10, q11, hs, hn, hf, le_more, c2]
    · simp only [c1, if_false] at q9 q9f
      have c2 : check l = 0 := by
        by_cases h : check l = 0
        · exact h
        · exact absurd (.inr h) c1
      have c3 : ¬ ((1 : Int) < 0 ∨ check l ≠ 0) := by simp [c2]
      simp only [c3, if_false] at q9' q9f'
      unfold fnd at q10
      cases hfd : find l p with
      | none =>
        simp only [hfd] at q9 q10
        simp (maxDischargeDepth := 12) [F3, hln, h20i, S8, wt, ← hfe, q9, q10, hs, hn, hf, le_more, zR]
      | some r =>
        obtain ⟨fi, co, wr⟩ := r
        simp only [hfd] at q9 q9f q10 q9' q9f'
        cases wr with
        | false =>
          simp only [and_self, if_true] at q9
          simp (maxDischargeDepth := 12) [F3, hln, h20i, S8, wt, ← hfe, q9, q10, hs, hn, hf, le_more]
        | true =>
          simp only [qm.1, qm.2, Bool.true_eq_false, Bool.false_eq_true, and_false, false_and, if_false, or_false, false_or, if_true, or_true, true_or] at q9 q9f q9' q9f'
          cases hm : mpd w with
          | false =>
            simp only [hm, if_true] at q9
            simp (maxDischargeDepth := 12) [F3, F3j0, hln, h20i, S8, wt, ← hfe, q9, q10, q12, q9', q9f', hs, hn, hf, le_more]
          | true =>
            cases h7 : bt w 7 with
            | false =>
              simp only [hm, h7, Bool.true_eq_false, if_false, or_true, if_true] at q9 q9f
              simp (maxDischargeDepth := 12) [F3, F3j0, hln, h20i, S8, wt, ← hfe, q9, q9f, q10, hs, hn, hf, le_more]
            | true =>
              simp only [hm, h7, Bool.true_eq_false, if_false, or_false] at q9
              by_cases cc : c = 1
              · simp only [cc, if_true] at q9
                subst cc
                simp (maxDischargeDepth := 12) [F3, F3j0, hln, h20i, S8, wt, ← hfe, q9, q10, q12, q9', q9f', hs, hn, hf, le_more]
              · simp only [cc, if_false] at q9
                simp (maxDischargeDepth := 12) [F3, F3j0, hln, h20i, S8, wt, ← hfe, q9, q10, q12, q9', q9f', hs, hn, hf, le_more]

theorem mpd_0 : mpd 0 = false := by decide

theorem F4j0_ok {v : Value} {l : List Rg} {p w : Nat} (hp : p < 18446744073709551616) (hw : w < 18446744073709551616) (mapped : Bool) (hm : mpd w = mapped) (c : Int) (H : Hp) (hs : Sl Rg.enc H v l) (hf : H.floor ≤ H.next) (hl : l.length < 4611686018427387903) (X : List Kx) :
    ∃ H', F4j0 v (U p) (.bool mapped) (I c) (U w) H X = nth X 0 [.bool true] H' := by
  have hn : ∀ {H : Hp} {o : Ob}, Sl Rg.enc H v l → Sl Rg.enc (H.new o) v l := fun h => h.new _
  have q9 := fun (H : Hp) (hs : Sl Rg.enc H v l) => S9 (p := p) false hw c H (l := l) hs
  have q10 := fun (H : Hp) (hs : Sl Rg.enc H v l) => S10 hp H (l := l) (v := v) hs hl
  have q11 := fun (H : Hp) (hs : Sl Rg.enc H v l) => S11 H (l := l) (v := v) hs
  simp only [dcd] at q9
  by_cases c1 : c < 0 ∨ check l ≠ 0
  · simp only [c1, if_true] at q9
    have hfn : ∃ r b, fnd l p = .tuple #[Rg.val r, .bool b] := by
      unfold fnd; cases find l p with
      | none => exact ⟨_, _, rfl⟩
      | some r => exact ⟨_, _, rfl⟩
    obtain ⟨r, b, hfn⟩ := hfn
    simp only [hfn] at q10
    by_cases c2 : check l = 0
    · have c3 : c < 0 := by rcases c1 with h | h; exact h; exact absurd c2 h
      simp only [c2] at q11
      exact ⟨_, by simp (maxDischargeDepth := 12) [-nth_eq, F4j0, S8, q9, q10, q11, hs, hn, hf, le_more, c3]; rfl⟩
    · exact ⟨_, by simp (maxDischargeDepth := 12) [-nth_eq, F4j0, S8, q9, q10, q11, hs, hn, hf, le_more, c2]; rfl⟩
  · simp only [c1, if_false] at q9
    unfold fnd at q10
    cases hfd : find l p with
    | none =>
      simp only [hfd] at q9 q10
      exact ⟨_, by simp (maxDischargeDepth := 12) [-nth_eq, F4j0, S8, q9, q10, hs, hn, hf, le_more, zR]; rfl⟩
    | some r =>
      obtain ⟨fi, co, wr⟩ := r
      simp only [hfd, Bool.false_eq_true, false_and, if_false, true_or, if_true, hm] at q9 q10
      cases mapped with
      | false =>
        simp only [if_true] at q9
        exact ⟨_, by simp (maxDischargeDepth := 12) [-nth_eq, F4j0, S8, q9, q10, S13_2, hs, hn, hf, le_more]; rfl⟩
      | true =>
        simp only [Bool.true_eq_false, if_false] at q9
        exact ⟨_, by simp (maxDischargeDepth := 12) [-nth_eq, F4j0, S8, q9, q10, S13_1, hs, hn, hf, le_more]; rfl⟩

theorem S4 {v : Value} {l : List Rg} {p : Nat} (hp : p < 18446744073709551616) (mapped ro : Bool) (c fr : Int) (H : Hp) (hs : Sl Rg.enc H v l) : call 4 [v, U p, .bool mapped, .bool ro, I c, I fr] H = some (.bool true, H) := by
  refine c4 rfl ?_
  have hs := hs.fresh (args := [v, U p, .bool mapped, .bool ro, I c, I fr]) (List.mem_cons_self ..)
  have hf := fresh_ok H [v, U p, .bool mapped, .bool ro, I c, I fr]
  generalize H.fresh [v, U p, .bool mapped, .bool ro, I c, I fr] = H at *
  have hln := hs.len
  by_cases h20 : 20 < l.length
  · have h20i : (20 : Int) < l.length := by omega
    simp [F4, hln, h20i, S8]
  · have h20i : ¬ (20 : Int) < l.length := by omega
    have hl : l.length < 4611686018427387903 := by omega
    have t1 := tmod64 fr
    have t2 := tmod64 (fr.tmod 64 + 64)
    have wt : IntKind.i64.wrap (fr.tmod 64 + 64) = fr.tmod 64 + 64 := wr_i64 (by omega) (by omega)
    obtain ⟨f, hfe⟩ : ∃ f, f = (fr.tmod 64 + 64).tmod 64 := ⟨_, rfl⟩
    rw [← hfe] at t2
    have hf64 : 0 ≤ f ∧ f < 64 := by omega
    cases mapped with
    | false =>
      obtain ⟨H', h⟩ := F4j0_ok hp (w := 0) (by decide) false mpd_0 c H hs hf hl [fun x h => some (gv x 0, h)]
      have h : F4j0 v (U p) (.bool false) (I c) (U 0) H [fun x h => some (gv x 0, h)] = _ := h
      simp [-nth_eq, -gv_eq, F4, hln, h20i, wt, ← hfe]
      exact ⟨H', h⟩
    | true =>
      have q12 := S12 hf64 ro
      obtain ⟨H', h⟩ := F4j0_ok hp (leaf_dec hf64 ro).2 true (leaf_mpd hf64 ro).1 c H hs hf hl [fun x h => some (gv x 0, h)]
      generalize leafW f ro = lw at *
      simp [-nth_eq, -gv_eq, F4, hln, h20i, wt, ← hfe, q12]
      exact ⟨H', h⟩
end Go.Proofs.Ytiigiodagfalpaa.X
