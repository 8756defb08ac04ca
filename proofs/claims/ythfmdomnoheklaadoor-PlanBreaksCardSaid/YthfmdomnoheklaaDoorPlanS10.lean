/- PlanBreaks: the law's call. -/
import Derived.Test.YthfmdomnoheklaaDoorPlanS9
set_option maxRecDepth 100000
set_option maxHeartbeats 2000000
namespace Go.Proofs.YthfmdomnoheklaaDoor.X
open Go.Ahe Go.Ahe.X

theorem tmod63 (x : Int) : -62 ≤ x.tmod 63 ∧ x.tmod 63 ≤ 62 ∧ (0 ≤ x → 0 ≤ x.tmod 63) := by
  rcases Int.le_total 0 x with h | h
  · rw [Int.tmod_eq_emod_of_nonneg h]; omega
  · obtain ⟨y, rfl⟩ : ∃ y, x = -y := ⟨-x, by omega⟩
    rw [Int.neg_tmod, Int.tmod_eq_emod_of_nonneg (by omega)]; omega
/-- A frame made of a number. -/
theorem frame_of (a : Int) : ∃ n : Nat, 1 ≤ n ∧ n < 64 ∧ IntKind.i64.wrap (a.tmod 63 + 63) = a.tmod 63 + 63 ∧ IntKind.i64.wrap (1 + (a.tmod 63 + 63).tmod 63) = n := by
  have t1 := tmod63 a
  have t2 := tmod63 (a.tmod 63 + 63)
  refine ⟨(1 + (a.tmod 63 + 63).tmod 63).toNat, by omega, by omega, wr_i64 (by omega) (by omega), ?_⟩
  rw [wr_i64 (by omega) (by omega)]; omega

theorem slices (p : Nat) :
    slc C0 30 (.slice (some ⟨p, 0, none⟩) 10 10) none (some (I 2)) none = some (.slice (some ⟨p, 0, none⟩) 2 10) ∧ slc C0 30 (.slice (some ⟨p, 0, none⟩) 10 10) (some (I ((2 + 1 : Nat) : Int))) none none = some (.slice (some ⟨p, (2 + 1) * 13, none⟩) (9 - 2) (9 - 2)) ∧
    slc C0 30 (.slice (some ⟨p, 0, none⟩) 10 10) none (some (I 3)) none = some (.slice (some ⟨p, 0, none⟩) 3 10) ∧ slc C0 30 (.slice (some ⟨p, 0, none⟩) 10 10) (some (I ((3 + 1 : Nat) : Int))) none none = some (.slice (some ⟨p, (3 + 1) * 13, none⟩) (9 - 3) (9 - 3)) ∧
    slc C0 30 (.slice (some ⟨p, 0, none⟩) 10 10) none (some (I 6)) none = some (.slice (some ⟨p, 0, none⟩) 6 10) ∧ slc C0 30 (.slice (some ⟨p, 0, none⟩) 10 10) (some (I ((6 + 1 : Nat) : Int))) none none = some (.slice (some ⟨p, (6 + 1) * 13, none⟩) (9 - 6) (9 - 6)) ∧
    slc C0 30 (.slice (some ⟨p, 0, none⟩) 10 10) none (some (I 8)) none = some (.slice (some ⟨p, 0, none⟩) 8 10) ∧ slc C0 30 (.slice (some ⟨p, 0, none⟩) 10 10) (some (I ((8 + 1 : Nat) : Int))) none none = some (.slice (some ⟨p, (8 + 1) * 13, none⟩) (9 - 8) (9 - 8)) :=
  ⟨by kernel_rfl, by kernel_rfl, by kernel_rfl, by kernel_rfl, by kernel_rfl, by kernel_rfl, by kernel_rfl, by kernel_rfl⟩

theorem sims : sim way 0 ⟨none, false, false⟩ = some (10, true) ∧ sim (way.take 2 ++ way.drop 3) 0 ⟨none, false, false⟩ = some (6, false) ∧ sim (way.take 3 ++ way.drop 4) 0 ⟨none, false, false⟩ = some (6, false) ∧ sim (way.take 6 ++ way.drop 7) 0 ⟨none, false, false⟩ = some (6, false) ∧ sim (way.take 8 ++ way.drop 9) 0 ⟨none, false, false⟩ = some (8, false) := by
  refine ⟨?_, ?_, ?_, ?_, ?_⟩ <;> simp [way, sim, Ac.step, bump, cst]

theorem and3 (a : Int) : ∃ q, bitsE .and .i64 a 3 = some (I q) := ⟨_, rfl⟩

theorem S3 (w a1 a2 a3 : Int) (H : Hp) : call 3 [.int .u64 w, I a1, I a2, I a3] H = some (.bool true, H) := by
  refine c3 rfl ?_
  have hf := fresh_ok H [.int .u64 w, I a1, I a2, I a3]
  generalize H.fresh [.int .u64 w, I a1, I a2, I a3] = H at *
  obtain ⟨g, g1, g2, g3, g4⟩ := frame_of a1
  obtain ⟨f, f1, f2, f3, f4⟩ := frame_of a2
  obtain ⟨q, hq⟩ := and3 a3
  have hl := lf_ok f1 f2
  have h5 := S5 f2
  generalize ((2115 + 4096 * f : Nat) : Int) = W at *
  have hb := bsl_way (w := w) (f := f) (g := g) (W := W)
  simp only [Act.enc, Ac.act] at hb
  by_cases he : (g : Int) = f
  · simp [F3, g3, g4, f3, f4, he, S4]
  · obtain ⟨H1, hH1⟩ : ∃ H1, H1 = (H.new (.cells (Act.enc (Ac.dsb.act w f g W)) false)) := ⟨_, rfl⟩
    have hr : Holds Act.enc (H1.new (.cells (encL Act.enc (way.map (Ac.act w f g W))) false)) H1.next (way.map (Ac.act w f g W)) := ⟨⟨false, by rw [Hp.get_new, if_pos rfl]⟩, by rw [Hp.next_new]; exact Nat.lt_succ_self _⟩
    have hS := S6 hl (al0 := way) (by decide) sims.1 (cap := 10) (x := none) hr
    have hff : (H1.new (.cells (encL Act.enc (way.map (Ac.act w f g W))) false)).floor ≤ (H1.new (.cells (encL Act.enc (way.map (Ac.act w f g W))) false)).next := by
      rw [hH1]; simp; omega
    have sl := slices H1.next
    have k2 := cut_ok hl (c := 2) (by omega) sims.2.1 (by omega) hr hff sl.1 sl.2.1 S4
    have k3 := cut_ok hl (c := 3) (by omega) sims.2.2.1 (by omega) hr hff sl.2.2.1 sl.2.2.2.1 S4
    have k6 := cut_ok hl (c := 6) (by omega) sims.2.2.2.1 (by omega) hr hff sl.2.2.2.2.1 sl.2.2.2.2.2.1 S4
    have k8 := cut_ok hl (c := 8) (by omega) sims.2.2.2.2 (by omega) hr hff sl.2.2.2.2.2.2.1 sl.2.2.2.2.2.2.2 S4
    have hbH := hb H1
    simp only [Act.enc, Ac.act] at hH1
    generalize hH2 : H1.new (.cells (encL Act.enc (way.map (Ac.act w f g W))) false) = H2 at *
    generalize H1.next = p at *
    have hlen : way.length = 10 := rfl
    simp [hlen] at hS
    simp at k2 k3 k6 k8
    obtain ⟨H3, k2⟩ := k2 [fun x h => some ((gv x 0), h)]
    obtain ⟨H4, k3⟩ := k3 [fun x h => some ((gv x 0), h)]
    obtain ⟨H5, k6⟩ := k6 [fun x h => some ((gv x 0), h)]
    obtain ⟨H6, k8⟩ := k8 [fun x h => some ((gv x 0), h)]
    simp at k2 k3 k6 k8
    have hd : ldA 13 (P H.next 0) H1 = some (.agg #[.int .i8 3, U 0, U 0, I 0, I 0, .int .i8 0, I 0, U 0, I 0, I 0, I 0, .int .i8 0, I 0]) := by rw [hH1]; simp
    by_cases q1 : q = 1
    · simp [F3, g3, g4, f3, f4, he, hf, h5, ← hH1, hd, hbH, hS, hq, q1, k3]
    · by_cases q2 : q = 2
      · simp [F3, g3, g4, f3, f4, he, hf, h5, ← hH1, hd, hbH, hS, hq, q1, q2, k6]
      · by_cases q3 : q = 3
        · simp [F3, g3, g4, f3, f4, he, hf, h5, ← hH1, hd, hbH, hS, hq, q1, q2, q3, k8]
        · simp [F3, g3, g4, f3, f4, he, hf, h5, ← hH1, hd, hbH, hS, hq, q1, q2, q3, k2]
end Go.Proofs.YthfmdomnoheklaaDoor.X
