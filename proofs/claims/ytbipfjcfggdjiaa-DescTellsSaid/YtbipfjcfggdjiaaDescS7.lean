/- The desc seat: the document's answers, and the law DescTells. -/
import Derived.Test.YtbipfjcfggdjiaaDescS6
set_option maxRecDepth 100000
set_option maxHeartbeats 1000000
namespace Go.Proofs.Ytbipfjcfggdjiaa.X
open Go.Ahe Go.Ahe.X Go.RowKit

theorem S25 (hi lo : Nat) (h1 : lo ≤ hi) (h2 : hi < 64) (H : Hp) : call 25 [I hi, I lo] H = some (.bool true, H) := by
  refine c25 rfl ?_
  have g1 : (0 : Int) ≤ lo := by omega
  have g2 : (lo : Int) ≤ hi := by omega
  have g3 : (hi : Int) ≤ 63 := by omega
  simp [F25, g1, g3, h1]

theorem S26 (w k : Nat) (hw : w < 18446744073709551616) (hk : k ≤ 64) (H : Hp) : call 26 [U w, I k] H = some (U (w / 2 ^ k % 2 : Nat), H) := by
  refine c26 rfl ?_
  have h0 : IntKind.u64.wrap (k : Int) = k := wr_u64_nat (by omega)
  have h1 := and_1 (w := w / 2 ^ k) (Nat.lt_of_le_of_lt (Nat.div_le_self _ _) hw)
  simp only [F26, cvI_int, B_some, h0, bin_shr, shr_nat w k hk .u64 rfl, bin_and, h1, Option.map_some]

/-- The bits from hi down to lo. -/
theorem loop22 (w lo : Nat) (hw : w < 18446744073709551616) : ∀ (m x fuel : Nat), lo + m ≤ 64 → x * 2 ^ m + w / 2 ^ lo % 2 ^ m < 18446744073709551616 → m < fuel → ∀ (H : Hp) (X : List Kx),
    loopS F22b0L fuel [U w, I lo, U x, I ((lo : Int) + m - 1)] H X = nth X 0 [U (x * 2 ^ m + w / 2 ^ lo % 2 ^ m : Nat)] H
  | 0, x, fuel + 1, h1, _, _, H, X => by
    have g : ¬ (lo : Int) ≤ lo + (0 : Nat) - 1 := by omega
    simp only [loopS, F22b0L, F22b0, gv, List.getD_cons_zero, List.getD_cons_succ, bin_geq, B_some, br_bool, g, decide_false, Bool.false_eq_true, if_false, Nat.pow_zero, Nat.mul_one, Nat.mod_one, Nat.add_zero]
  | m + 1, x, fuel + 1, h1, hlt, hm, H, X => by
    have g : (lo : Int) ≤ lo + (m + 1 : Nat) - 1 := by omega
    have e1 : (lo : Int) + (m + 1 : Nat) - 1 = (lo + m : Nat) := by omega
    have hx : x * 2 ^ 1 < 18446744073709551616 := by
      have : x * 2 ^ 1 ≤ x * 2 ^ (m + 1) := Nat.mul_le_mul_left _ (Nat.pow_le_pow_right (by decide) (by omega))
      omega
    have s1 : shiftE .shl .u64 (x : Int) 1 = some (U (x * 2 ^ 1 : Nat)) := shl_u64 x 1 (by decide) hx
    have s2 := fun H => S26 w (lo + m) hw (by omega) H
    have s3 : bitsE .or .u64 ((x * 2 ^ 1 : Nat) : Int) ((w / 2 ^ (lo + m) % 2 : Nat) : Int) = some (U (x * 2 ^ 1 + w / 2 ^ (lo + m) % 2 : Nat)) := by
      rw [or_u64 hx (by omega), or_add (n := 1) (by omega)]
    have s4 : IntKind.i64.wrap ((lo + m : Nat) - 1) = (lo : Int) + m - 1 := by rw [wr_i64 (by omega) (by omega)]; omega
    have key : (x * 2 ^ 1 + w / 2 ^ (lo + m) % 2) * 2 ^ m + w / 2 ^ lo % 2 ^ m = x * 2 ^ (m + 1) + w / 2 ^ lo % 2 ^ (m + 1) := by
      rw [Nat.pow_add 2 lo m, ← Nat.div_div_eq_div_mul]
      generalize w / 2 ^ lo = q
      rw [show 2 ^ (m + 1) = 2 ^ m * 2 from Nat.pow_succ .., Nat.mod_mul, Nat.add_mul, show (2 : Nat) ^ 1 = 2 from rfl, Nat.mul_assoc x 2, Nat.mul_comm 2 (2 ^ m), Nat.mul_comm (q / 2 ^ m % 2)]
      omega
    have ih := loop22 w lo hw m (x * 2 ^ 1 + w / 2 ^ (lo + m) % 2) fuel (by omega) (by rw [key]; exact hlt) (by omega) H X
    rw [e1]
    rw [e1] at g
    simp only [loopS, F22b0L, F22b0, gv, List.getD_cons_zero, List.getD_cons_succ, bin_geq, B_some, br_bool, g, decide_true, if_true, bin_shl, s1, s2, bin_or, s3, bin_sub, s4]
    rw [← key]
    exact ih

theorem S22 (w hi lo : Nat) (hw : w < 18446744073709551616) (h1 : lo ≤ hi) (h2 : hi < 64) (H : Hp) : call 22 [U w, I hi, I lo] H = some (U (w / 2 ^ lo % 2 ^ (hi - lo + 1) : Nat), H) := by
  refine c22 rfl ?_
  generalize H.fresh [U w, I hi, I lo] = H
  have hb : w / 2 ^ lo % 2 ^ (hi - lo + 1) < 18446744073709551616 := Nat.lt_of_le_of_lt (Nat.mod_le _ _) (Nat.lt_of_le_of_lt (Nat.div_le_self _ _) hw)
  have hl := loop22 w lo hw (hi - lo + 1) 0 rnd (by omega) (by rw [Nat.zero_mul, Nat.zero_add]; exact hb) (by rw [rnd_eq]; show hi - lo + 1 < 4611686018427387904; omega) H
    [fun x h => some (gv x 0, h)]
  have e : (lo : Int) + (hi - lo + 1 : Nat) - 1 = hi := by omega
  rw [e, Nat.zero_mul, Nat.zero_add] at hl
  have hl : loopS F22b0L rnd [U w, I lo, U 0, I hi] H [fun x h => some (gv x 0, h)] = nth [fun x h => some (gv x 0, h)] 0 [U (w / 2 ^ lo % 2 ^ (hi - lo + 1) : Nat)] H := hl
  simp only [F22, S25 hi lo h1 h2, B_some, un_not, br_bool, Bool.not_true, Bool.false_eq_true, if_false, hl]
  rfl

theorem dec_big {w : Nat} (h : 64 ≤ w / 4096 % 68719476736) : ¬ okP w ∧ ¬ okT w := by
  unfold okP okT; constructor <;> omega
theorem S13 (w : Nat) (hw : w < 18446744073709551616) (l : Int) (H : Hp) : call 13 [U w, I l] H = some (.tuple #[(decS w l).1, I (decS w l).2], H) := by
  have c0 := S22 w 0 0 hw (by decide) (by decide)
  have cf := S22 w 47 12 hw (by decide) (by decide)
  have c6 := S22 w 6 6 hw (by decide) (by decide)
  have c7 := S22 w 7 7 hw (by decide) (by decide)
  have c10 := S22 w 10 10 hw (by decide) (by decide)
  have c11 := S22 w 11 11 hw (by decide) (by decide)
  obtain ⟨fr, hfr⟩ : ∃ x, x = w / 4096 % 68719476736 := ⟨_, rfl⟩
  have cf : ∀ H, call 22 [U w, I 47, I 12] H = some (U fr, H) := by rw [hfr]; exact cf
  have bit : ∀ k : Nat, k ≤ 64 → ∃ x : Nat, x = w / 2 ^ k % 2 ^ 1 ∧ (decide ((x : Int) = 1) = bt w k) := fun k _ => ⟨_, rfl, decide_eq_decide.2 (by generalize w / 2 ^ k = q; omega)⟩
  obtain ⟨x6, y6, z6⟩ := bit 6 (by decide)
  obtain ⟨x7, y7, z7⟩ := bit 7 (by decide)
  obtain ⟨x10, y10, z10⟩ := bit 10 (by decide)
  obtain ⟨x11, y11, z11⟩ := bit 11 (by decide)
  have c0 : ∀ H, call 22 [U w, I 0, I 0] H = some (U (w % 2 : Nat), H) := by
    have : w / 2 ^ 0 % 2 ^ (0 - 0 + 1) = w % 2 := by omega
    rw [this] at c0; exact c0
  have c6 : ∀ H, call 22 [U w, I 6, I 6] H = some (U x6, H) := by rw [y6]; exact c6
  have c7 : ∀ H, call 22 [U w, I 7, I 7] H = some (U x7, H) := by rw [y7]; exact c7
  have c10 : ∀ H, call 22 [U w, I 10, I 10] H = some (U x10, H) := by rw [y10]; exact c10
  have c11 : ∀ H, call 22 [U w, I 11, I 11] H = some (U x11, H) := by rw [y11]; exact c11
  by_cases h1 : l < 0
  · simp only [decS, h1, true_or, if_true]
    refine c13 rfl ?_
    have hf := fresh_ok H [U ↑w, I l]
    generalize H.fresh [U ↑w, I l] = H at *
    simp [F13, h1, hf, le_more]
  · by_cases h2 : 3 < l
    · simp only [decS, h2, or_true, if_true]
      refine c13 rfl ?_
      have hf := fresh_ok H [U ↑w, I l]
      generalize H.fresh [U ↑w, I l] = H at *
      simp [F13, h1, h2, hf, le_more]
    · by_cases h3 : w % 2 = 0
      · have h3i : (w : Int) % 2 = 0 := by omega
        simp only [decS, h1, h2, h3, or_self, if_true, if_false]
        refine c13 rfl ?_
        have hf := fresh_ok H [U ↑w, I l]
        generalize H.fresh [U ↑w, I l] = H at *
        simp [F13, h1, h2, h3i, hf, le_more, c0]
      · have h3i : ¬ (w : Int) % 2 = 0 := by omega
        by_cases h6 : 64 ≤ fr
        · obtain ⟨i1, i2⟩ := dec_big (w := w) (by omega)
          have hd : decS w l = (zD, 30) := by
            unfold decS; rw [if_neg (by omega), if_neg h3, if_neg i1, if_neg i2]; split <;> rfl
          rw [hd]
          refine c13 rfl ?_
          have hf := fresh_ok H [U ↑w, I l]
          generalize H.fresh [U ↑w, I l] = H at *
          have h6i : (64 : Int) ≤ fr := by omega
          simp [F13, h1, h2, h3i, hf, le_more, c0, cf, h6i]
        · have hwr : IntKind.i64.wrap (fr : Int) = fr := wr_i64 (by omega) (by omega)
          have hfi : (fr : Int) = (w : Int) / 4096 % 64 := by omega
          have h6i : ¬ (64 : Int) ≤ fr := by omega
          have hf1 : 0 ≤ (fr : Int) := by omega
          have hf2 : (fr : Int) < 64 := by omega
          have hfn : (fr : Int).toNat = fr := by omega
          by_cases h4 : l = 3
          · subst h4
            have q := S12 2 fr (bt w 10) (bt w 7) (bt w 6) (bt w 11)
            have hok : encOk 2 fr (bt w 10) (bt w 7) (bt w 6) (bt w 11) = true := by unfold encOk; simp; omega
            have hW : encW 2 fr (bt w 10) (bt w 7) (bt w 6) (bt w 11) = w ↔ okP w := by
              simp only [encW, hok, cond_true, hfn]
              rw [if_neg (by decide)]
              obtain ⟨k1, p1, u1, r1⟩ := bv_c (bt w 6) 6
              obtain ⟨k2, p2, u2, r2⟩ := bv_c (bt w 7) 7
              obtain ⟨k3, p3, u3, r3⟩ := bv_c (bt w 10) 10
              obtain ⟨k4, p4, u4, r4⟩ := bv_c (bt w 11) 11
              unfold wsum okP
              rw [p1, p2, p3, p4]
              have r1 := decide_eq_decide.1 r1
              have r2 := decide_eq_decide.1 r2
              have r3 := decide_eq_decide.1 r3
              have r4 := decide_eq_decide.1 r4
              clear p1 p2 p3 p4 hok q cf c0 c6 c7 c10 c11 z6 z7 z10 z11 y6 y7 y10 y11 hfi hf1 hf2 hfn hwr bit
              omega
            have hE : encE 2 fr (bt w 10) (bt w 7) (bt w 6) (bt w 11) = 0 := by simp only [encE, hok, cond_true]
            rw [hE] at q
            by_cases h5 : okP w
            · have hd : decS w 3 = (wD 2 w, 0) := by unfold decS; rw [if_neg (by omega), if_neg h3, if_pos rfl, if_pos h5]
              rw [hW.2 h5] at q
              rw [hd]
              simp only [wD, ← hfi]
              refine c13 rfl ?_
              have hf := fresh_ok H [U ↑w, I 3]
              generalize H.fresh [U ↑w, I 3] = H at *
              simp [F13, F13j0, h3i, hf, le_more, c0, cf, c6, c7, c10, c11, z6, z7, z10, z11, h6i, hwr, q]
            · have hd : decS w 3 = (zD, 30) := by unfold decS; rw [if_neg (by omega), if_neg h3, if_pos rfl, if_neg h5]
              have hne : ¬ ((encW 2 fr (bt w 10) (bt w 7) (bt w 6) (bt w 11) : Nat) : Int) = w := fun h => h5 (hW.1 (by omega))
              generalize encW 2 fr (bt w 10) (bt w 7) (bt w 6) (bt w 11) = W at *
              have hni : ¬ (W : Int) = w := hne
              rw [hd]
              refine c13 rfl ?_
              have hf := fresh_ok H [U ↑w, I 3]
              generalize H.fresh [U ↑w, I 3] = H at *
              simp [F13, F13j0, h3i, hf, le_more, c0, cf, c6, c7, c10, c11, z6, z7, z10, z11, h6i, hwr, q, hni]
          · have q := S12 1 fr false false false false
            have hok : encOk 1 fr false false false false = true := by unfold encOk bare; simp; omega
            have hW : encW 1 fr false false false false = w ↔ okT w := by
              simp only [encW, hok, cond_true, hfn]
              rw [if_neg (by decide)]
              show fr * 4096 + 0 + 0 + 0 + 0 + 3 = w ↔ _
              unfold okT
              omega
            have hE : encE 1 fr false false false false = 0 := by simp only [encE, hok, cond_true]
            rw [hE] at q
            by_cases h5 : okT w
            · have hd : decS w l = (D 1 fr false false false false, 0) := by
                unfold decS; rw [if_neg (by omega), if_neg h3, if_neg h4, if_pos h5]
                unfold wD
                unfold okT at h5
                rw [show bt w 10 = false from decide_eq_false (by omega), show bt w 7 = false from decide_eq_false (by omega), show bt w 6 = false from decide_eq_false (by omega), show bt w 11 = false from decide_eq_false (by omega), hfi]
              rw [hW.2 h5] at q
              rw [hd]
              refine c13 rfl ?_
              have hf := fresh_ok H [U ↑w, I l]
              generalize H.fresh [U ↑w, I l] = H at *
              simp [F13, F13j0, h1, h2, h3i, h4, hf, le_more, c0, cf, h6i, hwr, q]
            · have hd : decS w l = (zD, 30) := by unfold decS; rw [if_neg (by omega), if_neg h3, if_neg h4, if_neg h5]
              generalize encW 1 fr false false false false = W at *
              have hni : ¬ (W : Int) = w := fun h => h5 (hW.1 (Int.ofNat.inj h))
              rw [hd]
              refine c13 rfl ?_
              have hf := fresh_ok H [U ↑w, I l]
              generalize H.fresh [U ↑w, I l] = H at *
              simp [F13, F13j0, h1, h2, h3i, h4, hf, le_more, c0, cf, h6i, hwr, q, hni]
end Go.Proofs.Ytbipfjcfggdjiaa.X

