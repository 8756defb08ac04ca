/- The space seat: Map. -/
import Derived.Test.YtiigiodagfalpaaSpaceT5
import Derived.Test.YtiigiodagfalpaaSpaceY2
set_option maxRecDepth 100000
set_option maxHeartbeats 4000000
namespace Go.Proofs.Ytiigiodagfalpaa.X
open Go.Ahe Go.Ahe.X

/-- Insert, as the law has it. -/
theorem S32 {lo k j : Nat} {w : Value} {l : List Rg} {r : Rg} {H : Hp} (g : Gr Rg.enc 3 lo H w l) (hk : k ≤ l.length) (hl : l.length ≤ 1000000) (hf : H.floor ≤ lo) (hlo : lo ≤ H.next) (hj : H.get j = some (.cells r.enc false)) (hjl : j < H.next) (hne : ∀ i, w = .slice (some ⟨i, 0, some 3⟩) l.length l.length → i ≠ j) :
    ∃ w' H', call 32 [w, I k, .slice (some ⟨j, 0, none⟩) 1 1] H = some (w', H') ∧ Gr Rg.enc 3 lo H' w' (l.take k ++ r :: l.drop k) ∧ Keep (fun i => lo ≤ i) H H' := by
  have hsl : Sl Rg.enc H (.slice (some ⟨j, 0, none⟩) 1 1) [r] := Holds.sl (cap := 1) (x := none) (l := [r]) ⟨⟨false, hj⟩, hjl⟩
  -- where there is nothing yet
  have empty : ∀ w, l = [] → Gr Rg.enc 3 lo H w [] → (w = .slice none 0 0 ∨ ∃ i o, w = .slice (some ⟨i, o, none⟩) 0 0) → insE [w, I k, .slice (some ⟨j, 0, none⟩) 1 1] H = ev Y.C0 (.func 32) [w, I k, .slice (some ⟨j, 0, none⟩) 1 1] H →
      ∃ w' H', call 32 [w, I k, .slice (some ⟨j, 0, none⟩) 1 1] H = some (w', H') ∧ Gr Rg.enc 3 lo H' w' (l.take k ++ r :: l.drop k) ∧ Keep (fun i => lo ≤ i) H H' := fun w2 h0 g2 hw hins => by
    subst h0
    have hk0 : k = 0 := by simpa using hk
    subst hk0
    obtain ⟨w', H', a1, a2, a3⟩ := Gr.app (C := Y.C0) (ts := 22) (tx := 22) ⟨_, _, _, Y.T22, rfl, Y.T32, rfl, by decide, by decide, by decide, rfl⟩ ⟨_, _, Y.T22, rfl⟩ enc_len enc_one g2 hsl hf hlo (by simp)
    refine ⟨w', H', ext_call ?_, by simpa using a2, a3.mono fun i _ h => h.1⟩
    have e : insE [w2, I ((0 : Nat) : Int), .slice (some ⟨j, 0, none⟩) 1 1] H = some (w', H') := by
      rw [hins]
      refine Y.c32 ?_
      rcases hw with rfl | ⟨i, o, rfl⟩
      · have hs : slc Y.C0 22 (.slice none 0 0) (some (I ((0 : Nat) : Int))) none none = some (.slice none 0 0) := by kernel_rfl
        simp [Y.F32, a1]
        have hs := hs
        simp at hs
        simp [hs]
      · have hs := slc_lo (i := i) (o := o) Y.T22 rfl Y.T32 (Nat.le_refl 0) (Nat.le_refl 0)
        simp [Y.F32, a1]
        simp at hs
        simp [hs]
    exact e
  rcases g with ⟨rfl, h0⟩ | ⟨i, o, rfl, h0, h1, h2, h3⟩ | ⟨i, rfl, g1, g2, g3, g4⟩
  · exact empty _ h0 (by rw [← h0] ; exact .inl ⟨rfl, h0⟩) (.inl rfl) rfl
  · exact empty _ h0 (.inr (.inl ⟨i, o, rfl, rfl, h1, h2, h3⟩)) (.inr ⟨i, o, rfl⟩) (by cases o <;> rfl)
  · have hn : 1 ≤ l.length := List.length_pos_iff.2 g4
    have hij : i ≠ j := hne i rfl
    have b1 : Nat.beq l.length l.length = true := Nat.beq_refl _
    have b4 : Nat.beq (encL Rg.enc l).length (l.length * 3) = true := nbeq_t (encL_len enc_len l)
    have b6 : Nat.beq i j = false := nbeq_f hij
    have b8 : r.enc.all oneCell = true := rfl
    have b9 : Nat.beq r.enc.length 3 = true := rfl
    have e : insE [.slice (some ⟨i, 0, some 3⟩) l.length l.length, I k, .slice (some ⟨j, 0, none⟩) 1 1] H = some (.slice (some ⟨H.next, 0, some 3⟩) (l.length + 1) (l.length + 1), (H.new (.cells ((encL Rg.enc l).take (k * 3) ++ r.enc ++ (encL Rg.enc l).drop (k * 3)) false)).setO i .dead) := by
      show (match H.get i, H.get j with
        | some (.cells cs false), some (.cells xs false) => bif (Nat.beq l.length l.length && (Nat.ble 1 l.length && Nat.ble l.length 1000000)) && ((Nat.ble k l.length && (Nat.beq cs.length (l.length * 3) && Nat.beq xs.length 3)) && ((Nat.ble H.floor i && !(Nat.beq i j)) && (cs.all oneCell && xs.all oneCell))) then
            some (Value.slice (some ⟨H.next, 0, some 3⟩) (l.length + 1) (l.length + 1), (H.new (.cells (cs.take (k * 3) ++ xs ++ cs.drop (k * 3)) false)).setO i .dead) else none
        | _, _ => none) = _
      simp only [g3, hj, b1, Nat.ble_eq_true_of_le hn, Nat.ble_eq_true_of_le hl, Nat.ble_eq_true_of_le hk, b4, b9, Nat.ble_eq_true_of_le (Nat.le_trans hf g1), b6, encL_one enc_one, b8, Bool.not_false, Bool.and_self, cond_true]
    have hcells : (encL Rg.enc l).take (k * 3) ++ r.enc ++ (encL Rg.enc l).drop (k * 3) = encL Rg.enc (l.take k ++ r :: l.drop k) := by
      have hsp : encL Rg.enc l = encL Rg.enc (l.take k) ++ encL Rg.enc (l.drop k) := by rw [← encL_append, List.take_append_drop]
      have hlt : (encL Rg.enc (l.take k)).length = k * 3 := by rw [encL_len enc_len]; simp; omega
      rw [hsp, List.take_left' hlt, List.drop_left' hlt, encL_append, encL_cons, List.append_assoc]
    rw [hcells] at e
    refine ⟨_, _, ext_call e, ?_, ?_⟩
    · refine .inr (.inr ⟨H.next, ?_, hlo, by rw [Hp.next_setO, Hp.next_new]; exact Nat.lt_succ_self _, by rw [Hp.get_setO, if_neg (by omega), Hp.get_new, if_pos rfl], by simp⟩)
      have : (l.take k ++ r :: l.drop k).length = l.length + 1 := by simp; omega
      rw [this]
    · exact (Keep.new _ _ _).trans (Keep.setO (D := fun i => lo ≤ i) g1 _ _)

theorem isL16 (xs : List Value) : IsL (L16r1 xs) := ⟨_, _, _, _, fun _ _ => rfl⟩
/-- A round that counts. -/
theorem round16 {t8 y : Nat} {g : Value} {k : Nat} {H : Hp} (h8 : H.get t8 = some (.cells [I k] false)) (hk : k < 1000000) (hy : H.get y = some (L16r1 [P t8 0] .ready none)) (hf8 : H.floor ≤ t8) (hfy : H.floor ≤ y) (d : t8 ≠ y) :
    ∃ H', ev C0 (.yield y) [g] H = some (.bool true, H') ∧ Keep (fun i => i = y ∨ i = t8) H H' ∧ H'.get t8 = some (.cells [I ((k + 1 : Nat) : Int)] false) ∧ H'.get y = some (L16r1 [P t8 0] .ready none) := by
  have hL := isL16 [P t8 0]
  obtain ⟨Hb, hHb⟩ : ∃ Hb, Hb = H.setO y (L16r1 [P t8 0] .busy none) := ⟨_, rfl⟩
  have b1 := busyL hL hy hfy
  rw [← hHb] at b1
  have g8 : Hb.get t8 = some (.cells [I k] false) := by rw [hHb, Hp.get_setO, if_neg d]; exact h8
  have gy : Hb.get y = some (L16r1 [P t8 0] .busy none) := by rw [hHb, Hp.get_setO, if_pos rfl]
  have fb : Hb.floor = H.floor := by rw [hHb]; rfl
  have wk : IntKind.i64.wrap ((k : Int) + 1) = (k : Int) + 1 := wr_i64 (by omega) (by omega)
  have hst : st 1 (P t8 0) (.int .i64 ((k : Int) + 1)) Hb = some (.tuple #[], Hb.setO t8 (.cells [I ((k : Int) + 1)] false)) := by
    rw [st_get g8 (by rw [fb]; exact hf8) 1 0 rfl]; rfl
  have l8 := ld1_get g8 0
  simp only [List.getElem?_cons_zero] at l8
  have lv := leaveN hL (y := y) (H := Hb.setO t8 (.cells [I ((k : Int) + 1)] false)) (by rw [Hp.get_setO, if_neg (Ne.symm d)]; exact gy) (show Hb.floor ≤ y by rw [fb]; exact hfy)
  refine ⟨_, y16r1 hy (q := (.bool true, (Hb.setO t8 (.cells [I ((k : Int) + 1)] false)).setO y (L16r1 [P t8 0] .ready none))) ?_, ?_, ?_, ?_⟩
  · simp [Y16r1, b1, l8, wk, hst, lv]
  · rw [hHb]
    exact ((Keep.setO (D := fun i => i = y ∨ i = t8) (.inl rfl) H _).trans (Keep.setO (D := fun i => i = y ∨ i = t8) (.inr rfl) _ _)).trans (Keep.setO (D := fun i => i = y ∨ i = t8) (.inl rfl) _ _)
  · rw [Hp.get_setO, if_neg d, Hp.get_setO, if_pos rfl]; rfl
  · rw [Hp.get_setO, if_pos rfl]
end Go.Proofs.Ytiigiodagfalpaa.X
