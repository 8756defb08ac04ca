/- The space seat: the law SpaceTells. -/
import Derived.Test.YtiigiodagfalpaaSpaceT4
set_option maxRecDepth 100000
set_option maxHeartbeats 4000000
namespace Go.Proofs.Ytiigiodagfalpaa.X
open Go.Ahe Go.Ahe.X

theorem neq32 (a : Rg) : bo .neq 32 a.val a.val = some (.bool false) := by
  have h : bo .neq 32 a.val a.val = some (.bool (!(decide ((a.first : Int) = a.first) && (decide (a.count = a.count) && ((a.write == a.write) && true))))) := by kernel_rfl
  rw [h]
  simp
theorem neq4 (a : Bool) : bo .neq 4 (.bool a) (.bool a) = some (.bool false) := by cases a <;> kernel_rfl
theorem eq50 (f : FuncId) (a b : Array Value) : bo .eql 50 (.func (.func f) a b) .nilFunc = some (.bool false) := by kernel_rfl

theorem isL6 (xs : List Value) : IsL (L6r1 xs) := ⟨_, _, _, _, fun _ _ => rfl⟩

/-- A round of the law's own range: the page is the one that is wanted. -/
theorem round6 {t7 t8 t13 t15 y : Nat} {w : Value} {ps : List Nat} {leave : Int} {k : Nat} (hk : k < ps.length) (hk2 : ps.length < 1000000) {H : Hp} {n : Nat} (hs : Sb pe n H w ps) (hn : n ≤ t15) (hw : n ≤ y) (h7 : H.get t7 = some (.cells [I leave] false)) (h13 : H.get t13 = some (.cells [w] false)) (h15 : H.get t15 = some (.cells [I k] false))
    (hy : H.get y = some (L6r1 [P t7 0, P t8 0, P t13 0, P t15 0] .ready none)) (hf15 : H.floor ≤ t15) (hfy : H.floor ≤ y) (d1 : t15 ≠ y) (d2 : t7 ≠ y) (d3 : t13 ≠ y) (d4 : t7 ≠ t15) (d5 : t13 ≠ t15) :
    ∃ H', ev C0 (.yield y) [U ps[k]] H = some (.bool (!decide (((k + 1 : Nat) : Int) = leave)), H') ∧ Keep (fun i => i = y ∨ i = t15) H H' ∧ H'.get t15 = some (.cells [I ((k + 1 : Nat) : Int)] false) ∧
      H'.get y = some (if ((k + 1 : Nat) : Int) = leave then L6r1 [P t7 0, P t8 0, P t13 0, P t15 0] .done (some (.exit 0)) else L6r1 [P t7 0, P t8 0, P t13 0, P t15 0] .ready none) := by
  have hL := isL6 [P t7 0, P t8 0, P t13 0, P t15 0]
  obtain ⟨Hb, hHb⟩ : ∃ Hb, Hb = H.setO y (L6r1 [P t7 0, P t8 0, P t13 0, P t15 0] .busy none) := ⟨_, rfl⟩
  have b1 := busyL hL hy hfy
  rw [← hHb] at b1
  have g7 : Hb.get t7 = some (.cells [I leave] false) := by rw [hHb, Hp.get_setO, if_neg d2]; exact h7
  have g13 : Hb.get t13 = some (.cells [w] false) := by rw [hHb, Hp.get_setO, if_neg d3]; exact h13
  have g15 : Hb.get t15 = some (.cells [I k] false) := by rw [hHb, Hp.get_setO, if_neg d1]; exact h15
  have gy : Hb.get y = some (L6r1 [P t7 0, P t8 0, P t13 0, P t15 0] .busy none) := by rw [hHb, Hp.get_setO, if_pos rfl]
  have fb : Hb.floor = H.floor := by rw [hHb]; rfl
  have nb : Hb.next = H.next := by rw [hHb]; rfl
  have hsb : Sb pe n Hb w ps := by rw [hHb]; exact Sb.setO hs hw _
  obtain ⟨i, o, _, e1, _, e2⟩ := Sb.at pe_len hsb hk
  have e2 : ld1 (P i o) Hb = some (U ps[k]) := e2 0 (by decide)
  have hln := hsb.len
  have hki : ¬ ((ps.length : Int) ≤ k) := by omega
  have wk : IntKind.i64.wrap ((k : Int) + 1) = (k : Int) + 1 := wr_i64 (by omega) (by omega)
  have hst : st 1 (P t15 0) (.int .i64 ((k : Int) + 1)) Hb = some (.tuple #[], Hb.setO t15 (.cells [I ((k : Int) + 1)] false)) := by
    rw [st_get g15 (by rw [fb]; exact hf15) 1 0 rfl]; rfl
  obtain ⟨Hc, hHc⟩ : ∃ Hc, Hc = Hb.setO t15 (.cells [I ((k : Int) + 1)] false) := ⟨_, rfl⟩
  rw [← hHc] at hst
  have c15 : Hc.get t15 = some (.cells [I ((k : Int) + 1)] false) := by rw [hHc, Hp.get_setO, if_pos rfl]
  have c7 : Hc.get t7 = some (.cells [I leave] false) := by rw [hHc, Hp.get_setO, if_neg d4]; exact g7
  have cy : Hc.get y = some (L6r1 [P t7 0, P t8 0, P t13 0, P t15 0] .busy none) := by rw [hHc, Hp.get_setO, if_neg (Ne.symm d1)]; exact gy
  have fc : Hc.floor = H.floor := by rw [hHc, ← fb]; rfl
  have kc : Keep (fun i => i = y ∨ i = t15) H Hc := by
    rw [hHc, hHb]
    exact (Keep.setO (D := fun i => i = y ∨ i = t15) (.inl rfl) H _).trans (Keep.setO (D := fun i => i = y ∨ i = t15) (.inr rfl) _ _)
  have l15 := ld1_get g15 0
  have l13 := ld1_get g13 0
  have m15 := ld1_get c15 0
  have m7 := ld1_get c7 0
  simp only [List.getElem?_cons_zero] at l15 l13 m15 m7
  by_cases hv : (k : Int) + 1 = leave
  · subst hv
    have hv' : ((k + 1 : Nat) : Int) = (k : Int) + 1 := rfl
    refine ⟨Hc.setO y (L6r1 [P t7 0, P t8 0, P t13 0, P t15 0] .done (some (.exit 0))), y6r1 hy ?_, kc.trans (Keep.setO (D := fun i => i = y ∨ i = t15) (.inl rfl) _ _), ?_, ?_⟩
    · have lv := leaveS hL cy (by rw [fc]; exact hfy) (.exit 0)
      simp only [hv', decide_true, Bool.not_true]
      simp [Y6r1, b1, l15, l13, hln, hki, e1, e2, wk, hst, m15, m7, lv]
    · rw [Hp.get_setO, if_neg d1]; exact c15
    · rw [Hp.get_setO, if_pos rfl, if_pos hv']
  · have hv' : ¬ ((k + 1 : Nat) : Int) = leave := hv
    refine ⟨Hc.setO y (L6r1 [P t7 0, P t8 0, P t13 0, P t15 0] .ready none), y6r1 hy ?_, kc.trans (Keep.setO (D := fun i => i = y ∨ i = t15) (.inl rfl) _ _), ?_, ?_⟩
    · have lv := leaveN hL cy (by rw [fc]; exact hfy)
      simp only [hv', decide_false, Bool.not_false]
      simp [Y6r1, b1, l15, l13, hln, hki, e1, e2, wk, hst, m15, m7, hv, lv]
    · rw [Hp.get_setO, if_neg d1]; exact c15
    · rw [Hp.get_setO, if_pos rfl, if_neg hv']

theorem sl_cell {α : Type} {enc : α → List Value} {n : Nat} {H : Hp} {w : Value} {l : List α} (h : Sb enc n H w l) : oneCell w = true ∧ cellsOf w = [w] := by
  rcases h with ⟨rfl, _⟩ | ⟨i, o, cap, x, cs, ro, rfl, _⟩ <;> exact ⟨rfl, rfl⟩

theorem S6 {v : Value} {l : List Rg} {p : Nat} (hp : p < 18446744073709551616) (count leave : Int) (H : Hp) (hs : Sl Rg.enc H v l) : call 6 [v, U p, I count, I leave] H = some (.bool true, H) := by
  refine c6 rfl ?_
  have hs := hs.fresh (args := [v, U p, I count, I leave]) (List.mem_cons_self ..)
  have hf := fresh_ok H [v, U p, I count, I leave]
  generalize H.fresh [v, U p, I count, I leave] = H at *
  have hln := hs.len
  have hn : ∀ {H : Hp} {o : Ob}, Sl Rg.enc H v l → Sl Rg.enc (H.new o) v l := fun h => h.new _
  by_cases h40 : 40 < l.length
  · have h40i : (40 : Int) < l.length := by omega
    simp [F6, hln, h40i, S15, hf, le_more]
  · have h40i : ¬ (40 : Int) < l.length := by omega
    obtain ⟨rr, bb, hfn⟩ : ∃ rr bb, fnd l p = .tuple #[Rg.val rr, .bool bb] := by
      unfold fnd; cases find l p with
      | none => exact ⟨_, _, rfl⟩
      | some r => exact ⟨_, _, rfl⟩
    have q20 := fun (H : Hp) (hs : Sl Rg.enc H v l) => S20 (p := p) H hs
    have q10 := fun (H : Hp) (hs : Sl Rg.enc H v l) => S10 hp H hs (by omega)
    simp only [hfn] at q20 q10
    have q14 := fun (H : Hp) (hs : Sl Rg.enc H v l) => S14 H hs
    have q11 := fun (H : Hp) (hs : Sl Rg.enc H v l) => S11 H hs
    have q21 := fun (H : Hp) (hs : Sl Rg.enc H v l) => S21 (p := p) hp count H hs
    have q22 := fun (H : Hp) (hs : Sl Rg.enc H v l) => S22 (p := p) hp count H hs (by omega)
    obtain ⟨H4, hH4⟩ : ∃ H4, H4 = (((H.new (.cells [I leave] false)).new (.cells [.bool false] false)).new (.cells rr.enc false)).new (.cells rr.enc false) := ⟨_, rfl⟩
    have hs4 : Sl Rg.enc H4 v l := by rw [hH4]; exact hn (hn (hn (hn hs)))
    have n4 : H4.next = H.next + 4 := by rw [hH4]; simp
    have f4 : H4.floor = H.floor := by rw [hH4]; rfl
    have g4a : H4.get H.next = some (.cells [I leave] false) := by
      rw [hH4]; simp [Hp.get_new]; intro h; omega
    have g4b : H4.get (H.next + 1) = some (.cells [.bool false] false) := by rw [hH4]; simp [Hp.get_new]
    obtain ⟨w0, H5, e5, s5, k5⟩ := S23 H4 hs4 (by omega)
    obtain ⟨ow, cw⟩ := sl_cell s5
    obtain ⟨H6, hH6⟩ : ∃ H6, H6 = H5.new (.cells [w0] false) := ⟨_, rfl⟩
    have k56 : Keep (fun _ => False) H5 H6 := by rw [hH6]; exact .new _ _ _
    have n6 : H6.next = H5.next + 1 := by rw [hH6, Hp.next_new]
    have hs6 : Sl Rg.enc H6 v l := ((Sp.keep hs4 k5 fun i hi => ⟨hi, fun h => h⟩).keep k56 fun i hi => ⟨Nat.lt_of_lt_of_le hi k5.next, fun h => h⟩).same (fun i hi => Nat.lt_of_lt_of_le hi (Nat.le_trans k5.next k56.next)) fun _ _ => rfl
    have f5 : H5.floor = H.floor := by rw [k5.floor, f4]
    have f6 : H6.floor = H.floor := by rw [k56.floor, f5]
    have h45 := k5.next
    obtain ⟨w, H7, e7, c7, lt7, s7, k7⟩ := S24 H6 hs6 (by omega)
    have f7 : H7.floor = H.floor := by rw [k7.floor, f6]
    obtain ⟨H8, hH8⟩ : ∃ H8, H8 = H7.new (.cells [I 0] false) := ⟨_, rfl⟩
    have n8 : H8.next = H7.next + 1 := by rw [hH8, Hp.next_new]
    have k78 : Keep (fun _ => False) H7 H8 := by rw [hH8]; exact .new _ _ _
    have f8 : H8.floor = H.floor := by rw [k78.floor, f7]
    obtain ⟨L, hLd⟩ : ∃ L, L = L6r1 [P H.next 0, P (H.next + 1) 0, P H5.next 0, P H7.next 0] := ⟨_, rfl⟩
    have hL : IsL L := by rw [hLd]; exact isL6 _
    obtain ⟨H9, hH9⟩ : ∃ H9, H9 = H8.new (L .ready none) := ⟨_, rfl⟩
    have n9 : H9.next = H8.next + 1 := by rw [hH9, Hp.next_new]
    have k89 : Keep (fun _ => False) H8 H9 := by rw [hH9]; exact .new _ _ _
    have f9 : H9.floor = H.floor := by rw [k89.floor, f8]
    have kf : ∀ {A B C : Hp}, Keep (fun _ => False) A B → Keep (fun _ => False) B C → Keep (fun _ => False) A C := fun a b => a.trans b
    have k49 : Keep (fun _ => False) H4 H9 := kf k5 (kf k56 (kf k7 (kf k78 k89)))
    have k59 : Keep (fun _ => False) H5 H9 := kf k56 (kf k7 (kf k78 k89))
    have g9a : H9.get H.next = some (.cells [I leave] false) := (k49.get _ (by omega) (fun h => h)).trans g4a
    have g9b : H9.get (H.next + 1) = some (.cells [.bool false] false) := (k49.get _ (by omega) (fun h => h)).trans g4b
    have g9c : H9.get H5.next = some (.cells [w0] false) := ((kf k7 (kf k78 k89)).get _ (by omega) (fun h => h)).trans (by rw [hH6, Hp.get_new, if_pos rfl])
    have g9d : H9.get H7.next = some (.cells [I 0] false) := (k89.get _ (by omega) (fun h => h)).trans (by rw [hH8, Hp.get_new, if_pos rfl])
    have g9e : H9.get H8.next = some (L .ready none) := by rw [hH9, Hp.get_new, if_pos rfl]
    have g9f : H9.get H6.next = some (.cells [w] false) := ((kf k78 k89).get _ lt7 (fun h => h)).trans c7
    have s9 : Sb pe H5.next H9 w0 (if check l = 0 then pgs l else []) := Sp.keep s5 k59 fun i hi => ⟨hi, fun h => h⟩
    have s9w : Sp Rg.enc (fun i => H6.next < i ∧ i < H7.next) H9 w (if check l = 0 then l else []) := Sp.keep s7 (kf k78 k89) fun i hi => ⟨hi.2, fun h => h⟩
    obtain ⟨ps, hps⟩ : ∃ ps, ps = if check l = 0 then pgs l else [] := ⟨_, rfl⟩
    rw [← hps] at s9 s5
    have few : ps.length ≤ 16 := by
      rw [hps]
      by_cases hc : check l = 0
      · rw [if_pos hc]; exact pgs_few hc
      · rw [if_neg hc]; simp
    -- the rounds
    let D : Nat → Prop := fun i => i = H8.next ∨ i = H7.next
    let J : Nat → Hp → Prop := fun k A => Keep D H9 A ∧ A.get H7.next = some (.cells [I k] false) ∧ A.get H8.next = some (L .ready none)
    let Dn : Hp → Prop := fun A => ∃ k : Nat, (k : Int) = leave ∧ Keep D H9 A ∧ A.get H7.next = some (.cells [I k] false) ∧ A.get H8.next = some (L .done (some (.exit 0)))
    have hIt : It H8.next ps D J Dn := by
      refine ⟨fun k A o ⟨a1, a2, a3⟩ => ?_, fun k A hk ⟨a1, a2, a3⟩ => ?_⟩
      · have := a1.next
        exact ⟨a1.trans (.new _ _ _), by rw [Hp.get_new, if_neg (by omega)]; exact a2, by rw [Hp.get_new, if_neg (by omega)]; exact a3⟩
      · rw [hLd] at a3
        have old : ∀ i, i < H7.next → A.get i = H9.get i := fun i hi => a1.get i (by omega) (fun h => by rcases h with h | h <;> omega)
        obtain ⟨A', b1, b2, b3, b4⟩ := round6 (n := H5.next) hk (by omega) (Sp.same s9 (fun _ h => h) fun i hi => old i (by omega)) (by omega) (by omega) ((old _ (by omega)).trans g9a) ((old _ (by omega)).trans g9c) a2 a3 (by rw [a1.floor, f9]; omega) (by rw [a1.floor, f9]; omega) (by omega) (by omega) (by omega) (by omega) (by omega)
        rw [← hLd] at b4
        refine ⟨_, A', b1, b2, fun hb => ?_, fun hb => ?_⟩
        · have hv : ¬ ((k + 1 : Nat) : Int) = leave := by simpa using hb
          rw [if_neg hv] at b4
          exact ⟨a1.trans b2, b3, b4⟩
        · have hv : ((k + 1 : Nat) : Int) = leave := by simpa using hb
          rw [if_pos hv] at b4
          exact ⟨k + 1, hv, a1.trans b2, b3, b4⟩
    obtain ⟨H10, e10, k10, j10⟩ := S37 hIt hps (w := w) (c := H6.next) (Q := fun i => H6.next < i ∧ i < H7.next) (H := H9) (fun i hi => ⟨by omega, fun h => by rcases h with h | h <;> omega⟩) (fun i h => by rcases h with h | h <;> omega) (by omega) ⟨.refl _ _, g9d, g9e⟩ g9f s9w
    have old10 : ∀ i, i < H7.next → H10.get i = H9.get i := fun i hi => k10.get i (by omega) (fun h => by rcases h with h | h <;> omega)
    have f10 : H10.floor = H.floor := by rw [k10.floor, f9]
    have hrf := fun kn ke kr => rf_eq (C := C0) (call := ev C0) (L := L) (H := H8) (H' := H10) (g := 37) (x := #[]) (z := #[P H6.next 0]) fn37 (v := .tuple #[]) (by rw [← hH9]; exact e10) kn ke kr
    have hln0 : lnS w0 = some (I ps.length) := s5.len
    -- the end
    have fin : ∀ (k : Nat) (A : Hp), A = H10.setO H8.next .dead → H10.get H7.next = some (.cells [I k] false) → ((k : Int) = ps.length ∨ (k : Int) = leave) → ∀ X, F6j0 (P H.next 0) (P (H.next + 1) 0) (P H5.next 0) (P H7.next 0) A X = nth X 0 [P (H.next + 1) 0] (A.setO (H.next + 1) (.cells [.bool true] false)) := fun k A hA hk hor X => by
      have a1 : A.get H7.next = some (.cells [I k] false) := by rw [hA, Hp.get_setO, if_neg (by omega)]; exact hk
      have a2 : A.get H5.next = some (.cells [w0] false) := by rw [hA, Hp.get_setO, if_neg (by omega), old10 _ (by omega)]; exact g9c
      have a3 : A.get H.next = some (.cells [I leave] false) := by rw [hA, Hp.get_setO, if_neg (by omega), old10 _ (by omega)]; exact g9a
      have a4 : A.get (H.next + 1) = some (.cells [.bool false] false) := by rw [hA, Hp.get_setO, if_neg (by omega), old10 _ (by omega)]; exact g9b
      have l1 := ld1_get a1 0
      have l2 := ld1_get a2 0
      have l3 := ld1_get a3 0
      simp only [List.getElem?_cons_zero] at l1 l2 l3
      have hst : st 1 (P (H.next + 1) 0) (.bool true) A = some (.tuple #[], A.setO (H.next + 1) (.cells [.bool true] false)) := by
        rw [st_get a4 (by rw [hA]; show H10.floor ≤ _; omega) 1 0 rfl]; rfl
      by_cases hkn : (k : Int) = ps.length
      · simp [-nth_eq, F6j0, l1, l2, hln0, hkn, S15, hst]
      · have hkl : (k : Int) = leave := hor.resolve_left hkn
        have hnl : ¬ leave = ps.length := fun h => hkn (hkl.trans h)
        simp [-nth_eq, F6j0, l1, l2, l3, hln0, hkl, hnl, S15, hst]
    have rd : ∀ A : Hp, ld1 (P (H.next + 1) 0) (A.setO (H.next + 1) (.cells [.bool true] false)) = some (.bool true) := fun A => by
      rw [ld1_get (by rw [Hp.get_setO, if_pos rfl])]; rfl
    simp (maxDischargeDepth := 12) [F6, hln, h40i, q20, q10, q14, q11, q21, q22, hs, hn, hf, le_more, neq32, neq4, Rg.enc]
    simp only [Rg.enc] at hH4
    have q5 : H5.floor ≤ H5.next := by omega
    have q7 : H7.floor ≤ H7.next := by omega
    have hst8 : st 1 (P H7.next 0) (I 0) H8 = some (.tuple #[], H8) := by rw [hH8, st_new _ _ rfl q7 rfl]; simp
    rw [← hH4]
    simp [e5, ow, cw, q5, q7, ← hH6, e7, eq50, ← hH8, hst8, ← hLd, hrf]
    rcases j10 with ⟨a1, a2, a3⟩ | ⟨k, hk, a1, a2, a3⟩
    · rw [aftN hL a3 (by omega)]
      have := fin ps.length _ rfl a2 (.inl rfl)
      simp [this, rd]
    · rw [aftE hL a3 (by omega)]
      have := fin k _ rfl a2 (.inr hk)
      simp [this, rd]
end Go.Proofs.Ytiigiodagfalpaa.X
