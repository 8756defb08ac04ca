/-
  AHE, 14: append, copy, clear.
-/
import Derived.Test.YthfmdomnoheklaaDoorZaheNew
namespace Go.Ahe
open Go.RowKit

section
variable {P : Program} {C : Ctx} (hC : Fits C P) {base : Nat} {ι : Emb} {H : Hp} {w : World} (hr : Rel base ι H w)
include hr

/-- The first cells of a slice or a string. -/
theorem firstCells_run {size n : Nat} {x x' : Value} {r : List Value} (hx : VR ι x x') (h : firstCellsE size n x H = some r) (hn : ∀ m, lenOfE x = some m → n ≤ m) :
    ∃ L : List Value, (Builtin.firstCells size n x').run P w = .ok L.toArray w ∧ VRs ι r L := by
  unfold firstCellsE at h
  split at h
  · cases hx
    obtain ⟨hb, h⟩ := bif_some h
    cases h
    exact ⟨[], rfl, .nil⟩
  · rename_i i o sp l c
    have key : ∀ b q, x' = .slice (some ⟨b, q, none⟩) l (match x' with | .slice _ _ c' => c' | _ => 0) → (n * size = 0 ∨ ∃ p, ι i = some (b, p) ∧ q = p + o) → ∃ L : List Value, (Builtin.firstCells size n x').run P w = .ok L.toArray w ∧ VRs ι r L := by
      intro b q hx' hq
      cases hb : Nat.beq n 0 with
      | true =>
        rw [hb, cond_true] at h
        have := nbeq_eq hb; subst this
        cases h
        refine ⟨[], ?_, .nil⟩
        rw [hx']
        simp [Builtin.firstCells, loadCells, loadCellsFrom]
      | false =>
        rw [hb, cond_false] at h
        rcases hq with hq | ⟨p, hι, rfl⟩
        · unfold readCells at h
          split at h
          · obtain ⟨_, rfl⟩ := lrange_some h
            rw [hq]
            refine ⟨[], ?_, by simpa using VRs.nil⟩
            rw [hx']
            simp [Builtin.firstCells, hq, loadCells, loadCellsFrom]
          · cases h
        · obtain ⟨L, h1, h2, h3⟩ := readCells_run hr hι h
          refine ⟨L, ?_, h1⟩
          rw [hx']
          simp only [Builtin.firstCells]
          rw [← h2]
          exact run_loadCells_list w _ L (fun j v hj => by rw [Addr.add_lit]; exact h3 j v hj)
    cases hx with
    | @slice _ _ b p _ _ hι => exact key b (p + o) rfl (.inr ⟨p, hι, rfl⟩)
    | @sliceU _ _ b p q _ _ c' z hι hl hcc hq he =>
      rcases hq with hq | hq
      · have := hn l rfl
        have h0 : n = 0 := by omega
        exact key b q rfl (.inl (by rw [h0, Nat.zero_mul]))
      · exact key b q rfl (.inr ⟨p, hι, hq⟩)
  · cases hx
    cases h
    refine ⟨_, ?_, VRs.plain (f := plainCell) (fun v => VR.plainCell) ?_⟩
    · simp only [Builtin.firstCells, Sem.run_pure]
      congr 1
      apply Array.ext'
      simp
    · rw [List.all_map]
      exact List.all_eq_true.2 fun _ _ => rfl
  · cases h


omit hr in
theorem firstCellsE_length {size n : Nat} {x : Value} {r : List Value} (h : firstCellsE size n x H = some r) (hx : ∃ a l c, x = .slice a l c) : r.length = n * size := by
  obtain ⟨a, l, c, rfl⟩ := hx
  unfold firstCellsE at h
  split at h
  · obtain ⟨hb, h⟩ := bif_some h
    cases h
    rw [nbeq_eq hb]; simp
  · cases hb : Nat.beq n 0 with
    | true => rw [hb, cond_true] at h; cases h; rw [nbeq_eq hb]; simp
    | false =>
      rw [hb, cond_false] at h
      unfold readCells at h
      split at h
      · obtain ⟨hle, rfl⟩ := lrange_some h
        simp; omega
      · cases h
  · cases ‹Value.slice _ _ _ = _›
  · cases h

include hC
theorem copyE_run {t t2 ty : TypeId} {d d' s s' v : Value} {H' : Hp} (hd : VR ι d d') (hs : VR ι s s') (h : copyE C t d s H = some (v, H')) :
    ∃ w' : World, (Builtin.copy_ #[t, t2] ty #[d', s']).run P w = .ok v w' ∧ VR ι v v ∧ Rel base ι H' w' ∧ Step ι ι H H' w w' := by
  unfold copyE at h
  split at h
  · cases h
  · rename_i ti hti
    obtain ⟨i, dd, z, hi⟩ := hC.ti hti
    have hdd := hi.desc
    split at h
    · rename_i el bse dl c hkd; rw [hkd] at hdd; simp only at hdd; subst hdd
      simp only [Option.bind_eq_some_iff] at h
      obtain ⟨et, het, sl, hsl, cs, hcs, h⟩ := h
      obtain ⟨i2, d2, z2, hi2⟩ := hC.ti het
      have hlen : (Builtin.lenOf s').run P w = .ok sl w := by
        unfold lenOfE at hsl
        split at hsl
        · cases hsl; cases hs <;> rfl
        · cases hsl; cases hs; rfl
        · cases hsl
      obtain ⟨L, hL, hv⟩ := firstCells_run (P := P) hr hs hcs (fun m hm => by rw [hsl] at hm; cases hm; exact Nat.min_le_left _ _)
      have hd1 : ∃ b' c', d' = .slice b' dl c' := by cases hd <;> exact ⟨_, _, rfl⟩
      have run0 : ∀ (b' : Option Addr) (c' : Nat), d' = .slice b' dl c' → (Builtin.copy_ #[t, t2] ty #[d', s']).run P w =
          ((match b' with | some a => storeCells a L | none => pure () : Sem Unit).run P w).andThen fun _ w' => .ok (goInt (Nat.min sl dl : Nat)) w' := by
        rintro b' c' rfl
        cases b' <;> simp [Builtin.copy_, hi.run_under, hlen, hi2.run_size, hL]
      split at h
      · rename_i io o sp cs c1
        rw [Option.map_eq_some_iff] at h
        obtain ⟨H1, hw1, he⟩ := h
        cases he
        have hlen0 : 0 < Nat.min sl dl := by
          rcases Nat.eq_zero_or_pos (Nat.min sl dl) with h0 | h0
          · exfalso
            rw [h0] at hcs
            unfold firstCellsE at hcs
            split at hcs
            · simp at hcs
            · simp at hcs
            · simp at hcs
            · cases hcs
          · exact h0
        cases hd with
        | @slice _ _ b p _ _ hι =>
          obtain ⟨w', e1, e2, e3⟩ := writeCells_run (P := P) hr hι hv hw1
          refine ⟨w', ?_, .int _ _, e2, e3⟩
          rw [run0 _ _ rfl]
          simp only [e1, Result.andThen_ok, goInt]
        | @sliceU _ _ b p q _ _ c' zz hι hl hcc hq he =>
          have hdl : 0 < dl := Nat.lt_of_lt_of_le hlen0 (Nat.min_le_right _ _)
          have hq' : q = p + o := by rcases hq with hq | hq <;> omega
          subst hq'
          obtain ⟨w', e1, e2, e3⟩ := writeCells_run (P := P) hr hι hv hw1
          refine ⟨w', ?_, .int _ _, e2, e3⟩
          rw [run0 _ _ rfl]
          simp only [e1, Result.andThen_ok, goInt]
      · rename_i bse2
        cases h
        cases hv
        obtain ⟨b', c', rfl⟩ := hd1
        refine ⟨w, ?_, .int _ _, hr, Step.refl hr⟩
        rw [run0 _ _ rfl]
        cases b' <;> simp [storeCells, goInt]
      · cases h
        obtain ⟨b', c', hd1⟩ := hd1
        cases hd
        refine ⟨w, ?_, .int _ _, hr, Step.refl hr⟩
        rw [run0 _ _ rfl]
        simp [goInt]
    · cases h
end
end Go.Ahe
