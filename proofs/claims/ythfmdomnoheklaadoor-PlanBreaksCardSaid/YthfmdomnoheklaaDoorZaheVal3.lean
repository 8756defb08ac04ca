/-
  AHE, 7: slicing, building, reading the heap.
-/
import Derived.Test.YthfmdomnoheklaaDoorZaheVal2
namespace Go.Ahe
open Go.RowKit

theorem nble_le {a b : Nat} (h : Nat.ble a b = true) : a ≤ b := Nat.le_of_ble_eq_true h
theorem nblt_lt {a b : Nat} (h : Nat.blt a b = true) : a < b := by simpa using h
theorem nbeq_eq {a b : Nat} (h : Nat.beq a b = true) : a = b := Nat.eq_of_beq_eq_true h
theorem bif_some {α : Type} {b : Bool} {x : Option α} {v : α} (h : (bif b then x else none) = some v) : b = true ∧ x = some v := by
  cases b with
  | false => cases h
  | true => exact ⟨rfl, h⟩

/-- Values that may be missing, related. -/
inductive VRo (ι : Emb) : Option Value → Option Value → Prop
  | none : VRo ι none none
  | some {v v' : Value} (h : VR ι v v') : VRo ι (some v) (some v')

theorem EnvR.opo {ι : Emb} {e : Env} {a : Act} (h : EnvR ι e a.tmps) {x : Option Operand} {v : Option Value} (hs : opVo e x = some v) : VRo ι v (x.map a.eval) := by
  cases x with
  | none => simp only [opVo] at hs; cases hs; exact .none
  | some x =>
    simp only [opVo, Option.map_eq_some_iff] at hs
    obtain ⟨u, hu, rfl⟩ := hs
    exact .some (h.op hu)

/-- A bound, as the model reads it. -/
def NatOf (v' : Option Value) (k : Option Nat) : Prop :=
  match v', k with
  | none, none => True
  | some v, some k => ∃ ik, v = .int ik (k : Int)
  | _, _ => False

theorem nato?_some {ι : Emb} {v v' : Option Value} {k : Option Nat} (hv : VRo ι v v') (h : nato? v = some k) : NatOf v' k := by
  cases hv with
  | none => simp only [nato?] at h; cases h; trivial
  | some hv =>
    simp only [nato?, Option.map_eq_some_iff] at h
    obtain ⟨n, hn, rfl⟩ := h
    exact nat?_some hv hn

section
variable {P : Program} {w : World}
theorem sliceBound_run (ik : IntKind) {k y : Nat} (h : k ≤ y) (code : BoundsCode) : (Instr.sliceBound (.int ik (k : Int)) y code).run P w = .ok k w := by
  have hc : (0 : Int) ≤ (k : Int) ∧ (k : Int) ≤ (y : Int) := ⟨by omega, by omega⟩
  simp only [Instr.sliceBound, asIntOf, Sem.run_bind, Sem.run_pure, Result.andThen_ok, hc, and_self, if_true, Int.toNat_natCast]

theorem sliceB_some {len cap : Nat} {low high max : Option Nat} {r : Nat × Nat × Nat} (h : sliceB len cap low high max = some r) :
    r = (low.getD 0, high.getD len, max.getD cap) ∧ max.getD cap ≤ cap ∧ high.getD len ≤ max.getD cap ∧
      low.getD 0 ≤ high.getD len ∧ (high.isSome = true ∨ max = none) := by
  unfold sliceB at h
  obtain ⟨hb, h⟩ := bif_some h
  simp only [Bool.and_eq_true, Bool.or_eq_true, Option.isNone_iff_eq_none] at hb
  cases h
  exact ⟨rfl, nble_le hb.1.1.1, nble_le hb.1.1.2, nble_le hb.1.2, hb.2⟩

/-- The bounds of a slice expression: where no third is given, the capacity may be greater than what is known. -/
theorem sliceBounds_run {isS : Bool} {len cap cap' : Nat} {low high max : Option Nat} {lo hi mx : Option Value} {r : Nat × Nat × Nat} (h : sliceB len cap low high max = some r)
    (hc : cap ≤ cap') (h1 : NatOf lo low) (h2 : NatOf hi high) (h3 : NatOf mx max) :
    (Instr.sliceBounds isS len cap' lo hi mx).run P w = .ok (r.1, r.2.1, max.getD cap') w := by
  obtain ⟨rfl, ha, hb, hd, he⟩ := sliceB_some h
  cases lo <;> cases low <;> first | (exact h1.elim) | skip
  all_goals cases hi <;> cases high <;> first | (exact h2.elim) | skip
  all_goals cases mx <;> cases max <;> first | (exact h3.elim) | skip
  all_goals simp only [Option.getD_some, Option.getD_none] at ha hb hd
  all_goals try (obtain ⟨k1, rfl⟩ := h1)
  all_goals try (obtain ⟨k2, rfl⟩ := h2)
  all_goals try (obtain ⟨k3, rfl⟩ := h3)
  all_goals simp only [Instr.sliceBounds, Sem.run_bind, Sem.run_pure, Result.andThen_ok, Option.getD_some, Option.getD_none, Option.isSome_some, Option.isSome_none]
  all_goals first
    | rfl
    | (rw [sliceBound_run _ (by omega)]; first | rfl | (simp only [Result.andThen_ok]; rw [sliceBound_run _ (by omega)]; first | rfl | (simp only [Result.andThen_ok]; rw [sliceBound_run _ (by omega)]; rfl)))
    | (rcases he with he | he <;> cases he)
end

section
variable {P : Program} {C : Ctx} (hC : Fits C P) {ι : Emb} {w : World}
include hC

theorem sliceE_run {t : TypeId} {x x' v : Value} {low high max : Option Nat} {lo hi mx : Option Value} (hx : VR ι x x') (h1 : NatOf lo low) (h2 : NatOf hi high) (h3 : NatOf mx max)
    (h : sliceE C t x low high max = some v) : ∃ v', (Instr.sliceAt t x' lo hi mx).run P w = .ok v' w ∧ VR ι v v' := by
  unfold sliceE at h
  split at h
  · cases h
  · rename_i ti hti
    obtain ⟨i, d, z, hi⟩ := hC.ti hti
    have hd := hi.desc
    simp only [Instr.sliceAt, Sem.run_bind, hi.run_under, Result.andThen_ok]
    split at h
    · rename_i s hk; rw [hk] at hd; simp only at hd; subst hd
      cases hx
      split at h
      · rw [Option.map_eq_some_iff] at h
        obtain ⟨r, hr, rfl⟩ := h
        cases mx with
        | some _ => exact h3.elim
        | none =>
        refine ⟨_, ?_, .string _⟩
        simp only [Instr.slice, Sem.run_bind, hi.run_under, Result.andThen_ok, Option.isSome_none, Bool.false_eq_true, if_false, sliceBounds_run (isS := false) hr (Nat.le_refl _) h1 h2 h3, Sem.run_pure]
      · cases h
    · rename_i el hk; rw [hk] at hd; simp only at hd; subst hd
      cases hx
      simp only [Option.bind_eq_some_iff, Option.map_eq_some_iff] at h
      obtain ⟨et, het, r, hr, rfl⟩ := h
      obtain ⟨i2, d2, z2, hi2⟩ := hC.ti het
      obtain ⟨hre, ha, hb, hdd, he⟩ := sliceB_some hr
      refine ⟨.slice none 0 0, ?_, .nils⟩
      have e1 : r.1 = 0 := by rw [hre]; simp only; omega
      have e2 : r.2.1 = 0 := by rw [hre]; simp only; omega
      have e3 : max.getD 0 = 0 := by omega
      simp only [Instr.slice, Sem.run_bind, hi.run_under, Result.andThen_ok, sliceBounds_run (isS := true) hr (Nat.le_refl _) h1 h2 h3, hi2.run_size, Sem.run_pure, e1, e2, e3, if_true]
    · rename_i el io o sp len cap hk; rw [hk] at hd; simp only at hd; subst hd
      simp only [Option.bind_eq_some_iff] at h
      obtain ⟨et, het, r, hr, h⟩ := h
      obtain ⟨i2, d2, z2, hi2⟩ := hC.ti het
      obtain ⟨hre, ha, hb, hdd, he⟩ := sliceB_some hr
      cases hx with
      | @slice _ _ b p _ _ hx =>
        simp only [Option.some.injEq] at h
        subst h
        refine ⟨.slice (some ⟨b, p + (if r.2.2 = r.1 then o else o + r.1 * et.size), none⟩) (r.2.1 - r.1) (r.2.2 - r.1), ?_, .slice hx⟩
        have hm : max.getD cap = r.2.2 := by rw [hre]
        simp only [Instr.slice, Sem.run_bind, hi.run_under, Result.andThen_ok, sliceBounds_run (isS := true) hr (Nat.le_refl _) h1 h2 h3, hi2.run_size, Sem.run_pure, hm]
        by_cases e : r.2.2 = r.1
        · simp only [e, if_true]
        · simp only [e, if_false, Option.map_some, Addr.add_lit, Nat.add_assoc]
      | @sliceU _ _ b p q _ _ c' zz hx hll hcc hq hee =>
        have hrun := sliceBounds_run (isS := true) (P := P) (w := w) hr hcc h1 h2 h3
        have hlen : high.getD len ≤ cap := by omega
        have hr1 : r.1 ≤ r.2.1 := by rw [hre]; exact hdd
        have hr2 : r.2.1 ≤ r.2.2 := by rw [hre]; exact hb
        have hr3 : r.2.2 ≤ cap := by rw [hre]; exact ha
        cases max with
        | none =>
          simp only at h
          obtain ⟨hzz, h⟩ := bif_some h
          have hzz := nbeq_eq hzz
          simp only [Option.some.injEq] at h
          subst h
          cases mx with
          | some _ => exact h3.elim
          | none =>
            have hr4 : r.2.2 = cap := by rw [hre]; rfl
            simp only [Option.getD_none] at hrun
            by_cases e : c' = r.1
            · subst e
              refine ⟨.slice (some ⟨b, q, none⟩) (r.2.1 - r.1) (r.1 - r.1), ?_, ?_⟩
              · simp only [Instr.slice, Sem.run_bind, hi.run_under, Result.andThen_ok, hrun, hi2.run_size, Sem.run_pure, if_true]
              · exact .sliceU hx (by omega) (by omega) (.inl (by omega)) (.inl (by omega))
            · refine ⟨.slice (some ⟨b, q + r.1 * et.size, none⟩) (r.2.1 - r.1) (c' - r.1), ?_, ?_⟩
              · simp only [Instr.slice, Sem.run_bind, hi.run_under, Result.andThen_ok, hrun, hi2.run_size, Sem.run_pure, e, if_false, Option.map_some, Addr.add_lit]
              · refine .sliceU hx (by omega) (by omega) ?_ ?_
                · rcases hq with hq | hq
                  · left; omega
                  · right; rw [hq]; omega
                · right
                  rcases hee with hee | hee
                  · omega
                  · rw [← hee, hzz, Nat.add_assoc, ← Nat.add_mul]
                    congr 2
                    omega
        | some m =>
          simp only at h
          obtain ⟨hlt, h⟩ := bif_some h
          cases h
          have hlt := nblt_lt hlt
          have hr4 : r.2.2 = m := by rw [hre]; rfl
          have hne : ¬ m = r.1 := by omega
          simp only [Option.getD_some] at hrun
          have hq' : q = p + o := by rcases hq with hq | hq <;> omega
          refine ⟨.slice (some ⟨b, p + (o + r.1 * et.size), none⟩) (r.2.1 - r.1) (r.2.2 - r.1), ?_, .slice hx⟩
          simp only [Instr.slice, Sem.run_bind, hi.run_under, Result.andThen_ok, hrun, hi2.run_size, Sem.run_pure, hne, if_false, Option.map_some, Addr.add_lit, hr4, hq', Nat.add_assoc]
    · rename_i n el io o hk; rw [hk] at hd; simp only at hd; subst hd
      cases hx with | @ptr _ _ b p hx =>
      rw [Option.bind_eq_some_iff] at h
      obtain ⟨et, het, h⟩ := h
      rw [Option.map_eq_some_iff] at h
      obtain ⟨r, hr, rfl⟩ := h
      obtain ⟨i2, d2, z2, hi2⟩ := hC.ti het
      obtain ⟨hre, ha, hb, hdd, he⟩ := sliceB_some hr
      refine ⟨.slice (some ⟨b, p + (if r.2.2 = r.1 then o else o + r.1 * et.size), none⟩) (r.2.1 - r.1) (r.2.2 - r.1), ?_, .slice hx⟩
      have hm : max.getD n = r.2.2 := by rw [hre]
      simp only [Instr.sureAddr, Sem.run_bind, Sem.run_pure, Result.andThen_ok, sliceBounds_run (isS := false) hr (Nat.le_refl _) h1 h2 h3, hi2.run_size, hm]
      by_cases e : r.2.2 = r.1
      · simp only [e, if_true]
      · simp only [e, if_false, Addr.add_lit, Nat.add_assoc]
    · cases h
end
end Go.Ahe
