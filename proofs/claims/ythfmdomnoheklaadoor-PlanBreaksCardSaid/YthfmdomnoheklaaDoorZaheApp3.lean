/-
  AHE, 16: append as the model has it; clear; min and max; iterators of maps.
-/
import Derived.Test.YthfmdomnoheklaaDoorZaheApp2
namespace Go.Ahe
open Go.RowKit

section
variable {P : Program} {C : Ctx} (hC : Fits C P) {base : Nat} {ι : Emb} {H : Hp} {w : World} (hr : Rel base ι H w)
include hC hr

theorem appendE_run {ts tx ty : TypeId} {s s' x x' v : Value} {H' : Hp} (hs : VR ι s s') (hx : VR ι x x') (h : appendE C ts tx s x H = some (v, H')) :
    ∃ v' w' ι', (Builtin.append_ #[ts, tx] ty #[s', x']).run P w = .ok v' w' ∧ VR ι' v v' ∧ Rel base ι' H' w' ∧ Step ι ι' H H' w w' := by
  unfold appendE at h
  split at h
  · rename_i ti tj hti htj
    obtain ⟨i1, d1, z1, hi1⟩ := hC.ti hti
    obtain ⟨i2, d2, z2, hi2⟩ := hC.ti htj
    have hd1 := hi1.desc
    have hd2 := hi2.desc
    split at h
    · rename_i el ex xa xl xc hk1 hk2
      rw [hk1] at hd1; rw [hk2] at hd2
      simp only at hd1 hd2; subst hd1; subst hd2
      obtain ⟨et, het⟩ : ∃ et, C.T el = some et := by
        unfold appendE.appendTo at h
        rw [Option.bind_eq_some_iff] at h
        obtain ⟨et, h1, _⟩ := h; exact ⟨et, h1⟩
      obtain ⟨i3, d3, z3, hi3⟩ := hC.ti het
      have hadd : addedE (.slice xa xl xc) = some xl := rfl
      have hlen : (Builtin.lenOf x').run P w = .ok xl w := by cases hx <;> rfl
      obtain ⟨bs, l, c, hs', v', w', ι', h1, h2⟩ := appTail_run hC hr het hs (n := xl) (x' := x') false hadd (.inl ⟨_, _, _, rfl⟩) (appended := Builtin.firstCells et.size xl x')
        (fun H1 w1 new hr1 hn => by
          obtain ⟨L, hL, hv⟩ := firstCells_run (P := P) hr1 hx hn (fun m hm => by simp only [lenOfE, Option.some.injEq] at hm; omega)
          exact ⟨L.toArray, hL, by simpa using hv⟩) h
      subst hs'
      refine ⟨v', w', ι', ?_, h2⟩
      rw [← h1]
      simp only [Builtin.append_, appTail, List.getElem?_toArray, List.getElem?_cons_zero, List.getElem?_cons_succ, Sem.run_bind, hi1.run_under, hi2.run_under, Result.andThen_ok, hi3.run_size, Sem.run_pure, Bool.false_eq_true, if_false, hlen, Bool.not_false, if_true]
      rfl
    · rename_i el ik xn hk1 hk2
      rw [hk1] at hd1; rw [hk2] at hd2
      simp only at hd1 hd2; subst hd1; subst hd2
      rw [Option.bind_eq_some_iff] at h
      obtain ⟨et, het, h⟩ := h
      obtain ⟨hlim, h⟩ := bif_some h
      simp only [Bool.and_eq_true] at hlim
      have hlim1 := of_decide_eq_true hlim.1
      have hby := nble_le hlim.2.1
      have hzl := nbeq_eq hlim.2.2
      obtain ⟨i3, d3, z3, hi3⟩ := hC.ti het
      obtain ⟨n, hadd⟩ : ∃ n, addedE (.int .i64 xn) = some n := by
        unfold appendE.appendTo at h
        simp only [Option.bind_eq_some_iff] at h
        obtain ⟨et, h1, n, h2, _⟩ := h; exact ⟨n, h2⟩
      have hxn : xn = (n : Int) := by
        simp only [addedE, nat?] at hadd
        split at hadd
        · rename_i h0; cases hadd; omega
        · cases hadd
      subst hxn
      cases hx
      have hzs : z3.cells.size = et.size := by rw [← Array.length_toList, hi3.zcells, hzl]
      have hz := (zero_plain (ι := ι) hi3).repeat n
      have hw1 : IntKind.i64.wrap (n : Int) = (n : Int) := wrap_i64 (by omega) (by omega)
      have c1 : ¬ ((n : Int) < 0) := by omega
      have c2 : ¬ ((n : Int) * (i3.bytes : Int) > 2 ^ 48) := by
        have h1 : n * i3.bytes ≤ 4294967296 * 65536 := Nat.mul_le_mul (by omega) (by rw [hi3.bytes]; exact hby)
        have h2 : ((n * i3.bytes : Nat) : Int) ≤ ((4294967296 * 65536 : Nat) : Int) := Int.ofNat_le.2 h1
        rw [Int.natCast_mul] at h2
        have : (2 : Int) ^ 48 = ((4294967296 * 65536 : Nat) : Int) := by decide
        rw [this]; omega
      obtain ⟨bs, l, c, hs', v', w', ι', h1, h2⟩ := appTail_run hC hr het hs (n := n) (x' := .int .i64 n) true hadd (.inr ⟨_, _, rfl⟩)
        (appended := if n * et.size = 0 then pure #[] else do pure (Builtin.zeroCells (← zeroValue el).cells n))
        (fun H1 w1 new hr1 hn => by
          simp only [newCellsE, Option.some.injEq] at hn
          subst hn
          by_cases h0 : n * et.size = 0
          · refine ⟨#[], by rw [if_pos h0]; rfl, ?_⟩
            have : (repeatL et.zero n).length = 0 := by rw [repeatL_length, hzl, h0]
            rw [List.eq_nil_of_length_eq_zero this]; exact .nil
          · refine ⟨Builtin.zeroCells z3.cells n, ?_, ?_⟩
            · rw [if_neg h0]; simp only [Sem.run_bind, hi3.run_zero, Result.andThen_ok, Sem.run_pure]
            · unfold Builtin.zeroCells
              rw [zeros_eq z3.cells n _ rfl]; exact hz) h
      subst hs'
      refine ⟨v', w', ι', ?_, h2⟩
      rw [← h1]
      have hint : (asInt (.int .i64 (n : Int))).run P w = .ok (n : Int) w := rfl
      simp only [Builtin.append_, appTail, List.getElem?_toArray, List.getElem?_cons_zero, List.getElem?_cons_succ, Sem.run_bind, hi1.run_under, hi2.run_under, Result.andThen_ok, hi3.run_size, Sem.run_pure, if_true, hint, hw1, c1, if_false, hi3.run_info, c2, Int.toNat_natCast, Bool.not_true, Bool.false_eq_true]
      rfl
    · cases h
  · cases h

theorem clearE_run {t ty : TypeId} {x x' : Value} {H' : Hp} (hx : VR ι x x') (h : clearE C t x H = some H') :
    ∃ w' : World, (Builtin.clear_ #[t] ty #[x']).run P w = .ok (.tuple #[]) w' ∧ Rel base ι H' w' ∧ Step ι ι H H' w w' := by
  unfold clearE at h
  split at h
  · cases h
  · rename_i ti hti
    obtain ⟨i, d, z, hi⟩ := hC.ti hti
    have hd := hi.desc
    split at h
    · rename_i el bse len c hkd; rw [hkd] at hd; simp only at hd; subst hd
      rw [Option.bind_eq_some_iff] at h
      obtain ⟨et, het, h⟩ := h
      obtain ⟨i2, d2, z2, hi2⟩ := hC.ti het
      split at h
      · obtain ⟨hb, h⟩ := bif_some h
        cases h
        cases hx
        exact ⟨w, by simp [Builtin.clear_, hi.run_under], hr, Step.refl hr⟩
      · rename_i io o sp
        cases hb : Nat.beq len 0 with
        | true =>
          rw [hb, cond_true] at h
          have := nbeq_eq hb; subst this
          cases h
          refine ⟨w, ?_, hr, Step.refl hr⟩
          cases hx <;> simp [Builtin.clear_, hi.run_under]
        | false =>
          rw [hb, cond_false] at h
          obtain ⟨hz, h⟩ := bif_some h
          have hz := nbeq_eq hz
          have hl0 : len ≠ 0 := fun e => by subst e; cases hb
          have hzs : z2.cells.size = et.size := by rw [← Array.length_toList, hi2.zcells, hz]
          have hzz := (zero_plain (ι := ι) hi2).repeat len
          have hz' : VRs ι (repeatL et.zero len) (Builtin.zeroCells z2.cells len).toList := by
            unfold Builtin.zeroCells
            rw [zeros_eq z2.cells len _ rfl]; exact hzz
          cases hx with
          | @slice _ _ b p _ _ hι =>
            obtain ⟨w', e1, e2⟩ := writeCells_run (P := P) hr hι hz' h
            refine ⟨w', ?_, e2⟩
            obtain ⟨k, rfl⟩ : ∃ k, len = k + 1 := ⟨len - 1, by omega⟩
            simp only [Builtin.clear_, List.getElem?_toArray, List.getElem?_cons_zero, Sem.run_bind, hi.run_under, Result.andThen_ok, hi2.run_zero, e1, Sem.run_pure]
          | @sliceU _ _ b p q _ _ c' zz hι hl hcc hq he =>
            have hq' : q = p + o := by rcases hq with hq | hq <;> omega
            subst hq'
            obtain ⟨w', e1, e2⟩ := writeCells_run (P := P) hr hι hz' h
            refine ⟨w', ?_, e2⟩
            obtain ⟨k, rfl⟩ : ∃ k, len = k + 1 := ⟨len - 1, by omega⟩
            simp only [Builtin.clear_, List.getElem?_toArray, List.getElem?_cons_zero, Sem.run_bind, hi.run_under, Result.andThen_ok, hi2.run_zero, e1, Sem.run_pure]
    · rename_i k e hkd; rw [hkd] at hd; simp only at hd; subst hd
      rw [Option.bind_eq_some_iff] at h
      obtain ⟨m, hm, h⟩ := h
      rcases mapOf_run hr hx hm with ⟨rfl, rfl⟩ | ⟨i', b, p, es, ck, ES, rfl, rfl, rfl, hι, hg, h1, h2⟩
      · cases h
        exact ⟨w, by simp [Builtin.clear_, hi.run_under], hr, Step.refl hr⟩
      · obtain ⟨w', e1, e2⟩ := setMap_run (P := P) hr #[] hι hg h1 h .nil
        refine ⟨w', ?_, e2⟩
        simp [Builtin.clear_, hi.run_under, getObj, Sem.run, h1, e1]
    · cases h

end

theorem minE_run {P : Program} {w : World} {ι : Emb} {xs : List Value} {xs' : Array Value} (hx : VRs ι xs xs'.toList) {v : Value} (h : minE xs = some v) (a : Array TypeId) (t : TypeId) : (Builtin.min_ a t xs').run P w = .ok v w ∧ VR ι v v := by
  unfold minE at h
  split at h
  · cases h
    obtain ⟨l⟩ := xs'
    cases hx with | cons h1 hx => cases hx with | cons h2 hx => cases hx; cases h1; cases h2; exact ⟨rfl, .int _ _⟩
  · cases h
theorem maxE_run {P : Program} {w : World} {ι : Emb} {xs : List Value} {xs' : Array Value} (hx : VRs ι xs xs'.toList) {v : Value} (h : maxE xs = some v) (a : Array TypeId) (t : TypeId) : (Builtin.max_ a t xs').run P w = .ok v w ∧ VR ι v v := by
  unfold maxE at h
  split at h
  · cases h
    obtain ⟨l⟩ := xs'
    cases hx with | cons h1 hx => cases hx with | cons h2 hx => cases hx; cases h1; cases h2; exact ⟨rfl, .int _ _⟩
  · cases h
end Go.Ahe
