/-
  AHE, 11: writing cells.
-/
import Derived.Test.YthfmdomnoheklaaDoorZaheMap
namespace Go.Ahe
open Go.RowKit

theorem heap_setCell_self {w : World} {b k : Nat} {C : Array Value} {E : TypeId} {fz : Nat × Nat} (h : w.heap[b]? = some (.cells C E fz)) (v : Value) :
    (w.setCell ⟨b, k, none⟩ v).heap[b]? = some (.cells (C.setIfInBounds k v) E fz) := by
  simp [World.setCell, Array.getElem?_modify, h]

theorem heap_setCell_other {w : World} {b k : Nat} (v : Value) {j : Nat} (h : j ≠ b) : (w.setCell ⟨b, k, none⟩ v).heap[j]? = w.heap[j]? := Below.heap_setCell w ⟨b, k, none⟩ v j h

theorem size_setCell (w : World) (a : Addr) (v : Value) : (w.setCell a v).heap.size = w.heap.size := by simp [World.setCell]

/-- Cells put one by one into a row. -/
theorem storeCells_run {P : Program} {b o : Nat} {E : TypeId} {fz : Nat × Nat} (hfz : ∀ k, ¬ (fz.1 ≤ k ∧ k < fz.2)) : ∀ (vs : List Value) (i : Nat) (w : World) (C : Array Value), w.heap[b]? = some (.cells C E fz) →
    o + i + vs.length ≤ C.size → vs.all oneCell = true →
    ∃ w' : World, ∃ C' : Array Value, (storeCells ⟨b, o, none⟩ vs i).run P w = .ok () w' ∧ w'.heap[b]? = some (.cells C' E fz) ∧ C'.size = C.size ∧
      (∀ k : Nat, C'[k]? = if o + i ≤ k ∧ k < o + i + vs.length then vs[k - (o + i)]? else C[k]?) ∧ WEq w w' ∧ w'.heap.size = w.heap.size ∧ ∀ j, j ≠ b → w'.heap[j]? = w.heap[j]?
  | [], i, w, C, h, _, _ => ⟨w, C, rfl, h, rfl, fun k => by rw [if_neg (by simp)], ⟨rfl, rfl, rfl⟩, rfl, fun _ _ => rfl⟩
  | v :: vs, i, w, C, h, hle, hone => by
    simp only [List.all_cons, Bool.and_eq_true] at hone
    simp only [List.length_cons] at hle
    have hlt : o + i < C.size := by omega
    have h1 : v.oneCell' = true := by have := hone.1; cases v <;> first | rfl | cases this
    have hc : w.cell? ⟨b, o + i, none⟩ = some C[o + i] := by rw [cell_of h]; exact Array.getElem?_eq_getElem hlt
    have hf : w.frozen? ⟨b, o + i, none⟩ = false := by
      simp only [World.frozen?, h]
      have := hfz (o + i)
      simpa using this
    have hst : (store ((⟨b, o, none⟩ : Addr).add i) v).run P w = .ok () (w.setCell ⟨b, o + i, none⟩ v) := by
      rw [Addr.add_lit, run_store P w _ v _ h1, hc]
      simp [hf]
    obtain ⟨w', C', e1, e2, e3, e4, e5, e6, e7⟩ := storeCells_run (P := P) (o := o) hfz vs (i + 1) (w.setCell ⟨b, o + i, none⟩ v) _ (heap_setCell_self h v) (by simp; omega) hone.2
    refine ⟨w', C', ?_, e2, by rw [e3]; simp, fun k => ?_, ⟨e5.os, e5.tape, e5.output⟩, by rw [e6, size_setCell], fun j hj => (e7 j hj).trans (heap_setCell_other v hj)⟩
    · simp only [storeCells, Sem.run_bind, hst, Result.andThen_ok, e1]
    · rw [e4 k]
      by_cases hk : o + (i + 1) ≤ k ∧ k < o + (i + 1) + vs.length
      · rw [if_pos hk, if_pos (by simp; omega)]
        obtain ⟨n, rfl⟩ : ∃ n, k = o + i + 1 + n := ⟨k - (o + i + 1), by omega⟩
        rw [show o + i + 1 + n - (o + (i + 1)) = n by omega, show o + i + 1 + n - (o + i) = n + 1 by omega]
        simp
      · rw [if_neg hk]
        by_cases he : k = o + i
        · subst he
          rw [if_pos (by simp)]
          simp [hlt]
        · rw [if_neg (by simp; omega), Array.getElem?_setIfInBounds_ne (Ne.symm he)]

theorem VRs.allOne {ι : Emb} : ∀ {l l' : List Value}, VRs ι l l' → l.all oneCell = true → l'.all oneCell = true
  | _, _, .nil, _ => rfl
  | _, _, .cons hv t, h => by
    simp only [List.all_cons, Bool.and_eq_true] at h ⊢
    exact ⟨by rw [hv.oneCell]; exact h.1, t.allOne h.2⟩

section
variable {P : Program} {base : Nat} {ι : Emb} {H : Hp} {w : World} (hr : Rel base ι H w)
include hr

theorem writeCells_run {i b p off : Nat} {vs vs' : List Value} {H' : Hp} (hι : ι i = some (b, p)) (hv : VRs ι vs vs') (h : writeCells H i off vs = some H') :
    ∃ w' : World, (storeCells ⟨b, p + off, none⟩ vs').run P w = .ok () w' ∧ Rel base ι H' w' ∧ Step ι ι H H' w w' := by
  unfold writeCells at h
  split at h
  · rename_i cs hg
    obtain ⟨hone, h⟩ := bif_some h
    rw [Option.bind_eq_some_iff] at h
    obtain ⟨cs1, hl, hu⟩ := h
    obtain ⟨hle, hcs1⟩ := lput_some hl
    obtain ⟨C, E, fz, h1, h2, h3, h4⟩ := hr.ob i _ b p hg hι
    have hlen := hv.length
    have hone' : vs'.all oneCell = true := by
      exact hv.allOne hone
    obtain ⟨w', C', e1, e2, e3, e4, e5, e6, e7⟩ := storeCells_run (P := P) (o := p + off) (h2 rfl) vs' 0 w C h1 (by have := h3.1; omega) hone'
    refine ⟨w', e1, ?_⟩
    refine hr.write hg rfl hι hu e5 e6 e7 ?_ ?_
    · refine ⟨C', E, fz, e2, h2, ⟨?_, e3.trans h3.2⟩, fun k v hk => ?_⟩
      · have := h3.1; rw [e3, hcs1]; simp; omega
      · rw [hcs1] at hk
        rw [e4]
        by_cases hk1 : k < off
        · rw [List.append_assoc, List.getElem?_append_left (by simp; omega), List.getElem?_take, if_pos hk1] at hk
          rw [if_neg (by omega)]
          exact h4 k v hk
        · by_cases hk2 : k < off + vs.length
          · rw [List.getElem?_append_left (by simp; omega), List.getElem?_append_right (by simp; omega)] at hk
            simp only [List.length_take] at hk
            rw [Nat.min_eq_left (by omega)] at hk
            obtain ⟨v', hv1, hv2⟩ := hv.get? hk
            refine ⟨v', ?_, hv2⟩
            rw [if_pos (by omega), show p + k - (p + off + 0) = k - off by omega]
            exact hv1
          · rw [List.getElem?_append_right (by simp; omega), List.getElem?_drop] at hk
            simp only [List.length_append, List.length_take] at hk
            rw [Nat.min_eq_left (by omega)] at hk
            rw [if_neg (by omega)]
            rw [show off + vs.length + (k - (off + vs.length)) = k by omega] at hk
            exact h4 k v hk
    · intro L hL; rw [h1] at hL; cases hL
  · cases h

end

/-- The zero value of a type. -/
theorem zeroV_rel {P : Program} {ι : Emb} {t : TypeId} {ti : TI} {i : TypeInfo} {d : TypeDesc} {z u : Value} (hi : TIok P t ti i d z) (h : zeroV ti = some u) : VR ι u z := by
  unfold zeroV at h
  have hp := zero_plain (ι := ι) hi
  have hz := hi.zagg
  have hc := hi.zcells
  split at h
  · rename_i ha
    rw [ha] at hz
    cases h
    cases z <;> first | (cases hz; done) | skip
    exact .agg (by simpa [Value.cells] using hp)
  · rename_i ha
    rw [ha] at hz
    have := one?_some h
    rw [this] at hp hc
    cases z <;> first | (cases hz; done) | skip
    all_goals (cases hp with | cons h1 _ => exact h1)

section
variable {P : Program} {C : Ctx} (hC : Fits C P) {base : Nat} {ι : Emb} {H : Hp} {w : World} (hr : Rel base ι H w)
include hC hr

theorem storeE_run {t : TypeId} {ti : TI} (hti : C.T t = some ti) {a a' v v' : Value} {H' : Hp} (ha : VR ι a a') (hv : VR ι v v') (h : storeE ti a v H = some H') :
    ∃ w' : World, (Instr.storeAt t a' v').run P w = .ok () w' ∧ Rel base ι H' w' ∧ Step ι ι H H' w w' := by
  obtain ⟨i, d, z, hi⟩ := hC.ti hti
  unfold storeE at h
  split at h
  · rename_i io o
    cases ha with | @ptr _ _ b p ha =>
    obtain ⟨hb, h⟩ := bif_some h
    have hb := nbeq_eq hb
    obtain ⟨w', h1, h2, h3⟩ := writeCells_run (P := P) hr ha hv.cells h
    refine ⟨w', ?_, h2, h3⟩
    have hsz : v'.cells.size = ti.size := by rw [← Array.length_toList, ← hv.cells.length, hb]
    simp only [Instr.storeAt, Instr.sureAddr, Sem.run_bind, Sem.run_pure, Result.andThen_ok, storeVar, hi.run_size, hsz, ne_eq, not_true, if_false]
    exact h1
  · cases h

omit hC hr in
/-- A row of cells, new: as many abstract ones as real ones, or fewer. -/
theorem newRow_ob {ι : Emb} {cs : List Value} {C : Array Value} (E : TypeId) {n : Nat} (hsz : C.size = ι.sz n) (hv : VRs ι cs (C.toList.take cs.length)) (hle : cs.length ≤ C.size) (w' : World) (hw : w'.heap[n]? = some (.cells C E (0, 0))) :
    ObR ι w' (.cells cs false) n 0 := by
  refine ⟨C, E, (0, 0), hw, fun _ k => by simp, ⟨by omega, hsz⟩, fun k v hk => ?_⟩
  obtain ⟨v', h1, h2⟩ := hv.get? hk
  refine ⟨v', ?_, h2⟩
  rw [Nat.zero_add]
  rw [List.getElem?_take] at h1
  split at h1
  · rw [← Array.getElem?_toList]; exact h1
  · cases h1

theorem lookupE_run {t : TypeId} {x x' k k' v : Value} {ok : Bool} (hx : VR ι x x') (hk : VR ι k k') (h : lookupE C t x k ok H = some v) :
    ∃ v', (Instr.lookup t x' k' ok).run P w = .ok v' w ∧ VR ι v v' := by
  unfold lookupE at h
  split at h
  · cases h
  · rename_i ti hti
    obtain ⟨i, d, z, hi⟩ := hC.ti hti
    have hd := hi.desc
    split at h
    · rename_i kt et hkd; rw [hkd] at hd; simp only at hd; subst hd
      simp only [Option.bind_eq_some_iff] at h
      obtain ⟨eti, heti, m, hm, h⟩ := h
      obtain ⟨hf, h⟩ := bif_some h
      simp only [Option.bind_eq_some_iff, Option.map_eq_some_iff] at h
      obtain ⟨r, hfind, u, hu, rfl⟩ := h
      obtain ⟨i2, d2, z2, hi2⟩ := hC.ti heti
      have hfin : ∀ (r' : Option (Nat × Value)) (u' : Value), RF ι r r' → VR ι u u' → ∃ v', (pure (if ok = true then .tuple #[u', .bool r'.isSome] else u') : Sem Value).run P w = .ok v' w ∧ VR ι (okV ok u r.isSome) v' := by
        intro r' u' hr2 hu'
        have hrs : r'.isSome = r.isSome := by cases r <;> cases r' <;> first | rfl | exact hr2.elim
        cases ok with
        | true => exact ⟨_, rfl, .tuple (.cons hu' (.cons (by rw [hrs]; exact .bool _) .nil))⟩
        | false => exact ⟨_, rfl, hu'⟩
      have rest : ∀ ES : Array MapEntry, MR ι (entriesOf m) ES.toList → ∃ v', (do
            Instr.checkKey ES.isEmpty 10000 kt k'
            let __do_lift ← Instr.findKey kt k' ES.toList
            match __do_lift with
              | some (_, v) => do
                let __x ← pure (v, true)
                pure (if ok = true then Value.tuple #[__x.fst, Value.bool __x.snd] else __x.fst)
              | none => do
                let __do_lift ← zeroValue et
                let __x ← pure (__do_lift, false)
                pure (if ok = true then Value.tuple #[__x.fst, Value.bool __x.snd] else __x.fst) : Sem Value).run P w = .ok v' w ∧ VR ι (okV ok u r.isSome) v' := by
        intro ES hMR
        obtain ⟨r', hr1, hr2⟩ := findKey_run hC (w := w) hf hk hMR hfind
        have hck := checkKey_run hC (w := w) ES.isEmpty hf hk
        simp only [Sem.run_bind, hck, hr1, Result.andThen_ok]
        cases r with
        | none =>
          cases r' with
          | some _ => exact hr2.elim
          | none =>
            simp only at hu
            obtain ⟨v', h1, h2⟩ := hfin none z2 hr2 (zeroV_rel hi2 hu)
            exact ⟨v', by simpa [hi2.run_zero] using h1, h2⟩
        | some iv =>
          cases r' with
          | none => exact hr2.elim
          | some jv =>
            obtain ⟨j, vv⟩ := jv
            obtain ⟨i', v0⟩ := iv
            simp only [Option.some.injEq] at hu; subst hu
            obtain ⟨v', h1, h2⟩ := hfin (some (j, vv)) vv hr2 hr2.2
            exact ⟨v', by simpa using h1, h2⟩
      rcases mapOf_run hr hx hm with ⟨rfl, rfl⟩ | ⟨i, b, p, es, ck, ES, rfl, rfl, rfl, _, _, h1, h2⟩
      · obtain ⟨v', h3, h4⟩ := rest #[] .nil
        refine ⟨v', ?_, h4⟩
        simp only [Instr.lookup, Sem.run_bind, hi.run_under, Result.andThen_ok, Sem.run_pure] at h3 ⊢
        exact h3
      · obtain ⟨v', h3, h4⟩ := rest ES h2
        refine ⟨v', ?_, h4⟩
        simp only [Instr.lookup, Sem.run_bind, hi.run_under, Result.andThen_ok, Sem.run_pure, getObj, Sem.run, h1] at h3 ⊢
        exact h3
    · cases h
end
end Go.Ahe
