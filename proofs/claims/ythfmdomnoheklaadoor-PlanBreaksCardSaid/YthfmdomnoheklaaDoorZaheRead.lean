/-
  AHE, 9: reading the heap; lengths; maps looked up.
-/
import Derived.Test.YthfmdomnoheklaaDoorZaheHeap
namespace Go.Ahe
open Go.RowKit

theorem cell_of {w : World} {b : Nat} {C : Array Value} {E : TypeId} {fz : Nat × Nat} (h : w.heap[b]? = some (.cells C E fz)) (k : Nat) : w.cell? ⟨b, k, none⟩ = C[k]? := by
  simp [World.cell?, h]

theorem readCells_run {base : Nat} {ι : Emb} {H : Hp} {w : World} (hr : Rel base ι H w) {i b p off n : Nat} {r : List Value} (hι : ι i = some (b, p)) (h : readCells H i off n = some r) :
    ∃ L : List Value, VRs ι r L ∧ L.length = n ∧ ∀ (j : Nat) (v : Value), L[j]? = some v → w.cell? ⟨b, p + off + j, none⟩ = some v := by
  unfold readCells at h
  split at h
  · rename_i cs ro hg
    obtain ⟨hle, rfl⟩ := lrange_some h
    obtain ⟨C, E, fz, h1, _, h3, h4⟩ := hr.ob i _ b p hg hι
    have hlen : ((cs.drop off).take n).length = n := by simp; omega
    refine ⟨(List.range n).map fun j => (w.cell? ⟨b, p + off + j, none⟩).getD undef, VRs.of_get (by rw [hlen]; simp) fun k v hk => ?_, by simp, fun j v hj => ?_⟩
    · have hkn : k < n := by
        have := (List.getElem?_eq_some_iff.1 hk).1
        rw [hlen] at this; exact this
      have : cs[off + k]? = some v := by
        rw [List.getElem?_take, if_pos hkn, List.getElem?_drop] at hk
        exact hk
      obtain ⟨v', hv1, hv2⟩ := h4 _ _ this
      refine ⟨v', ?_, hv2⟩
      rw [List.getElem?_map, List.getElem?_range hkn]
      simp only [Option.map_some, cell_of h1]
      rw [show p + off + k = p + (off + k) by omega, hv1]
      rfl
    · have hjn : j < n := by
        have := (List.getElem?_eq_some_iff.1 hj).1
        simpa using this
      rw [List.getElem?_map, List.getElem?_range hjn] at hj
      simp only [Option.map_some, Option.some.injEq] at hj
      have hlt : off + j < cs.length := by omega
      obtain ⟨v', hv1, _⟩ := h4 (off + j) _ (List.getElem?_eq_getElem hlt)
      have hc : w.cell? ⟨b, p + off + j, none⟩ = some v' := by
        rw [cell_of h1, show p + off + j = p + (off + j) by omega, hv1]
      rw [hc] at hj ⊢
      simpa using hj
  · cases h

theorem MR.length {ι : Emb} {es : List (Value × Value × Nat)} {ES : List MapEntry} (h : MR ι es ES) : es.length = ES.length := by
  induction h with
  | nil => rfl
  | cons _ _ _ ih => simp [ih]

theorem one?_some {l : List Value} {v : Value} (h : one? l = some v) : l = [v] := by
  unfold one? at h
  split at h
  · cases h; rfl
  · cases h

section
variable {P : Program} {C : Ctx} (hC : Fits C P) {base : Nat} {ι : Emb} {H : Hp} {w : World} (hr : Rel base ι H w)
include hC hr

theorem loadE_run {t : TypeId} {ti : TI} (hti : C.T t = some ti) {a a' v : Value} (ha : VR ι a a') (h : loadE ti a H = some v) :
    ∃ v', (Instr.loadAt t a').run P w = .ok v' w ∧ VR ι v v' ∧ ∃ ad, a' = .pointer (some ad) ∧ (loadVar t ad).run P w = .ok v' w := by
  obtain ⟨i, d, z, hi⟩ := hC.ti hti
  unfold loadE at h
  split at h
  · rename_i io o
    cases ha with | @ptr _ _ b p ha =>
    have key : ∃ v', (loadVar t ⟨b, p + o, none⟩).run P w = .ok v' w ∧ VR ι v v' := by
      simp only [loadVar, Sem.run_bind, hi.run_agg, Result.andThen_ok]
      cases hag : ti.agg with
      | true =>
        rw [hag] at h
        simp only [Option.map_eq_some_iff] at h
        obtain ⟨r, hrd, rfl⟩ := h
        obtain ⟨L, h1, h2, h3⟩ := readCells_run hr ha hrd
        refine ⟨.agg L.toArray, ?_, .agg (by simpa using h1)⟩
        simp only [if_true, Sem.run_bind, hi.run_size, Result.andThen_ok]
        rw [← h2, run_loadCells_list w ⟨b, p + o, none⟩ L (fun j v hj => by rw [Addr.add_lit]; exact h3 j v hj)]
        rfl
      | false =>
        rw [hag] at h
        simp only [Option.bind_eq_some_iff] at h
        obtain ⟨r, hrd, ho⟩ := h
        have := one?_some ho; subst this
        obtain ⟨L, h1, h2, h3⟩ := readCells_run hr ha hrd
        obtain ⟨u, rfl⟩ : ∃ u, L = [u] := by
          cases L with
          | nil => simp at h2
          | cons u t => cases t with
            | nil => exact ⟨u, rfl⟩
            | cons _ _ => simp at h2
        cases h1 with | cons hv ht =>
        refine ⟨u, ?_, hv⟩
        simp only [Bool.false_eq_true, if_false, run_load]
        have := h3 0 _ rfl
        simp only [Nat.add_zero] at this
        rw [this]
    obtain ⟨v', h1, h2⟩ := key
    refine ⟨v', ?_, h2, _, rfl, h1⟩
    simp only [Instr.loadAt, Instr.sureAddr, Sem.run_bind, Sem.run_pure, Result.andThen_ok, h1]
  · cases h

omit hC in
theorem mapOf_run {x x' : Value} {m : Option (Nat × List (Value × Value × Nat) × Nat)} (hx : VR ι x x') (h : mapOf x H = some m) :
    (m = none ∧ x' = .map none) ∨ ∃ i b p es ck, ∃ ES : Array MapEntry, m = some (i, es, ck) ∧ x = .map (some i) ∧ x' = .map (some b) ∧ ι i = some (b, p) ∧ H.get i = some (.map es ck) ∧ w.heap[b]? = some (.map ES ck) ∧ MR ι es ES.toList := by
  unfold mapOf at h
  split at h
  · cases hx; cases h; exact .inl ⟨rfl, rfl⟩
  · rename_i i
    cases hx with | @map _ b p hx =>
    split at h
    · rename_i es ck hg
      cases h
      obtain ⟨ES, h1, h2⟩ := hr.ob i _ b p hg hx
      exact .inr ⟨i, b, p, es, ck, ES, rfl, rfl, rfl, hx, hg, h1, h2⟩
    · cases h
  · cases h

theorem lenE_run {t : TypeId} {x x' v : Value} (hx : VR ι x x') (h : lenE C t x H = some v) (ty : TypeId) : (Builtin.len_ #[t] ty #[x']).run P w = .ok v w ∧ VR ι v v := by
  unfold lenE at h
  split at h
  · cases h
  · rename_i ti hti
    obtain ⟨i, d, z, hi⟩ := hC.ti hti
    have hd := hi.desc
    split at h
    · rename_i s hk; rw [hk] at hd; simp only at hd; subst hd
      cases hx; cases h
      exact ⟨by simp [Builtin.len_, hi.run_under, goInt], .int _ _⟩
    · rename_i n e hk; rw [hk] at hd; simp only at hd; subst hd
      cases h
      exact ⟨by simp [Builtin.len_, hi.run_under, goInt], .int _ _⟩
    · rename_i el a n c hk; rw [hk] at hd; simp only at hd; subst hd
      cases h
      exact ⟨by cases hx <;> simp [Builtin.len_, hi.run_under, goInt], .int _ _⟩
    · rename_i k e hk; rw [hk] at hd; simp only at hd; subst hd
      rw [Option.map_eq_some_iff] at h
      obtain ⟨m, hm, rfl⟩ := h
      rcases mapOf_run hr hx hm with ⟨rfl, rfl⟩ | ⟨i, b, p, es, ck, ES, rfl, rfl, rfl, _, _, h1, h2⟩
      · exact ⟨by simp [Builtin.len_, hi.run_under, goInt], .int _ _⟩
      · have hsz : es.length = ES.size := by
          rw [← Array.length_toList]
          exact h2.length
        refine ⟨?_, .int _ _⟩
        simp [Builtin.len_, hi.run_under, goInt, getObj, Sem.run, h1, hsz]
    · cases h
end
end Go.Ahe
