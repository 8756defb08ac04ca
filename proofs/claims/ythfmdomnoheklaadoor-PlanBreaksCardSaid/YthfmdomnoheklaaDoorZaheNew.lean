/-
  AHE, 13: new rows: variables, literals, make, append, copy, clear.
-/
import Derived.Test.YthfmdomnoheklaaDoorZaheWrite2
namespace Go.Ahe
open Go.RowKit

theorem repeatL_length (z : List Value) : ∀ n, (repeatL z n).length = n * z.length
  | 0 => by simp [repeatL]
  | n + 1 => by simp [repeatL, repeatL_length z n, Nat.succ_mul, Nat.add_comm]

theorem repeatL_get (z : List Value) : ∀ (n k : Nat), k < n * z.length → (repeatL z n)[k]? = z[k % z.length]?
  | 0, k, h => by simp at h
  | n + 1, k, h => by
    rw [repeatL]
    by_cases hk : k < z.length
    · rw [List.getElem?_append_left hk, Nat.mod_eq_of_lt hk]
    · have hk := Nat.le_of_not_lt hk
      rw [List.getElem?_append_right hk, repeatL_get z n _ (by rw [Nat.succ_mul] at h; omega)]
      rw [Nat.mod_eq_sub_mod hk]

/-- Zero cells, again and again, as the model makes them. -/
theorem zeros_eq (z : Array Value) (n m : Nat) (h : m = n * z.size) : ((Array.range m).map fun i => z[i % z.size]!).toList = repeatL z.toList n := by
  subst h
  apply List.ext_getElem?
  intro k
  by_cases hk : k < n * z.size
  · have hz : 0 < z.size := by
      rcases Nat.eq_zero_or_pos z.size with h0 | h0
      · rw [h0] at hk; omega
      · exact h0
    have hm : k % z.size < z.size := Nat.mod_lt _ hz
    rw [repeatL_get z.toList n k (by simpa using hk)]
    simp only [Array.length_toList, Array.getElem?_toList]
    rw [Array.getElem?_map]
    have : (Array.range (n * z.size))[k]? = some k := by simp [hk]
    rw [this, Option.map_some, getElem!_pos z _ hm, Array.getElem?_eq_getElem hm]
  · rw [List.getElem?_eq_none (by simpa using Nat.le_of_not_lt hk), List.getElem?_eq_none]
    rw [repeatL_length]
    simpa using Nat.le_of_not_lt hk

theorem VRs.repeat {ι : Emb} {z z' : List Value} (h : VRs ι z z') : ∀ n, VRs ι (repeatL z n) (repeatL z' n)
  | 0 => .nil
  | n + 1 => h.append (h.repeat n)

theorem VRs.full {ι : Emb} {cs : List Value} {D : Array Value} (h : VRs ι cs D.toList) : VRs ι cs (D.toList.take cs.length) ∧ cs.length ≤ D.size := by
  have := h.length
  have e : D.toList.length = D.size := Array.length_toList
  exact ⟨by rw [this, List.take_length]; exact h, by omega⟩

theorem wrap_i64 {n : Int} (h0 : 0 ≤ n) (h1 : n ≤ 9223372036854775807) : IntKind.i64.wrap n = n := by
  have : n % 18446744073709551616 = n := Int.emod_eq_of_lt h0 (by omega)
  simp [IntKind.wrap, IntKind.bits, IntKind.signed, this]
  omega

section
variable {P : Program} {C : Ctx} (hC : Fits C P) {base : Nat} {ι : Emb} {H : Hp} {w : World} (hr : Rel base ι H w)

/-- A pointer to a new row. -/
theorem VR.newPtr (ι : Emb) (i n s : Nat) : VR (ι.ext i (n, 0) n s) (.pointer (some ⟨i, 0, none⟩)) (.pointer (some ⟨n, 0, none⟩)) :=
  .ptr (o := 0) (p := 0) (Emb.ext_self _ _ _ _ _)
theorem VR.newSlice (ι : Emb) (i n s l c : Nat) : VR (ι.ext i (n, 0) n s) (.slice (some ⟨i, 0, none⟩) l c) (.slice (some ⟨n, 0, none⟩) l c) :=
  .slice (o := 0) (p := 0) (Emb.ext_self _ _ _ _ _)
theorem VR.newSliceU (ι : Emb) (i n s l c c' z : Nat) (hl : l ≤ c) (hc : c ≤ c') (hs : c' * z = s) : VR (ι.ext i (n, 0) n s) (.slice (some ⟨i, 0, some z⟩) l c) (.slice (some ⟨n, 0, none⟩) l c') :=
  .sliceU (o := 0) (p := 0) (Emb.ext_self _ _ _ _ _) hl hc (.inr rfl) (.inr (by rw [Emb.ext_sz, Nat.zero_add]; exact hs))

include hr
theorem row_run {cs : List Value} {D : Array Value} (E : TypeId) (h : VRs ι cs (D.toList.take cs.length)) (hle : cs.length ≤ D.size) :
    Rel base (ι.ext H.next (w.heap.size, 0) w.heap.size D.size) (H.new (.cells cs false)) (w.alloc (.cells D E)) ∧
      Step ι (ι.ext H.next (w.heap.size, 0) w.heap.size D.size) H (H.new (.cells cs false)) w (w.alloc (.cells D E)) :=
  hr.new _ _ _ fun w' hw => newRow_ob E (Emb.ext_sz _ _ _ _ _).symm (h.mono (Emb.le_ext _ _ (hr.dom _ (Nat.le_refl _)) (fun j b p hj e => by have := hr.bnd j b p hj; omega))) hle w' hw

include hC
theorem allocOp_run {t : TypeId} {ti : TI} (hti : C.T t = some ti) :
    ∃ (w' : World) (s : Nat), (Instr.alloc t true (.tuple #[])).run P w = .ok (.pointer (some ⟨w.heap.size, 0, none⟩)) w' ∧ Rel base (ι.ext H.next (w.heap.size, 0) w.heap.size s) (H.new (.cells ti.zero false)) w' ∧ Step ι (ι.ext H.next (w.heap.size, 0) w.heap.size s) H (H.new (.cells ti.zero false)) w w' := by
  obtain ⟨i, d, z, hi⟩ := hC.ti hti
  obtain ⟨h1, h2⟩ := (zero_plain (ι := ι) hi).full
  refine ⟨w.alloc (.cells z.cells t), _, ?_, row_run hr t h1 h2⟩
  simp only [Instr.alloc, Sem.run_bind, hi.run_zero, Result.andThen_ok, newVar, newRow, run_newObj, Sem.run_pure, World.alloc]

omit hC in
theorem boxOp_run {t : TypeId} {v v' : Value} (hv : VR ι v v') :
    ∃ (w' : World) (s : Nat), (Instr.box t v').run P w = .ok (.pointer (some ⟨w.heap.size, 0, none⟩)) w' ∧ Rel base (ι.ext H.next (w.heap.size, 0) w.heap.size s) (H.new (.cells (cellsOf v) false)) w' ∧ Step ι (ι.ext H.next (w.heap.size, 0) w.heap.size s) H (H.new (.cells (cellsOf v) false)) w w' := by
  obtain ⟨h1, h2⟩ := hv.cells.full
  refine ⟨w.alloc (.cells v'.cells t), _, ?_, row_run hr t h1 h2⟩
  simp only [Instr.box, Sem.run_bind, Result.andThen_ok, newVar, newRow, run_newObj, Sem.run_pure, World.alloc]

theorem buildSliceE_run {t : TypeId} {n : Nat} {ps : List (Nat × Value)} {ps' : Array (Nat × Value)} {v : Value} {H' : Hp}
    (hk : ps.map (·.1) = ps'.toList.map (·.1)) (hv : VRs ι (ps.map (·.2)) (ps'.toList.map (·.2))) (h : buildSliceE C t n ps H = some (v, H')) :
    ∃ v' w' ι', (Instr.buildSlice t n ps').run P w = .ok v' w' ∧ VR ι' v v' ∧ Rel base ι' H' w' ∧ Step ι ι' H H' w w' := by
  unfold buildSliceE at h
  split at h
  · rename_i ti hti
    obtain ⟨i, d, z, hi⟩ := hC.ti hti
    have hd := hi.desc
    split at h
    · rename_i el hkd; rw [hkd] at hd; simp only at hd; subst hd
      rw [Option.bind_eq_some_iff] at h
      obtain ⟨et, het, h⟩ := h
      obtain ⟨i2, d2, z2, hi2⟩ := hC.ti het
      obtain ⟨hb, h⟩ := bif_some h
      simp only [Bool.and_eq_true] at hb
      have b1 := nble_le hb.1.1
      have b2 := nble_le hb.1.2
      have b3 := nbeq_eq hb.2
      rw [Option.map_eq_some_iff] at h
      obtain ⟨r, hr1, he⟩ := h
      cases he
      have hzs : z2.cells.size = et.size := by rw [← Array.length_toList, hi2.zcells, b3]
      have hz := (zero_plain (ι := ι) hi2).repeat n
      have hz' : VRs ι (repeatL et.zero n) ((Array.range (n * et.size)).map fun i => z2.cells[i % z2.cells.size]!).toList := by
        rw [zeros_eq z2.cells n _ (by rw [hzs])]; exact hz
      obtain ⟨r', h1, h2⟩ := fillE_run hk hv hz' hr1
      obtain ⟨h3, h4⟩ := h2.full
      obtain ⟨e1, e2⟩ := row_run hr el h3 h4
      refine ⟨_, _, _, ?_, VR.newSlice ι H.next w.heap.size _ n n, e1, e2⟩
      have n1 : ¬ n * et.size > 2 ^ 24 := by omega
      by_cases h0 : n * et.size = 0
      · rw [h0] at h1
        simp only [Instr.buildSlice, Sem.run_bind, hi.run_under, Result.andThen_ok, hi2.run_size, h0, if_true]
        rw [if_neg (by decide)]
        simp only [Sem.run_bind, Sem.run_pure, Result.andThen_ok]
        have hsame : ((Array.range 0).map fun i => (#[] : Array Value)[i % (#[] : Array Value).size]!) = ((Array.range 0).map fun i => z2.cells[i % z2.cells.size]!) := by simp
        rw [hsame, h1]
        simp only [Sem.run_bind, newRow, run_newObj, Result.andThen_ok, Sem.run_pure, World.alloc]
      · simp only [Instr.buildSlice, Sem.run_bind, hi.run_under, Result.andThen_ok, hi2.run_size, n1, if_false, h0, hi2.run_zero, Sem.run_pure]
        rw [h1]
        simp only [Sem.run_bind, newRow, run_newObj, Result.andThen_ok, Sem.run_pure, World.alloc]
    · cases h
  · cases h

theorem makeSliceE_run {t : TypeId} {l l' c c' v : Value} {H' : Hp} (hl : VR ι l l') (hc : VR ι c c') (h : makeSliceE C t l c H = some (v, H')) :
    ∃ v' w' ι', (Instr.makeSlice t l' c').run P w = .ok v' w' ∧ VR ι' v v' ∧ Rel base ι' H' w' ∧ Step ι ι' H H' w w' := by
  unfold makeSliceE at h
  split at h
  · rename_i ti len cap hti hln hcp
    obtain ⟨i, d, z, hi⟩ := hC.ti hti
    have hd := hi.desc
    obtain ⟨k1, rfl⟩ := nat?_some hl hln
    obtain ⟨k2, rfl⟩ := nat?_some hc hcp
    split at h
    · rename_i el hkd; rw [hkd] at hd; simp only at hd; subst hd
      rw [Option.bind_eq_some_iff] at h
      obtain ⟨et, het, h⟩ := h
      obtain ⟨i2, d2, z2, hi2⟩ := hC.ti het
      obtain ⟨hb, h⟩ := bif_some h
      simp only [Bool.and_eq_true] at hb
      have b1 := nble_le hb.1.1.1.1
      have b2 := nble_le hb.1.1.1.2
      have b3 := nble_le hb.1.1.2
      have b4 := nble_le hb.1.2
      have b5 := nbeq_eq hb.2
      cases h
      have hzs : z2.cells.size = et.size := by rw [← Array.length_toList, hi2.zcells, b5]
      have hz := (zero_plain (ι := ι) hi2).repeat cap
      have hz' : VRs ι (repeatL et.zero cap) ((Array.range (cap * et.size)).map fun i => z2.cells[i % z2.cells.size]!).toList := by
        rw [zeros_eq z2.cells cap _ (by rw [hzs])]; exact hz
      obtain ⟨h3, h4⟩ := hz'.full
      obtain ⟨e1, e2⟩ := row_run hr el h3 h4
      refine ⟨_, _, _, ?_, VR.newSlice ι H.next w.heap.size _ len cap, e1, e2⟩
      have hw1 : IntKind.i64.wrap (len : Int) = (len : Int) := wrap_i64 (by omega) (by omega)
      have hw2 : IntKind.i64.wrap (cap : Int) = (cap : Int) := wrap_i64 (by omega) (by omega)
      have hby : (et.bytes : Int) * (cap : Int) ≤ ((140737488355328 : Nat) : Int) := by
        have := Int.ofNat_le.2 b1
        rwa [Int.natCast_mul] at this
      have c1 : decide ((cap : Int) < 0) = false := decide_eq_false (by omega)
      have c2 : decide ((et.bytes : Int) * (cap : Int) > 2 ^ 48) = false := decide_eq_false (fun hgt => by
        have h48 : (2 : Int) ^ 48 = 281474976710656 := by decide
        rw [h48] at hgt
        have h47 : ((140737488355328 : Nat) : Int) = 140737488355328 := rfl
        rw [h47] at hby
        have := Int.lt_of_lt_of_le hgt hby
        exact absurd this (by decide))
      have c3 : decide ((len : Int) < 0) = false := decide_eq_false (by omega)
      have c4 : decide ((len : Int) > (cap : Int)) = false := decide_eq_false (by omega)
      simp only [Instr.makeSlice, Sem.run_bind, hi.run_under, Result.andThen_ok, asInt, asIntOf, Sem.run_pure, hi2.run_info, hi2.bytes, hw1, hw2, c1, c2, c3, c4, Bool.or_self, Bool.false_eq_true, if_false, run_askRoom, Int.toNat_natCast, hi2.run_size]
      by_cases h0 : cap * et.size = 0
      · have hrow : ((Array.range (cap * et.size)).map fun i => (#[] : Array Value)[i % (#[] : Array Value).size]!) = ((Array.range (cap * et.size)).map fun i => z2.cells[i % z2.cells.size]!) := by
          simp only [h0]
          have : Array.range 0 = #[] := rfl
          rw [this, Array.map_empty, Array.map_empty]
        rw [if_pos h0]
        simp only [Sem.run_bind, Sem.run_pure, Result.andThen_ok]
        rw [hrow]
        simp only [newRow, run_newObj, Sem.run_bind, Result.andThen_ok, Sem.run_pure, World.alloc]
      · rw [if_neg h0]
        simp only [Sem.run_bind, hi2.run_zero, Sem.run_pure, Result.andThen_ok, newRow, run_newObj, World.alloc]
    · cases h
  · cases h
end
end Go.Ahe
