/-
  AHE, 13: new rows: variables, literals, make, append, copy, clear.
-/
import Derived.Test.YtiigiodagfalpaaZaheA
namespace Go.Ahe
open Go.RowKit

theorem repeatL_length (z : List Value) : ∀ n, (repeatL z n).length = n * z.length
  | 0 => by simp [repeatL]
  | n + 1 => by simp [repeatL, repeatL_length z n, Nat.succ_mul, Nat.add_comm]

theorem repeatL_get (z : List Value) : ∀ (n k : Nat), k < n * z.length → (repeatL z n)[k]? = z[k % z.length]?
  | 0, k, h => by simp at h
  | n + 1, k, h => by
    rw [repeatL]
    by_cases hk : k < z.length
    · rw [List.getElem?_append_left hk, Nat.mod_eq_of_lt hk]
    · have hk := Nat.le_of_not_lt hk
      rw [List.getElem?_append_right hk, repeatL_get z n _ (by rw [Nat.succ_mul] at h; omega)]
      rw [Nat.mod_eq_sub_mod hk]

/-- Zero cells, again and again, as the model makes them. -/
theorem zeros_eq (z : Array Value) (n m : Nat) (h : m = n * z.size) : ((Array.range m).map fun i => z[i % z.size]!).toList = repeatL z.toList n := by
  subst h
  apply List.ext_getElem?
  intro k
  by_cases hk : k < n * z.size
  · have hz : 0 < z.size := by
      rcases Nat.eq_zero_or_pos z.size with h0 | h0
      · rw [h0] at hk; omega
      · exact h0
    have hm : k % z.size < z.size := Nat.mod_lt _ hz
    rw [repeatL_get z.toList n k (by simpa using hk)]
    simp only [Array.length_toList, Array.getElem?_toList]
    rw [Array.getElem?_map]
    have : (Array.range (n * z.size))[k]? = some k := by simp [hk]
    rw [this, Option.map_some, getElem!_pos z _ hm, Array.getElem?_eq_getElem hm]
  · rw [List.getElem?_eq_none (by simpa using Nat.le_of_not_lt hk), List.getElem?_eq_none]
    rw [repeatL_length]
    simpa using Nat.le_of_not_lt hk

theorem VRs.repeat {ι : Emb} {z z' : List Value} (h : VRs ι z z') : ∀ n, VRs ι (repeatL z n) (repeatL z' n)
  | 0 => .nil
  | n + 1 => h.append (h.repeat n)

theorem VRs.full {ι : Emb} {cs : List Value} {D : Array Value} (h : VRs ι cs D.toList) : VRs ι cs (D.toList.take cs.length) ∧ cs.length ≤ D.size ∧ ∀ k v', cs.length ≤ k → D[k]? = some v' → plainCell v' = true := by
  have := h.length
  have e : D.toList.length = D.size := Array.length_toList
  exact ⟨by rw [this, List.take_length]; exact h, by omega, fun k v' hk hv => by
    have := (Array.getElem?_eq_some_iff.1 hv).1
    omega⟩

theorem wrap_i64 {n : Int} (h0 : 0 ≤ n) (h1 : n ≤ 9223372036854775807) : IntKind.i64.wrap n = n := by
  have : n % 18446744073709551616 = n := Int.emod_eq_of_lt h0 (by omega)
  simp [IntKind.wrap, IntKind.bits, IntKind.signed, this]
  omega

section
variable {P : Program} {C : Ctx} (hC : Fits C P) {base : Nat} {ι : Emb} {H : Hp} {w : World} (hr : Rel base ι H w)

/-- A pointer to a new row. -/
theorem VR.newPtr (ι : Emb) (i n s : Nat) : VR (ι.ext i (n, 0) n s) (.pointer (some ⟨i, 0, none⟩)) (.pointer (some ⟨n, 0, none⟩)) :=
  .ptr (o := 0) (p := 0) (Emb.ext_self _ _ _ _ _)
theorem VR.newSlice (ι : Emb) (i n s l c : Nat) : VR (ι.ext i (n, 0) n s) (.slice (some ⟨i, 0, none⟩) l c) (.slice (some ⟨n, 0, none⟩) l c) :=
  .slice (o := 0) (p := 0) (Emb.ext_self _ _ _ _ _)
theorem VR.newSliceU (ι : Emb) (i n s l c c' z : Nat) (hl : l ≤ c) (hc : c ≤ c') (hs : c' * z = s) : VR (ι.ext i (n, 0) n s) (.slice (some ⟨i, 0, some z⟩) l c) (.slice (some ⟨n, 0, none⟩) l c') :=
  .sliceU (o := 0) (p := 0) (Emb.ext_self _ _ _ _ _) hl hc (.inr rfl) (.inr (by rw [Emb.ext_sz, Nat.zero_add]; exact hs))

include hr
theorem row_run {cs : List Value} {D : Array Value} (E : TypeId) (h : VRs ι cs (D.toList.take cs.length)) (hle : cs.length ≤ D.size) (hsp : ∀ k v', cs.length ≤ k → D[k]? = some v' → plainCell v' = true) :
    Rel base (ι.ext H.next (w.heap.size, 0) w.heap.size D.size) (H.new (.cells cs false)) (w.alloc (.cells D E)) ∧
      Step ι (ι.ext H.next (w.heap.size, 0) w.heap.size D.size) H (H.new (.cells cs false)) w (w.alloc (.cells D E)) :=
  hr.new _ _ _ fun w' hw => newRow_ob E (Emb.ext_sz _ _ _ _ _).symm (h.mono (Emb.le_ext _ _ (hr.dom _ (Nat.le_refl _)) (fun j b p hj e => by have := hr.bnd j b p hj; omega))) hle hsp w' hw

include hC
theorem allocOp_run {t : TypeId} {ti : TI} (hti : C.T t = some ti) :
    ∃ (w' : World) (s : Nat), (Instr.alloc t true (.tuple #[])).run P w = .ok (.pointer (some ⟨w.heap.size, 0, none⟩)) w' ∧ Rel base (ι.ext H.next (w.heap.size, 0) w.heap.size s) (H.new (.cells ti.zero false)) w' ∧ Step ι (ι.ext H.next (w.heap.size, 0) w.heap.size s) H (H.new (.cells ti.zero false)) w w' := by
  obtain ⟨i, d, z, hi⟩ := hC.ti hti
  obtain ⟨h1, h2, h2'⟩ := (zero_plain (ι := ι) hi).full
  refine ⟨w.alloc (.cells z.cells t), _, ?_, row_run hr t h1 h2 h2'⟩
  simp only [Instr.alloc, Sem.run_bind, hi.run_zero, Result.andThen_ok, newVar, newRow, run_newObj, Sem.run_pure, World.alloc]

omit hC in
theorem boxOp_run {t : TypeId} {v v' : Value} (hv : VR ι v v') :
    ∃ (w' : World) (s : Nat), (Instr.box t v').run P w = .ok (.pointer (some ⟨w.heap.size, 0, none⟩)) w' ∧ Rel base (ι.ext H.next (w.heap.size, 0) w.heap.size s) (H.new (.cells (cellsOf v) false)) w' ∧ Step ι (ι.ext H.next (w.heap.size, 0) w.heap.size s) H (H.new (.cells (cellsOf v) false)) w w' := by
  obtain ⟨h1, h2, h2'⟩ := hv.cells.full
  refine ⟨w.alloc (.cells v'.cells t), _, ?_, row_run hr t h1 h2 h2'⟩
  simp only [Instr.box, Sem.run_bind, Result.andThen_ok, newVar, newRow, run_newObj, Sem.run_pure, World.alloc]

theorem buildSliceE_run {t : TypeId} {n : Nat} {ps : List (Nat × Value)} {ps' : Array (Nat × Value)} {v : Value} {H' : Hp}
    (hk : ps.map (·.1) = ps'.toList.map (·.1)) (hv : VRs ι (ps.map (·.2)) (ps'.toList.map (·.2))) (h : buildSliceE C t n ps H = some (v, H')) :
    ∃ v' w' ι', (Instr.buildSlice t n ps').run P w = .ok v' w' ∧ VR ι' v v' ∧ Rel base ι' H' w' ∧ Step ι ι' H H' w w' := by
  unfold buildSliceE at h
  split at h
  · rename_i ti hti
    obtain ⟨i, d, z, hi⟩ := hC.ti hti
    have hd := hi.desc
    split at h
    · rename_i el hkd; rw [hkd] at hd; simp only at hd; subst hd
      rw [Option.bind_eq_some_iff] at h
      obtain ⟨et, het, h⟩ := h
      obtain ⟨i2, d2, z2, hi2⟩ := hC.ti het
      obtain ⟨hb, h⟩ := bif_some h
      simp only [Bool.and_eq_true] at hb
      have b1 := nble_le hb.1.1
      have b2 := nble_le hb.1.2
      have b3 := nbeq_eq hb.2
      rw [Option.map_eq_some_iff] at h
      obtain ⟨r, hr1, he⟩ := h
      cases he
      have hzs : z2.cells.size = et.size := by rw [← Array.length_toList, hi2.zcells, b3]
      have hz := (zero_plain (ι := ι) hi2).repeat n
      have hz' : VRs ι (repeatL et.zero n) ((Array.range (n * et.size)).map fun i => z2.cells[i % z2.cells.size]!).toList := by
        rw [zeros_eq z2.cells n _ (by rw [hzs])]; exact hz
      obtain ⟨r', h1, h2⟩ := fillE_run hk hv hz' hr1
      obtain ⟨h3, h4, h4'⟩ := h2.full
      obtain ⟨e1, e2⟩ := row_run hr el h3 h4 h4'
      refine ⟨_, _, _, ?_, VR.newSlice ι H.next w.heap.size _ n n, e1, e2⟩
      have n1 : ¬ n * et.size > 2 ^ 24 := by omega
      by_cases h0 : n * et.size = 0
      · rw [h0] at h1
        simp only [Instr.buildSlice, Sem.run_bind, hi.run_under, Result.andThen_ok, hi2.run_size, h0, if_true]
        rw [if_neg (by decide)]
        simp only [Sem.run_bind, Sem.run_pure, Result.andThen_ok]
        have hsame : ((Array.range 0).map fun i => (#[] : Array Value)[i % (#[] : Array Value).size]!) = ((Array.range 0).map fun i => z2.cells[i % z2.cells.size]!) := by simp
        rw [hsame, h1]
        simp only [Sem.run_bind, newRow, run_newObj, Result.andThen_ok, Sem.run_pure, World.alloc]
      · simp only [Instr.buildSlice, Sem.run_bind, hi.run_under, Result.andThen_ok, hi2.run_size, n1, if_false, h0, hi2.run_zero, Sem.run_pure]
        rw [h1]
        simp only [Sem.run_bind, newRow, run_newObj, Result.andThen_ok, Sem.run_pure, World.alloc]
    · cases h
  · cases h

theorem makeSliceE_run {t : TypeId} {l l' c c' v : Value} {H' : Hp} (hl : VR ι l l') (hc : VR ι c c') (h : makeSliceE C t l c H = some (v, H')) :
    ∃ v' w' ι', (Instr.makeSlice t l' c').run P w = .ok v' w' ∧ VR ι' v v' ∧ Rel base ι' H' w' ∧ Step ι ι' H H' w w' := by
  unfold makeSliceE at h
  split at h
  · rename_i ti len cap hti hln hcp
    obtain ⟨i, d, z, hi⟩ := hC.ti hti
    have hd := hi.desc
    obtain ⟨k1, rfl⟩ := nat?_some hl hln
    obtain ⟨k2, rfl⟩ := nat?_some hc hcp
    split at h
    · rename_i el hkd; rw [hkd] at hd; simp only at hd; subst hd
      rw [Option.bind_eq_some_iff] at h
      obtain ⟨et, het, h⟩ := h
      obtain ⟨i2, d2, z2, hi2⟩ := hC.ti het
      obtain ⟨hb, h⟩ := bif_some h
      simp only [Bool.and_eq_true] at hb
      have b1 := nble_le hb.1.1.1.1
      have b2 := nble_le hb.1.1.1.2
      have b3 := nble_le hb.1.1.2
      have b4 := nble_le hb.1.2
      have b5 := nbeq_eq hb.2
      cases h
      have hzs : z2.cells.size = et.size := by rw [← Array.length_toList, hi2.zcells, b5]
      have hz := (zero_plain (ι := ι) hi2).repeat cap
      have hz' : VRs ι (repeatL et.zero cap) ((Array.range (cap * et.size)).map fun i => z2.cells[i % z2.cells.size]!).toList := by
        rw [zeros_eq z2.cells cap _ (by rw [hzs])]; exact hz
      obtain ⟨h3, h4, h4'⟩ := hz'.full
      obtain ⟨e1, e2⟩ := row_run hr el h3 h4 h4'
      refine ⟨_, _, _, ?_, VR.newSlice ι H.next w.heap.size _ len cap, e1, e2⟩
      have hw1 : IntKind.i64.wrap (len : Int) = (len : Int) := wrap_i64 (by omega) (by omega)
      have hw2 : IntKind.i64.wrap (cap : Int) = (cap : Int) := wrap_i64 (by omega) (by omega)
      have hby : (et.bytes : Int) * (cap : Int) ≤ ((140737488355328 : Nat) : Int) := by
        have := Int.ofNat_le.2 b1
        rwa [Int.natCast_mul] at this
      have c1 : decide ((cap : Int) < 0) = false := decide_eq_false (by omega)
      have c2 : decide ((et.bytes : Int) * (cap : Int) > 2 ^ 48) = false := decide_eq_false (fun hgt => by
        have h48 : (2 : Int) ^ 48 = 281474976710656 := by decide
        rw [h48] at hgt
        have h47 : ((140737488355328 : Nat) : Int) = 140737488355328 := rfl
        rw [h47] at hby
        have := Int.lt_of_lt_of_le hgt hby
        exact absurd this (by decide))
      have c3 : decide ((len : Int) < 0) = false := decide_eq_false (by omega)
      have c4 : decide ((len : Int) > (cap : Int)) = false := decide_eq_false (by omega)
      simp only [Instr.makeSlice, Sem.run_bind, hi.run_under, Result.andThen_ok, asInt, asIntOf, Sem.run_pure, hi2.run_info, hi2.bytes, hw1, hw2, c1, c2, c3, c4, Bool.or_self, Bool.false_eq_true, if_false, run_askRoom, Int.toNat_natCast, hi2.run_size]
      by_cases h0 : cap * et.size = 0
      · have hrow : ((Array.range (cap * et.size)).map fun i => (#[] : Array Value)[i % (#[] : Array Value).size]!) = ((Array.range (cap * et.size)).map fun i => z2.cells[i % z2.cells.size]!) := by
          simp only [h0]
          have : Array.range 0 = #[] := rfl
          rw [this, Array.map_empty, Array.map_empty]
        rw [if_pos h0]
        simp only [Sem.run_bind, Sem.run_pure, Result.andThen_ok]
        rw [hrow]
        simp only [newRow, run_newObj, Sem.run_bind, Result.andThen_ok, Sem.run_pure, World.alloc]
      · rw [if_neg h0]
        simp only [Sem.run_bind, hi2.run_zero, Sem.run_pure, Result.andThen_ok, newRow, run_newObj, World.alloc]
    · cases h
  · cases h
end
end Go.Ahe
/-
  AHE, 14: append, copy, clear.
-/
namespace Go.Ahe
open Go.RowKit

section
variable {P : Program} {C : Ctx} (hC : Fits C P) {base : Nat} {ι : Emb} {H : Hp} {w : World} (hr : Rel base ι H w)
include hr

/-- The first cells of a slice or a string. -/
theorem firstCells_run {size n : Nat} {x x' : Value} {r : List Value} (hx : VR ι x x') (h : firstCellsE size n x H = some r) (hn : ∀ m, lenOfE x = some m → n ≤ m) :
    ∃ L : List Value, (Builtin.firstCells size n x').run P w = .ok L.toArray w ∧ VRs ι r L := by
  unfold firstCellsE at h
  split at h
  · cases hx
    obtain ⟨hb, h⟩ := bif_some h
    cases h
    exact ⟨[], rfl, .nil⟩
  · rename_i i o sp l c
    have key : ∀ b q, x' = .slice (some ⟨b, q, none⟩) l (match x' with | .slice _ _ c' => c' | _ => 0) → (n * size = 0 ∨ ∃ p, ι i = some (b, p) ∧ q = p + o) → ∃ L : List Value, (Builtin.firstCells size n x').run P w = .ok L.toArray w ∧ VRs ι r L := by
      intro b q hx' hq
      cases hb : Nat.beq n 0 with
      | true =>
        rw [hb, cond_true] at h
        have := nbeq_eq hb; subst this
        cases h
        refine ⟨[], ?_, .nil⟩
        rw [hx']
        simp [Builtin.firstCells, loadCells, loadCellsFrom]
      | false =>
        rw [hb, cond_false] at h
        rcases hq with hq | ⟨p, hι, rfl⟩
        · unfold readCells at h
          split at h
          · obtain ⟨_, rfl⟩ := lrange_some h
            rw [hq]
            refine ⟨[], ?_, by simpa using VRs.nil⟩
            rw [hx']
            simp [Builtin.firstCells, hq, loadCells, loadCellsFrom]
          · cases h
        · obtain ⟨L, h1, h2, h3⟩ := readCells_run hr hι h
          refine ⟨L, ?_, h1⟩
          rw [hx']
          simp only [Builtin.firstCells]
          rw [← h2]
          exact run_loadCells_list w _ L (fun j v hj => by rw [Addr.add_lit]; exact h3 j v hj)
    cases hx with
    | @slice _ _ b p _ _ hι => exact key b (p + o) rfl (.inr ⟨p, hι, rfl⟩)
    | @sliceU _ _ b p q _ _ c' z hι hl hcc hq he =>
      rcases hq with hq | hq
      · have := hn l rfl
        have h0 : n = 0 := by omega
        exact key b q rfl (.inl (by rw [h0, Nat.zero_mul]))
      · exact key b q rfl (.inr ⟨p, hι, hq⟩)
  · cases hx
    cases h
    refine ⟨_, ?_, VRs.plain (f := plainCell) (fun v => VR.plainCell) ?_⟩
    · simp only [Builtin.firstCells, Sem.run_pure]
      congr 1
      apply Array.ext'
      simp
    · rw [List.all_map]
      exact List.all_eq_true.2 fun _ _ => rfl
  · cases h


omit hr in
theorem firstCellsE_length {size n : Nat} {x : Value} {r : List Value} (h : firstCellsE size n x H = some r) (hx : ∃ a l c, x = .slice a l c) : r.length = n * size := by
  obtain ⟨a, l, c, rfl⟩ := hx
  unfold firstCellsE at h
  split at h
  · obtain ⟨hb, h⟩ := bif_some h
    cases h
    rw [nbeq_eq hb]; simp
  · cases hb : Nat.beq n 0 with
    | true => rw [hb, cond_true] at h; cases h; rw [nbeq_eq hb]; simp
    | false =>
      rw [hb, cond_false] at h
      unfold readCells at h
      split at h
      · obtain ⟨hle, rfl⟩ := lrange_some h
        simp; omega
      · cases h
  · cases ‹Value.slice _ _ _ = _›
  · cases h

include hC
theorem copyE_run {t t2 ty : TypeId} {d d' s s' v : Value} {H' : Hp} (hd : VR ι d d') (hs : VR ι s s') (h : copyE C t d s H = some (v, H')) :
    ∃ w' : World, (Builtin.copy_ #[t, t2] ty #[d', s']).run P w = .ok v w' ∧ VR ι v v ∧ Rel base ι H' w' ∧ Step ι ι H H' w w' := by
  unfold copyE at h
  split at h
  · cases h
  · rename_i ti hti
    obtain ⟨i, dd, z, hi⟩ := hC.ti hti
    have hdd := hi.desc
    split at h
    · rename_i el bse dl c hkd; rw [hkd] at hdd; simp only at hdd; subst hdd
      simp only [Option.bind_eq_some_iff] at h
      obtain ⟨et, het, sl, hsl, cs, hcs, h⟩ := h
      obtain ⟨i2, d2, z2, hi2⟩ := hC.ti het
      have hlen : (Builtin.lenOf s').run P w = .ok sl w := by
        unfold lenOfE at hsl
        split at hsl
        · cases hsl; cases hs <;> rfl
        · cases hsl; cases hs; rfl
        · cases hsl
      obtain ⟨L, hL, hv⟩ := firstCells_run (P := P) hr hs hcs (fun m hm => by rw [hsl] at hm; cases hm; exact Nat.min_le_left _ _)
      have hd1 : ∃ b' c', d' = .slice b' dl c' := by cases hd <;> exact ⟨_, _, rfl⟩
      have run0 : ∀ (b' : Option Addr) (c' : Nat), d' = .slice b' dl c' → (Builtin.copy_ #[t, t2] ty #[d', s']).run P w =
          ((match b' with | some a => storeCells a L | none => pure () : Sem Unit).run P w).andThen fun _ w' => .ok (goInt (Nat.min sl dl : Nat)) w' := by
        rintro b' c' rfl
        cases b' <;> simp [Builtin.copy_, hi.run_under, hlen, hi2.run_size, hL]
      split at h
      · rename_i io o sp cs c1
        rw [Option.map_eq_some_iff] at h
        obtain ⟨H1, hw1, he⟩ := h
        cases he
        have hlen0 : 0 < Nat.min sl dl := by
          rcases Nat.eq_zero_or_pos (Nat.min sl dl) with h0 | h0
          · exfalso
            rw [h0] at hcs
            unfold firstCellsE at hcs
            split at hcs
            · simp at hcs
            · simp at hcs
            · simp at hcs
            · cases hcs
          · exact h0
        cases hd with
        | @slice _ _ b p _ _ hι =>
          obtain ⟨w', e1, e2, e3⟩ := writeCells_run (P := P) hr hι hv hw1
          refine ⟨w', ?_, .int _ _, e2, e3⟩
          rw [run0 _ _ rfl]
          simp only [e1, Result.andThen_ok, goInt]
        | @sliceU _ _ b p q _ _ c' zz hι hl hcc hq he =>
          have hdl : 0 < dl := Nat.lt_of_lt_of_le hlen0 (Nat.min_le_right _ _)
          have hq' : q = p + o := by rcases hq with hq | hq <;> omega
          subst hq'
          obtain ⟨w', e1, e2, e3⟩ := writeCells_run (P := P) hr hι hv hw1
          refine ⟨w', ?_, .int _ _, e2, e3⟩
          rw [run0 _ _ rfl]
          simp only [e1, Result.andThen_ok, goInt]
      · rename_i bse2
        cases h
        cases hv
        obtain ⟨b', c', rfl⟩ := hd1
        refine ⟨w, ?_, .int _ _, hr, Step.refl hr⟩
        rw [run0 _ _ rfl]
        cases b' <;> simp [storeCells, goInt]
      · cases h
        obtain ⟨b', c', hd1⟩ := hd1
        cases hd
        refine ⟨w, ?_, .int _ _, hr, Step.refl hr⟩
        rw [run0 _ _ rfl]
        simp [goInt]
    · cases h
end
end Go.Ahe
/-
  AHE, 15: append.
-/
namespace Go.Ahe
open Go.RowKit

/-- The model's append, once it is known what is to be appended. -/
def appTail (el : TypeId) (zeros : Bool) (base : Option Addr) (sLen sCap n size : Nat) (x s : Value) (appended : Sem (Array Value)) : Sem Value :=
  let need := sLen + n
  if need ≤ sCap then do
    let new ← appended
    if let some a := base then storeCells (a.add (sLen * size)) new.toList
    pure (.slice base need sCap)
  else do
    if (need : Int) > IntKind.i64.max ∧ (zeros ∨ (← typeInfo el).bytes = 0) then runtimePanic (.error "growslice: len out of range")
    if Builtin.nextslicecap need sCap * (← typeInfo el).bytes > 2 ^ 48 then (if zeros then runtimePanic (.error "growslice: len out of range") else do
      if !(← Builtin.mayShare size sLen n base x) then mark .noRoom
      unsupported (.resourceLimit "append: a slice or a string whose bytes no memory bears"))
    let newCap ← choose (.appendCap need sCap el)
    askRoom (newCap * (← typeInfo el).bytes)
    let old ← Builtin.firstCells size sLen s
    let new ← appended
    let rest := Builtin.zeroCells (← zeroValue el).cells (newCap - need)
    pure (.slice (some (← newRow el (old ++ new ++ rest))) need newCap)

theorem growBy_le (need : Nat) : ∀ (r c : Nat), c ≤ 2 * need + 768 → Builtin.growBy need r c ≤ 2 * need + 768
  | 0, c, h => h
  | r + 1, c, h => by
    rw [Builtin.growBy]
    split
    · exact h
    · exact growBy_le need r _ (by omega)

theorem nextcap_le {need cap : Nat} (h : ¬ need ≤ cap) : Builtin.nextslicecap need cap ≤ 2 * need + 768 := by
  unfold Builtin.nextslicecap
  split
  · omega
  · split
    · omega
    · exact growBy_le need 4 cap (by omega)

/-- Only the heap counts. -/
theorem Rel.ofHeap {base : Nat} {ι : Emb} {H : Hp} {w w1 : World} (hr : Rel base ι H w) (hh : w1.heap = w.heap) : Rel base ι H w1 :=
  ⟨hr.flo, hr.dom, by rw [hh]; exact hr.bnd, fun i o b p h1 h2 => (hr.ob i o b p h1 h2).same (by rw [hh]), hr.inj, hr.bas, by rw [hh]; exact hr.bs⟩
theorem Step.ofHeap {base : Nat} {ι : Emb} {H : Hp} {w w1 : World} (hr : Rel base ι H w) (hh : w1.heap = w.heap) (he : WEq w w1) : Step ι ι H H w w1 :=
  ⟨fun _ _ => rfl, fun _ _ => rfl, Nat.le_refl _, rfl, fun _ _ => rfl, fun _ _ h => h, he.os, he.tape, he.output, by rw [hh]; exact Nat.le_refl _, fun _ _ _ => by rw [hh], fun _ L h => ⟨L, by rw [hh]; exact h⟩, fun i b p h1 h2 => by rw [hr.dom i h1] at h2; cases h2⟩

/-- **AN OBJECT LIVES ON UNDER A NEW NAME**, its block written; the old name is dead. -/
theorem Rel.regrow {base : Nat} {ι : Emb} {H H1 : Hp} {w w' : World} (hr : Rel base ι H w) {i b p q : Nat} {cs : List Value} {o' : Ob} (hi : H.get i = some (.cells cs false)) (hι : ι i = some (b, p))
    (hu : (H.new o').upd i .dead = some H1) (heq : WEq w w') (hsz : w'.heap.size = w.heap.size) (hoth : ∀ k, k ≠ b → w'.heap[k]? = w.heap[k]?)
    (ho : ObR (ι.ext H.next (b, q) w.heap.size 0) w' o' b q) :
    Rel base (ι.ext H.next (b, q) w.heap.size 0) H1 w' ∧ Step ι (ι.ext H.next (b, q) w.heap.size 0) H H1 w w' := by
  obtain ⟨hf, hn, hfl, hg⟩ := Hp.upd_some hu
  have hin : i < H.next := hr.lt hι
  have hnone : ι H.next = none := hr.dom _ (Nat.le_refl _)
  have hle : ι.le (ι.ext H.next (b, q) w.heap.size 0) := Emb.le_ext (b, q) 0 hnone (fun j c p hj e => by have := hr.bnd j c p hj; omega)
  have hbs : b < w.heap.size := hr.bnd i b p hι
  simp only [Hp.next_new, Hp.floor_new] at hn hfl hf
  have hget : ∀ j, H1.get j = if j = H.next then some o' else if j = i then some .dead else H.get j := by
    intro j; rw [hg, Hp.get_new]
    by_cases e : j = i
    · rw [if_pos e, if_neg (by omega), if_pos e]
    · rw [if_neg e, if_neg e]
  have hother : ∀ j oj c r, H.get j = some oj → j ≠ i → oj.live = true → ι j = some (c, r) → c ≠ b := fun j oj c r h1 h2 h3 h4 e => by
    subst e; exact h2 (hr.inj i j _ oj c p r hi h1 rfl h3 hι h4).symm
  refine ⟨⟨?_, ?_, ?_, ?_, ?_, ?_, ?_⟩, ⟨?_, fun c hc => Emb.ext_sz_ne _ _ _ _ (by omega), ?_, ?_, ?_, ?_, heq.os, heq.tape, heq.output, by omega, ?_, ?_, ?_⟩⟩
  · have := hr.flo; simp [hfl, hn]; omega
  · intro j hj
    simp [hn] at hj
    rw [Emb.ext_ne _ _ _ _ (by omega)]; exact hr.dom j (by omega)
  · intro j c r h
    rw [hsz]
    by_cases e : j = H.next
    · subst e; rw [Emb.ext_self] at h; cases h; exact hbs
    · rw [Emb.ext_ne _ _ _ _ e] at h; exact hr.bnd j c r h
  · intro j oj c r h hj
    rw [hget] at h
    by_cases e1 : j = H.next
    · subst e1; rw [if_pos rfl] at h; cases h; rw [Emb.ext_self] at hj; cases hj; exact ho
    · rw [if_neg e1] at h; rw [Emb.ext_ne _ _ _ _ e1] at hj
      by_cases e2 : j = i
      · rw [if_pos e2] at h; cases h; trivial
      · rw [if_neg e2] at h
        by_cases hl : oj.live = true
        · exact ((hr.ob j oj c r h hj).same (hoth c (hother j oj c r h e2 hl hj))).mono hle (hle j c r hj).2
        · cases oj <;> first | trivial | exact absurd rfl hl
  · intro j k oj ok c r t h1 h2 h3 h4 h5 h6
    rw [hget] at h1 h2
    by_cases j1 : j = H.next <;> by_cases k1 : k = H.next
    · omega
    · subst j1; rw [Emb.ext_self] at h5; cases h5
      rw [if_neg k1] at h2; rw [Emb.ext_ne _ _ _ _ k1] at h6
      by_cases k2 : k = i
      · rw [if_pos k2] at h2; cases h2; cases h4
      · rw [if_neg k2] at h2; exact absurd rfl (hother k ok _ _ h2 k2 h4 h6)
    · subst k1; rw [Emb.ext_self] at h6; cases h6
      rw [if_neg j1] at h1; rw [Emb.ext_ne _ _ _ _ j1] at h5
      by_cases j2 : j = i
      · rw [if_pos j2] at h1; cases h1; cases h3
      · rw [if_neg j2] at h1; exact absurd rfl (hother j oj _ _ h1 j2 (Ob.wr_live h3) h5)
    · rw [if_neg j1] at h1; rw [if_neg k1] at h2; rw [Emb.ext_ne _ _ _ _ j1] at h5; rw [Emb.ext_ne _ _ _ _ k1] at h6
      by_cases j2 : j = i
      · rw [if_pos j2] at h1; cases h1; cases h3
      · by_cases k2 : k = i
        · rw [if_pos k2] at h2; cases h2; cases h4
        · rw [if_neg j2] at h1; rw [if_neg k2] at h2
          exact hr.inj j k oj ok c r t h1 h2 h3 h4 h5 h6
  · intro j oj c r h h2 hj
    rw [hget] at h
    by_cases e1 : j = H.next
    · subst e1; rw [Emb.ext_self] at hj; cases hj; exact hr.bas i _ b p hi rfl hι
    · rw [if_neg e1] at h; rw [Emb.ext_ne _ _ _ _ e1] at hj
      by_cases e2 : j = i
      · rw [if_pos e2] at h; cases h; cases h2
      · rw [if_neg e2] at h; exact hr.bas j oj c r h h2 hj
  · rw [hsz]; exact hr.bs
  · intro j hj; exact Emb.ext_ne _ _ _ _ (by omega)
  · simp [hn]
  · exact hfl
  · intro j hj
    have := hr.flo
    rw [hget, if_neg (by omega), if_neg (by omega)]
  · rintro c hc ⟨j, oj, r, h1, h2, h3, h4⟩
    rw [hget] at h1
    by_cases e1 : j = H.next
    · subst e1; rw [Emb.ext_self] at h4; cases h4; exact ⟨i, _, p, hi, rfl, hf, hι⟩
    · rw [if_neg e1] at h1; rw [Emb.ext_ne _ _ _ _ e1] at h4
      by_cases e2 : j = i
      · rw [if_pos e2] at h1; cases h1; cases h2
      · rw [if_neg e2] at h1; exact ⟨j, oj, r, h1, h2, by omega, h4⟩
  · intro c hc hno
    exact hoth c (fun e => hno ⟨i, _, p, hi, rfl, hf, by rw [e]; exact hι⟩)
  · intro c L hL
    by_cases e : c = b
    · subst e
      obtain ⟨C, E, fz, h1, _⟩ := hr.ob i _ c p hi hι
      rw [h1] at hL; cases hL
    · exact ⟨L, (hoth c e).trans hL⟩
  · intro j c r h1 h2
    by_cases e : j = H.next
    · subst e; rw [Emb.ext_self] at h2; cases h2; exact .inr ⟨i, _, p, hi, rfl, hf, hι⟩
    · rw [Emb.ext_ne _ _ _ _ e, hr.dom j h1] at h2; cases h2

theorem newCells0 {et : TI} {x : Value} {H : Hp} (h : addedE x = some 0) : newCellsE et 0 x H = some [] := by
  unfold addedE at h
  unfold newCellsE
  split at h
  · rfl
  · unfold lenOfE at h
    split at h
    · rename_i a l c _
      cases a with
      | none => rfl
      | some a => rfl
    · rename_i s _
      simp [firstCellsE]
    · cases h

section
variable {P : Program} {C : Ctx} (hC : Fits C P) {base : Nat} {ι : Emb} {H : Hp} {w : World} (hr : Rel base ι H w)
include hC hr

theorem appTail_run {el : TypeId} {et : TI} (het : C.T el = some et) {s s' x x' v : Value} {H' : Hp} (hs : VR ι s s') {n : Nat} (zeros : Bool) (hadd : addedE x = some n) (hxk : (∃ a l c, x = .slice a l c) ∨ ∃ k m, x = .int k m)
    {appended : Sem (Array Value)} (happ : ∀ (H1 : Hp) (w1 : World) (new : List Value), Rel base ι H1 w1 → newCellsE et n x H1 = some new → ∃ N : Array Value, appended.run P w1 = .ok N w1 ∧ VRs ι new N.toList)
    (h : appendE.appendTo C el s x H = some (v, H')) :
    ∃ bs l c, s' = .slice bs l c ∧ ∃ v' w' ι', (appTail el zeros bs l c n et.size x' s' appended).run P w = .ok v' w' ∧ VR ι' v v' ∧ Rel base ι' H' w' ∧ Step ι ι' H H' w w' := by
  obtain ⟨i2, d2, z2, hi2⟩ := hC.ti het
  unfold appendE.appendTo at h
  rw [Option.bind_eq_some_iff] at h
  obtain ⟨et', het', h⟩ := h
  rw [het] at het'; cases het'
  rw [hadd, Option.bind_some] at h
  split at h
  · rename_i bse len cap
    cases hfit : Nat.ble (len + n) cap with
    | true =>
      rw [hfit, cond_true] at h
      have hfit := nble_le hfit
      split at h
      · -- nil
        cases h
        cases hs
        have hn : n = 0 := by omega
        subst hn
        obtain ⟨N, hN, hv⟩ := happ H w [] hr (newCells0 hadd)
        refine ⟨none, 0, 0, rfl, .slice none 0 0, w, ι, ?_, .nils, hr, Step.refl hr⟩
        simp [appTail, hN]
      · rename_i io o sp
        rw [Option.bind_eq_some_iff] at h
        obtain ⟨new, hnew, h⟩ := h
        obtain ⟨N, hN, hv⟩ := happ H w new hr hnew
        cases hn : Nat.beq n 0 with
        | true =>
          rw [hn, cond_true] at h
          have hn := nbeq_eq hn; subst hn
          cases h
          rw [newCells0 hadd] at hnew
          cases hnew
          have hN0 : N.toList = [] := List.eq_nil_of_length_eq_zero hv.length.symm
          rw [Nat.add_zero] at hfit
          cases hs with
          | @slice _ _ b p _ _ hι =>
            refine ⟨_, _, _, rfl, _, w, ι, ?_, .slice hι, hr, Step.refl hr⟩
            simp only [appTail, Nat.add_zero, hfit, if_true, Sem.run_bind, hN, Result.andThen_ok, hN0, storeCells, Sem.run_pure]
          | @sliceU _ _ b p q _ _ c' zz hι hl hcc hq he =>
            have hfit' : len ≤ c' := by omega
            refine ⟨_, _, _, rfl, _, w, ι, ?_, .sliceU hι hl hcc hq he, hr, Step.refl hr⟩
            simp only [appTail, Nat.add_zero, hfit', if_true, Sem.run_bind, hN, Result.andThen_ok, hN0, storeCells, Sem.run_pure]
        | false =>
          rw [hn, cond_false, Option.map_eq_some_iff] at h
          obtain ⟨H1, hw1, he⟩ := h
          cases he
          have hn0 : n ≠ 0 := fun e => by subst e; cases hn
          cases hs with
          | @slice _ _ b p _ _ hι =>
            obtain ⟨w', e1, e2, e3⟩ := writeCells_run (P := P) hr hι hv hw1
            refine ⟨_, _, _, rfl, .slice (some ⟨b, p + o, none⟩) (len + n) cap, w', ι, ?_, .slice hι, e2, e3⟩
            simp only [appTail, hfit, if_true, Sem.run_bind, hN, Result.andThen_ok, Addr.add_lit]
            rw [Nat.add_assoc, e1]
            rfl
          | @sliceU _ _ b p q _ _ c' zz hι hl hcc hq he =>
            have hq' : q = p + o := by rcases hq with hq | hq <;> omega
            subst hq'
            obtain ⟨w', e1, e2, e3⟩ := writeCells_run (P := P) hr hι hv hw1
            have hfit' : len + n ≤ c' := by omega
            refine ⟨_, _, _, rfl, .slice (some ⟨b, p + o, none⟩) (len + n) c', w', ι, ?_, .sliceU hι hfit hcc (.inr rfl) he, e2, e3⟩
            simp only [appTail, hfit', if_true, Sem.run_bind, hN, Result.andThen_ok, Addr.add_lit]
            rw [Nat.add_assoc, e1]
            rfl
    | false =>
      rw [hfit, cond_false] at h
      have hfit : ¬ len + n ≤ cap := fun e => by rw [Nat.ble_eq_true_of_le e] at hfit; cases hfit
      obtain ⟨hb, h⟩ := bif_some h
      simp only [Bool.and_eq_true] at hb
      have b1 := nble_le hb.1.1.1
      have b2 := nble_le hb.1.1.2
      have b3 := nble_le hb.1.2
      have b4 := nbeq_eq hb.2
      simp only [Option.bind_eq_some_iff] at h
      obtain ⟨old, hold, new, hnew, h⟩ := h
      have hzs : z2.cells.size = et.size := by rw [← Array.length_toList, hi2.zcells, b4]
      have hlold : old.length = len * et.size := firstCellsE_length hold ⟨_, _, _, rfl⟩
      -- what growing comes to, at a real capacity that is too small
      have grow : ∀ (bs : Option Addr) (c' : Nat), s' = .slice bs len c' → ¬ len + n ≤ c' →
          ∃ newCap w2, (appTail el zeros bs len c' n et.size x' s' appended).run P w = .ok (.slice (some ⟨w.heap.size, 0, none⟩) (len + n) newCap) w2 ∧ len + n ≤ newCap ∧
            Rel base (ι.ext H.next (w.heap.size, 0) w.heap.size (newCap * et.size)) (H.new (.cells (old ++ new) false)) w2 ∧
            Step ι (ι.ext H.next (w.heap.size, 0) w.heap.size (newCap * et.size)) H (H.new (.cells (old ++ new) false)) w w2 := by
        intro bs c' hs' hno
        have hgap : ¬ Builtin.nextslicecap (len + n) c' * i2.bytes > 2 ^ 48 := by
          have h1 := nextcap_le hno
          have h2 : Builtin.nextslicecap (len + n) c' * i2.bytes ≤ (2 * (len + n) + 768) * et.bytes := by rw [hi2.bytes]; exact Nat.mul_le_mul_right _ h1
          have : (2 : Nat) ^ 48 = 281474976710656 := by decide
          omega
        have hnb : ¬ ((((len + n : Nat) : Int) > IntKind.i64.max) ∧ (zeros = true ∨ i2.bytes = 0)) := by
          rintro ⟨h1, _⟩
          rw [IntKind.max_i64] at h1
          have h3 : 2 * (len + n) + 768 ≤ (2 * (len + n) + 768) * et.bytes := Nat.le_mul_of_pos_right _ b2
          omega
        obtain ⟨newCap, hcut⟩ : ∃ nc, (Question.appendCap (len + n) c' el).cut (w.tape w.drawn (Question.appendCap (len + n) c' el)) = nc := ⟨_, rfl⟩
        have hle : len + n ≤ newCap := by rw [← hcut]; simp only [Question.cut]; omega
        let w1 : World := { w with drawn := w.drawn + 1 }
        have hr1 : Rel base ι H w1 := hr.ofHeap rfl
        have hs1 : VR ι (.slice bse len cap) (.slice bs len c') := hs' ▸ hs
        obtain ⟨L, hL, hLv⟩ := firstCells_run (P := P) hr1 hs1 hold (fun m hm => by simp only [lenOfE, Option.some.injEq] at hm; omega)
        obtain ⟨N, hN, hNv⟩ := happ H w1 new hr1 hnew
        have hrest : (Builtin.zeroCells z2.cells (newCap - (len + n))).size = (newCap - (len + n)) * et.size := by simp [Builtin.zeroCells, hzs]
        have hNl : N.size = n * et.size := by
          rw [← Array.length_toList, ← hNv.length]
          rcases hxk with ⟨a, l, c, rfl⟩ | ⟨k, m, rfl⟩
          · exact firstCellsE_length (x := .slice a l c) hnew ⟨_, _, _, rfl⟩
          · simp only [newCellsE, Option.some.injEq] at hnew
            rw [← hnew, repeatL_length, b4]
        have hsz : (L.toArray ++ N ++ Builtin.zeroCells z2.cells (newCap - (len + n))).size = newCap * et.size := by
          have h1 : L.length = len * et.size := by rw [← hLv.length, hlold]
          simp only [Array.size_append, List.size_toArray, h1, hNl, hrest, ← Nat.add_mul]
          congr 1
          omega
        have hcat : VRs ι (old ++ new) ((L.toArray ++ N ++ Builtin.zeroCells z2.cells (newCap - (len + n))).toList.take (old ++ new).length) := by
          have h1 : (L.toArray ++ N ++ Builtin.zeroCells z2.cells (newCap - (len + n))).toList = (L ++ N.toList) ++ (Builtin.zeroCells z2.cells (newCap - (len + n))).toList := by simp
          have h2 : (old ++ new).length = (L ++ N.toList).length := (hLv.append hNv).length
          rw [h1, h2, List.take_left]
          exact hLv.append hNv
        have hlen2 : (old ++ new).length ≤ (L.toArray ++ N ++ Builtin.zeroCells z2.cells (newCap - (len + n))).size := by
          have h2 : (old ++ new).length = (L ++ N.toList).length := (hLv.append hNv).length
          rw [h2]; simp
        have hsp : ∀ k v', (old ++ new).length ≤ k → (L.toArray ++ N ++ Builtin.zeroCells z2.cells (newCap - (len + n)))[k]? = some v' → plainCell v' = true := fun k v' hk hv' => by
          have h2 : (old ++ new).length = (L.toArray ++ N).size := by rw [(hLv.append hNv).length]; simp
          rw [h2] at hk
          rw [Array.getElem?_append_right hk] at hv'
          have hmem : v' ∈ (Builtin.zeroCells z2.cells (newCap - (len + n))).toList := by
            rw [← Array.getElem?_toList] at hv'
            exact List.mem_of_getElem? hv'
          simp only [Builtin.zeroCells, Array.toList_map, List.mem_map] at hmem
          obtain ⟨j, hj, rfl⟩ := hmem
          have hlt : j % z2.cells.size < z2.cells.size := Nat.mod_lt _ (by omega)
          rw [getElem!_pos z2.cells _ hlt]
          have := hi2.plain
          rw [← hi2.zcells] at this
          exact List.all_eq_true.1 this _ (by simp)
        obtain ⟨e1, e2⟩ := row_run hr1 el hcat hlen2 hsp
        rw [hsz] at e1 e2
        refine ⟨newCap, _, ?_, hle, e1, (Step.ofHeap (w1 := w1) hr rfl ⟨rfl, rfl, rfl⟩).trans e2⟩
        have hforced : (Question.appendCap (len + n) c' el).forced = false := rfl
        simp only [appTail, if_neg hno, Sem.run_bind, hi2.run_info, Result.andThen_ok, if_neg hnb, if_neg hgap, Sem.run_pure, run_choose, hforced, Bool.false_eq_true, if_false, hcut, run_askRoom]
        rw [hs', hL]
        simp only [Result.andThen_ok]
        rw [hN]
        simp only [Result.andThen_ok, hi2.run_zero, newRow, Sem.run_bind, run_newObj, Sem.run_pure, World.alloc]
        rfl
      split at h
      · rename_i io o sz _
        split at h
        · rename_i cs hg
          obtain ⟨hbb, h⟩ := bif_some h
          simp only [Bool.and_eq_true] at hbb
          have hszz := nbeq_eq hbb.1.1
          have hcap1 := nble_le hbb.2.1
          have hcov := nble_le hbb.2.2
          rw [Option.map_eq_some_iff] at h
          obtain ⟨H1, hu, he⟩ := h
          cases he
          cases hs with
          | @sliceU _ _ b p q _ _ c' zz hι hl hcc hq hee =>
            by_cases hin : len + n ≤ c'
            · -- in place
              obtain ⟨N, hN, hNv⟩ := happ H w new hr hnew
              obtain ⟨L, hL, hLv⟩ := firstCells_run (P := P) hr (VR.sliceU hι hl hcc hq hee) hold (fun m hm => by simp only [lenOfE, Option.some.injEq] at hm; omega)
              have hlN : N.size = n * et.size := by
                rw [← Array.length_toList, ← hNv.length]
                rcases hxk with ⟨a, l, c, rfl⟩ | ⟨k, m, rfl⟩
                · exact firstCellsE_length (x := .slice a l c) hnew ⟨_, _, _, rfl⟩
                · simp only [newCellsE, Option.some.injEq] at hnew
                  rw [← hnew, repeatL_length, b4]
              obtain ⟨D, E, fz, d1, d2, ⟨d3, d4⟩, d5, d6⟩ := hr.ob io _ b p hg hι
              have hend : q + c' * et.size = D.size := by
                rw [d4]
                rcases hee with hee | hee
                · omega
                · rw [← hee, hszz]
              have hmul : len * et.size + n * et.size ≤ c' * et.size := by rw [← Nat.add_mul]; exact Nat.mul_le_mul_right _ hin
              have hNlen : N.toList.length = n * et.size := by rw [Array.length_toList]; exact hlN
              obtain ⟨w', D', e1, e2, e3, e4, e5, e6, e7⟩ := storeCells_run (P := P) (o := q + len * et.size) (d2 rfl) N.toList 0 w D d1 (by rw [hNlen]; omega) (hNv.allOne hbb.1.2)
              have hob : ObR (ι.ext H.next (b, q) w.heap.size 0) w' (.cells (old ++ new) false) b q := by
                have hle : ι.le (ι.ext H.next (b, q) w.heap.size 0) := Emb.le_ext (b, q) 0 (hr.dom _ (Nat.le_refl _)) (fun j c p hj e => by have := hr.bnd j c p hj; omega)
                refine ⟨D', E, fz, e2, d2, ⟨?_, ?_⟩, fun k v hk => ?_, fun _ k v' hk hv' => ?_⟩
                · rw [e3, List.length_append, hlold, hNv.length, hNlen]; omega
                · rw [e3, d4]; exact (hle io b p hι).2.symm
                · rw [e4]
                  by_cases hk1 : k < old.length
                  · rw [List.getElem?_append_left hk1] at hk
                    rw [if_neg (by rw [hlold] at hk1; omega)]
                    have hq' : q = p + o := by
                      rcases hq with hq | hq
                      · exfalso
                        have : len = 0 := by omega
                        rw [hlold, this] at hk1; omega
                      · exact hq
                    unfold firstCellsE at hold
                    cases hl0 : Nat.beq len 0 with
                    | true =>
                      exfalso
                      rw [hlold, nbeq_eq hl0] at hk1; omega
                    | false =>
                      simp only [hl0, cond_false] at hold
                      unfold readCells at hold
                      rw [hg] at hold
                      simp only at hold
                      obtain ⟨hle2, hold2⟩ := lrange_some hold
                      have hkk : k < len * et.size := by rw [← hlold]; exact hk1
                      rw [hold2, List.getElem?_take, if_pos hkk, List.getElem?_drop] at hk
                      obtain ⟨v', g1, g2⟩ := d5 _ _ hk
                      refine ⟨v', ?_, g2.mono hle⟩
                      rw [hq', Nat.add_assoc]; exact g1
                  · have hk1 := Nat.le_of_not_lt hk1
                    rw [List.getElem?_append_right hk1, hlold] at hk
                    obtain ⟨v', g1, g2⟩ := hNv.get? hk
                    have hkn : k - len * et.size < n * et.size := by
                      have := (List.getElem?_eq_some_iff.1 g1).1
                      rw [hNlen] at this; exact this
                    rw [hlold] at hk1
                    refine ⟨v', ?_, g2.mono hle⟩
                    rw [if_pos (by rw [hNlen]; omega), show q + k - (q + len * et.size + 0) = k - len * et.size by omega]
                    exact g1
                · have hq' : q = p + o := by rcases hq with hq | hq <;> omega
                  rw [List.length_append, hlold, hNv.length, hNlen, ← Nat.add_mul] at hk
                  rw [e4, if_neg (by rw [hNlen]; have := Nat.add_mul len n et.size; omega)] at hv'
                  exact d6 rfl k v' (by omega) hv'
              obtain ⟨f1, f2⟩ := hr.regrow hg hι hu e5 e6 e7 hob
              refine ⟨_, _, _, rfl, .slice (some ⟨b, q, none⟩) (len + n) c', w', _, ?_, ?_, f1, f2⟩
              · simp only [appTail, hin, if_true, Sem.run_bind, hN, Result.andThen_ok, Addr.add_lit, e1, Sem.run_pure]
              · refine .sliceU (o := 0) (p := q) (Emb.ext_self _ _ _ _ _) (Nat.le_refl _) hin (.inr rfl) ?_
                right
                rw [Emb.ext_sz_ne _ _ _ _ (by have := hr.bnd io b p hι; omega), hend, d4]
            · obtain ⟨newCap, w2, e1, e2, e3, e4⟩ := grow _ c' rfl hin
              have hne : io ≠ H.next := by have := hr.lt hι; omega
              have hg2 : (H.new (.cells (old ++ new) false)).get io = some (.cells cs false) := by rw [Hp.get_new, if_neg hne]; exact hg
              have hι2 : (ι.ext H.next (w.heap.size, 0) w.heap.size (newCap * et.size)) io = some (b, p) := by rw [Emb.ext_ne _ _ _ _ hne]; exact hι
              obtain ⟨f1, f2⟩ := e3.write hg2 rfl hι2 hu (w' := w2) ⟨rfl, rfl, rfl⟩ rfl (fun _ _ => rfl) trivial (fun L hL => ⟨L, hL⟩)
              exact ⟨_, _, _, rfl, _, w2, _, e1, VR.newSliceU ι H.next w.heap.size _ _ _ newCap et.size (Nat.le_refl _) e2 rfl, f1, e4.trans f2⟩
        · cases h
      · rename_i hnb
        cases h
        have hs2 : ∃ bs, s' = .slice bs len cap := by
          cases hs with
          | nils => exact ⟨_, rfl⟩
          | slice hι => exact ⟨_, rfl⟩
          | sliceU => exact absurd rfl (hnb _ _ _)
        obtain ⟨bs, hs2⟩ := hs2
        obtain ⟨newCap, w2, e1, e2, e3, e4⟩ := grow bs cap hs2 hfit
        exact ⟨_, _, _, hs2, _, w2, _, e1, VR.newSliceU ι H.next w.heap.size _ _ _ newCap et.size (Nat.le_refl _) e2 rfl, e3, e4⟩
  · cases h
end
end Go.Ahe
/-
  AHE, 16: append as the model has it; clear; min and max; iterators of maps.
-/
namespace Go.Ahe
open Go.RowKit

section
variable {P : Program} {C : Ctx} (hC : Fits C P) {base : Nat} {ι : Emb} {H : Hp} {w : World} (hr : Rel base ι H w)
include hC hr

theorem appendE_run {ts tx ty : TypeId} {s s' x x' v : Value} {H' : Hp} (hs : VR ι s s') (hx : VR ι x x') (h : appendE C ts tx s x H = some (v, H')) :
    ∃ v' w' ι', (Builtin.append_ #[ts, tx] ty #[s', x']).run P w = .ok v' w' ∧ VR ι' v v' ∧ Rel base ι' H' w' ∧ Step ι ι' H H' w w' := by
  unfold appendE at h
  split at h
  · rename_i ti tj hti htj
    obtain ⟨i1, d1, z1, hi1⟩ := hC.ti hti
    obtain ⟨i2, d2, z2, hi2⟩ := hC.ti htj
    have hd1 := hi1.desc
    have hd2 := hi2.desc
    split at h
    · rename_i el ex xa xl xc hk1 hk2
      rw [hk1] at hd1; rw [hk2] at hd2
      simp only at hd1 hd2; subst hd1; subst hd2
      obtain ⟨et, het⟩ : ∃ et, C.T el = some et := by
        unfold appendE.appendTo at h
        rw [Option.bind_eq_some_iff] at h
        obtain ⟨et, h1, _⟩ := h; exact ⟨et, h1⟩
      obtain ⟨i3, d3, z3, hi3⟩ := hC.ti het
      have hadd : addedE (.slice xa xl xc) = some xl := rfl
      have hlen : (Builtin.lenOf x').run P w = .ok xl w := by cases hx <;> rfl
      obtain ⟨bs, l, c, hs', v', w', ι', h1, h2⟩ := appTail_run hC hr het hs (n := xl) (x' := x') false hadd (.inl ⟨_, _, _, rfl⟩) (appended := Builtin.firstCells et.size xl x')
        (fun H1 w1 new hr1 hn => by
          obtain ⟨L, hL, hv⟩ := firstCells_run (P := P) hr1 hx hn (fun m hm => by simp only [lenOfE, Option.some.injEq] at hm; omega)
          exact ⟨L.toArray, hL, by simpa using hv⟩) h
      subst hs'
      refine ⟨v', w', ι', ?_, h2⟩
      rw [← h1]
      simp only [Builtin.append_, appTail, List.getElem?_toArray, List.getElem?_cons_zero, List.getElem?_cons_succ, Sem.run_bind, hi1.run_under, hi2.run_under, Result.andThen_ok, hi3.run_size, Sem.run_pure, Bool.false_eq_true, if_false, hlen, Bool.not_false, if_true]
      rfl
    · rename_i el ik xn hk1 hk2
      rw [hk1] at hd1; rw [hk2] at hd2
      simp only at hd1 hd2; subst hd1; subst hd2
      rw [Option.bind_eq_some_iff] at h
      obtain ⟨et, het, h⟩ := h
      obtain ⟨hlim, h⟩ := bif_some h
      simp only [Bool.and_eq_true] at hlim
      have hlim1 := of_decide_eq_true hlim.1
      have hby := nble_le hlim.2.1
      have hzl := nbeq_eq hlim.2.2
      obtain ⟨i3, d3, z3, hi3⟩ := hC.ti het
      obtain ⟨n, hadd⟩ : ∃ n, addedE (.int .i64 xn) = some n := by
        unfold appendE.appendTo at h
        simp only [Option.bind_eq_some_iff] at h
        obtain ⟨et, h1, n, h2, _⟩ := h; exact ⟨n, h2⟩
      have hxn : xn = (n : Int) := by
        simp only [addedE, nat?] at hadd
        split at hadd
        · rename_i h0; cases hadd; omega
        · cases hadd
      subst hxn
      cases hx
      have hzs : z3.cells.size = et.size := by rw [← Array.length_toList, hi3.zcells, hzl]
      have hz := (zero_plain (ι := ι) hi3).repeat n
      have hw1 : IntKind.i64.wrap (n : Int) = (n : Int) := wrap_i64 (by omega) (by omega)
      have c1 : ¬ ((n : Int) < 0) := by omega
      have c2 : ¬ ((n : Int) * (i3.bytes : Int) > 2 ^ 48) := by
        have h1 : n * i3.bytes ≤ 4294967296 * 65536 := Nat.mul_le_mul (by omega) (by rw [hi3.bytes]; exact hby)
        have h2 : ((n * i3.bytes : Nat) : Int) ≤ ((4294967296 * 65536 : Nat) : Int) := Int.ofNat_le.2 h1
        rw [Int.natCast_mul] at h2
        have : (2 : Int) ^ 48 = ((4294967296 * 65536 : Nat) : Int) := by decide
        rw [this]; omega
      obtain ⟨bs, l, c, hs', v', w', ι', h1, h2⟩ := appTail_run hC hr het hs (n := n) (x' := .int .i64 n) true hadd (.inr ⟨_, _, rfl⟩)
        (appended := if n * et.size = 0 then pure #[] else do pure (Builtin.zeroCells (← zeroValue el).cells n))
        (fun H1 w1 new hr1 hn => by
          simp only [newCellsE, Option.some.injEq] at hn
          subst hn
          by_cases h0 : n * et.size = 0
          · refine ⟨#[], by rw [if_pos h0]; rfl, ?_⟩
            have : (repeatL et.zero n).length = 0 := by rw [repeatL_length, hzl, h0]
            rw [List.eq_nil_of_length_eq_zero this]; exact .nil
          · refine ⟨Builtin.zeroCells z3.cells n, ?_, ?_⟩
            · rw [if_neg h0]; simp only [Sem.run_bind, hi3.run_zero, Result.andThen_ok, Sem.run_pure]
            · unfold Builtin.zeroCells
              rw [zeros_eq z3.cells n _ rfl]; exact hz) h
      subst hs'
      refine ⟨v', w', ι', ?_, h2⟩
      rw [← h1]
      have hint : (asInt (.int .i64 (n : Int))).run P w = .ok (n : Int) w := rfl
      simp only [Builtin.append_, appTail, List.getElem?_toArray, List.getElem?_cons_zero, List.getElem?_cons_succ, Sem.run_bind, hi1.run_under, hi2.run_under, Result.andThen_ok, hi3.run_size, Sem.run_pure, if_true, hint, hw1, c1, if_false, hi3.run_info, c2, Int.toNat_natCast, Bool.not_true, Bool.false_eq_true]
      rfl
    · cases h
  · cases h

theorem clearE_run {t ty : TypeId} {x x' : Value} {H' : Hp} (hx : VR ι x x') (h : clearE C t x H = some H') :
    ∃ w' : World, (Builtin.clear_ #[t] ty #[x']).run P w = .ok (.tuple #[]) w' ∧ Rel base ι H' w' ∧ Step ι ι H H' w w' := by
  unfold clearE at h
  split at h
  · cases h
  · rename_i ti hti
    obtain ⟨i, d, z, hi⟩ := hC.ti hti
    have hd := hi.desc
    split at h
    · rename_i el bse len c hkd; rw [hkd] at hd; simp only at hd; subst hd
      rw [Option.bind_eq_some_iff] at h
      obtain ⟨et, het, h⟩ := h
      obtain ⟨i2, d2, z2, hi2⟩ := hC.ti het
      split at h
      · obtain ⟨hb, h⟩ := bif_some h
        cases h
        cases hx
        exact ⟨w, by simp [Builtin.clear_, hi.run_under], hr, Step.refl hr⟩
      · rename_i io o sp
        cases hb : Nat.beq len 0 with
        | true =>
          rw [hb, cond_true] at h
          have := nbeq_eq hb; subst this
          cases h
          refine ⟨w, ?_, hr, Step.refl hr⟩
          cases hx <;> simp [Builtin.clear_, hi.run_under]
        | false =>
          rw [hb, cond_false] at h
          obtain ⟨hz, h⟩ := bif_some h
          have hz := nbeq_eq hz
          have hl0 : len ≠ 0 := fun e => by subst e; cases hb
          have hzs : z2.cells.size = et.size := by rw [← Array.length_toList, hi2.zcells, hz]
          have hzz := (zero_plain (ι := ι) hi2).repeat len
          have hz' : VRs ι (repeatL et.zero len) (Builtin.zeroCells z2.cells len).toList := by
            unfold Builtin.zeroCells
            rw [zeros_eq z2.cells len _ rfl]; exact hzz
          cases hx with
          | @slice _ _ b p _ _ hι =>
            obtain ⟨w', e1, e2⟩ := writeCells_run (P := P) hr hι hz' h
            refine ⟨w', ?_, e2⟩
            obtain ⟨k, rfl⟩ : ∃ k, len = k + 1 := ⟨len - 1, by omega⟩
            simp only [Builtin.clear_, List.getElem?_toArray, List.getElem?_cons_zero, Sem.run_bind, hi.run_under, Result.andThen_ok, hi2.run_zero, e1, Sem.run_pure]
          | @sliceU _ _ b p q _ _ c' zz hι hl hcc hq he =>
            have hq' : q = p + o := by rcases hq with hq | hq <;> omega
            subst hq'
            obtain ⟨w', e1, e2⟩ := writeCells_run (P := P) hr hι hz' h
            refine ⟨w', ?_, e2⟩
            obtain ⟨k, rfl⟩ : ∃ k, len = k + 1 := ⟨len - 1, by omega⟩
            simp only [Builtin.clear_, List.getElem?_toArray, List.getElem?_cons_zero, Sem.run_bind, hi.run_under, Result.andThen_ok, hi2.run_zero, e1, Sem.run_pure]
    · rename_i k e hkd; rw [hkd] at hd; simp only at hd; subst hd
      rw [Option.bind_eq_some_iff] at h
      obtain ⟨m, hm, h⟩ := h
      rcases mapOf_run hr hx hm with ⟨rfl, rfl⟩ | ⟨i', b, p, es, ck, ES, rfl, rfl, rfl, hι, hg, h1, h2⟩
      · cases h
        exact ⟨w, by simp [Builtin.clear_, hi.run_under], hr, Step.refl hr⟩
      · obtain ⟨w', e1, e2⟩ := setMap_run (P := P) hr #[] hι hg h1 h .nil
        refine ⟨w', ?_, e2⟩
        simp [Builtin.clear_, hi.run_under, getObj, Sem.run, h1, e1]
    · cases h

end

theorem minE_run {P : Program} {w : World} {ι : Emb} {xs : List Value} {xs' : Array Value} (hx : VRs ι xs xs'.toList) {v : Value} (h : minE xs = some v) (a : Array TypeId) (t : TypeId) : (Builtin.min_ a t xs').run P w = .ok v w ∧ VR ι v v := by
  unfold minE at h
  split at h
  · cases h
    obtain ⟨l⟩ := xs'
    cases hx with | cons h1 hx => cases hx with | cons h2 hx => cases hx; cases h1; cases h2; exact ⟨rfl, .int _ _⟩
  · cases h
theorem maxE_run {P : Program} {w : World} {ι : Emb} {xs : List Value} {xs' : Array Value} (hx : VRs ι xs xs'.toList) {v : Value} (h : maxE xs = some v) (a : Array TypeId) (t : TypeId) : (Builtin.max_ a t xs').run P w = .ok v w ∧ VR ι v v := by
  unfold maxE at h
  split at h
  · cases h
    obtain ⟨l⟩ := xs'
    cases hx with | cons h1 hx => cases hx with | cons h2 hx => cases hx; cases h1; cases h2; exact ⟨rfl, .int _ _⟩
  · cases h
end Go.Ahe
/-
  AHE, 17: iterators of maps; the builtins, one table.
-/
namespace Go.Ahe
open Go.RowKit

section
variable {P : Program} {C : Ctx} (hC : Fits C P) {base : Nat} {ι : Emb} {H : Hp} {w : World} (hr : Rel base ι H w)
include hC hr

theorem rangeE_run {t : TypeId} {x x' v : Value} {H' : Hp} (hx : VR ι x x') (h : rangeE C t x H = some (v, H')) :
    ∃ v' w' ι', (Instr.range t x').run P w = .ok v' w' ∧ VR ι' v v' ∧ Rel base ι' H' w' ∧ Step ι ι' H H' w w' := by
  unfold rangeE at h
  split at h
  · cases h
  · rename_i ti hti
    obtain ⟨i, d, z, hi⟩ := hC.ti hti
    have hd := hi.desc
    split at h
    · rename_i kt et hkd; rw [hkd] at hd; simp only at hd; subst hd
      rw [Option.map_eq_some_iff] at h
      obtain ⟨m, hm, h⟩ := h
      have hnone : ι H.next = none := hr.dom _ (Nat.le_refl _)
      have hle : ι.le (ι.ext H.next (w.heap.size, 0) w.heap.size 0) := Emb.le_ext (w.heap.size, 0) 0 hnone (fun j b p hj e => by have := hr.bnd j b p hj; omega)
      rcases mapOf_run hr hx hm with ⟨rfl, rfl⟩ | ⟨i', b, p, es, ck, ES, rfl, rfl, rfl, hι, hg, h1, h2⟩
      · cases h
        obtain ⟨e1, e2⟩ := hr.new (.iter none 0 [] 0) (.mapIter none 0 #[] 0) 0 (fun w' hw => ⟨rfl, none, hw, rfl⟩)
        refine ⟨_, _, _, ?_, VR.newPtr ι H.next w.heap.size 0, e1, e2⟩
        simp only [Instr.range, Sem.run_bind, hi.run_under, Result.andThen_ok, Sem.run_pure, run_newObj, World.alloc]
      · cases h
        obtain ⟨e1, e2⟩ := hr.new (.iter (some i') ck [] ck) (.mapIter (some b) ck #[] ck) 0 (fun w' hw => ⟨rfl, some b, hw, b, p, (hle _ _ _ hι).1, rfl⟩)
        refine ⟨_, _, _, ?_, VR.newPtr ι H.next w.heap.size 0, e1, e2⟩
        have hg : (getObj b).run P w = .ok (.map ES ck) w := by simp [getObj, Sem.run, h1]
        simp only [Instr.range, Sem.run_bind, hi.run_under, Result.andThen_ok, hg, Sem.run_pure, run_newObj, World.alloc]
    · cases h

omit hr in
theorem capE_run {t : TypeId} {x x' v : Value} (hx : VR ι x x') (h : capE C t x = some v) (ty : TypeId) : (Builtin.cap_ #[t] ty #[x']).run P w = .ok v w ∧ VR ι v v := by
  unfold capE at h
  split at h
  · cases h
  · rename_i ti hti
    obtain ⟨i, d, z, hi⟩ := hC.ti hti
    have hd := hi.desc
    split at h
    · rename_i el l c hk; rw [hk] at hd; simp only at hd; subst hd
      cases h
      exact ⟨by cases hx; simp [Builtin.cap_, hi.run_under, goInt], .int _ _⟩
    · rename_i el a o l c hk; rw [hk] at hd; simp only at hd; subst hd
      cases h
      exact ⟨by cases hx; simp [Builtin.cap_, hi.run_under, goInt], .int _ _⟩
    · cases h

/-- What an operation that makes no call hands back. -/
def ValRun (P : Program) (base : Nat) (ι : Emb) (H H' : Hp) (w : World) (v : Value) (s : Sem Value) : Prop :=
  ∃ v' w' ι', s.run P w = .ok v' w' ∧ VR ι' v v' ∧ Rel base ι' H' w' ∧ Step ι ι' H H' w w'

omit hC in
theorem ValRun.same {v v' : Value} {s : Sem Value} (h1 : s.run P w = .ok v' w) (h2 : VR ι v v') : ValRun P base ι H H w v s :=
  ⟨v', w, ι, h1, h2, hr, Step.refl hr⟩

theorem builtinE_run {b : Builtin} {ts : Array TypeId} {ty : TypeId} {consts : Array Bool} {args : List Value} {args' : Array Value} {v : Value} {H' : Hp} (ha : VRs ι args args'.toList)
    (h : builtinE C b ts.toList args H = some (v, H')) : ∃ s : Sem Value, builtin b ts ty consts args' = (do pure (.value (← s))) ∧ ValRun P base ι H H' w v s := by
  unfold builtinE at h
  obtain ⟨ts⟩ := ts
  obtain ⟨as⟩ := args'
  simp only at h ha
  split at h
  · cases ha with | cons h1 ha => cases ha; simp only [Option.map_eq_some_iff] at h; obtain ⟨u, h, he⟩ := h; cases he; exact ⟨_, rfl, let ⟨e1, e2⟩ := lenE_run hC hr h1 h ty; ValRun.same hr e1 e2⟩
  · cases ha with | cons h1 ha => cases ha; simp only [Option.map_eq_some_iff] at h; obtain ⟨u, h, he⟩ := h; cases he; exact ⟨_, rfl, let ⟨e1, e2⟩ := capE_run hC h1 h ty; ValRun.same hr e1 e2⟩
  · cases ha with | cons h1 ha => cases ha with | cons h2 ha => cases ha; exact ⟨_, rfl, appendE_run hC hr h1 h2 h⟩
  · cases ha with | cons h1 ha => cases ha with | cons h2 ha => cases ha; exact ⟨_, rfl, let ⟨w', a, b, c⟩ := copyE_run hC hr h1 h2 h; ⟨v, w', ι, a, b, c⟩⟩
  · rw [Option.map_eq_some_iff] at h
    obtain ⟨u, h, he⟩ := h; cases he
    obtain ⟨e1, e2⟩ := minE_run (P := P) (w := w) (xs' := ⟨as⟩) ha h ⟨ts⟩ ty
    exact ⟨_, rfl, ValRun.same hr e1 e2⟩
  · rw [Option.map_eq_some_iff] at h
    obtain ⟨u, h, he⟩ := h; cases he
    obtain ⟨e1, e2⟩ := maxE_run (P := P) (w := w) (xs' := ⟨as⟩) ha h ⟨ts⟩ ty
    exact ⟨_, rfl, ValRun.same hr e1 e2⟩
  · cases ha with | cons h1 ha => cases ha; simp only [Option.map_eq_some_iff] at h; obtain ⟨u, h, he⟩ := h; cases he; exact ⟨_, rfl, let ⟨w', a, b⟩ := clearE_run hC hr h1 h; ⟨_, w', ι, a, .undef, b⟩⟩
  · cases ha with | cons h1 ha => cases ha with | cons h2 ha => cases ha; simp only [Option.map_eq_some_iff] at h; obtain ⟨u, h, he⟩ := h; cases he; exact ⟨_, rfl, let ⟨w', a, b⟩ := deleteE_run hC hr h1 h2 h; ⟨_, w', ι, a, .undef, b⟩⟩
  · cases h

omit hC hr in
theorem MR.all {ι : Emb} {es : List (Value × Value × Nat)} {ES : List MapEntry} (h : MR ι es ES) (f : Nat → Bool) : (ES.all fun e => f e.born) = es.all fun e => f e.2.2 := by
  induction h with
  | nil => rfl
  | cons _ _ _ ih => simp [ih]

omit hC hr in
theorem MR.filter {ι : Emb} {es : List (Value × Value × Nat)} {ES : List MapEntry} (h : MR ι es ES) (f : Nat → Bool) : MR ι (es.filter fun e => f e.2.2) (ES.filter fun e => f e.born) := by
  induction h with
  | nil => exact .nil
  | @cons k v v' b es ES hk hv _ ih =>
    simp only [List.filter_cons]
    cases f b with
    | true => exact .cons hk hv ih
    | false => exact ih

omit hC hr in
theorem keyOk_VR {ι : Emb} {k : Value} (h : keyOk k = true) : VR ι k k := by
  cases k <;> first | (cases h; done) | (constructor; done) | skip
  exact .agg (VRs.plain (fun v hv => by cases v <;> first | (cases hv; done) | constructor) h)

omit hC hr in
theorem MR.find {ι : Emb} {es : List (Value × Value × Nat)} {ES : List MapEntry} (h : MR ι es ES) (f : Nat → Bool) {e : Value × Value × Nat} (he : es.find? (fun e => f e.2.2) = some e) : ∃ E, ES.find? (fun e => f e.born) = some E ∧ E.key = e.1 ∧ keyOk e.1 = true ∧ VR ι e.2.1 E.val := by
  induction h with
  | nil => cases he
  | @cons k v v' b es ES hk hv _ ih =>
    simp only [List.find?_cons] at he ⊢
    cases hb : f b with
    | true => rw [hb] at he; cases he; exact ⟨_, rfl, rfl, hk, hv⟩
    | false => rw [hb] at he; exact ih he

omit hC in
theorem entryE_run {x x' v : Value} (hx : VR ι x x') (h : entryE x H = some v) : ∃ v', (Instr.entry x').run P w = .ok v' w ∧ VR ι v v' := by
  unfold entryE at h
  split at h
  · rename_i r
    cases hx with | @ptr _ _ rb rp hιr =>
    split at h
    · rename_i m since seen last hg
      obtain ⟨rfl, m', h1, mb, mp, hιm, rfl⟩ := hr.ob r _ rb rp hg hιr
      split at h
      · rename_i b es ck hb hgm
        obtain ⟨ES, g1, g2⟩ := hr.ob m _ mb mp hgm hιm
        have hgo : (getObj rb).run P w = .ok (.mapIter (some mb) since seen.toArray last) w := by simp [getObj, Sem.run, h1]
        have hgm : (getObj mb).run P w = .ok (.map ES ck) w := by simp [getObj, Sem.run, g1]
        have hx : ∃ e, es.find? (fun e => Nat.beq e.2.2 b) = some e ∧ Nat.beq ck last = true ∧ v = .tuple #[e.1, e.2.1] := by
          cases hq : Nat.beq ck last with
          | false => rw [hq] at h; cases h
          | true =>
            rw [hq] at h
            cases hf : es.find? (fun e => Nat.beq e.2.2 b) with
            | none => rw [hf] at h; cases h
            | some e => rw [hf] at h; cases h; exact ⟨e, rfl, rfl, rfl⟩
        obtain ⟨e, hf, hck, rfl⟩ := hx
        have hck := Nat.eq_of_beq_eq_true hck
        subst hck
        · skip
          obtain ⟨E, e1, e2, e3, e4⟩ := g2.find (fun n => Nat.beq n b) hf
          have e1 : ES.find? (fun e => e.born == b) = some E := by
            rw [← Array.find?_toList, ← e1]
            congr 1
            funext e
            cases hb : Nat.beq e.born b with
            | true => exact beq_iff_eq.2 (Nat.eq_of_beq_eq_true hb)
            | false => exact beq_eq_false_iff_ne.2 (fun h => by rw [h, Nat.beq_refl] at hb; cases hb)
          have hbk : seen.toArray.back? = some b := by rw [List.back?_toArray]; exact hb
          refine ⟨.tuple #[E.key, E.val], ?_, .tuple (.cons (by rw [e2]; exact keyOk_VR e3) (.cons e4 .nil))⟩
          simp only [Instr.entry, Nat.zero_add, Sem.run_bind, hgo, hgm, hbk, e1, Result.andThen_ok, bne_self_eq_false, Bool.false_eq_true, if_false, Sem.run_pure]
      · cases h
    · cases h
  · cases h

omit hC in
theorem nextE_run {x x' v : Value} {ty : TypeId} {H' : Hp} (hx : VR ι x x') (h : nextE x H = some (v, H')) : ValRun P base ι H H' w v (Instr.next x' false ty) := by
  unfold nextE at h
  split at h
  · rename_i r
    cases hx with | @ptr _ _ rb rp hιr =>
    split at h
    · rename_i since seen st hg
      cases h
      obtain ⟨rfl, m', h1, h2⟩ := hr.ob r _ rb rp hg hιr
      simp only at h2; subst h2
      refine ValRun.same hr (v' := .tuple #[.bool false]) ?_ (.tuple (.cons (.bool _) .nil))
      have hgo : (getObj rb).run P w = .ok (.mapIter none since seen.toArray st) w := by simp [getObj, Sem.run, h1]
      simp only [Instr.next, Nat.zero_add, Sem.run_bind, hgo, Result.andThen_ok, Sem.run_pure]
    · rename_i m since seen last hg
      obtain ⟨rfl, m', h1, mb, mp, hιm, rfl⟩ := hr.ob r _ rb rp hg hιr
      split at h
      · rename_i es ck hgm
        obtain ⟨ES, g1, g2⟩ := hr.ob m _ mb mp hgm hιm
        have hgo : (getObj rb).run P w = .ok (.mapIter (some mb) since seen.toArray last) w := by simp [getObj, Sem.run, h1]
        have hgm : (getObj mb).run P w = .ok (.map ES ck) w := by simp [getObj, Sem.run, g1]
        have hall : (ES.all fun e => decide (e.born ≥ last)) = es.all (fun e => Nat.ble last e.2.2) := by
          rw [← Array.all_toList, MR.all g2 (fun b => decide (b ≥ last))]
          congr 1
          funext e
          cases hb : Nat.ble last e.2.2 with
          | true => exact decide_eq_true (nble_le hb)
          | false => exact decide_eq_false (fun h => by rw [Nat.ble_eq_true_of_le h] at hb; cases hb)
        have hemp : ES.isEmpty = es.isEmpty := by
          have := g2.length
          obtain ⟨L⟩ := ES
          cases es <;> cases L <;> simp_all
        have hf := g2.filter (fun b => !seen.contains b)
        cases hcond : (!seen.isEmpty && !es.isEmpty && es.all fun e => Nat.ble last e.2.2) with
        | true => rw [hcond, cond_true] at h; cases h
        | false =>
          rw [hcond, cond_false] at h
          have hcond : (!seen.toArray.isEmpty && !ES.isEmpty && ES.all fun e => decide (e.born ≥ last)) = false := by
            have hse : seen.toArray.isEmpty = seen.isEmpty := by simp
            rw [hall, hemp, hse]; exact hcond
          have hleft : (ES.filter fun e => !seen.toArray.contains e.born).toList = ES.toList.filter (fun e => !seen.contains e.born) := by
            simp
          split at h
          · -- over
            rename_i hl
            cases h
            rw [hl] at hf
            have hl' : (ES.filter fun e => !seen.toArray.contains e.born) = #[] := by
              apply Array.toList_inj.1
              rw [hleft]
              cases hf' : ES.toList.filter (fun e => !seen.contains e.born) with
              | nil => rfl
              | cons a l => rw [hf'] at hf; cases hf
            refine ValRun.same hr (v' := .tuple #[.bool false]) ?_ (.tuple (.cons (.bool _) .nil))
            have hcand : ((if ((#[] : Array MapEntry).filter fun x => decide (x.born < since)).isEmpty = true then #[none] else #[]) ++ (((#[] : Array MapEntry).filter fun x => decide (x.born < since)) ++ ((#[] : Array MapEntry).filter fun x => decide (x.born ≥ since))).map some) = #[none] := by simp
            simp only [Instr.next, Nat.zero_add, Sem.run_bind, hgo, hgm, Result.andThen_ok, hcond, Bool.false_eq_true, if_false, hl', hcand]
            rfl
          · rename_i e hl
            obtain ⟨hb, h⟩ := bif_some h
            have hb := nblt_lt hb
            rw [Option.map_eq_some_iff] at h
            obtain ⟨H1, hu, he⟩ := h
            cases he
            rw [hl] at hf
            obtain ⟨E, hE1, hE2, hE3, hE4⟩ : ∃ E : MapEntry, ES.toList.filter (fun e => !seen.contains e.born) = [E] ∧ E.key = e.1 ∧ E.born = e.2.2 ∧ (keyOk e.1 = true ∧ VR ι e.2.1 E.val) := by
              cases hf' : ES.toList.filter (fun e => !seen.contains e.born) with
              | nil => rw [hf'] at hf; cases hf
              | cons a l => rw [hf'] at hf; cases hf with | cons hk hv t => cases t; exact ⟨_, rfl, rfl, rfl, hk, hv⟩
            have hl' : (ES.filter fun e => !seen.toArray.contains e.born) = #[E] := by
              apply Array.toList_inj.1
              rw [hleft, hE1]
            have hcand : ((if ((#[E] : Array MapEntry).filter fun x => decide (x.born < since)).isEmpty = true then #[none] else #[]) ++ (((#[E] : Array MapEntry).filter fun x => decide (x.born < since)) ++ ((#[E] : Array MapEntry).filter fun x => decide (x.born ≥ since))).map some) = #[some E] := by
              have hb' : E.born < since := by rw [hE3]; exact hb
              simp [hb']
            obtain ⟨f1, f2⟩ := hr.write hg rfl hιr hu (w' := { w with heap := w.heap.setIfInBounds rb (.mapIter (some mb) since (seen.toArray.push E.born) ck) }) ⟨rfl, rfl, rfl⟩ (by simp)
              (fun k hk => by simp [Array.getElem?_setIfInBounds_ne (Ne.symm hk)])
              ⟨rfl, some mb, by
                have := hr.bnd r rb 0 hιr
                simp [this, hE3], mb, mp, hιm, rfl⟩
              (fun L hL => by rw [h1] at hL; cases hL)
            refine ⟨.tuple #[.bool true, E.key, E.val], _, ι, ?_, ?_, f1, f2⟩
            · simp only [Instr.next, Nat.zero_add, Sem.run_bind, hgo, hgm, Result.andThen_ok, hcond, Bool.false_eq_true, if_false, hl', hcand]
              have hch : (choose (.mapNext (#[some E] : Array (Option MapEntry)).size)).run P w = .ok 0 w := rfl
              have hset : (setObj rb (.mapIter (some mb) since (seen.toArray.push E.born) ck)).run P w = .ok () { w with heap := w.heap.setIfInBounds rb (.mapIter (some mb) since (seen.toArray.push E.born) ck) } := by simp [setObj, Sem.run, h1]
              rw [hch]
              simp only [Result.andThen_ok, List.getElem?_toArray, List.getElem?_cons_zero, Sem.run_bind, hset, Sem.run_pure]
            · rw [hE2]
              exact .tuple (.cons (.bool _) (.cons (keyOk_VR hE4.1) (.cons hE4.2 .nil)))
          · cases h
      · cases h
    · cases h
  · cases h
end
end Go.Ahe
/-
  AHE, 18: one operation of a region, run.
-/
namespace Go.Ahe
open Go.RowKit

/-- What is behind a call: the value, the heaps, the worlds. -/
def PostOf (base : Nat) (ι : Emb) (H H' : Hp) (w : World) (v : Value) : Ending → World → Prop
  | .returned v', w' => ∃ ι', VR ι' v v' ∧ Rel base ι' H' w' ∧ Step ι ι' H H' w w'
  | _, _ => False

/-- How an operation goes. -/
def RunsAs (P : Program) (base : Nat) (ι : Emb) (H H' : Hp) (w : World) (v : Value) (s : Sem Next) : Prop :=
  ∃ nx w1, s.run P w = .ok nx w1 ∧ (match nx with
    | .value v' => PostOf base ι H H' w v (.returned v') w1
    | .skip => PostOf base ι H H' w v (.returned undef) w1
    | .enter f args => CallsIn Fence.wide 0 P f args w1 (PostOf base ι H H' w v)
    | .round l f tmps as body => RoundIn Fence.wide 0 P l f tmps as body w1 (PostOf base ι H H' w v)
    | _ => False)

/-- Calls go as the evaluator says. -/
structure CallOk (P : Program) (call : CallE) : Prop where
  func : ∀ {f : FuncId} {args : List Value} {H H' : Hp} {v : Value}, call (.func f) args H = some (v, H') → ∀ {base : Nat} {ι : Emb} {w : World} {args' : Array Value}, Rel base ι H w → VRs ι args args'.toList →
    RunsAs P base ι H H' w v (callFunc f args')
  yield : ∀ {l : Nat} {args : List Value} {H H' : Hp} {v : Value}, call (.yield l) args H = some (v, H') → ∀ {base : Nat} {ι : Emb} {w : World} {args' : Array Value} {b p : Nat}, Rel base ι H w → VRs ι args args'.toList → ι l = some (b, p) →
    RunsAs P base ι H H' w v (Instr.yield b args')

theorem ValRun.as {P : Program} {base : Nat} {ι : Emb} {H H' : Hp} {w : World} {v : Value} {s : Sem Value} (h : ValRun P base ι H H' w v s) : RunsAs P base ι H H' w v (do pure (.value (← s))) := by
  obtain ⟨v', w', ι', h1, h2, h3, h4⟩ := h
  refine ⟨.value v', w', ?_, ι', h2, h3, h4⟩
  simp only [Sem.run_bind, h1, Result.andThen_ok, Sem.run_pure]

theorem UnitRun.as {P : Program} {base : Nat} {ι : Emb} {H H' : Hp} {w : World} {s : Sem Unit} (h : ∃ w' : World, s.run P w = .ok () w' ∧ Rel base ι H' w' ∧ Step ι ι H H' w w') : RunsAs P base ι H H' w (.tuple #[]) (do s; pure .skip) := by
  obtain ⟨w', h1, h2, h3⟩ := h
  refine ⟨.skip, w', ?_, ι, .undef, h2, h3⟩
  simp only [Sem.run_bind, h1, Result.andThen_ok, Sem.run_pure]

theorem RunsAs.pure {P : Program} {base : Nat} {ι : Emb} {H : Hp} {w : World} (hr : Rel base ι H w) {v v' : Value} (h : VR ι v v') : RunsAs P base ι H H w v (pure (.value v')) :=
  ⟨.value v', w, rfl, ι, h, hr, Step.refl hr⟩

/-- The operands' values are related. -/
def OpsR (ι : Emb) (e : Env) (a : Act) (xs : List Operand) : Prop := ∀ x ∈ xs, ∀ v, opV e x = some v → VR ι v (a.eval x)

theorem EnvR.opsR {ι : Emb} {e : Env} {a : Act} (h : EnvR ι e a.tmps) (xs : List Operand) : OpsR ι e a xs := fun x _ v hv => h.op hv

theorem OpsR.ops {ι : Emb} {e : Env} {a : Act} : ∀ {xs : List Operand} {vs : List Value}, OpsR ι e a xs → opVs e xs = some vs → VRs ι vs (xs.map a.eval)
  | [], vs, h, hs => by simp only [opVs] at hs; cases hs; exact .nil
  | x :: xs, vs, h, hs => by
    simp only [opVs] at hs
    split at hs
    · rename_i v vs' h1 h2; cases hs; exact .cons (h x (List.mem_cons_self ..) _ h1) (OpsR.ops (fun y hy => h y (List.mem_cons_of_mem _ hy)) h2)
    · cases hs
theorem OpsR.opo {ι : Emb} {e : Env} {a : Act} {x : Option Operand} {v : Option Value} (h : OpsR ι e a x.toList) (hs : opVo e x = some v) : VRo ι v (x.map a.eval) := by
  cases x with
  | none => simp only [opVo] at hs; cases hs; exact .none
  | some x =>
    simp only [opVo, Option.map_eq_some_iff] at hs
    obtain ⟨u, h1, rfl⟩ := hs
    exact .some (h x (by simp) _ h1)

theorem parts_map {ι : Emb} {e : Env} {a : Act} : ∀ {ps : List (Nat × Operand)} {vs : List (Nat × Value)} (_ : OpsR ι e a (ps.map (·.2))), partsE e ps = some vs →
    vs.map (·.1) = (ps.map fun (x : Nat × Operand) => (x.1, a.eval x.2)).map (·.1) ∧ VRs ι (vs.map (·.2)) ((ps.map fun (x : Nat × Operand) => (x.1, a.eval x.2)).map (·.2))
  | [], vs, he, h => by simp only [partsE] at h; cases h; exact ⟨rfl, .nil⟩
  | (i, x) :: ps, vs, he, h => by
    simp only [partsE] at h
    split at h
    · rename_i v vs' h1 h2; cases h
      obtain ⟨h3, h4⟩ := parts_map (fun y hy => he y (List.mem_cons_of_mem _ hy)) h2
      exact ⟨by simp [h3], .cons (he x (List.mem_cons_self ..) _ h1) h4⟩
    · cases h

section
variable {P : Program} {C : Ctx} (hC : Fits C P) {base : Nat} {ι : Emb} {H : Hp} {w : World} (hr : Rel base ι H w) {call : CallE} (hcall : CallOk P call) {e : Env} {a : Act}

theorem pureV_some {v : Option Value} {u : Value} {H H' : Hp} (h : (match v with | some v => some (v, H) | none => none : Option (Value × Hp)) = some (u, H')) : v = some u ∧ H' = H := by
  cases v with
  | none => cases h
  | some v => cases h; exact ⟨rfl, rfl⟩
theorem unitV_some {h : Option Hp} {u : Value} {H' : Hp} (hh : (match h with | some h => some (.tuple #[], h) | none => none : Option (Value × Hp)) = some (u, H')) : h = some H' ∧ u = .tuple #[] := by
  cases h with
  | none => cases hh
  | some v => cases hh; exact ⟨rfl, rfl⟩

set_option maxHeartbeats 1000000
include hC hr hcall
theorem opE_run' {o : Oper} (he : OpsR ι e a o.op.operands.toList) {v : Value} {H' : Hp} (h : opE C call o.op o.type e H = some (v, H')) : RunsAs P base ι H H' w v (execOp a.eval o) := by
  cases hop : o.op <;> rw [hop] at h he <;> simp only [execOp, hop] <;> simp only [opE] at h
  case move x => replace h := pureV_some h; obtain ⟨h, rfl⟩ := h; exact RunsAs.pure hr (he _ (by simp [Op.operands]) _ h)
  case assign x => replace h := pureV_some h; obtain ⟨h, rfl⟩ := h; exact RunsAs.pure hr (he _ (by simp [Op.operands]) _ h)
  case pick c x y =>
    split at h
    · rename_i hc
      replace h := pureV_some h; obtain ⟨h, rfl⟩ := h
      have h1 := he _ (by simp [Op.operands]) _ hc
      generalize hcv : a.eval c = cv at h1
      cases h1
      refine ⟨.value (a.eval x), w, ?_, ι, he _ (by simp [Op.operands]) _ h, hr, Step.refl hr⟩
      rfl
    · rename_i hc
      replace h := pureV_some h; obtain ⟨h, rfl⟩ := h
      have h1 := he _ (by simp [Op.operands]) _ hc
      generalize hcv : a.eval c = cv at h1
      cases h1
      refine ⟨.value (a.eval y), w, ?_, ι, he _ (by simp [Op.operands]) _ h, hr, Step.refl hr⟩
      rfl
    · cases h
  case alloc t =>
    simp only [Option.bind_eq_some_iff] at h
    obtain ⟨ti, hti, h⟩ := h; cases h
    obtain ⟨w', s, e1, e2, e3⟩ := allocOp_run hC hr hti
    exact ValRun.as ⟨_, w', _, e1, VR.newPtr ι H.next w.heap.size s, e2, e3⟩
  case box t x =>
    simp only [Option.bind_eq_some_iff] at h
    obtain ⟨u, hu, h⟩ := h; cases h
    obtain ⟨w', s, e1, e2, e3⟩ := boxOp_run hr (t := t) (he _ (by simp [Op.operands]) _ hu)
    exact ValRun.as ⟨_, w', _, e1, VR.newPtr ι H.next w.heap.size s, e2, e3⟩
  case build t ps =>
    replace h := pureV_some h; obtain ⟨h, rfl⟩ := h
    simp only [Option.bind_eq_some_iff] at h
    obtain ⟨vs, h1, h2⟩ := h
    obtain ⟨h3, h4⟩ := parts_map (ps := ps.toList) (fun x hx => he x (by simpa [Op.operands] using hx)) h1
    obtain ⟨v', e1, e2⟩ := buildE_run (w := w) hC (ps' := ps.map fun (i, x) => (i, a.eval x)) (by simpa using h3) (by simpa using h4) h2
    exact ValRun.as (ValRun.same hr e1 e2)
  case buildSlice t n ps =>
    simp only [Option.bind_eq_some_iff] at h
    obtain ⟨vs, h1, h2⟩ := h
    obtain ⟨h3, h4⟩ := parts_map (ps := ps.toList) (fun x hx => he x (by simpa [Op.operands] using hx)) h1
    obtain ⟨v', w', ι', e1, e2, e3, e4⟩ := buildSliceE_run hC hr (ps' := ps.map fun (i, x) => (i, a.eval x)) (by simpa using h3) (by simpa using h4) h2
    exact ValRun.as ⟨v', w', ι', e1, e2, e3, e4⟩
  case load t x =>
    replace h := pureV_some h; obtain ⟨h, rfl⟩ := h
    simp only [Option.bind_eq_some_iff] at h
    obtain ⟨u, h1, ti, h2, h3⟩ := h
    obtain ⟨v', e1, e2, _⟩ := loadE_run hC hr h2 (he _ (by simp [Op.operands]) _ h1) h3
    exact ValRun.as (ValRun.same hr e1 e2)
  case store t x y =>
    replace h := unitV_some h; obtain ⟨h, rfl⟩ := h
    simp only [Option.bind_eq_some_iff] at h
    obtain ⟨u, h1, u2, h2, ti, h3, h4⟩ := h
    exact UnitRun.as (storeE_run hC hr h3 (he _ (by simp [Op.operands]) _ h1) (he _ (by simp [Op.operands]) _ h2) h4)
  case nilCheck x =>
    replace h := pureV_some h; obtain ⟨h, rfl⟩ := h
    simp only [Option.bind_eq_some_iff] at h
    obtain ⟨u, h1, h2⟩ := h
    have h3 := he _ (by simp [Op.operands]) _ h1
    refine ⟨.value (a.eval x), w, ?_, ι, ?_, hr, Step.refl hr⟩
    · generalize hcv : a.eval x = cv at h3
      split at h2 <;> first | (cases h2; done) | (cases h3 <;> rfl)
    · split at h2 <;> first | (cases h2; done) | (cases h2; exact h3)
  case binOp op t x y ty =>
    replace h := pureV_some h; obtain ⟨h, rfl⟩ := h
    simp only [Option.bind_eq_some_iff] at h
    obtain ⟨u, h1, u2, h2, h3⟩ := h
    obtain ⟨v', e1, e2⟩ := binE_run (w := w) hC (x := x) (y := y) (he _ (by simp [Op.operands]) _ h1) (he _ (by simp [Op.operands]) _ h2) h3
    exact ValRun.as (ValRun.same hr e1 e2)
  case unOp op t x =>
    replace h := pureV_some h; obtain ⟨h, rfl⟩ := h
    simp only [Option.bind_eq_some_iff] at h
    obtain ⟨u, h1, h2⟩ := h
    obtain ⟨v', e1, e2⟩ := unE_run (w := w) (P := P) (he _ (by simp [Op.operands]) _ h1) h2
    exact ValRun.as (ValRun.same hr e1 e2)
  case convert s d x =>
    replace h := pureV_some h; obtain ⟨h, rfl⟩ := h
    simp only [Option.bind_eq_some_iff] at h
    obtain ⟨u, h1, h2⟩ := h
    obtain ⟨v', e1, e2⟩ := convE_run (w := w) hC (he _ (by simp [Op.operands]) _ h1) h2
    exact ValRun.as (ValRun.same hr e1 e2)
  case makeFunc fn first cap =>
    replace h := pureV_some h; obtain ⟨h, rfl⟩ := h
    simp only [Option.bind_eq_some_iff] at h
    obtain ⟨u, h1, u2, h2, h3⟩ := h
    split at h3
    · cases h3
      exact ValRun.as (ValRun.same hr (v' := .func (.func _) (first.map a.eval) (cap.map a.eval)) rfl (.func (by simpa using OpsR.ops (fun x hx => he x (by simp [Op.operands] at hx ⊢; exact .inl hx)) h1) (by simpa using OpsR.ops (fun x hx => he x (by simp [Op.operands] at hx ⊢; exact .inr hx)) h2)))
    · cases h3
  case makeMap t r =>
    simp only [Option.bind_eq_some_iff] at h
    obtain ⟨u, h1, h2⟩ := h
    have h3 := OpsR.opo (fun x hx => he x (by simpa [Op.operands] using hx)) h1
    split at h2
    · cases h2
      obtain ⟨e1, e2⟩ := hr.new (.map [] 0) (.map #[] 0) 0 (fun w' hw => ⟨#[], hw, .nil⟩)
      refine ValRun.as ⟨.map (some w.heap.size), _, _, ?_, .map (p := 0) (Emb.ext_self _ _ _ _ _), e1, e2⟩
      generalize hcv : r.map a.eval = cv at h3
      cases h3
      simp only [Instr.makeMap, Sem.run_bind, Sem.run_pure, run_newObj, Result.andThen_ok, World.alloc]
    · cases h2
  case makeSlice t l c =>
    simp only [Option.bind_eq_some_iff] at h
    obtain ⟨u, h1, u2, h2, h3⟩ := h
    exact ValRun.as (makeSliceE_run hC hr (he _ (by simp [Op.operands]) _ h1) (he _ (by simp [Op.operands]) _ h2) h3)
  case slice t x lo hi mx =>
    replace h := pureV_some h; obtain ⟨h, rfl⟩ := h
    simp only [Option.bind_eq_some_iff] at h
    obtain ⟨u, h1, l1, h2, l2, h3, l3, h4, n1, h5, n2, h6, n3, h7, h8⟩ := h
    obtain ⟨v', e1, e2⟩ := sliceE_run (w := w) hC (he _ (by simp [Op.operands]) _ h1) (nato?_some (OpsR.opo (fun x hx => he x (by simp [Op.operands] at hx ⊢; simp [hx])) h2) h5) (nato?_some (OpsR.opo (fun x hx => he x (by simp [Op.operands] at hx ⊢; simp [hx])) h3) h6) (nato?_some (OpsR.opo (fun x hx => he x (by simp [Op.operands] at hx ⊢; simp [hx])) h4) h7) h8
    exact ValRun.as (ValRun.same hr e1 e2)
  case fieldAddr t x f =>
    replace h := pureV_some h; obtain ⟨h, rfl⟩ := h
    simp only [Option.bind_eq_some_iff] at h
    obtain ⟨u, h1, h2⟩ := h
    obtain ⟨v', e1, e2⟩ := fieldAddrE_run (w := w) hC (he _ (by simp [Op.operands]) _ h1) h2
    exact ValRun.as (ValRun.same hr e1 e2)
  case field t x f =>
    replace h := pureV_some h; obtain ⟨h, rfl⟩ := h
    simp only [Option.bind_eq_some_iff] at h
    obtain ⟨u, h1, h2⟩ := h
    obtain ⟨v', e1, e2⟩ := fieldE_run (w := w) hC (he _ (by simp [Op.operands]) _ h1) h2
    exact ValRun.as (ValRun.same hr e1 e2)
  case indexAddr t x i =>
    replace h := pureV_some h; obtain ⟨h, rfl⟩ := h
    simp only [Option.bind_eq_some_iff] at h
    obtain ⟨u, h1, u2, h2, h3⟩ := h
    obtain ⟨v', e1, e2⟩ := indexAddrE_run (w := w) hC (he _ (by simp [Op.operands]) _ h1) (he _ (by simp [Op.operands]) _ h2) h3
    exact ValRun.as (ValRun.same hr e1 e2)
  case index t x i =>
    replace h := pureV_some h; obtain ⟨h, rfl⟩ := h
    simp only [Option.bind_eq_some_iff] at h
    obtain ⟨u, h1, u2, h2, h3⟩ := h
    obtain ⟨v', e1, e2⟩ := indexE_run (w := w) hC (he _ (by simp [Op.operands]) _ h1) (he _ (by simp [Op.operands]) _ h2) h3
    exact ValRun.as (ValRun.same hr e1 e2)
  case lookup t x k ok =>
    replace h := pureV_some h; obtain ⟨h, rfl⟩ := h
    simp only [Option.bind_eq_some_iff] at h
    obtain ⟨u, h1, u2, h2, h3⟩ := h
    obtain ⟨v', e1, e2⟩ := lookupE_run hC hr (he _ (by simp [Op.operands]) _ h1) (he _ (by simp [Op.operands]) _ h2) h3
    exact ValRun.as (ValRun.same hr e1 e2)
  case mapUpdate t m k x =>
    replace h := unitV_some h; obtain ⟨h, rfl⟩ := h
    simp only [Option.bind_eq_some_iff] at h
    obtain ⟨u, h1, u2, h2, u3, h3, h4⟩ := h
    exact UnitRun.as (mapPutE_run hC hr (he _ (by simp [Op.operands]) _ h1) (he _ (by simp [Op.operands]) _ h2) (he _ (by simp [Op.operands]) _ h3) h4)
  case insert t m k x =>
    replace h := unitV_some h; obtain ⟨h, rfl⟩ := h
    simp only [Option.bind_eq_some_iff] at h
    obtain ⟨u, h1, u2, h2, u3, h3, h4⟩ := h
    exact UnitRun.as (mapPutE_run hC hr (he _ (by simp [Op.operands]) _ h1) (he _ (by simp [Op.operands]) _ h2) (he _ (by simp [Op.operands]) _ h3) h4)
  case mapEntry t m k =>
    simp only [Option.bind_eq_some_iff] at h
    obtain ⟨u, h1, u2, h2, h3⟩ := h
    obtain ⟨v', w', e1, e2, e3, e4⟩ := mapEntryE_run hC hr (he _ (by simp [Op.operands]) _ h1) (he _ (by simp [Op.operands]) _ h2) h3
    exact ValRun.as ⟨v', w', ι, e1, e2, e3, e4⟩
  case entryStore t m s x =>
    replace h := unitV_some h; obtain ⟨h, rfl⟩ := h
    simp only [Option.bind_eq_some_iff] at h
    obtain ⟨u, h1, u2, h2, u3, h3, h4⟩ := h
    exact UnitRun.as (entryStoreE_run hr (he _ (by simp [Op.operands]) _ h1) (he _ (by simp [Op.operands]) _ h2) (he _ (by simp [Op.operands]) _ h3) h4)
  case range t x =>
    simp only [Option.bind_eq_some_iff] at h
    obtain ⟨u, h1, h2⟩ := h
    exact ValRun.as (rangeE_run hC hr (he _ (by simp [Op.operands]) _ h1) h2)
  case next it isS =>
    cases isS with
    | true => simp only [opE] at h; cases h
    | false =>
      simp only [opE] at h
      simp only [Option.bind_eq_some_iff] at h
      obtain ⟨u, h1, h2⟩ := h
      exact ValRun.as (nextE_run hr (he _ (by simp [Op.operands]) _ h1) h2)
  case entry it =>
    replace h := pureV_some h; obtain ⟨h, rfl⟩ := h
    simp only [Option.bind_eq_some_iff] at h
    obtain ⟨u, h1, h2⟩ := h
    obtain ⟨v', e1, e2⟩ := entryE_run (P := P) hr (he _ (by simp [Op.operands]) _ h1) h2
    exact ValRun.as (ValRun.same hr e1 e2)
  case extract x k =>
    replace h := pureV_some h; obtain ⟨h, rfl⟩ := h
    simp only [Option.bind_eq_some_iff] at h
    obtain ⟨u, h1, h2⟩ := h
    obtain ⟨v', e1, e2⟩ := extractE_run (w := w) (P := P) (he _ (by simp [Op.operands]) _ h1) h2
    exact ValRun.as (ValRun.same hr e1 e2)
  case call c =>
    obtain ⟨callee, cargs, ats⟩ := c
    simp only [Option.bind_eq_some_iff] at h
    obtain ⟨args, h1, h2⟩ := h
    have hargs : VRs ι args (cargs.map a.eval).toList := by simpa using OpsR.ops (fun x hx => he x (by simp [Op.operands, Call.operands] at hx ⊢; first | exact .inl hx | exact .inr hx | exact hx)) h1
    cases callee with
    | builtin b =>
      simp only at h2
      obtain ⟨s, e1, e2⟩ := builtinE_run hC hr (ts := ats) (ty := o.type) (consts := cargs.map fun | .const _ => true | _ => false) hargs h2
      have hx := ValRun.as e2
      rw [← e1] at hx
      obtain ⟨nx, w1, f1, f2⟩ := hx
      exact ⟨nx, w1, f1, f2⟩
    | value f =>
      simp only [Option.bind_eq_some_iff] at h2
      obtain ⟨fv, h2, p, h3, h4⟩ := h2
      have h5 := he _ (by simp [Op.operands, Call.operands]) _ h2
      generalize hcv : a.eval f = cv at h5
      unfold calleeE at h3
      split at h3
      · rename_i fid first cap
        cases h3
        cases h5 with | @func _ _ a' _ c' ha hc =>
        obtain ⟨nx, w1, e1, e2⟩ := hcall.func h4 hr (args' := a' ++ cargs.map a.eval ++ c') (by
          simp only [Array.toList_append]
          exact (ha.append hargs).append hc)
        refine ⟨nx, w1, ?_, e2⟩
        simp only [resolve, hcv, Deferred.ofValue, Sem.run_bind, Sem.run_pure, Result.andThen_ok, invoke]
        exact e1
      · rename_i l first cap
        cases h3
        cases h5 with | @yield _ b p hι =>
        obtain ⟨nx, w1, e1, e2⟩ := hcall.yield h4 hr (args' := #[] ++ cargs.map a.eval) (by simpa using hargs) hι
        refine ⟨nx, w1, ?_, e2⟩
        simp only [resolve, hcv, Deferred.ofValue, Sem.run_bind, Sem.run_pure, Result.andThen_ok, invoke]
        exact e1
      · cases h3
    | invoke r n => cases h2
  all_goals cases h

theorem opE_run (he : EnvR ι e a.tmps) {o : Oper} {v : Value} {H' : Hp} (h : opE C call o.op o.type e H = some (v, H')) : RunsAs P base ι H H' w v (execOp a.eval o) :=
  opE_run' hC hr hcall (he.opsR _) h
end
end Go.Ahe
/-
  AHE, 19: regions in the text's order.
-/
namespace Go.Ahe
open Go.RowKit

/-- The widest fence, in a round or in none. -/
def Fr (r : Option Nat) : Fence := { Fence.wide with round := r }

theorem calls_fr {r : Option Nat} {P : Program} {f : FuncId} {args : Array Value} {w : World} {R : Ending → World → Prop} (h : CallsIn Fence.wide 0 P f args w R) : CallsIn (Fr r) 0 P f args w R := h
theorem round_fr {r : Option Nat} {P : Program} {l : Nat} {f : FuncId} {tmps : Array Value} {as body : Code} {w : World} {R : Ending → World → Prop} (h : RoundIn Fence.wide 0 P l f tmps as body w R) : RoundIn (Fr r) 0 P l f tmps as body w R := h

theorem RunsAs.wp {P : Program} {base : Nat} {ι : Emb} {H H' : Hp} {w : World} {v : Value} {o : Oper} {a : Act} {r : Option Nat} {next : Act → World → Prop} {Q : Exit → Act → World → Prop} (ho : ∀ c, o.op ≠ .defer c)
    (h : RunsAs P base ι H H' w v (execOp a.eval o)) (hn : ∀ v' ι' w', VR ι' v v' → Rel base ι' H' w' → Step ι ι' H H' w w' → next (a.put o.dst v') w') : o.wpIn (Fr r) 0 P a w next Q := by
  obtain ⟨nx, w1, h1, h2⟩ := h
  refine ⟨fun _ _ => trivial, ?_⟩
  rw [Oper.semAt_eq _ _ _ ho, h1]
  have hend : ∀ e w'', PostOf base ι H H' w v e w'' → (match e with
      | .returned v => next (a.put o.dst v) w''
      | .panicked chain => Q (.panic chain) a w''
      | .outgrown => LetsOut Q) := fun e w'' he => by
    cases e with
    | returned v' => obtain ⟨ι', g1, g2, g3⟩ := he; exact hn v' ι' w'' g1 g2 g3
    | panicked c => exact he.elim
    | outgrown => exact he.elim
  cases nx with
  | value v' => exact hend (.returned v') w1 h2
  | skip => exact hend (.returned undef) w1 h2
  | enter f args => exact ⟨(fun h => by cases h), (calls_fr h2).mono (fun e w'' he => by
    cases e with
    | returned v' => exact hend (.returned v') w'' he
    | panicked c => exact hend (.panicked c) w'' he
    | outgrown => exact hend .outgrown w'' he)⟩
  | round l f tmps as body => exact ⟨(fun h => by cases h), (round_fr h2).mono (fun e w'' he => by
    cases e with
    | returned v' => exact hend (.returned v') w'' he
    | panicked c => exact hend (.panicked c) w'' he
    | outgrown => exact hend .outgrown w'' he)⟩
  | _ => exact h2.elim

/-- What it is asked of a wanted operation. -/
theorem wantE_ok' {ops : Array Oper} {o : Oper} {e : Env} {a : Act} {ι : Emb} (hsz : e.size = a.tmps.size)
    (he : ∀ t, (∃ j w, o.guard = some (j, w) ∧ (ops[j]?).bind (·.dst) = some t) → ∀ v, e.get t = some v → VR ι v (a.tmps.getD t undef)) {b : Bool} (h : wantE ops o e = some b) : Region.wanted o (yielded ops a.tmps) = b := by
  unfold wantE at h
  unfold Region.wanted yielded
  cases hgd : o.guard with
  | none => rw [hgd] at h; cases h; rfl
  | some g =>
    obtain ⟨j, want⟩ := g
    rw [hgd] at h
    simp only at h ⊢
    cases hdt : (ops[j]?).bind (·.dst) with
    | none => rw [hdt] at h; cases h; cases want <;> rfl
    | some t =>
      rw [hdt] at h
      simp only [Option.bind_some] at h ⊢
      cases hx : e.get t with
      | none => rw [hx] at h; cases h
      | some x =>
        rw [hx] at h
        have h1 := (Env.get_some hx).1
        have h2 := he t ⟨j, want, hgd, hdt⟩ x hx
        have h3 : t < a.tmps.size := by rw [← hsz]; exact h1
        rw [Array.getD_eq_getD_getElem?, Array.getElem?_eq_getElem h3, Option.getD_some] at h2
        rw [Array.getElem?_eq_getElem h3]
        generalize a.tmps[t] = y at h2 ⊢
        cases h2 <;> first | (cases h; rfl) | (cases h; cases want <;> rfl) | (rename_i b; cases h; cases b <;> cases want <;> rfl)

theorem wantE_ok {ops : Array Oper} {o : Oper} {e : Env} {a : Act} {ι : Emb} (he : EnvR ι e a.tmps) {b : Bool} (h : wantE ops o e = some b) : Region.wanted o (yielded ops a.tmps) = b :=
  wantE_ok' he.1 (fun t _ => he.2 t) h

theorem put_defers' (a : Act) (d : Option Tmp) (v : Value) : (a.put d v).defers = a.defers := by cases d <;> rfl

theorem opE_defer {C : Ctx} {call : CallE} {o : Oper} {e : Env} {H : Hp} {x : Value × Hp} (h : opE C call o.op o.type e H = some x) (c : Call) : o.op ≠ .defer c := by
  intro ho
  rw [ho] at h
  cases h

section
variable {P : Program} {C : Ctx} (hC : Fits C P) {base : Nat} {call : CallE} (hcall : CallOk P call) {r : Option Nat} {Q : Exit → Act → World → Prop} {ops : Array Oper}
include hC hcall

theorem opsE_wp {e' : Env} {H' : Hp} {ι0 : Emb} {H0 : Hp} {w0 : World} {d0 : List Deferred}
    (hQ : ∀ ι' a' w', EnvR ι' e' a'.tmps → Rel base ι' H' w' → Step ι0 ι' H0 H' w0 w' → a'.defers = d0 → Q .normal a' w') :
    ∀ (l : List Oper) (k : Nat), ops.toList.drop k = l → ∀ (e : Env) (H : Hp) (ι : Emb) (a : Act) (w : World), EnvR ι e a.tmps → Rel base ι H w → Step ι0 ι H0 H w0 w → a.defers = d0 →
      opsE C call ops l e H = some (e', H') → wpOpsIn (Fr r) 0 P ops Q (List.range' k l.length) a w
  | [], k, _, e, H, ι, a, w, he, hr, hst, hd, h => by
    simp only [opsE] at h
    cases h
    exact hQ ι a w he hr hst hd
  | o :: l, k, hl, e, H, ι, a, w, he, hr, hst, hd, h => by
    have hk : ops[k]? = some o := by
      have := List.getElem?_drop (xs := ops.toList) (i := k) (j := 0)
      rw [hl] at this
      simpa using this.symm
    have hl' : ops.toList.drop (k + 1) = l := by
      have := List.drop_drop (i := 1) (j := k) (l := ops.toList)
      rw [hl] at this
      simpa using this.symm
    simp only [List.length_cons, List.range'_succ, wpOpsIn, hk]
    simp only [opsE] at h
    split at h
    · rename_i hw
      rw [if_pos (wantE_ok he hw)]
      split at h
      · rename_i v H1 hop
        split at h
        · rename_i e1 hput
          refine (opE_run hC hr hcall he hop).wp (opE_defer hop) fun v' ι' w' g1 g2 g3 => ?_
          exact opsE_wp hQ l (k + 1) hl' e1 H1 ι' (a.put o.dst v') w' ((he.mono (g3.le hr)).put hput g1) g2 (hst.trans g3) (by rw [put_defers']; exact hd) h
        · cases h
      · cases h
    · rename_i hw
      rw [if_neg (by rw [wantE_ok he hw]; decide)]
      split at h
      · rename_i e1 hput
        exact ⟨fun _ _ => trivial, opsE_wp hQ l (k + 1) hl' e1 H ι (a.put o.dst undef) w (he.put hput .undef) hr hst (by rw [put_defers']; exact hd) h⟩
      · cases h
    · cases h
end
end Go.Ahe
/-
  AHE, 20: code.
-/
namespace Go.Ahe
open Go.RowKit

def mark1 (r : Nat) : Deferred := { target := .collected r, args := #[] }

/-- The activation's deferred calls are marks, each of an empty block made since. -/
def Marked (lo : Nat) (ds : List Deferred) (w : World) : Prop :=
  lo ≤ w.heap.size ∧ ∃ rs : List Nat, ds = rs.map mark1 ∧ rs.Nodup ∧ ∀ r ∈ rs, lo ≤ r ∧ w.heap[r]? = some (.deferred (some []))

theorem deferred_unowned {base : Nat} {ι : Emb} {H : Hp} {w : World} (hr : Rel base ι H w) {b : Nat} {x : Option (List Deferred)} (h : w.heap[b]? = some (.deferred x)) : ¬ Owned ι H b := by
  rintro ⟨i, o, p, h1, h2, _, h4⟩
  have h3 := hr.ob i o b p h1 h4
  cases o with
  | cells cs ro => obtain ⟨_, _, _, g, _⟩ := h3; rw [h] at g; cases g
  | map es ck => obtain ⟨_, g, _⟩ := h3; rw [h] at g; cases g
  | iter m s t u => obtain ⟨_, _, g, _⟩ := h3; rw [h] at g; cases g
  | loop => obtain ⟨_, g, _⟩ := h3; rw [h] at g; cases g
  | dead => cases h2

theorem Marked.step {base : Nat} {ι ι' : Emb} {H H' : Hp} {w w' : World} {lo : Nat} {ds : List Deferred} (hr : Rel base ι H w) (hs : Step ι ι' H H' w w') (h : Marked lo ds w) : Marked lo ds w' := by
  obtain ⟨h1, rs, h2, h3, h4⟩ := h
  refine ⟨Nat.le_trans h1 hs.size, rs, h2, h3, fun r hrs => ?_⟩
  obtain ⟨h5, h6⟩ := h4 r hrs
  have hlt : r < w.heap.size := (Array.getElem?_eq_some_iff.1 h6).1
  exact ⟨h5, (hs.same r hlt (deferred_unowned hr h6)).trans h6⟩

/-- In a round of the loop at l: the loop is there. -/
def LoopAt (r : Option Nat) (w : World) : Prop := ∀ l, r = some l → ∃ L : Loop, w.heap[l]? = some (.loop L)
theorem LoopAt.step {ι ι' : Emb} {H H' : Hp} {w w' : World} {r : Option Nat} (hs : Step ι ι' H H' w w') (h : LoopAt r w) : LoopAt r w' := fun l hl => let ⟨L, h1⟩ := h l hl; hs.loops l L h1

/-- How the evaluator's end of a piece of code stands to the machine's. -/
def ResOk (base : Nat) (ι : Emb) (H : Hp) (w : World) (lo : Nat) (res : Rs) : Exit → Act → World → Prop
  | .normal, a', w' => ∃ e' H' ι', res = .nx e' H' ∧ EnvR ι' e' a'.tmps ∧ Rel base ι' H' w' ∧ Step ι ι' H H' w w' ∧ Marked lo a'.defers w'
  | .exit id, a', w' => ∃ e' H' ι', res = .ex id e' H' ∧ EnvR ι' e' a'.tmps ∧ Rel base ι' H' w' ∧ Step ι ι' H H' w w' ∧ Marked lo a'.defers w'
  | .ret, a', w' => ∃ e' H' ι', res = .rt e' H' ∧ EnvR ι' e' a'.tmps ∧ Rel base ι' H' w' ∧ Step ι ι' H H' w w' ∧ Marked lo a'.defers w'
  | _, _, _ => False

theorem ResOk.trans {base : Nat} {ι ι1 : Emb} {H H1 : Hp} {w w1 : World} {lo : Nat} {res : Rs} (hs : Step ι ι1 H H1 w w1) : ∀ e a' w', ResOk base ι1 H1 w1 lo res e a' w' → ResOk base ι H w lo res e a' w'
  | .normal, _, _, ⟨e', H', ι', h1, h2, h3, h4, h5⟩ => ⟨e', H', ι', h1, h2, h3, hs.trans h4, h5⟩
  | .exit _, _, _, ⟨e', H', ι', h1, h2, h3, h4, h5⟩ => ⟨e', H', ι', h1, h2, h3, hs.trans h4, h5⟩
  | .ret, _, _, ⟨e', H', ι', h1, h2, h3, h4, h5⟩ => ⟨e', H', ι', h1, h2, h3, hs.trans h4, h5⟩
  | .goto _, _, _, h => h.elim
  | .panic _, _, _, h => h.elim
  | .outgrown, _, _, h => h.elim

/-- A block of no id's is made. -/
theorem Rel.extra {base : Nat} {ι : Emb} {H : Hp} {w : World} (hr : Rel base ι H w) (O : Obj) : Rel base ι H (w.alloc O) ∧ Step ι ι H H w (w.alloc O) := by
  have hsz : (w.alloc O).heap.size = w.heap.size + 1 := by show (w.heap.push O).size = _; simp
  refine ⟨⟨hr.flo, hr.dom, fun i b p h => by have := hr.bnd i b p h; omega, fun i o b p h1 h2 => (hr.ob i o b p h1 h2).same (alloc_lt w O (hr.bnd i b p h2)), hr.inj, hr.bas, by have := hr.bs; omega⟩,
    ⟨fun _ _ => rfl, fun _ _ => rfl, Nat.le_refl _, rfl, fun _ _ => rfl, fun _ _ h => h, rfl, rfl, rfl, by omega, fun b hb _ => alloc_lt w O hb, fun b L hL => ⟨L, (alloc_lt w O (Array.getElem?_eq_some_iff.1 hL).1).trans hL⟩, fun i b p h1 h2 => by rw [hr.dom i h1] at h2; cases h2⟩⟩

theorem mkAF_some {P : Program} {pure mk : Bool} {f : FuncId} {a : AF} (h : mkAF P pure mk f = some a) : ∃ fn c, P.funcs[f]? = some fn ∧ fn.body = some c ∧ fn.name ≠ "runtime.NumGoroutine" ∧ a = ⟨c, fn.ntmps, fn.results.toList, pure, mk⟩ := by
  unfold mkAF at h
  split at h
  · cases h
  · rename_i fn hfn
    split at h
    · cases h
    · rename_i c hc
      cases hb : fn.name == "runtime.NumGoroutine" with
      | true => rw [hb] at h; cases h
      | false =>
        rw [hb, cond_false] at h
        cases h
        exact ⟨fn, c, hfn, hc, fun e => by rw [e] at hb; simp at hb, rfl⟩

/-- A function with a body is entered. -/
theorem enter_run {P : Program} {f : FuncId} {fn : Func} {c : Code} (hf : P.funcs[f]? = some fn) (hb : fn.body = some c) (hne : fn.name ≠ "runtime.NumGoroutine") (args : Array Value) (w : World) : (callFunc f args).run P w = .ok (.enter f args) w := by
  have hne' : (fn.name == "runtime.NumGoroutine") = false := by simpa using hne
  simp only [callFunc, Sem.run_bind, program, Sem.run, Result.andThen_ok, hf, hne', Bool.false_eq_true, if_false, hb, Option.isNone_some, Sem.run_pure]

theorem RunsAs.enters {P : Program} {C : Ctx} (hC : Fits C P) {base : Nat} {ι : Emb} {H H' : Hp} {w : World} {v : Value} {f : FuncId} {a : AF} (haf : C.fn f = some a) {args : Array Value} (h : RunsAs P base ι H H' w v (callFunc f args)) :
    (callFunc f args).run P w = .ok (.enter f args) w ∧ CallsIn Fence.wide 0 P f args w (PostOf base ι H H' w v) := by
  have hmk := hC.funcs f a haf
  generalize a.pure = pu at hmk
  generalize a.fr = ma at hmk
  obtain ⟨fn, c, hf, hb, hne, rfl⟩ := mkAF_some hmk
  have h1 := enter_run hf hb hne args w
  obtain ⟨nx, w1, h2, h3⟩ := h
  rw [h1] at h2
  cases h2
  exact ⟨h1, h3⟩

/-- What is said of a piece of code. -/
def CodeOk (P : Program) (C : Ctx) (call : CallE) (base lo : Nat) (r : Option Nat) (c : Code) : Prop :=
  ∀ (e : Env) (H : Hp) (res : Rs), evC C call c e H = some res → ∀ (ι : Emb) (a : Act) (w : World), EnvR ι e a.tmps → Rel base ι H w → Marked lo a.defers w → LoopAt r w →
    c.wpIn (Fr r) 0 P (ResOk base ι H w lo res) a w

section
variable {P : Program} {C : Ctx} (hC : Fits C P) {base lo : Nat} {call : CallE} (hcall : CallOk P call) {r : Option Nat}

theorem code_skip : CodeOk P C call base lo r .skip := fun e H res h ι a w he hr hm hl => by
  cases h
  exact wpIn_skip ⟨e, H, ι, rfl, he, hr, Step.refl hr, hm⟩

theorem code_label (l : Nat) : CodeOk P C call base lo r (.label l) := fun e H res h ι a w he hr hm hl => by
  cases h
  exact wpIn_label ⟨e, H, ι, rfl, he, hr, Step.refl hr, hm⟩

theorem code_exit (id : Nat) : CodeOk P C call base lo r (.exit id) := fun e H res h ι a w he hr hm hl => by
  cases h
  exact wpIn_exit ⟨e, H, ι, rfl, he, hr, Step.refl hr, hm⟩

theorem code_ret : CodeOk P C call base lo r .ret := fun e H res h ι a w he hr hm hl => by
  cases h
  exact wpIn_ret ⟨e, H, ι, rfl, he, hr, Step.refl hr, hm⟩

theorem code_seq {x y : Code} (hx : CodeOk P C call base lo r x) (hy : CodeOk P C call base lo r y) : CodeOk P C call base lo r (.seq x y) := fun e H res h ι a w he hr hm hl => by
  have h : Rs.then (evC C call y) (evC C call x e H) = some res := h
  cases hx1 : evC C call x e H with
  | none => rw [hx1] at h; cases h
  | some r1 =>
    rw [hx1] at h
    refine wpIn_seq (wpIn_mono (hx e H r1 hx1 ι a w he hr hm hl) fun ex a1 w1 hq => ?_)
    cases ex with
    | normal =>
      obtain ⟨e1, H1, ι1, rfl, g1, g2, g3, g4⟩ := hq
      exact wpIn_mono (hy e1 H1 res h ι1 a1 w1 g1 g2 g4 (hl.step g3)) (ResOk.trans g3)
    | exit id =>
      obtain ⟨e1, H1, ι1, rfl, g⟩ := hq
      cases h
      exact ⟨e1, H1, ι1, rfl, g⟩
    | ret =>
      obtain ⟨e1, H1, ι1, rfl, g⟩ := hq
      cases h
      exact ⟨e1, H1, ι1, rfl, g⟩
    | goto l => exact hq.elim
    | panic c => exact hq.elim
    | outgrown => exact hq.elim

theorem code_cond {c : Operand} {x y : Code} (hx : CodeOk P C call base lo r x) (hy : CodeOk P C call base lo r y) : CodeOk P C call base lo r (.cond c x y) := fun e H res h ι a w he hr hm hl => by
  have h : (match opV e c with
      | some (.bool true) => evC C call x e H
      | some (.bool false) => evC C call y e H
      | _ => none) = some res := h
  split at h
  · rename_i hc
    have h1 := he.op hc
    generalize hcv : a.eval c = cv at h1
    cases h1
    exact wpIn_cond_true hcv (hx e H res h ι a w he hr hm hl)
  · rename_i hc
    have h1 := he.op hc
    generalize hcv : a.eval c = cv at h1
    cases h1
    exact wpIn_cond_false hcv (hy e H res h ι a w he hr hm hl)
  · cases h

theorem code_block {id : Nat} {x : Code} (hx : CodeOk P C call base lo r x) : CodeOk P C call base lo r (.block id x) := fun e H res h ι a w he hr hm hl => by
  have h : Rs.block id (evC C call x e H) = some res := h
  cases hx1 : evC C call x e H with
  | none => rw [hx1] at h; cases h
  | some r1 =>
    rw [hx1] at h
    refine wpIn_block (wpIn_mono (hx e H r1 hx1 ι a w he hr hm hl) fun ex a1 w1 hq => ?_)
    cases ex with
    | normal =>
      obtain ⟨e1, H1, ι1, rfl, g⟩ := hq
      cases h
      exact ⟨e1, H1, ι1, rfl, g⟩
    | exit j =>
      obtain ⟨e1, H1, ι1, rfl, g⟩ := hq
      simp only [Rs.block] at h
      simp only [Exit.inBlock]
      by_cases hj : j = id
      · rw [if_pos hj]
        rw [nbeq_t hj, cond_true] at h
        cases h
        exact ⟨e1, H1, ι1, rfl, g⟩
      · rw [if_neg hj]
        rw [nbeq_f hj, cond_false] at h
        cases h
        exact ⟨e1, H1, ι1, rfl, g⟩
    | ret =>
      obtain ⟨e1, H1, ι1, rfl, g⟩ := hq
      cases h
      exact ⟨e1, H1, ι1, rfl, g⟩
    | goto l => exact hq.elim
    | panic c => exact hq.elim
    | outgrown => exact hq.elim

theorem least_exists {p : Nat → Prop} : ∀ n, p n → ∃ k, p k ∧ ∀ m, p m → k ≤ m := by
  intro n
  induction n using Nat.strongRecOn with
  | _ n ih =>
    intro hn
    by_cases h : ∃ m, m < n ∧ p m
    · obtain ⟨m, h1, h2⟩ := h; exact ih m h1 h2
    · exact ⟨n, hn, fun m hm => Nat.le_of_not_lt fun hlt => h ⟨m, hlt, hm⟩⟩

open Classical in
/-- The least number of rounds that serves. -/
noncomputable def least (Φ : Nat → Act → World → Prop) (a : Act) (w : World) : Nat := if h : ∃ k, Φ k a w ∧ ∀ m, Φ m a w → k ≤ m then Classical.choose h else 0
theorem least_spec {Φ : Nat → Act → World → Prop} {a : Act} {w : World} (h : ∃ n, Φ n a w) : Φ (least Φ a w) a w := by
  obtain ⟨n, h⟩ := h
  have h1 := least_exists (p := fun k => Φ k a w) n h
  unfold least; rw [dif_pos h1]; exact (Classical.choose_spec h1).1
theorem least_le {Φ : Nat → Act → World → Prop} {a : Act} {w : World} {n : Nat} (h : Φ n a w) : least Φ a w ≤ n := by
  have h1 := least_exists (p := fun k => Φ k a w) n h
  unfold least; rw [dif_pos h1]; exact (Classical.choose_spec h1).2 n h

theorem code_loop {x : Code} (hx : CodeOk P C call base lo r x) : CodeOk P C call base lo r (.loop x) := fun e H res h ι a w he hr hm hl => by
  have h : loopE (evC C call x) rounds e H = some res := h
  let Φ : Nat → Act → World → Prop := fun n a1 w1 => ∃ e1 H1 ι1, loopE (evC C call x) n e1 H1 = some res ∧ EnvR ι1 e1 a1.tmps ∧ Rel base ι1 H1 w1 ∧ Step ι ι1 H H1 w w1 ∧ Marked lo a1.defers w1
  refine wpIn_loop (fun a1 w1 => ∃ n, Φ n a1 w1) (least Φ) ⟨rounds, e, H, ι, h, he, hr, Step.refl hr, hm⟩ fun a1 w1 hI => ?_
  have hn := least_spec hI
  generalize least Φ a1 w1 = n at hn ⊢
  obtain ⟨e1, H1, ι1, g1, g2, g3, g4, g5⟩ := hn
  cases n with
  | zero => cases g1
  | succ n =>
    simp only [loopE] at g1
    cases hx1 : evC C call x e1 H1 with
    | none => rw [hx1] at g1; cases g1
    | some r1 =>
      rw [hx1] at g1
      refine wpIn_mono (hx e1 H1 r1 hx1 ι1 a1 w1 g2 g3 g5 (hl.step g4)) fun ex a2 w2 hq => ?_
      cases ex with
      | normal =>
        obtain ⟨e2, H2, ι2, rfl, f1, f2, f3, f4⟩ := hq
        have hΦ : Φ n a2 w2 := ⟨e2, H2, ι2, g1, f1, f2, g4.trans f3, f4⟩
        exact ⟨⟨n, hΦ⟩, Nat.lt_succ_of_le (least_le hΦ)⟩
      | exit id =>
        obtain ⟨e2, H2, ι2, rfl, f1, f2, f3, f4⟩ := hq
        cases g1
        exact ⟨e2, H2, ι2, rfl, f1, f2, g4.trans f3, f4⟩
      | ret =>
        obtain ⟨e2, H2, ι2, rfl, f1, f2, f3, f4⟩ := hq
        cases g1
        exact ⟨e2, H2, ι2, rfl, f1, f2, g4.trans f3, f4⟩
      | goto l => exact hq.elim
      | panic c => exact hq.elim
      | outgrown => exact hq.elim

include hC hcall

theorem code_region {id : Nat} {ops : Array Oper} : CodeOk P C call base lo r (.region id ops false) := fun e H res h ι a w he hr hm hl => by
  have h : (match opsE C call ops ops.toList e H with
        | some (e', H') => some (Rs.nx e' H')
        | none => none) = some res := h
  split at h
  · rename_i e' H' hop
    cases h
    refine wpIn_region ?_
    have := opsE_wp (r := r) (Q := ResOk base ι H w lo (.nx e' H')) (d0 := a.defers) hC hcall (fun ι' a' w' g1 g2 g3 g4 => ⟨e', H', ι', rfl, g1, g2, g3, by rw [g4]; exact hm.step hr g3⟩) ops.toList 0 (by simp) e H ι a w he hr (Step.refl hr) rfl hop
    rw [List.range_eq_range']
    simpa using this
  · cases h

theorem code_rangeFunc {g : Operand} {ps : Array Tmp} {as body : Code} : CodeOk P C call base lo r (.rangeFunc g ps as body) := fun e H res h ι a w he hr hm hl => by
  have h : ((opV e g).bind fun fv => (calleeE fv [.func (.yield H.next) #[] #[]]).bind fun p =>
      match p.1 with
      | .func g => match C.fn g, call (.func g) p.2 (H.new (.loop .ready none (e.keep (takes e.size ps.toList as body)) ps.toList as body)) with
        | some _, some (_, H') => afterLoop H.next e H'
        | _, _ => none
      | _ => none) = some res := h
  simp only [Option.bind_eq_some_iff] at h
  obtain ⟨fv, hfv, p, hp, h⟩ := h
  split at h
  · rename_i gf hp1
    split at h
    · rename_i ga v H' hga hcl
      refine wpIn_rangeFunc fun fn _ => ?_
      -- the record
      have henter : ∃ l mark w1, ∃ D : Nat, (Instr.enterLoop fn a.tmps ps as body (Fr r).round).run P w = .ok (l, mark) (w1.alloc (.loop { state := .ready, pending := none, fn, tmps := a.tmps, params := ps, assign := as, body, defers := D })) ∧ l = w1.heap.size ∧
          Rel base ι H w1 ∧ Step ι ι H H w w1 ∧ Marked lo (mark ++ a.defers) w1 := by
        cases r with
        | none =>
          obtain ⟨e1, e2⟩ := hr.extra (.deferred (some []))
          refine ⟨_, [mark1 w.heap.size], w.alloc (.deferred (some [])), w.heap.size, by simp only [Fr, Instr.enterLoop, Sem.run_bind, run_newObj, Result.andThen_ok, Sem.run_pure, World.alloc, mark1], rfl, e1, e2, ?_⟩
          obtain ⟨m1, rs, m2, m3, m4⟩ := hm.step hr e2
          refine ⟨m1, w.heap.size :: rs, by rw [m2]; rfl, List.nodup_cons.2 ⟨fun hin => ?_, m3⟩, fun q hq => ?_⟩
          · obtain ⟨_, rs', n2, n3, n4⟩ := hm
            have : rs = rs' := by
              have hinj : ∀ (l l' : List Nat), l.map mark1 = l'.map mark1 → l = l' := fun l => by
                induction l with
                | nil => intro l' h; cases l' with
                  | nil => rfl
                  | cons _ _ => cases h
                | cons x l ih => intro l' h; cases l' with
                  | nil => cases h
                  | cons y l' =>
                    simp only [List.map_cons, List.cons.injEq] at h
                    have h1 : x = y := by
                      have := h.1
                      simp only [mark1, Deferred.mk.injEq, Target.collected.injEq, and_true] at this
                      exact this
                    rw [h1, ih l' h.2]
              exact hinj _ _ (m2.symm.trans n2)
            subst this
            have := (Array.getElem?_eq_some_iff.1 (n4 _ hin).2).1
            omega
          · rcases List.mem_cons.1 hq with rfl | hq
            · exact ⟨hm.1, alloc_new w _⟩
            · exact m4 q hq
        | some l0 =>
          obtain ⟨L, hL⟩ := hl l0 rfl
          exact ⟨_, [], w, L.defers, by simp only [Fr, Instr.enterLoop, Instr.getLoop, getObj, Sem.run_bind, Sem.run, hL, run_newObj, Result.andThen_ok, Sem.run_pure, World.alloc], rfl, hr, Step.refl hr, hm⟩
      obtain ⟨l, mark, w1, D, g1, rfl, g2, g3, g4⟩ := henter
      let L0 : Loop := { state := .ready, pending := none, fn, tmps := a.tmps, params := ps, assign := as, body, defers := D }
      have hnone : ι H.next = none := g2.dom _ (Nat.le_refl _)
      have hle : ι.le (ι.ext H.next (w1.heap.size, 0) w1.heap.size 0) := Emb.le_ext (w1.heap.size, 0) 0 hnone (fun j b p hj e => by have := g2.bnd j b p hj; omega)
      obtain ⟨r2, s2⟩ := g2.new (.loop .ready none (e.keep (takes e.size ps.toList as body)) ps.toList as body) (.loop L0) 0 (fun w' hw => ⟨L0, hw, rfl, rfl, (he.mono hle).keep _, rfl, rfl, rfl⟩)
      have hfv' := he.op hfv
      generalize hcv : a.eval g = cv at hfv'
      unfold calleeE at hp
      split at hp
      · rename_i fid first cap
        cases hp
        simp only [Fn.func.injEq] at hp1
        subst hp1
        cases hfv' with | @func _ _ a' _ c' ha hc =>
        obtain ⟨e1, e2⟩ := (hcall.func hcl r2 (args' := a' ++ #[.func (.yield w1.heap.size) #[] #[]] ++ c') (by
          simp only [Array.toList_append]
          exact ((ha.mono hle).append (.one (.yield (p := 0) (Emb.ext_self _ _ _ _ _)))).append (hc.mono hle))).enters hC hga
        have hmap : (#[Operand.const (.func (.yield w1.heap.size) #[] #[])] : Array Operand).map a.eval = #[.func (.yield w1.heap.size) #[] #[]] := by simp [Act.eval]
        refine ⟨w1.heap.size, mark, w1.alloc (.loop L0), { target := .fn (.func fid) c', args := a' ++ #[.func (.yield w1.heap.size) #[] #[]] }, w1.alloc (.loop L0), fid, a' ++ #[.func (.yield w1.heap.size) #[] #[]] ++ c', w1.alloc (.loop L0), g1, ?_, fun _ _ => trivial, ?_, (fun h => by cases h), ?_⟩
        · simp only [resolve, hcv, Deferred.ofValue, Sem.run_pure, hmap]
        · exact e1
        · refine (calls_fr e2).mono fun ex w3 hq => ?_
          cases ex with
          | panicked c => exact hq.elim
          | outgrown => exact hq.elim
          | returned v' =>
            obtain ⟨ι3, q1, q2, q3⟩ := hq
            unfold afterLoop at h
            split at h
            · rename_i st pend env ps1 as1 b1 hget
              have hι3 : ι3 H.next = some (w1.heap.size, 0) := (q3.emb H.next (by simp)).trans (Emb.ext_self _ _ _ _ _)
              obtain ⟨L, hL1, hL2, hL3, hL4⟩ := q2.ob _ _ _ _ hget hι3
              split at h
              · cases h
              · rename_i hnb
                rw [Option.bind_eq_some_iff] at h
                obtain ⟨H4, hu, h⟩ := h
                obtain ⟨r4, s4⟩ := q2.write hget rfl hι3 hu (w' := { w3 with heap := w3.heap.setIfInBounds w1.heap.size (.loop { L with state := .exhausted }) }) ⟨rfl, rfl, rfl⟩ (by simp)
                  (fun k hk => by simp [Array.getElem?_setIfInBounds_ne (Ne.symm hk)])
                  trivial
                  (fun L' hL' => ⟨{ L with state := .exhausted }, by
                    have := (Array.getElem?_eq_some_iff.1 hL1).1
                    simp [this]⟩)
                have hend : (Instr.endLoop w1.heap.size).run P w3 = .ok pend { w3 with heap := w3.heap.setIfInBounds w1.heap.size (.loop { L with state := .exhausted }) } := by
                  have hst : (L.state == .busy) = false := by
                    rw [hL2]
                    cases st <;> first | rfl | exact absurd rfl hnb
                  simp only [Instr.endLoop, Instr.getLoop, getObj, setObj, Sem.run_bind, Sem.run, hL1, Result.andThen_ok, hst, Bool.false_eq_true, if_false, Sem.run_pure, hL3]
                have hstep : Step ι ι3 H H4 w { w3 with heap := w3.heap.setIfInBounds w1.heap.size (.loop { L with state := .exhausted }) } := ((g3.trans s2).trans q3).trans s4
                have hmk : Marked lo (mark ++ a.defers) { w3 with heap := w3.heap.setIfInBounds w1.heap.size (.loop { L with state := .exhausted }) } := g4.step g2 ((s2.trans q3).trans s4)
                have hen : EnvR ι3 e a.tmps := he.mono fun i b p hx => let ⟨x1, x2⟩ := hle i b p hx; q3.le r2 i b p x1 |>.imp id fun y => y.trans x2
                refine ⟨pend, _, hend, ?_⟩
                split at h
                · cases h
                  exact ⟨e, H4, ι3, rfl, hen, r4, hstep, hmk⟩
                · cases h
                  exact wpIn_exit ⟨e, H4, ι3, rfl, hen, r4, hstep, hmk⟩
                · cases h
                  exact wpIn_ret ⟨e, H4, ι3, rfl, hen, r4, hstep, hmk⟩
                · cases h
            · cases h
      · cases hp; cases hp1
      · cases hp
    · cases h
  · cases h
end
end Go.Ahe
