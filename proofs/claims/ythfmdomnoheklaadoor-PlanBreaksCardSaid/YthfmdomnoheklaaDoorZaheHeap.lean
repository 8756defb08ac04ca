/-
  AHE, 8: building, reading the heap, writing cells.
-/
import Derived.Test.YthfmdomnoheklaaDoorZaheVal3
namespace Go.Ahe
open Go.RowKit

theorem fill_one (off : Nat) : ∀ (l : List Value) (j : Nat) (cells : Array Value), off + j + l.length ≤ cells.size →
    ((l.zipIdx j).foldl (fun cs (x : Value × Nat) => cs.setIfInBounds (off + x.2) x.1) cells).toList = cells.toList.take (off + j) ++ l ++ cells.toList.drop (off + j + l.length)
  | [], j, cells, h => by simp
  | v :: l, j, cells, h => by
    simp only [List.length_cons] at h
    rw [List.zipIdx_cons, List.foldl_cons]
    have hsz : (cells.setIfInBounds (off + j) v).size = cells.size := by simp
    rw [fill_one off l (j + 1) _ (by rw [hsz]; omega)]
    rw [Array.toList_setIfInBounds]
    have hlt : off + j < cells.toList.length := by simp; omega
    rw [List.take_set, List.drop_set_of_lt (by omega)]
    rw [show off + (j + 1) = off + j + 1 by omega, show off + j + 1 + l.length = off + j + (v :: l).length by simp; omega]
    rw [List.take_add_one, List.set_append_right _ _ (by simp; omega), List.length_take, Nat.min_eq_left (by omega)]
    simp [List.getElem?_eq_getElem hlt]

theorem fillE_run {ι : Emb} {place : Nat → Option (Nat × Nat)} : ∀ {parts : List (Nat × Value)} {parts' : List (Nat × Value)} {cs r : List Value} {cs' : Array Value},
    (parts.map (·.1) = parts'.map (·.1)) → VRs ι (parts.map (·.2)) (parts'.map (·.2)) → VRs ι cs cs'.toList → fillE place cs parts = some r →
    ∃ r' : Array Value, Instr.fill place cs' parts' = some r' ∧ VRs ι r r'.toList
  | [], [], cs, r, cs', _, _, hc, h => by
    simp only [fillE, Option.some.injEq] at h; subst h; exact ⟨cs', rfl, hc⟩
  | [], _ :: _, _, _, _, hk, _, _, _ => by simp at hk
  | _ :: _, [], _, _, _, hk, _, _, _ => by simp at hk
  | (i, v) :: parts, (i', v') :: parts', cs, r, cs', hk, hv, hc, h => by
    simp only [List.map_cons, List.cons.injEq] at hk
    obtain ⟨rfl, hk⟩ := hk
    simp only [List.map_cons] at hv
    cases hv with | cons hv hvs =>
    simp only [fillE] at h
    simp only [Instr.fill]
    cases hp : place i with
    | none => rw [hp] at h; cases h
    | some os =>
      obtain ⟨off, size⟩ := os
      rw [hp] at h
      simp only at h ⊢
      obtain ⟨hb, h⟩ := bif_some h
      have hb := nbeq_eq hb
      rw [Option.bind_eq_some_iff] at h
      obtain ⟨cs1, hl, h⟩ := h
      have hcv := hv.cells
      have hle := (lput_some hl).1
      have e1 : v'.cells.size = size := by rw [← Array.length_toList, ← hcv.length]; exact hb
      have e2 : off + v'.cells.size ≤ cs'.size := by
        rw [e1, ← hb, ← Array.length_toList, ← hc.length]; exact hle
      have hno : ¬ (decide (v'.cells.size ≠ size) || decide (off + v'.cells.size > cs'.size)) = true := by simp [e1]; omega
      rw [if_neg hno]
      refine fillE_run hk hvs ?_ h
      have := hc.put hcv hl
      rw [← Array.foldl_toList, Array.toList_zipIdx]
      rw [fill_one off v'.cells.toList 0 cs' (by simpa using e2)]
      simpa using this

theorem fillE_place {f g : Nat → Option (Nat × Nat)} (hfg : ∀ k, f k = none ∨ f k = g k) : ∀ {ps : List (Nat × Value)} {cs r : List Value}, fillE f cs ps = some r → fillE g cs ps = some r
  | [], _, _, h => h
  | (i, v) :: ps, cs, r, h => by
    simp only [fillE] at h ⊢
    rcases hfg i with hn | he
    · rw [hn] at h; cases h
    · rw [← he]
      cases hf : f i with
      | none => rw [hf] at h; cases h
      | some os =>
        rw [hf] at h
        simp only at h ⊢
        obtain ⟨hb, h⟩ := bif_some h
        rw [hb, cond_true]
        rw [Option.bind_eq_some_iff] at h ⊢
        obtain ⟨c, hc, h⟩ := h
        exact ⟨c, hc, fillE_place hfg h⟩

theorem partsE_some {ι : Emb} {e : Env} {a : Act} (h : EnvR ι e a.tmps) : ∀ {ps : List (Nat × Operand)} {vs : List (Nat × Value)}, partsE e ps = some vs →
    vs.map (·.1) = (ps.map fun x => (x.1, a.eval x.2)).map (·.1) ∧ VRs ι (vs.map (·.2)) ((ps.map fun x => (x.1, a.eval x.2)).map (·.2))
  | [], vs, hs => by simp only [partsE, Option.some.injEq] at hs; subst hs; exact ⟨rfl, .nil⟩
  | (i, x) :: ps, vs, hs => by
    simp only [partsE] at hs
    split at hs
    · rename_i v vs' h1 h2
      cases hs
      obtain ⟨ha, hb⟩ := partsE_some h h2
      exact ⟨by simp only [List.map_cons]; rw [ha], .cons (h.op h1) hb⟩
    · cases hs

theorem mapM_run {α β : Type} {P : Program} {w : World} {f : α → Sem β} {g : α → β} : ∀ (l : List α), (∀ x ∈ l, (f x).run P w = .ok (g x) w) → (l.mapM f).run P w = .ok (l.map g) w
  | [], _ => rfl
  | x :: l, h => by
    rw [List.mapM_cons]
    simp only [Sem.run_bind, h x (by simp), Result.andThen_ok, mapM_run l (fun y hy => h y (by simp [hy])), Sem.run_pure, List.map_cons]

theorem mapM_runA {α β : Type} {P : Program} {w : World} {f : α → Sem β} {g : α → β} (xs : Array α) (h : ∀ x ∈ xs.toList, (f x).run P w = .ok (g x) w) : (xs.mapM f).run P w = .ok (xs.toList.map g).toArray w := by
  rw [Array.mapM_eq_mapM_toList]
  simp only [Sem.run_map, mapM_run _ h, Result.andThen_ok]

section
variable {P : Program} {C : Ctx} (hC : Fits C P) {ι : Emb} {w : World}

/-- The zero cells of a type. -/
theorem zero_plain {t : TypeId} {ti : TI} {i : TypeInfo} {d : TypeDesc} {z : Value} (hi : TIok P t ti i d z) : VRs ι ti.zero z.cells.toList := by
  rw [hi.zcells]; exact VRs.plain (fun v => VR.plainCell) hi.plain

include hC
theorem buildE_run {t : TypeId} {ps : List (Nat × Value)} {ps' : Array (Nat × Value)} {v : Value}
    (hk : ps.map (·.1) = ps'.toList.map (·.1)) (hv : VRs ι (ps.map (·.2)) (ps'.toList.map (·.2))) (h : buildE C t ps = some v) :
    ∃ v', (Instr.build t ps').run P w = .ok v' w ∧ VR ι v v' := by
  unfold buildE at h
  split at h
  · rename_i ti hti
    obtain ⟨i, d, z, hi⟩ := hC.ti hti
    have hd := hi.desc
    have hzero := zero_plain (ι := ι) hi
    have hkk := hi.kind
    simp only [Instr.build, Sem.run_bind, hi.run_zero, hi.run_under, Result.andThen_ok]
    split at h
    · rename_i fs hkd; rw [hkd] at hd
      obtain ⟨F, rfl, rfl, _, _⟩ := hd
      obtain ⟨_, _, _, hall⟩ := mkKind_struct hkk
      rw [Option.map_eq_some_iff] at h
      obtain ⟨r, hr, rfl⟩ := h
      have hm : (F.mapM fun f => do pure (f.offset, ← sizeOf f.type) : Sem (Array (Nat × Nat))).run P w = .ok (F.toList.map fun f => (f.offset, P.cellsOf f.type)).toArray w := by
        refine mapM_runA F fun f hf => ?_
        have := List.all_eq_true.1 hall f hf
        obtain ⟨j, hj⟩ := Option.isSome_iff_exists.1 this
        simp [sizeOf, typeInfo, hj, Program.cellsOf]
      have hpl : ∀ (k : Nat), ((F.toList.map fun f => (f.offset, f.type, f.name == "_"))[k]?).bind (fun (f : Nat × TypeId × Bool) => (C.T f.2.1).map fun ft => (f.1, ft.size)) = none ∨
          ((F.toList.map fun f => (f.offset, f.type, f.name == "_"))[k]?).bind (fun (f : Nat × TypeId × Bool) => (C.T f.2.1).map fun ft => (f.1, ft.size)) = ((F.toList.map fun f => (f.offset, P.cellsOf f.type)).toArray)[k]? := by
        intro k
        simp only [List.getElem?_map, List.getElem?_toArray]
        cases hf : F.toList[k]? with
        | none => left; rfl
        | some f =>
          simp only [Option.map_some, Option.bind_some]
          cases hT : C.T f.type with
          | none => left; rfl
          | some ft =>
            right
            obtain ⟨i2, d2, z2, hi2⟩ := hC.ti hT
            simp [Program.cellsOf, hi2.info, hi2.size]
      have hr2 : fillE (fun k => ((F.toList.map fun f => (f.offset, P.cellsOf f.type)).toArray)[k]?) ti.zero ps = some r := by
        refine fillE_place (fun k => hpl k) hr
      obtain ⟨r', h1, h2⟩ := fillE_run hk hv hzero hr2
      refine ⟨.agg r', ?_, .agg (by simpa using h2)⟩
      simp only [Sem.run_bind, hm, Result.andThen_ok]
      rw [h1]
      rfl
    · rename_i n el hkd; rw [hkd] at hd; simp only at hd; subst hd
      simp only [Option.bind_eq_some_iff, Option.map_eq_some_iff] at h
      obtain ⟨et, het, r, hr, rfl⟩ := h
      obtain ⟨i2, d2, z2, hi2⟩ := hC.ti het
      obtain ⟨r', h1, h2⟩ := fillE_run hk hv hzero hr
      refine ⟨.agg r', ?_, .agg (by simpa using h2)⟩
      simp only [Sem.run_bind, hi2.run_size, Result.andThen_ok, h1, Sem.run_pure]
    · cases h
  · cases h
end

end Go.Ahe
