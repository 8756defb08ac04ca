/-
  X, 10: arguments that are slices of flat elements.
-/
import Derived.Test.YtiigiodagfalpaaZxList
import Derived.ChangeArms
namespace Go.Ahe.X
open Go.Ahe Go.RowKit

/-- The sizes of a world's blocks. -/
def sizes (w : World) (b : Nat) : Nat := match w.heap[b]? with
  | some (.cells C _ _) => C.size
  | _ => 0
def emb0 (w : World) : Emb := ⟨fun _ => none, sizes w⟩
theorem rel0 (w : World) : Rel w.heap.size (emb0 w) ⟨.nl, 0, 0⟩ w :=
  ⟨Nat.le_refl _, fun _ _ => rfl, fun i b p h => (by cases h), fun i o b p h1 h2 => (by cases h2), fun i j oi oj b p q h1 _ _ _ h5 => (by cases h5), fun i o b p _ _ h => (by cases h), Nat.le_refl _⟩

/-- One object more. -/
def Emb.more (ι : Emb) (i : Nat) (x : Nat × Nat) : Emb := ⟨fun j => if j = i then some x else ι j, ι.sz⟩
theorem more_le {base : Nat} {ι : Emb} {H : Hp} {w : World} (hr : Rel base ι H w) (x : Nat × Nat) : ι.le (Emb.more ι H.next x) := fun i b p h => by
  have hi := hr.lt h
  exact ⟨by show (if i = H.next then some x else ι i) = _; rw [if_neg (by omega)]; exact h, rfl⟩

theorem plainOb {ι : Emb} {v : Value} (h : plainCell v = true) : VR ι v v := VR.plainCell h

/-- All objects are for reading. -/
def AllRo (H : Hp) : Prop := ∀ i o, H.get i = some o → o.wr = false
theorem AllRo.empty : AllRo ⟨.nl, 0, 0⟩ := fun i o h => by cases h
theorem AllRo.new {H : Hp} (h : AllRo H) (cs : List Value) : AllRo (H.new (.cells cs true)) := fun i o hg => by
  rw [Hp.get_new] at hg
  by_cases hi : i = H.next
  · rw [if_pos hi] at hg; cases hg; rfl
  · rw [if_neg hi] at hg; exact h i o hg

theorem rel_more {base : Nat} {ι : Emb} {H : Hp} {w : World} (hr : Rel base ι H w) (hro : AllRo H) (hsz : ∀ b C E fz, w.heap[b]? = some (.cells C E fz) → ι.sz b = C.size) {b p : Nat} {C : Array Value} {E : TypeId} {fz : Nat × Nat} (hb : w.heap[b]? = some (.cells C E fz)) {cs : List Value}
    (hl : p + cs.length ≤ C.size) (hv : ∀ k v, cs[k]? = some v → C[p + k]? = some v ∧ plainCell v = true) : Rel base (Emb.more ι H.next (b, p)) (H.new (.cells cs true)) w := by
  have hget : ∀ i o, (H.new (.cells cs true)).get i = some o → (i = H.next ∧ o = .cells cs true) ∨ (i ≠ H.next ∧ H.get i = some o) := fun i o h => by
    rw [Hp.get_new] at h
    by_cases hi : i = H.next
    · rw [if_pos hi] at h; cases h; exact .inl ⟨hi, rfl⟩
    · rw [if_neg hi] at h; exact .inr ⟨hi, h⟩
  have hat : ∀ i, Emb.more ι H.next (b, p) i = if i = H.next then some (b, p) else ι i := fun i => rfl
  refine ⟨?_, ?_, ?_, ?_, ?_, ?_, hr.bs⟩
  · simpa using le_more hr.flo
  · intro i hi
    rw [Hp.next_new] at hi
    rw [hat, if_neg (by omega)]
    exact hr.dom i (by omega)
  · intro i b' p' h
    rw [hat] at h
    by_cases hi : i = H.next
    · rw [if_pos hi] at h; cases h; exact (Array.getElem?_eq_some_iff.1 hb).1
    · rw [if_neg hi] at h; exact hr.bnd i b' p' h
  · intro i o b' p' ho h
    rw [hat] at h
    rcases hget i o ho with ⟨hi, rfl⟩ | ⟨hi, ho⟩
    · rw [if_pos hi] at h; cases h
      exact ⟨C, E, fz, hb, (fun h => by cases h), ⟨hl, (hsz b C E fz hb).symm⟩, fun k v hk => ⟨v, (hv k v hk).1, VR.plainCell (hv k v hk).2⟩⟩
    · rw [if_neg hi] at h
      exact (hr.ob i o b' p' ho h).mono (more_le hr (b, p)) rfl
  · intro i j oi oj b' p' q' hi hj hwr _ _ _
    rcases hget i oi hi with ⟨_, rfl⟩ | ⟨_, h⟩
    · cases hwr
    · rw [hro i oi h] at hwr; cases hwr
  · intro i o b' p' hi hwr _
    rcases hget i o hi with ⟨_, rfl⟩ | ⟨_, h⟩
    · cases hwr
    · rw [hro i o h] at hwr; cases hwr

section
variable {Hd : Type} {enc : TypeId × Value → Hd} {Pg : Program} {w : World} {base : Nat} {spare : Nat → Bool} {held : Bool}

theorem cells_at {b0 : Nat} {a : Addr} : ∀ {n : Nat} {cs : List Value}, w.cells? b0 a n = some cs → cs.length = n ∧ ∀ j v, cs[j]? = some v → w.cell? (a.add j) = some v := fun {n cs} h => by
  unfold World.cells? at h
  split at h
  · have key : ∀ (l : List Nat) (cs : List Value), (l.mapM fun i => w.cell? (a.add i)) = some cs → cs.length = l.length ∧ ∀ (j : Nat) (v : Value), cs[j]? = some v → ∃ i, l[j]? = some i ∧ w.cell? (a.add i) = some v := by
      intro l
      induction l with
      | nil => intro cs h; simp at h; subst h; exact ⟨rfl, fun j v hj => by simp at hj⟩
      | cons x l ih =>
        intro cs h
        rw [List.mapM_cons] at h
        cases hx : w.cell? (a.add x) with
        | none => rw [hx] at h; cases h
        | some y =>
          rw [hx] at h
          cases hm : (l.mapM fun i => w.cell? (a.add i)) with
          | none => rw [hm] at h; cases h
          | some r =>
            rw [hm] at h
            cases h
            obtain ⟨h1, h2⟩ := ih r hm
            refine ⟨by simp [h1], fun j v hj => ?_⟩
            cases j with
            | zero => simp at hj; subst hj; exact ⟨x, rfl, hx⟩
            | succ j => simpa using h2 j v (by simpa using hj)
    obtain ⟨h1, h2⟩ := key _ _ h
    refine ⟨by simpa using h1, fun j v hj => ?_⟩
    obtain ⟨i, hi, hc⟩ := h2 j v hj
    have := List.getElem?_eq_some_iff.1 hi
    obtain ⟨hlt, hi⟩ := this
    simp at hi
    subst hi
    exact hc
  · cases h

theorem cellsAre_len : ∀ {ks : List FlatK} {cs : List Value}, cellsAre ks cs → cs.length = ks.length
  | [], [], _ => rfl
  | [], _ :: _, h => h.elim
  | _ :: _, [], h => h.elim
  | _ :: _, _ :: _, h => by simp [cellsAre_len h.2]
theorem FlatK.plain {k : FlatK} {v : Value} (h : k.is v) : plainCell v = true := by
  cases k with
  | bool => obtain ⟨b, rfl⟩ := h; rfl
  | int k => obtain ⟨n, rfl, _⟩ := h; rfl
  | str => obtain ⟨s, rfl, _⟩ := h; rfl
theorem cellsAre_plain : ∀ {ks : List FlatK} {cs : List Value}, cellsAre ks cs → ∀ v ∈ cs, plainCell v = true
  | [], [], _, v, hv => by cases hv
  | [], _ :: _, h, _, _ => h.elim
  | _ :: _, [], h, _, _ => h.elim
  | _ :: _, _ :: _, h, v, hv => by
    rcases List.mem_cons.1 hv with rfl | hv
    · exact FlatK.plain h.1
    · exact cellsAre_plain h.2 v hv

theorem add_eq (b off k : Nat) : (⟨b, off, none⟩ : Addr).add k = ⟨b, off + k, none⟩ := by
  unfold Addr.add
  split
  · rename_i h; subst h; rfl
  · rfl

/-- **A SLICE OF FLAT ELEMENTS**, opened: the elements' cells, and where they lie. -/
theorem open_flat_slice {t e : TypeId} {d : Nat} {ks : List FlatK} {v : Value} {x : DataW Hd} {ps : List MemPlace} (ht : Pg.underlying t = some (.slice e)) (hk : flatKs Pg d e = some ks) (hc : Pg.cellsOf e = ks.length)
    (hval : Value.okWide Pg w .any base t v) (hd : DataW.Trod enc Pg w 0 spare held t v x ps) :
    v = .slice none 0 0 ∨ ∃ (b off len cap : Nat) (C : Array Value) (E : TypeId) (fz : Nat × Nat) (css : List (List Value)), v = .slice (some ⟨b, off, none⟩) len cap ∧ css.length = len ∧ (∀ cs ∈ css, cellsAre ks cs) ∧ w.heap[b]? = some (.cells C E fz) ∧
      ∀ i cs, css[i]? = some cs → ∀ j u, cs[j]? = some u → C[off + (i * ks.length + j)]? = some u := by
  obtain ⟨a0, len, cap, rfl⟩ := Go.WideShapes.okWide_slice ht hval
  obtain ⟨fuel, hf⟩ := hd
  rcases DataW.trod_slice ht hf with ⟨h0, _⟩ | ⟨a, len', cap', elems, rest, n, _, h0, _, _, _, _, hlen, hel, _, _⟩
  · left; simpa [Value.cells] using h0
  · right
    simp [Value.cells] at h0
    obtain ⟨rfl, rfl, rfl⟩ := h0
    -- the block
    have hok : Cell.ok Pg w .any base t (.slice (some a) len cap) := by
      unfold Value.okWide at hval; rw [ht] at hval
      simp only [Cell.okWide, ht] at hval
      exact hval
    simp only [Cell.ok, ht, World.has] at hok
    obtain ⟨_, _, _, hspot, row, cells, hsh, _⟩ := hok
    obtain ⟨b, off, spot⟩ := a
    simp only at hspot hsh
    subst hspot
    unfold World.shape? at hsh
    cases hb : w.heap[b]? with
    | none => rw [hb] at hsh; cases hsh
    | some ob =>
      cases ob with
      | cells C E fz =>
        let cf : Nat → List Value := fun i => (w.cells? 0 ((⟨b, off, none⟩ : Addr).add (i * Pg.cellsOf e)) (Pg.cellsOf e)).getD []
        have hcf : ∀ i, i < len → w.cells? 0 ((⟨b, off, none⟩ : Addr).add (i * Pg.cellsOf e)) (Pg.cellsOf e) = some (cf i) ∧ cellsAre ks (cf i) := fun i hi => by
          have h1 := hel i hi
          have hs : elems[i]? = some (elems[i]'(by omega)) := List.getElem?_eq_getElem (by omega)
          rw [hs, Option.bind_eq_some_iff] at h1
          obtain ⟨cs, h2, h3⟩ := h1
          have : cf i = cs := by show Option.getD _ [] = cs; rw [h2]; rfl
          rw [this]
          exact ⟨h2, open_flat d e ks hk n cs _ h3⟩
        refine ⟨b, off, len, cap, C, E, fz, (List.range len).map cf, rfl, by simp, fun cs hcs => ?_, hb, fun i cs hi j u hj => ?_⟩
        · obtain ⟨i, hi, rfl⟩ := List.mem_map.1 hcs
          exact (hcf i (by simpa using hi)).2
        · rw [List.getElem?_map] at hi
          obtain ⟨i', hi', rfl⟩ := Option.map_eq_some_iff.1 hi
          obtain ⟨hlt, hi'⟩ := List.getElem?_eq_some_iff.1 hi'
          simp at hi' hlt
          subst hi'
          have h1 := (cells_at (hcf i hlt).1).2 j u hj
          rw [add_eq, add_eq] at h1
          unfold World.cell? at h1
          simp only [hb] at h1
          rw [← hc, ← Nat.add_assoc]
          simpa using h1
      | _ => rw [hb] at hsh; cases hsh
end

/-! ### A list out of cells -/
/-- Cells of elements as a list of what they stand for. -/
theorem list_of {α : Type} {en : α → List Value} {ks : List FlatK} (h : ∀ cs, cellsAre ks cs → ∃ a, en a = cs) : ∀ {css : List (List Value)}, (∀ cs ∈ css, cellsAre ks cs) → ∃ l : List α, css = l.map en
  | [], _ => ⟨[], rfl⟩
  | cs :: css, hc => by
    obtain ⟨a, ha⟩ := h cs (hc cs (List.mem_cons_self ..))
    obtain ⟨l, hl⟩ := list_of h fun x hx => hc x (List.mem_cons_of_mem _ hx)
    exact ⟨a :: l, by rw [List.map_cons, ha, hl]⟩

theorem encL_index {α : Type} {en : α → List Value} {sz : Nat} (hs : ∀ a, (en a).length = sz) : ∀ (l : List α) (k : Nat) (v : Value), (encL en l)[k]? = some v → ∃ i j a, l[i]? = some a ∧ (en a)[j]? = some v ∧ k = i * sz + j
  | [], k, v, h => by simp [encL] at h
  | a :: l, k, v, h => by
    rw [encL_cons] at h
    by_cases hk : k < (en a).length
    · rw [List.getElem?_append_left hk] at h
      exact ⟨0, k, a, rfl, h, by simp⟩
    · rw [List.getElem?_append_right (by omega), hs] at h
      obtain ⟨i, j, b, h1, h2, h3⟩ := encL_index hs l _ v h
      refine ⟨i + 1, j, b, by simpa using h1, h2, ?_⟩
      rw [hs] at hk
      rw [Nat.succ_mul]
      omega

/-- **ONE MORE ARGUMENT THAT IS A SLICE**: a heap and an embedding for it. -/
theorem slice_arg {α : Type} {en : α → List Value} {sz : Nat} (hs : ∀ a, (en a).length = sz) (hs1 : 0 < sz) (hpl : ∀ a v, v ∈ en a → plainCell v = true) {w : World} {ι : Emb} {H : Hp} (hr : Rel w.heap.size ι H w) (hro : AllRo H) (hsz : ι.sz = sizes w) {v : Value} {l : List α}
    (hv : (v = .slice none 0 0 ∧ l = []) ∨ ∃ (b off cap : Nat) (C : Array Value) (E : TypeId) (fz : Nat × Nat), v = .slice (some ⟨b, off, none⟩) l.length cap ∧ w.heap[b]? = some (.cells C E fz) ∧ ∀ i a, l[i]? = some a → ∀ j u, (en a)[j]? = some u → C[off + (i * sz + j)]? = some u) :
    ∃ (u : Value) (ι' : Emb) (H' : Hp), Rel w.heap.size ι' H' w ∧ AllRo H' ∧ ι'.sz = sizes w ∧ ι.le ι' ∧ VR ι' u v ∧ Sl en H' u l ∧ (H' = H ∨ ∃ o, H' = H.new o) := by
  have hsz' : ∀ b C E fz, w.heap[b]? = some (.cells C E fz) → ι.sz b = C.size := fun b C E fz hb => by rw [hsz]; unfold sizes; rw [hb]
  rcases hv with ⟨rfl, rfl⟩ | ⟨b, off, cap, C, E, fz, rfl, hb, hc⟩
  · exact ⟨_, ι, H, hr, hro, hsz, fun i b p h => ⟨h, rfl⟩, .nils, .inl ⟨rfl, rfl⟩, .inl rfl⟩
  · by_cases hl : encL en l = []
    · have hr' := rel_more hr hro hsz' (p := 0) (cs := []) hb (by simp) (fun k v hk => by simp at hk)
      have h1 : (Emb.more ι H.next (b, 0)) H.next = some (b, 0) := if_pos rfl
      by_cases hll : l = []
      · subst hll
        refine ⟨.slice (some ⟨H.next, off, none⟩) 0 cap, _, _, hr', hro.new _, hsz, more_le hr _, ?_, .inr ⟨H.next, off, cap, rfl, .inl rfl, ⟨true, ?_⟩, by simp⟩, .inr ⟨_, rfl⟩⟩
        · have := VR.slice (l := 0) (c := cap) (o := off) h1
          rw [Nat.zero_add] at this
          exact this
        · rw [Hp.get_new, if_pos rfl]; rfl
      · exfalso
        cases l with
        | nil => exact hll rfl
        | cons a l =>
          rw [encL_cons] at hl
          have := hs a
          rw [(List.append_eq_nil_iff.1 hl).1] at this
          simp at this
          omega
    · have hlen : off + (encL en l).length ≤ C.size := by
        have hne : 0 < (encL en l).length := List.length_pos_iff.2 hl
        have hk : (encL en l)[(encL en l).length - 1]? = some ((encL en l)[(encL en l).length - 1]'(by omega)) := List.getElem?_eq_getElem (by omega)
        obtain ⟨i, j, a, h1, h2, h3⟩ := encL_index hs l _ _ hk
        have := hc i a h1 j _ h2
        have := (Array.getElem?_eq_some_iff.1 this).1
        omega
      have hr' := rel_more hr hro hsz' (p := off) (cs := encL en l) hb hlen (fun k v hk => by
        obtain ⟨i, j, a, h1, h2, h3⟩ := encL_index hs l _ _ hk
        exact ⟨by rw [h3]; exact hc i a h1 j _ h2, hpl a v (List.mem_of_getElem? h2)⟩)
      have h1 : (Emb.more ι H.next (b, off)) H.next = some (b, off) := if_pos rfl
      refine ⟨.slice (some ⟨H.next, 0, none⟩) l.length cap, _, _, hr', hro.new _, hsz, more_le hr _, ?_, .inr ⟨H.next, 0, cap, rfl, .inr rfl, ⟨true, ?_⟩, by simp⟩, .inr ⟨_, rfl⟩⟩
      · exact VR.slice (l := l.length) (c := cap) (o := 0) h1
      · rw [Hp.get_new, if_pos rfl]
end Go.Ahe.X
