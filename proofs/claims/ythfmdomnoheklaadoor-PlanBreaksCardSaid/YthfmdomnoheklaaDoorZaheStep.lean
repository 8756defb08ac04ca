/-
  AHE, 4: related heaps ('Rel') and steps ('Step'): what is kept when an object is made, or written.
-/
import Derived.Test.YthfmdomnoheklaaDoorZaheRel
import Derived.Below
namespace Go.Ahe
open Go.RowKit

/-- Entries of a map, related. -/
inductive MR (ι : Emb) : List (Value × Value × Nat) → List MapEntry → Prop
  | nil : MR ι [] []
  | cons {k v v' : Value} {b : Nat} {es : List (Value × Value × Nat)} {ES : List MapEntry} (hk : keyOk k = true) (hv : VR ι v v') (t : MR ι es ES) :
      MR ι ((k, v, b) :: es) (⟨k, v', b⟩ :: ES)

theorem MR.mono {ι ι' : Emb} (hm : ι.le ι') {es : List (Value × Value × Nat)} {ES : List MapEntry} (h : MR ι es ES) : MR ι' es ES := by
  induction h with
  | nil => exact .nil
  | cons hk hv _ ih => exact .cons hk (hv.mono hm) ih

def Ob.live : Ob → Bool
  | .dead => false
  | _ => true

/-- An object, and the block (from an offset on) that it stands for. -/
def ObR (ι : Emb) (w : World) (o : Ob) (b p : Nat) : Prop :=
  match o with
  | .cells cs ro => ∃ C E fz, w.heap[b]? = some (.cells C E fz) ∧ (ro = false → ∀ k, ¬ (fz.1 ≤ k ∧ k < fz.2)) ∧ (p + cs.length ≤ C.size ∧ C.size = ι.sz b) ∧
      ∀ (k : Nat) (v : Value), cs[k]? = some v → ∃ v', C[p + k]? = some v' ∧ VR ι v v'
  | .map es ck => ∃ ES : Array MapEntry, w.heap[b]? = some (.map ES ck) ∧ MR ι es ES.toList
  | .iter m since seen st => p = 0 ∧ ∃ m', w.heap[b]? = some (.mapIter m' since seen.toArray st) ∧
      (match m with
       | none => m' = none
       | some i => ∃ b' q, ι i = some (b', q) ∧ m' = some b')
  | .loop st pend env ps as body => ∃ L : Loop, w.heap[b]? = some (.loop L) ∧ L.state = st ∧ L.pending = pend ∧ EnvR ι env L.tmps ∧ L.params.toList = ps ∧ L.assign = as ∧ L.body = body
  | .dead => True

theorem ObR.mono {ι ι' : Emb} (hm : ι.le ι') {w : World} {o : Ob} {b p : Nat} (hz : ι'.sz b = ι.sz b) (h : ObR ι w o b p) : ObR ι' w o b p := by
  cases o with
  | cells cs ro =>
    obtain ⟨C, E, fz, h1, h2, h3, h4⟩ := h
    exact ⟨C, E, fz, h1, h2, ⟨h3.1, h3.2.trans hz.symm⟩, fun k v hk => let ⟨v', a, b⟩ := h4 k v hk; ⟨v', a, b.mono hm⟩⟩
  | map es ck => obtain ⟨ES, h1, h2⟩ := h; exact ⟨ES, h1, h2.mono hm⟩
  | iter m since seen st =>
    obtain ⟨h0, m', h1, h2⟩ := h
    refine ⟨h0, m', h1, ?_⟩
    cases m with
    | none => exact h2
    | some i => obtain ⟨b', q, h3, h4⟩ := h2; exact ⟨b', q, (hm _ _ _ h3).1, h4⟩
  | loop st pend env ps as body => obtain ⟨L, h1, h2, h3, h4, h5⟩ := h; exact ⟨L, h1, h2, h3, h4.mono hm, h5⟩
  | dead => trivial

theorem ObR.same {ι : Emb} {w w' : World} {o : Ob} {b p : Nat} (h : ObR ι w o b p) (hs : w'.heap[b]? = w.heap[b]?) : ObR ι w' o b p := by
  cases o with
  | dead => trivial
  | cells cs ro => obtain ⟨C, E, fz, h1, r⟩ := h; exact ⟨C, E, fz, hs.trans h1, r⟩
  | map es ck => obtain ⟨ES, h1, r⟩ := h; exact ⟨ES, hs.trans h1, r⟩
  | iter m since seen st => obtain ⟨h0, m', h1, r⟩ := h; exact ⟨h0, m', hs.trans h1, r⟩
  | loop st pend env ps as body => obtain ⟨L, h1, r⟩ := h; exact ⟨L, hs.trans h1, r⟩

/-- An abstract heap and a world. -/
structure Rel (base : Nat) (ι : Emb) (H : Hp) (w : World) : Prop where
  flo : H.floor ≤ H.next
  dom : ∀ i, H.next ≤ i → ι i = none
  bnd : ∀ i b p, ι i = some (b, p) → b < w.heap.size
  ob : ∀ i o b p, H.get i = some o → ι i = some (b, p) → ObR ι w o b p
  inj : ∀ i j oi oj b p q, H.get i = some oi → H.get j = some oj → oi.wr = true → oj.live = true → ι i = some (b, p) → ι j = some (b, q) → i = j
  bas : ∀ i o b p, H.get i = some o → o.wr = true → ι i = some (b, p) → base ≤ b
  bs : base ≤ w.heap.size

theorem Rel.lt {base : Nat} {ι : Emb} {H : Hp} {w : World} (hr : Rel base ι H w) {i : Nat} {x : Nat × Nat} (h : ι i = some x) : i < H.next := by
  rcases Nat.lt_or_ge i H.next with h1 | h1
  · exact h1
  · rw [hr.dom i h1] at h; cases h

theorem Ob.wr_live {o : Ob} (h : o.wr = true) : o.live = true := by cases o <;> first | rfl | cases h

/-- A block that an object may be written through. -/
def Owned (ι : Emb) (H : Hp) (b : Nat) : Prop := ∃ i o p, H.get i = some o ∧ o.wr = true ∧ H.floor ≤ i ∧ ι i = some (b, p)

/-- What a step may change. -/
structure Step (ι ι' : Emb) (H H' : Hp) (w w' : World) : Prop where
  emb : ∀ i, i < H.next → ι' i = ι i
  ssz : ∀ b, b < w.heap.size → ι'.sz b = ι.sz b
  next : H.next ≤ H'.next
  floor : H'.floor = H.floor
  low : ∀ i, i < H.floor → H'.get i = H.get i
  owned : ∀ b, b < w.heap.size → Owned ι' H' b → Owned ι H b
  os : w'.os = w.os
  tape : w'.tape = w.tape
  output : w'.output = w.output
  size : w.heap.size ≤ w'.heap.size
  same : ∀ b, b < w.heap.size → ¬ Owned ι H b → w'.heap[b]? = w.heap[b]?
  loops : ∀ (b : Nat) (L : Loop), w.heap[b]? = some (.loop L) → ∃ L' : Loop, w'.heap[b]? = some (.loop L')
  news : ∀ i b p, H.next ≤ i → ι' i = some (b, p) → w.heap.size ≤ b ∨ Owned ι H b

theorem Step.refl {base : Nat} {ι : Emb} {H : Hp} {w : World} (hr : Rel base ι H w) : Step ι ι H H w w :=
  ⟨fun _ _ => rfl, fun _ _ => rfl, Nat.le_refl _, rfl, fun _ _ => rfl, fun _ _ h => h, rfl, rfl, rfl, Nat.le_refl _, fun _ _ _ => rfl, fun _ L h => ⟨L, h⟩, fun i b p h1 h2 => by rw [hr.dom i h1] at h2; cases h2⟩

theorem Step.trans {ι ι1 ι2 : Emb} {H H1 H2 : Hp} {w w1 w2 : World} (h : Step ι ι1 H H1 w w1) (k : Step ι1 ι2 H1 H2 w1 w2) : Step ι ι2 H H2 w w2 where
  emb i hi := (k.emb i (Nat.lt_of_lt_of_le hi h.next)).trans (h.emb i hi)
  ssz b hb := (k.ssz b (Nat.lt_of_lt_of_le hb h.size)).trans (h.ssz b hb)
  next := Nat.le_trans h.next k.next
  floor := k.floor.trans h.floor
  low i hi := (k.low i (by rw [h.floor]; exact hi)).trans (h.low i hi)
  owned b hb ho := h.owned b hb (k.owned b (Nat.lt_of_lt_of_le hb h.size) ho)
  os := k.os.trans h.os
  tape := k.tape.trans h.tape
  output := k.output.trans h.output
  size := Nat.le_trans h.size k.size
  same b hb ho := (k.same b (Nat.lt_of_lt_of_le hb h.size) (fun h' => ho (h.owned b hb h'))).trans (h.same b hb ho)
  loops b L hL := let ⟨L1, h1⟩ := h.loops b L hL; k.loops b L1 h1
  news i b p h1 h2 := by
    by_cases hi : i < H1.next
    · rw [k.emb i hi] at h2; exact h.news i b p h1 h2
    · rcases k.news i b p (by omega) h2 with h3 | h3
      · exact .inl (Nat.le_trans h.size h3)
      · rcases Nat.lt_or_ge b w.heap.size with h4 | h4
        · exact .inr (h.owned b h4 h3)
        · exact .inl h4

theorem Step.le {base : Nat} {ι ι' : Emb} {H H' : Hp} {w w' : World} (h : Step ι ι' H H' w w') (hr : Rel base ι H w) : ι.le ι' := by
  intro i b p hx
  by_cases hi : i < H.next
  · rw [h.emb i hi]; exact ⟨hx, h.ssz b (hr.bnd i b p hx)⟩
  · rw [hr.dom i (by omega)] at hx; cases hx

/-- The world's streams are as they were. -/
structure WEq (w w' : World) : Prop where
  os : w'.os = w.os
  tape : w'.tape = w.tape
  output : w'.output = w.output

/-- The id i comes to lie at x; a block n of s cells is new. -/
def Emb.ext (ι : Emb) (i : Nat) (x : Nat × Nat) (n s : Nat) : Emb := ⟨fun j => if j = i then some x else ι j, fun b => if b = n then s else ι.sz b⟩
theorem Emb.ext_self (ι : Emb) (i : Nat) (x : Nat × Nat) (n s : Nat) : ι.ext i x n s i = some x := if_pos rfl
theorem Emb.ext_ne (ι : Emb) {i j : Nat} (x : Nat × Nat) (n s : Nat) (h : j ≠ i) : ι.ext i x n s j = ι j := if_neg h
theorem Emb.ext_sz (ι : Emb) (i : Nat) (x : Nat × Nat) (n s : Nat) : (ι.ext i x n s).sz n = s := if_pos rfl
theorem Emb.ext_sz_ne (ι : Emb) (i : Nat) (x : Nat × Nat) {n b : Nat} (s : Nat) (h : b ≠ n) : (ι.ext i x n s).sz b = ι.sz b := if_neg h
theorem Emb.le_ext {ι : Emb} {i : Nat} (x : Nat × Nat) {n : Nat} (s : Nat) (h : ι i = none) (hn : ∀ j b p, ι j = some (b, p) → b ≠ n) : ι.le (ι.ext i x n s) := fun j b p hj => by
  refine ⟨?_, Emb.ext_sz_ne _ _ _ _ (hn j b p hj)⟩
  by_cases e : j = i
  · subst e; rw [h] at hj; cases hj
  · rw [Emb.ext_ne _ _ _ _ e]; exact hj

theorem alloc_lt (w : World) (o : Obj) {k : Nat} (h : k < w.heap.size) : (w.alloc o).heap[k]? = w.heap[k]? := Below.heap_alloc w o k h
theorem alloc_new (w : World) (o : Obj) : (w.alloc o).heap[w.heap.size]? = some o := by
  show (w.heap.push o)[w.heap.size]? = some o
  simp

/-- **A NEW OBJECT.** -/
theorem Rel.new {base : Nat} {ι : Emb} {H : Hp} {w : World} (hr : Rel base ι H w) (o : Ob) (O : Obj) (s : Nat)
    (ho : ∀ w' : World, w'.heap[w.heap.size]? = some O → ObR (ι.ext H.next (w.heap.size, 0) w.heap.size s) w' o w.heap.size 0) :
    Rel base (ι.ext H.next (w.heap.size, 0) w.heap.size s) (H.new o) (w.alloc O) ∧ Step ι (ι.ext H.next (w.heap.size, 0) w.heap.size s) H (H.new o) w (w.alloc O) := by
  have hnone : ι H.next = none := hr.dom _ (Nat.le_refl _)
  have hle : ι.le (ι.ext H.next (w.heap.size, 0) w.heap.size s) := Emb.le_ext (w.heap.size, 0) s hnone (fun j b p hj e => by have := hr.bnd j b p hj; omega)
  have hsz : (w.alloc O).heap.size = w.heap.size + 1 := by show (w.heap.push O).size = _; simp
  refine ⟨⟨?_, ?_, ?_, ?_, ?_, ?_, ?_⟩, ⟨?_, fun b hb => Emb.ext_sz_ne _ _ _ _ (by omega), ?_, rfl, ?_, ?_, rfl, rfl, rfl, ?_, ?_, ?_, ?_⟩⟩
  · have := hr.flo; simp; omega
  · intro i hi
    simp at hi
    rw [Emb.ext_ne _ _ _ _ (by omega)]
    exact hr.dom i (by omega)
  · intro i b p h
    rw [hsz]
    by_cases e : i = H.next
    · subst e; rw [Emb.ext_self] at h; cases h; omega
    · rw [Emb.ext_ne _ _ _ _ e] at h; have := hr.bnd i b p h; omega
  · intro i o' b p h hi
    rw [Hp.get_new] at h
    by_cases e : i = H.next
    · subst e
      rw [if_pos rfl] at h; cases h
      rw [Emb.ext_self] at hi; cases hi
      exact ho _ (alloc_new w O)
    · rw [if_neg e] at h
      rw [Emb.ext_ne _ _ _ _ e] at hi
      exact ((hr.ob i o' b p h hi).same (alloc_lt w O (hr.bnd i b p hi))).mono hle (hle i b p hi).2
  · intro i j oi oj b p q h1 h2 h3 h4 h5 h6
    rw [Hp.get_new] at h1 h2
    by_cases ei : i = H.next <;> by_cases ej : j = H.next
    · omega
    · subst ei
      rw [Emb.ext_self] at h5; cases h5
      rw [Emb.ext_ne _ _ _ _ ej] at h6
      have := hr.bnd j _ _ h6; omega
    · subst ej
      rw [Emb.ext_self] at h6; cases h6
      rw [Emb.ext_ne _ _ _ _ ei] at h5
      have := hr.bnd i _ _ h5; omega
    · rw [if_neg ei] at h1; rw [if_neg ej] at h2
      rw [Emb.ext_ne _ _ _ _ ei] at h5; rw [Emb.ext_ne _ _ _ _ ej] at h6
      exact hr.inj i j oi oj b p q h1 h2 h3 h4 h5 h6
  · intro i o' b p h h2 hi
    rw [Hp.get_new] at h
    by_cases e : i = H.next
    · subst e; rw [Emb.ext_self] at hi; cases hi; exact hr.bs
    · rw [if_neg e] at h; rw [Emb.ext_ne _ _ _ _ e] at hi; exact hr.bas i o' b p h h2 hi
  · rw [hsz]; have := hr.bs; omega
  · intro i hi; exact Emb.ext_ne _ _ _ _ (by omega)
  · simp
  · intro i hi
    rw [Hp.get_new, if_neg]
    have := hr.flo; omega
  · rintro b hb ⟨i, o', p, h1, h2, h3, h4⟩
    rw [Hp.get_new] at h1
    by_cases e : i = H.next
    · subst e; rw [Emb.ext_self] at h4; cases h4; omega
    · rw [if_neg e] at h1; rw [Emb.ext_ne _ _ _ _ e] at h4; exact ⟨i, o', p, h1, h2, h3, h4⟩
  · rw [hsz]; omega
  · intro b hb _; exact alloc_lt w O hb
  · intro b L hL
    have hb : b < w.heap.size := (Array.getElem?_eq_some_iff.1 hL).1
    exact ⟨L, (alloc_lt w O hb).trans hL⟩
  · intro i b p h1 h2
    by_cases e : i = H.next
    · subst e; rw [Emb.ext_self] at h2; cases h2; exact .inl (Nat.le_refl _)
    · rw [Emb.ext_ne _ _ _ _ e, hr.dom i h1] at h2; cases h2

/-- **A WRITE**: the object i, of block b, comes to be o'; no other block has changed. -/
theorem Rel.write {base : Nat} {ι : Emb} {H H' : Hp} {w w' : World} (hr : Rel base ι H w) {i b p : Nat} {o o' : Ob} (hi : H.get i = some o) (hw : o.wr = true) (hι : ι i = some (b, p))
    (hu : H.upd i o' = some H') (heq : WEq w w') (hsz : w'.heap.size = w.heap.size) (hoth : ∀ k, k ≠ b → w'.heap[k]? = w.heap[k]?)
    (ho : ObR ι w' o' b p) (hl : ∀ L : Loop, w.heap[b]? = some (.loop L) → ∃ L' : Loop, w'.heap[b]? = some (.loop L')) : Rel base ι H' w' ∧ Step ι ι H H' w w' := by
  obtain ⟨hf, hn, hfl, hg⟩ := Hp.upd_some hu
  have hin : i < H.next := hr.lt hι
  refine ⟨⟨?_, ?_, ?_, ?_, ?_, ?_, ?_⟩, ⟨fun _ _ => rfl, fun _ _ => rfl, by omega, hfl, ?_, ?_, heq.os, heq.tape, heq.output, by omega, ?_, ?_, fun i b p h1 h2 => by rw [hr.dom i h1] at h2; cases h2⟩⟩
  · rw [hfl, hn]; exact hr.flo
  · rw [hn]; exact hr.dom
  · rw [hsz]; exact hr.bnd
  · intro j oj c q h hj
    rw [hg] at h
    by_cases e : j = i
    · subst e; rw [if_pos rfl] at h; cases h; rw [hι] at hj; cases hj; exact ho
    · rw [if_neg e] at h
      by_cases hlv : oj.live = true
      · have hne : c ≠ b := fun ec => by subst ec; exact e (hr.inj i j o oj c p q hi h hw hlv hι hj).symm
        exact (hr.ob j oj c q h hj).same (hoth c hne)
      · cases oj <;> first | trivial | exact absurd rfl hlv
  · intro j k oj ok c q r h1 h2 h3 h4 h5 h6
    rw [hg] at h1 h2
    by_cases ej : j = i <;> by_cases ek : k = i
    · omega
    · subst ej
      rw [if_neg ek] at h2
      exact hr.inj j k o ok c q r hi h2 hw h4 h5 h6
    · subst ek
      rw [if_neg ej] at h1
      exact hr.inj j k oj o c q r h1 hi h3 (Ob.wr_live hw) h5 h6
    · rw [if_neg ej] at h1; rw [if_neg ek] at h2
      exact hr.inj j k oj ok c q r h1 h2 h3 h4 h5 h6
  · intro j oj c q h h2 hj
    rw [hg] at h
    by_cases e : j = i
    · subst e; exact hr.bas j o c q hi hw hj
    · rw [if_neg e] at h; exact hr.bas j oj c q h h2 hj
  · rw [hsz]; exact hr.bs
  · intro j hj
    rw [hg, if_neg]
    omega
  · rintro c hc ⟨j, oj, q, h1, h2, h3, h4⟩
    rw [hg] at h1
    by_cases e : j = i
    · subst e; exact ⟨j, o, q, hi, hw, hf, h4⟩
    · rw [if_neg e] at h1; exact ⟨j, oj, q, h1, h2, by rw [← hfl]; exact h3, h4⟩
  · intro c hc hno
    exact hoth c (fun e => hno ⟨i, o, p, hi, hw, hf, by rw [e]; exact hι⟩)
  · intro c L hL
    by_cases e : c = b
    · subst e; exact hl L hL
    · exact ⟨L, (hoth c e).trans hL⟩

end Go.Ahe
