/-
  X, 9: slices that read as lists.
-/
import Derived.Test.YtiigiodagfalpaaZxB
import Derived.ChangeArms
namespace Go.Ahe.X
open Go.Ahe

/-- The cells of a list. -/
def encL {α : Type} (enc : α → List Value) (l : List α) : List Value := l.flatMap enc

section
variable {α : Type} {enc : α → List Value} {sz : Nat}
theorem encL_nil : encL enc [] = [] := rfl
theorem encL_cons (a : α) (l : List α) : encL enc (a :: l) = enc a ++ encL enc l := rfl
theorem encL_append (a b : List α) : encL enc (a ++ b) = encL enc a ++ encL enc b := by simp [encL]
theorem encL_len (h : ∀ a, (enc a).length = sz) : ∀ l : List α, (encL enc l).length = l.length * sz
  | [] => by simp [encL]
  | a :: l => by rw [encL_cons, List.length_append, h, encL_len h l, List.length_cons, Nat.succ_mul, Nat.add_comm]
theorem encL_at (h : ∀ a, (enc a).length = sz) : ∀ (l : List α) (k : Nat) (hk : k < l.length), ((encL enc l).drop (k * sz)).take sz = enc l[k]
  | a :: l, 0, _ => by rw [encL_cons, Nat.zero_mul, List.drop_zero, ← h a, List.take_left]; rfl
  | a :: l, k + 1, hk => by
    rw [encL_cons, Nat.succ_mul, Nat.add_comm, ← List.drop_drop]
    have : (enc a ++ encL enc l).drop sz = encL enc l := by rw [← h a, List.drop_left]
    rw [this]
    exact encL_at h l k (by simpa using hk)
theorem encL_in (h : ∀ a, (enc a).length = sz) (l : List α) {k : Nat} (hk : k < l.length) : k * sz + sz ≤ (encL enc l).length := by
  rw [encL_len h]
  have := Nat.mul_le_mul_right sz (show k + 1 ≤ l.length by omega)
  rw [Nat.succ_mul] at this
  exact this

/-- An object that holds a list. -/
structure Holds (enc : α → List Value) (H : Hp) (i : Nat) (l : List α) : Prop where
  get : ∃ ro, H.get i = some (.cells (encL enc l) ro)
  lt : i < H.next

theorem Holds.new {H : Hp} {i : Nat} {l : List α} (h : Holds enc H i l) (o : Ob) : Holds enc (H.new o) i l :=
  ⟨by obtain ⟨ro, hg⟩ := h.get; exact ⟨ro, by rw [Hp.get_new, if_neg (Nat.ne_of_lt h.lt)]; exact hg⟩, by rw [Hp.next_new]; exact Nat.lt_succ_of_lt h.lt⟩
theorem Holds.raised {H : Hp} {i : Nat} {l : List α} (h : Holds enc H i l) : Holds enc H.raised i l := ⟨h.get, h.lt⟩
theorem Holds.setO {H : Hp} {i j : Nat} {l : List α} (h : Holds enc H i l) (hj : i ≠ j) (o : Ob) : Holds enc (H.setO j o) i l :=
  ⟨by obtain ⟨ro, hg⟩ := h.get; exact ⟨ro, by rw [Hp.get_setO, if_neg hj]; exact hg⟩, h.lt⟩
theorem Holds.ldA (hs : ∀ a, (enc a).length = sz) {H : Hp} {i : Nat} {l : List α} (h : Holds enc H i l) {k : Nat} (hk : k < l.length) : ldA sz (P i (k * sz)) H = some (.agg (enc l[k]).toArray) := by
  obtain ⟨ro, hg⟩ := h.get
  rw [ldA_get hg, if_pos (encL_in hs l hk), encL_at hs l k hk]
theorem Holds.ld1 (hs : ∀ a, (enc a).length = 1) {H : Hp} {i : Nat} {l : List α} (h : Holds enc H i l) {k : Nat} (hk : k < l.length) {v : Value} (hv : enc l[k] = [v]) : ld1 (P i (k * 1)) H = some v := by
  obtain ⟨ro, hg⟩ := h.get
  rw [ld1_get hg]
  have h1 := encL_at hs l k hk
  rw [hv] at h1
  rw [Nat.mul_one] at h1 ⊢
  have h2 : ((encL enc l).drop k).take 1 = [v] := h1
  cases hd : (encL enc l).drop k with
  | nil => rw [hd] at h2; cases h2
  | cons a r =>
    rw [hd] at h2
    simp at h2
    subst h2
    have := congrArg List.head? hd
    simpa using this

/-- All stays but for some objects. -/
structure Keep (D : Nat → Prop) (H H' : Hp) : Prop where
  next : H.next ≤ H'.next
  floor : H'.floor = H.floor
  get : ∀ i, i < H.next → ¬ D i → H'.get i = H.get i
theorem Keep.refl (D : Nat → Prop) (H : Hp) : Keep D H H := ⟨Nat.le_refl _, rfl, fun _ _ _ => rfl⟩
theorem Keep.trans {D : Nat → Prop} {H H1 H2 : Hp} (h1 : Keep D H H1) (h2 : Keep D H1 H2) : Keep D H H2 :=
  ⟨Nat.le_trans h1.next h2.next, h2.floor.trans h1.floor, fun i hi hd => (h2.get i (Nat.lt_of_lt_of_le hi h1.next) hd).trans (h1.get i hi hd)⟩
theorem Keep.new (D : Nat → Prop) (H : Hp) (o : Ob) : Keep D H (H.new o) :=
  ⟨by rw [Hp.next_new]; exact Nat.le_succ _, rfl, fun i hi _ => by rw [Hp.get_new, if_neg (Nat.ne_of_lt hi)]⟩
theorem Keep.setO {D : Nat → Prop} {i : Nat} (h : D i) (H : Hp) (o : Ob) : Keep D H (H.setO i o) :=
  ⟨Nat.le_refl _, rfl, fun j _ hd => by rw [Hp.get_setO, if_neg fun e => hd (by rw [e]; exact h)]⟩
theorem Keep.mono {D D' : Nat → Prop} {H H' : Hp} (h : Keep D H H') (hd : ∀ i, i < H.next → D i → D' i) : Keep D' H H' := ⟨h.next, h.floor, fun i hi hn => h.get i hi fun hx => hn (hd i hi hx)⟩
theorem Keep.newSet {D : Nat → Prop} {H H1 : Hp} (h : Keep D H H1) {i : Nat} (hi : H.next ≤ i) (o : Ob) : Keep D H (H1.setO i o) :=
  ⟨h.next, h.floor, fun j hj hd => by rw [Hp.get_setO, if_neg (by omega)]; exact h.get j hj hd⟩
theorem Keep.lowered {D : Nat → Prop} {H H1 : Hp} (h : Keep D H.raised H1) : Keep D H (H1.lowered H.floor) := ⟨h.next, rfl, h.get⟩
theorem Keep.next_new {D : Nat → Prop} {H H1 : Hp} {o : Ob} (h : Keep D H H1) : H.next ≤ (H1.new o).next := Nat.le_trans h.next (by rw [Hp.next_new]; exact Nat.le_succ _)

/-- A slice that reads as a list: nil, or in an object of some kind. -/
def Sp (enc : α → List Value) (Q : Nat → Prop) (H : Hp) (v : Value) (l : List α) : Prop :=
  (v = .slice none 0 0 ∧ l = []) ∨ ∃ (i o cap : Nat) (x : Option Nat) (cs : List Value) (ro : Bool), v = .slice (some ⟨i, o, x⟩) l.length cap ∧ Q i ∧ H.get i = some (.cells cs ro) ∧ (l = [] ∨ (o + (encL enc l).length ≤ cs.length ∧ (cs.drop o).take (encL enc l).length = encL enc l))
/-- .. below a bound. -/
abbrev Sb (enc : α → List Value) (n : Nat) (H : Hp) (v : Value) (l : List α) : Prop := Sp enc (fun i => i < n) H v l
abbrev Sl (enc : α → List Value) (H : Hp) (v : Value) (l : List α) : Prop := Sb enc H.next H v l
theorem Sp.same {Q Q' : Nat → Prop} {H H' : Hp} {v : Value} {l : List α} (h : Sp enc Q H v l) (hm : ∀ i, Q i → Q' i) (hk : ∀ i, Q i → H'.get i = H.get i) : Sp enc Q' H' v l :=
  h.imp id fun ⟨i, o, cap, x, cs, ro, h1, h2, h3, h4⟩ => ⟨i, o, cap, x, cs, ro, h1, hm i h2, (hk i h2).trans h3, h4⟩
theorem Sp.keep {Q D : Nat → Prop} {H H' : Hp} {v : Value} {l : List α} (h : Sp enc Q H v l) (hk : Keep D H H') (hd : ∀ i, Q i → i < H.next ∧ ¬ D i) : Sp enc Q H' v l :=
  h.same (fun _ h => h) fun i hi => hk.get i (hd i hi).1 (hd i hi).2
theorem Sp.len {Q : Nat → Prop} {H : Hp} {v : Value} {l : List α} (h : Sp enc Q H v l) : lnS v = some (I l.length) := by
  rcases h with ⟨rfl, rfl⟩ | ⟨i, o, cap, x, cs, ro, rfl, _⟩ <;> rfl

theorem Sb.len {n : Nat} {H : Hp} {v : Value} {l : List α} (h : Sb enc n H v l) : lnS v = some (I l.length) := by
  rcases h with ⟨rfl, rfl⟩ | ⟨i, o, cap, x, cs, ro, rfl, _⟩ <;> rfl
theorem Sl.len {H : Hp} {v : Value} {l : List α} (h : Sl enc H v l) : lnS v = some (I l.length) := Sb.len h
theorem Sb.same {n m : Nat} {H H' : Hp} {v : Value} {l : List α} (h : Sb enc n H v l) (hm : n ≤ m) (hk : ∀ i, i < n → H'.get i = H.get i) : Sb enc m H' v l :=
  h.imp id fun ⟨i, o, cap, x, cs, ro, h1, h2, h3, h4⟩ => ⟨i, o, cap, x, cs, ro, h1, Nat.lt_of_lt_of_le h2 hm, (hk i h2).trans h3, h4⟩
theorem Sb.keep {n : Nat} {D : Nat → Prop} {H H' : Hp} {v : Value} {l : List α} (h : Sb enc n H v l) (hn : n ≤ H.next) (hk : Keep D H H') (hd : ∀ i, i < n → ¬ D i) : Sb enc n H' v l :=
  h.same (Nat.le_refl _) fun i hi => hk.get i (Nat.lt_of_lt_of_le hi hn) (hd i hi)
theorem Sb.mono {n m : Nat} {H : Hp} {v : Value} {l : List α} (h : Sb enc n H v l) (hm : n ≤ m) : Sb enc m H v l := h.same hm fun _ _ => rfl
theorem Sb.sl {n : Nat} {H : Hp} {v : Value} {l : List α} (h : Sb enc n H v l) (hm : n ≤ H.next) : Sl enc H v l := h.mono hm
theorem Sb.new {n : Nat} {H : Hp} {v : Value} {l : List α} (h : Sb enc n H v l) (hn : n ≤ H.next) (o : Ob) : Sb enc n (H.new o) v l := h.same (Nat.le_refl _) fun i hi => by rw [Hp.get_new, if_neg (by omega)]
theorem Sb.setO {n : Nat} {H : Hp} {v : Value} {l : List α} (h : Sb enc n H v l) {j : Nat} (hj : n ≤ j) (o : Ob) : Sb enc n (H.setO j o) v l := h.same (Nat.le_refl _) fun i hi => by rw [Hp.get_setO, if_neg (by omega)]
theorem Sl.new {H : Hp} {v : Value} {l : List α} (h : Sl enc H v l) (o : Ob) : Sl enc (H.new o) v l := (Sb.new h (Nat.le_refl _) o).mono (by rw [Hp.next_new]; exact Nat.le_succ _)
theorem Sl.raised {H : Hp} {v : Value} {l : List α} (h : Sl enc H v l) : Sl enc H.raised v l := h
theorem Sb.fresh {n : Nat} {H : Hp} {v : Value} {l : List α} (h : Sb enc n H v l) {args : List Value} (hv : v ∈ args) : Sb enc n (H.fresh args) v l := by
  rcases h with ⟨rfl, rfl⟩ | ⟨i, p, cap, x, cs, ro, rfl, h3, h2⟩
  · exact .inl ⟨rfl, rfl⟩
  · have : args.all plainV = false := by
      rw [Bool.eq_false_iff]
      intro hc
      have := List.all_eq_true.1 hc _ hv
      cases this
    unfold Hp.fresh
    rw [this, cond_false]
    exact .inr ⟨i, p, cap, x, cs, ro, rfl, h3, h2⟩
theorem Sl.fresh {H : Hp} {v : Value} {l : List α} (h : Sl enc H v l) {args : List Value} (hv : v ∈ args) : Sl enc (H.fresh args) v l := by
  rcases h with ⟨rfl, rfl⟩ | ⟨i, p, cap, x, cs, ro, rfl, h3, h2⟩
  · exact .inl ⟨rfl, rfl⟩
  · have : args.all plainV = false := by
      rw [Bool.eq_false_iff]
      intro hc
      have := List.all_eq_true.1 hc _ hv
      cases this
    unfold Hp.fresh
    rw [this, cond_false]
    exact .inr ⟨i, p, cap, x, cs, ro, rfl, h3, h2⟩
theorem Holds.sl {H : Hp} {i cap : Nat} {x : Option Nat} {l : List α} (h : Holds enc H i l) : Sl enc H (.slice (some ⟨i, 0, x⟩) l.length cap) l := by
  obtain ⟨ro, hg⟩ := h.get
  exact .inr ⟨i, 0, cap, x, _, ro, rfl, h.lt, hg, .inr ⟨by omega, by rw [List.drop_zero, List.take_length]⟩⟩
/-- The k-th element's place, and what lies there. -/
theorem Sb.at (hs : ∀ a, (enc a).length = sz) {n : Nat} {H : Hp} {v : Value} {l : List α} (h : Sb enc n H v l) {k : Nat} (hk : k < l.length) :
    ∃ i o, i < n ∧ ixS sz v (I k) = some (P i o) ∧ ldA sz (P i o) H = some (.agg (enc l[k]).toArray) ∧ ∀ j, j < sz → ld1 (P i (o + j)) H = (enc l[k])[j]? := by
  rcases h with ⟨rfl, rfl⟩ | ⟨i, o, cap, x, cs, ro, rfl, h1, h2, h3⟩
  · simp at hk
  · rcases h3 with rfl | ⟨h4, h5⟩
    · simp at hk
    · have hin := encL_in hs l hk
      have hat := encL_at hs l k hk
      rw [← h5] at hat
      have hcut : (cs.drop (o + k * sz)).take sz = enc l[k] := by
        rw [← hat, List.drop_take, List.take_take, List.drop_drop]
        congr 1
        omega
      refine ⟨i, o + k * sz, h1, ?_, ?_, fun j hj => ?_⟩
      · simp only [ixS, nat?_ofNat]
        rw [show Nat.blt k l.length = true by simp [Nat.blt]; omega]
        simp
      · rw [ldA_get h2, if_pos (by omega), hcut]
      · rw [ld1_get h2, ← hcut, List.getElem?_take_of_lt hj, List.getElem?_drop]
theorem Sl.at (hs : ∀ a, (enc a).length = sz) {H : Hp} {v : Value} {l : List α} (h : Sl enc H v l) {k : Nat} (hk : k < l.length) :
    ∃ i o, i < H.next ∧ ixS sz v (I k) = some (P i o) ∧ ldA sz (P i o) H = some (.agg (enc l[k]).toArray) := by
  obtain ⟨i, o, h1, h2, h3, _⟩ := Sb.at hs h hk
  exact ⟨i, o, h1, h2, h3⟩
end
end Go.Ahe.X
/-
  X, 11: slices that are made by append.
-/
namespace Go.Ahe.X
open Go.Ahe

/-- A type of slices, and its elements: so many cells each. -/
structure SlT (C : Ctx) (t : TypeId) (sz : Nat) : Prop where
  ex : ∃ (ti et : TI) (el : TypeId), C.T t = some ti ∧ ti.kind = .slice el ∧ C.T el = some et ∧ et.size = sz ∧ 1 ≤ sz ∧ 1 ≤ et.bytes ∧ et.bytes ≤ 4096 ∧ et.zero.length = sz

theorem nble_f {a b : Nat} (h : ¬ a ≤ b) : Nat.ble a b = false := by
  cases hq : Nat.ble a b with
  | false => rfl
  | true => exact absurd (Nat.le_of_ble_eq_true hq) h

section
variable {α : Type} {enc : α → List Value} {sz : Nat}
/-- A slice made by append: at ids from a bound on. -/
def Gr (enc : α → List Value) (sz lo : Nat) (H : Hp) (v : Value) (l : List α) : Prop :=
  (v = .slice none 0 0 ∧ l = []) ∨ (∃ i o, v = .slice (some ⟨i, o, none⟩) 0 0 ∧ l = [] ∧ lo ≤ i ∧ i < H.next ∧ ∃ cs ro, H.get i = some (.cells cs ro)) ∨
    ∃ i, v = .slice (some ⟨i, 0, some sz⟩) l.length l.length ∧ lo ≤ i ∧ i < H.next ∧ H.get i = some (.cells (encL enc l) false) ∧ l ≠ []

theorem Gr.sl {lo : Nat} {H : Hp} {v : Value} {l : List α} (h : Gr enc sz lo H v l) : Sl enc H v l := by
  rcases h with ⟨rfl, rfl⟩ | ⟨i, o, rfl, rfl, _, h1, cs, ro, h2⟩ | ⟨i, rfl, _, h1, h2, _⟩
  · exact .inl ⟨rfl, rfl⟩
  · exact .inr ⟨i, o, 0, none, cs, ro, rfl, h1, h2, .inl rfl⟩
  · exact Holds.sl ⟨⟨false, h2⟩, h1⟩
/-- Where it lies. -/
theorem Gr.sp {lo : Nat} {H : Hp} {v : Value} {l : List α} (h : Gr enc sz lo H v l) : Sp enc (fun i => lo ≤ i ∧ i < H.next) H v l := by
  rcases h with ⟨rfl, rfl⟩ | ⟨i, o, rfl, rfl, h0, h1, cs, ro, h2⟩ | ⟨i, rfl, h0, h1, h2, _⟩
  · exact .inl ⟨rfl, rfl⟩
  · exact .inr ⟨i, o, 0, none, cs, ro, rfl, ⟨h0, h1⟩, h2, .inl rfl⟩
  · exact .inr ⟨i, 0, _, _, _, _, rfl, ⟨h0, h1⟩, h2, .inr ⟨by omega, by rw [List.drop_zero, List.take_length]⟩⟩
theorem Gr.len {lo : Nat} {H : Hp} {v : Value} {l : List α} (h : Gr enc sz lo H v l) : lnS v = some (I l.length) := Sb.len h.sl
theorem Gr.nil {lo : Nat} {H : Hp} : Gr enc sz lo H (.slice none 0 0) [] := .inl ⟨rfl, rfl⟩
theorem Gr.keep {lo : Nat} {D : Nat → Prop} {H H' : Hp} {v : Value} {l : List α} (h : Gr enc sz lo H v l) (hk : Keep D H H') (hd : ∀ i, D i → v ≠ .slice (some ⟨i, 0, some sz⟩) l.length l.length ∧ ∀ o, v ≠ .slice (some ⟨i, o, none⟩) 0 0) : Gr enc sz lo H' v l := by
  rcases h with h | ⟨i, o, h1, h2, h0, h3, cs, ro, h4⟩ | ⟨i, h1, h2, h3, h4, h5⟩
  · exact .inl h
  · exact .inr (.inl ⟨i, o, h1, h2, h0, Nat.lt_of_lt_of_le h3 hk.next, cs, ro, (hk.get i h3 fun hx => (hd i hx).2 o h1).trans h4⟩)
  · exact .inr (.inr ⟨i, h1, h2, Nat.lt_of_lt_of_le h3 hk.next, (hk.get i h3 fun hx => (hd i hx).1 h1).trans h4, h5⟩)
theorem Gr.new {lo : Nat} {H : Hp} {v : Value} {l : List α} (h : Gr enc sz lo H v l) (o : Ob) : Gr enc sz lo (H.new o) v l := h.keep (Keep.new (fun _ => False) H o) fun _ h => h.elim

/-- The cells of a slice. -/
theorem Sb.first (hs : ∀ a, (enc a).length = sz) {n : Nat} {H : Hp} {v : Value} {l : List α} (h : Sb enc n H v l) : firstCellsE sz l.length v H = some (encL enc l) := by
  rcases h with ⟨rfl, rfl⟩ | ⟨i, o, cap, x, cs, ro, rfl, h1, h2, h3⟩
  · rfl
  · cases l with
    | nil => rfl
    | cons a l =>
      rcases h3 with h3 | ⟨h3, h4⟩
      · cases h3
      · have hl := encL_len hs (a :: l)
        rw [hl] at h3 h4
        simp only [firstCellsE, nbeq_f (show ¬ (a :: l).length = 0 by simp), cond_false, readCells, h2, lrange, Nat.ble_eq_true_of_le h3, cond_true, h4]
theorem Sb.newC (hs : ∀ a, (enc a).length = sz) {n : Nat} {H : Hp} {v : Value} {l : List α} (h : Sb enc n H v l) {et : TI} (he : et.size = sz) : newCellsE et l.length v H = some (encL enc l) ∧ addedE v = some l.length := by
  have h1 := Sb.first hs h
  rcases h with ⟨rfl, rfl⟩ | ⟨i, o, cap, x, cs, ro, rfl, _⟩
  · exact ⟨by simp only [newCellsE, he]; exact h1, rfl⟩
  · exact ⟨by simp only [newCellsE, he]; exact h1, rfl⟩

theorem encL_one (ho : ∀ a, (enc a).all oneCell = true) (l : List α) : (encL enc l).all oneCell = true := by
  rw [List.all_eq_true]
  intro v hv
  simp only [encL, List.mem_flatMap] at hv
  obtain ⟨a, _, ha⟩ := hv
  exact List.all_eq_true.1 (ho a) v ha

/-- **APPEND.** -/
theorem Gr.app {C : Ctx} {ts tx : TypeId} (hT : SlT C ts sz) (hX : ∃ ti el, C.T tx = some ti ∧ ti.kind = .slice el) (hs : ∀ a, (enc a).length = sz) (ho : ∀ a, (enc a).all oneCell = true) {lo n : Nat} {H : Hp} {v1 v2 : Value} {l1 l2 : List α} (g : Gr enc sz lo H v1 l1) (s : Sb enc n H v2 l2) (hf : H.floor ≤ lo) (hlo : lo ≤ H.next) (hb : l1.length + l2.length < 1000000000) :
    ∃ v H', appendE C ts tx v1 v2 H = some (v, H') ∧ Gr enc sz lo H' v (l1 ++ l2) ∧ Keep (fun i => lo ≤ i ∧ v1 = .slice (some ⟨i, 0, some sz⟩) l1.length l1.length) H H' := by
  obtain ⟨ti, et, el, t1, t2, t3, t4, t5, t6, t7, t8⟩ := hT.ex
  subst t4
  obtain ⟨tj, el2, x1, x2⟩ := hX
  have hv2 : ∃ a n c, v2 = .slice a n c := by
    rcases s with ⟨rfl, _⟩ | ⟨i, o, cap, x, cs, ro, rfl, _⟩
    · exact ⟨_, _, _, rfl⟩
    · exact ⟨_, _, _, rfl⟩
  have hap : appendE C ts tx v1 v2 H = appendE.appendTo C el v1 v2 H := by
    obtain ⟨a, n, c, rfl⟩ := hv2
    simp only [appendE, t1, x1, t2, x2]
  obtain ⟨s1, s2⟩ := Sb.newC hs s rfl
  rw [hap]
  simp only [appendE.appendTo, t3, Option.bind_some, s2]
  have q2 : Nat.ble ((2 * (l1.length + l2.length) + 768) * et.bytes) 281474976710656 = true := Nat.ble_eq_true_of_le (Nat.le_trans (Nat.mul_le_mul_left (2 * (l1.length + l2.length) + 768) t7) (by omega))
  have q4 : Nat.ble 1 et.size = true := Nat.ble_eq_true_of_le (by omega)
  have q5 : Nat.ble 1 et.bytes = true := Nat.ble_eq_true_of_le t6
  have q6 : Nat.beq et.zero.length et.size = true := nbeq_t (by omega)
  by_cases h0 : l2 = []
  · subst h0
    rw [List.append_nil]
    refine ⟨v1, H, ?_, g, .refl _ _⟩
    rcases g with ⟨rfl, rfl⟩ | ⟨i, o, rfl, rfl, _⟩ | ⟨i, rfl, _⟩
    · rfl
    · simp only [List.length_nil, Nat.add_zero, Nat.ble_eq_true_of_le (Nat.le_refl _), cond_true] at s1 ⊢
      rw [s1]; rfl
    · simp only [List.length_nil, Nat.add_zero, Nat.ble_eq_true_of_le (Nat.le_refl _), cond_true] at s1 ⊢
      rw [s1]; rfl
  · have hl2 : 0 < l2.length := List.length_pos_iff.2 h0
    have fin : ∀ H', H'.next = H.next + 1 → H'.get H.next = some (.cells (encL enc (l1 ++ l2)) false) → Gr enc et.size lo H' (.slice (some ⟨H.next, 0, some et.size⟩) (l1.length + l2.length) (l1.length + l2.length)) (l1 ++ l2) := fun H' a b => by
      refine .inr (.inr ⟨H.next, ?_, hlo, by omega, b, fun e => h0 (List.append_eq_nil_iff.1 e).2⟩)
      rw [List.length_append]
    rcases g with ⟨rfl, rfl⟩ | ⟨i, o, rfl, rfl, _⟩ | ⟨i, rfl, g1, g2, g3, g4⟩
    · simp only [List.length_nil, nble_f (show ¬ 0 + l2.length ≤ 0 by omega), cond_false] at q2 ⊢
      simp only [q2, q4, q5, q6, Bool.and_self, cond_true]
      have : firstCellsE et.size 0 (.slice none 0 0) H = some [] := rfl
      rw [this, Option.bind_some, s1, Option.bind_some]
      exact ⟨_, H.new (.cells (encL enc ([] ++ l2)) false), rfl, fin _ (by rw [Hp.next_new]) (by rw [Hp.get_new, if_pos rfl]), .new _ _ _⟩
    · simp only [List.length_nil, nble_f (show ¬ 0 + l2.length ≤ 0 by omega), cond_false] at q2 ⊢
      simp only [q2, q4, q5, q6, Bool.and_self, cond_true]
      have : firstCellsE et.size 0 (.slice (some ⟨i, o, none⟩) 0 0) H = some [] := rfl
      rw [this, Option.bind_some, s1, Option.bind_some]
      exact ⟨_, H.new (.cells (encL enc ([] ++ l2)) false), rfl, fin _ (by rw [Hp.next_new]) (by rw [Hp.get_new, if_pos rfl]), .new _ _ _⟩
    · have hfst := Sb.first hs (Holds.sl (cap := l1.length) (x := some et.size) ⟨⟨false, g3⟩, g2⟩ : Sl enc H _ l1)
      simp only [nble_f (show ¬ l1.length + l2.length ≤ l1.length by omega), cond_false]
      simp only [q2, q4, q5, q6, Bool.and_self, cond_true]
      rw [hfst, Option.bind_some, s1, Option.bind_some]
      simp only [g3, nbeq_t rfl, encL_one ho, Bool.and_self, cond_true]
      rw [Hp.upd_eq (H := H.new (.cells (encL enc l1 ++ encL enc l2) false)) (Nat.le_trans hf g1)]
      refine ⟨_, _, rfl, ?_, ?_⟩
      · exact fin ((H.new (.cells (encL enc l1 ++ encL enc l2) false)).setO i .dead) (by rw [Hp.next_setO, Hp.next_new]) (by rw [Hp.get_setO, if_neg (by omega), Hp.get_new, if_pos rfl, encL_append])
      · exact (Keep.new _ _ (Ob.cells (encL enc l1 ++ encL enc l2) false)).trans (Keep.setO (D := fun j => lo ≤ j ∧ Value.slice (some ⟨i, 0, some et.size⟩) l1.length l1.length = .slice (some ⟨j, 0, some et.size⟩) l1.length l1.length) ⟨g1, rfl⟩ _ _)
end
end Go.Ahe.X
/-
  X, 12: ranges over functions: what the loop's object does.
-/
namespace Go.Ahe.X
open Go.Ahe

/-- The objects of one range. -/
structure IsL (L : LoopState → Option Code → Ob) : Prop where
  ex : ∃ e ps a b, ∀ st pend, L st pend = .loop st pend e ps a b
section
variable {L : LoopState → Option Code → Ob} (hL : IsL L) {y : Nat} {H : Hp}
include hL
theorem busyL (h : H.get y = some (L .ready none)) (hf : H.floor ≤ y) : busyE y H = some (H.setO y (L .busy none)) := by
  obtain ⟨e, ps, a, b, hl⟩ := hL.ex
  rw [hl] at h
  rw [busyE_eq h, Hp.upd_eq hf, hl]
theorem leaveN (h : H.get y = some (L .busy none)) (hf : H.floor ≤ y) : leaveE y H none = some (.bool true, H.setO y (L .ready none)) := by
  obtain ⟨e, ps, a, b, hl⟩ := hL.ex
  rw [hl] at h
  rw [leaveE_none h hf, hl]; rfl
theorem leaveS (h : H.get y = some (L .busy none)) (hf : H.floor ≤ y) (j : Code) : leaveE y H (some j) = some (.bool false, H.setO y (L .done (some j))) := by
  obtain ⟨e, ps, a, b, hl⟩ := hL.ex
  rw [hl] at h
  rw [leaveE_some h hf, hl]; rfl
theorem aftN (h : H.get y = some (L .ready none)) (hf : H.floor ≤ y) (kn : Hp → O) (ke : List (Nat × (Hp → O))) (kr : Hp → O) : aft y H kn ke kr = kn (H.setO y .dead) := by
  obtain ⟨e, ps, a, b, hl⟩ := hL.ex
  rw [hl] at h
  simp only [aft, h, Hp.upd_eq hf, Option.bind_some]
theorem aftE {id : Nat} (h : H.get y = some (L .done (some (.exit id)))) (hf : H.floor ≤ y) (kn : Hp → O) (ke : List (Nat × (Hp → O))) (kr : Hp → O) : aft y H kn ke kr = kEx id (H.setO y .dead) ke := by
  obtain ⟨e, ps, a, b, hl⟩ := hL.ex
  rw [hl] at h
  simp only [aft, h, Hp.upd_eq hf, Option.bind_some]
theorem aftR (h : H.get y = some (L .done (some .ret))) (hf : H.floor ≤ y) (kn : Hp → O) (ke : List (Nat × (Hp → O))) (kr : Hp → O) : aft y H kn ke kr = kr (H.setO y .dead) := by
  obtain ⟨e, ps, a, b, hl⟩ := hL.ex
  rw [hl] at h
  simp only [aft, h, Hp.upd_eq hf, Option.bind_some]
end
theorem rf_eq {C : Ctx} {call : CallE} {L : LoopState → Option Code → Ob} {H H' : Hp} {g : FuncId} {x z : Array Value} {af : AF} {v : Value} (hfn : C.fn g = some af) (hc : call (.func g) (x.toList ++ [.func (.yield H.next) #[] #[]] ++ z.toList) (H.new (L .ready none)) = some (v, H')) (kn : Hp → O) (ke : List (Nat × (Hp → O))) (kr : Hp → O) :
    rfX C call (.func (.func g) x z) L H kn ke kr = aft H.next H' kn ke kr := by
  simp only [rfX, calleeE, Option.bind_some, hfn, hc]
@[simp] theorem kEx_cons (i id : Nat) (k : Hp → O) (r : List (Nat × (Hp → O))) (H : Hp) : kEx id H ((i, k) :: r) = if id = i then k H else kEx id H r := by
  simp only [kEx]
  by_cases h : id = i
  · rw [nbeq_t h, cond_true, if_pos h]
  · rw [nbeq_f h, cond_false, if_neg h]
end Go.Ahe.X
/-
  X, 10: arguments that are slices of flat elements.
-/
namespace Go.Ahe.X
open Go.Ahe Go.RowKit

/-- The sizes of a world's blocks. -/
def sizes (w : World) (b : Nat) : Nat := match w.heap[b]? with
  | some (.cells C _ _) => C.size
  | _ => 0
def emb0 (w : World) : Emb := ⟨fun _ => none, sizes w⟩
theorem rel0 (w : World) : Rel w.heap.size (emb0 w) ⟨.nl, 0, 0⟩ w :=
  ⟨Nat.le_refl _, fun _ _ => rfl, fun i b p h => (by cases h), fun i o b p h1 h2 => (by cases h2), fun i j oi oj b p q h1 _ _ _ h5 => (by cases h5), fun i o b p _ _ h => (by cases h), Nat.le_refl _⟩

/-- One object more. -/
def Emb.more (ι : Emb) (i : Nat) (x : Nat × Nat) : Emb := ⟨fun j => if j = i then some x else ι j, ι.sz⟩
theorem more_le {base : Nat} {ι : Emb} {H : Hp} {w : World} (hr : Rel base ι H w) (x : Nat × Nat) : ι.le (Emb.more ι H.next x) := fun i b p h => by
  have hi := hr.lt h
  exact ⟨by show (if i = H.next then some x else ι i) = _; rw [if_neg (by omega)]; exact h, rfl⟩

theorem plainOb {ι : Emb} {v : Value} (h : plainCell v = true) : VR ι v v := VR.plainCell h

/-- All objects are for reading. -/
def AllRo (H : Hp) : Prop := ∀ i o, H.get i = some o → o.wr = false
theorem AllRo.empty : AllRo ⟨.nl, 0, 0⟩ := fun i o h => by cases h
theorem AllRo.new {H : Hp} (h : AllRo H) (cs : List Value) : AllRo (H.new (.cells cs true)) := fun i o hg => by
  rw [Hp.get_new] at hg
  by_cases hi : i = H.next
  · rw [if_pos hi] at hg; cases hg; rfl
  · rw [if_neg hi] at hg; exact h i o hg

theorem rel_more {base : Nat} {ι : Emb} {H : Hp} {w : World} (hr : Rel base ι H w) (hro : AllRo H) (hsz : ∀ b C E fz, w.heap[b]? = some (.cells C E fz) → ι.sz b = C.size) {b p : Nat} {C : Array Value} {E : TypeId} {fz : Nat × Nat} (hb : w.heap[b]? = some (.cells C E fz)) {cs : List Value}
    (hl : p + cs.length ≤ C.size) (hv : ∀ k v, cs[k]? = some v → C[p + k]? = some v ∧ plainCell v = true) : Rel base (Emb.more ι H.next (b, p)) (H.new (.cells cs true)) w := by
  have hget : ∀ i o, (H.new (.cells cs true)).get i = some o → (i = H.next ∧ o = .cells cs true) ∨ (i ≠ H.next ∧ H.get i = some o) := fun i o h => by
    rw [Hp.get_new] at h
    by_cases hi : i = H.next
    · rw [if_pos hi] at h; cases h; exact .inl ⟨hi, rfl⟩
    · rw [if_neg hi] at h; exact .inr ⟨hi, h⟩
  have hat : ∀ i, Emb.more ι H.next (b, p) i = if i = H.next then some (b, p) else ι i := fun i => rfl
  refine ⟨?_, ?_, ?_, ?_, ?_, ?_, hr.bs⟩
  · simpa using le_more hr.flo
  · intro i hi
    rw [Hp.next_new] at hi
    rw [hat, if_neg (by omega)]
    exact hr.dom i (by omega)
  · intro i b' p' h
    rw [hat] at h
    by_cases hi : i = H.next
    · rw [if_pos hi] at h; cases h; exact (Array.getElem?_eq_some_iff.1 hb).1
    · rw [if_neg hi] at h; exact hr.bnd i b' p' h
  · intro i o b' p' ho h
    rw [hat] at h
    rcases hget i o ho with ⟨hi, rfl⟩ | ⟨hi, ho⟩
    · rw [if_pos hi] at h; cases h
      exact ⟨C, E, fz, hb, (fun h => by cases h), ⟨hl, (hsz b C E fz hb).symm⟩, fun k v hk => ⟨v, (hv k v hk).1, VR.plainCell (hv k v hk).2⟩⟩
    · rw [if_neg hi] at h
      exact (hr.ob i o b' p' ho h).mono (more_le hr (b, p)) rfl
  · intro i j oi oj b' p' q' hi hj hwr _ _ _
    rcases hget i oi hi with ⟨_, rfl⟩ | ⟨_, h⟩
    · cases hwr
    · rw [hro i oi h] at hwr; cases hwr
  · intro i o b' p' hi hwr _
    rcases hget i o hi with ⟨_, rfl⟩ | ⟨_, h⟩
    · cases hwr
    · rw [hro i o h] at hwr; cases hwr

section
variable {Hd : Type} {enc : TypeId × Value → Hd} {Pg : Program} {w : World} {base : Nat} {spare : Nat → Bool} {held : Bool}

theorem cells_at {b0 : Nat} {a : Addr} : ∀ {n : Nat} {cs : List Value}, w.cells? b0 a n = some cs → cs.length = n ∧ ∀ j v, cs[j]? = some v → w.cell? (a.add j) = some v := fun {n cs} h => by
  unfold World.cells? at h
  split at h
  · have key : ∀ (l : List Nat) (cs : List Value), (l.mapM fun i => w.cell? (a.add i)) = some cs → cs.length = l.length ∧ ∀ (j : Nat) (v : Value), cs[j]? = some v → ∃ i, l[j]? = some i ∧ w.cell? (a.add i) = some v := by
      intro l
      induction l with
      | nil => intro cs h; simp at h; subst h; exact ⟨rfl, fun j v hj => by simp at hj⟩
      | cons x l ih =>
        intro cs h
        rw [List.mapM_cons] at h
        cases hx : w.cell? (a.add x) with
        | none => rw [hx] at h; cases h
        | some y =>
          rw [hx] at h
          cases hm : (l.mapM fun i => w.cell? (a.add i)) with
          | none => rw [hm] at h; cases h
          | some r =>
            rw [hm] at h
            cases h
            obtain ⟨h1, h2⟩ := ih r hm
            refine ⟨by simp [h1], fun j v hj => ?_⟩
            cases j with
            | zero => simp at hj; subst hj; exact ⟨x, rfl, hx⟩
            | succ j => simpa using h2 j v (by simpa using hj)
    obtain ⟨h1, h2⟩ := key _ _ h
    refine ⟨by simpa using h1, fun j v hj => ?_⟩
    obtain ⟨i, hi, hc⟩ := h2 j v hj
    have := List.getElem?_eq_some_iff.1 hi
    obtain ⟨hlt, hi⟩ := this
    simp at hi
    subst hi
    exact hc
  · cases h

theorem cellsAre_len : ∀ {ks : List FlatK} {cs : List Value}, cellsAre ks cs → cs.length = ks.length
  | [], [], _ => rfl
  | [], _ :: _, h => h.elim
  | _ :: _, [], h => h.elim
  | _ :: _, _ :: _, h => by simp [cellsAre_len h.2]
theorem FlatK.plain {k : FlatK} {v : Value} (h : k.is v) : plainCell v = true := by
  cases k with
  | bool => obtain ⟨b, rfl⟩ := h; rfl
  | int k => obtain ⟨n, rfl, _⟩ := h; rfl
  | str => obtain ⟨s, rfl, _⟩ := h; rfl
theorem cellsAre_plain : ∀ {ks : List FlatK} {cs : List Value}, cellsAre ks cs → ∀ v ∈ cs, plainCell v = true
  | [], [], _, v, hv => by cases hv
  | [], _ :: _, h, _, _ => h.elim
  | _ :: _, [], h, _, _ => h.elim
  | _ :: _, _ :: _, h, v, hv => by
    rcases List.mem_cons.1 hv with rfl | hv
    · exact FlatK.plain h.1
    · exact cellsAre_plain h.2 v hv

theorem add_eq (b off k : Nat) : (⟨b, off, none⟩ : Addr).add k = ⟨b, off + k, none⟩ := by
  unfold Addr.add
  split
  · rename_i h; subst h; rfl
  · rfl

/-- **A SLICE OF FLAT ELEMENTS**, opened: the elements' cells, and where they lie. -/
theorem open_flat_slice {t e : TypeId} {d : Nat} {ks : List FlatK} {v : Value} {x : DataW Hd} {ps : List MemPlace} (ht : Pg.underlying t = some (.slice e)) (hk : flatKs Pg d e = some ks) (hc : Pg.cellsOf e = ks.length)
    (hval : Value.okWide Pg w .any base t v) (hd : DataW.Trod enc Pg w 0 spare held t v x ps) :
    v = .slice none 0 0 ∨ ∃ (b off len cap : Nat) (C : Array Value) (E : TypeId) (fz : Nat × Nat) (css : List (List Value)), v = .slice (some ⟨b, off, none⟩) len cap ∧ css.length = len ∧ (∀ cs ∈ css, cellsAre ks cs) ∧ w.heap[b]? = some (.cells C E fz) ∧
      ∀ i cs, css[i]? = some cs → ∀ j u, cs[j]? = some u → C[off + (i * ks.length + j)]? = some u := by
  obtain ⟨a0, len, cap, rfl⟩ := Go.WideShapes.okWide_slice ht hval
  obtain ⟨fuel, hf⟩ := hd
  rcases DataW.trod_slice ht hf with ⟨h0, _⟩ | ⟨a, len', cap', elems, rest, n, _, h0, _, _, _, _, hlen, hel, _, _⟩
  · left; simpa [Value.cells] using h0
  · right
    simp [Value.cells] at h0
    obtain ⟨rfl, rfl, rfl⟩ := h0
    -- the block
    have hok : Cell.ok Pg w .any base t (.slice (some a) len cap) := by
      unfold Value.okWide at hval; rw [ht] at hval
      simp only [Cell.okWide, ht] at hval
      exact hval
    simp only [Cell.ok, ht, World.has] at hok
    obtain ⟨_, _, _, hspot, row, cells, hsh, _⟩ := hok
    obtain ⟨b, off, spot⟩ := a
    simp only at hspot hsh
    subst hspot
    unfold World.shape? at hsh
    cases hb : w.heap[b]? with
    | none => rw [hb] at hsh; cases hsh
    | some ob =>
      cases ob with
      | cells C E fz =>
        let cf : Nat → List Value := fun i => (w.cells? 0 ((⟨b, off, none⟩ : Addr).add (i * Pg.cellsOf e)) (Pg.cellsOf e)).getD []
        have hcf : ∀ i, i < len → w.cells? 0 ((⟨b, off, none⟩ : Addr).add (i * Pg.cellsOf e)) (Pg.cellsOf e) = some (cf i) ∧ cellsAre ks (cf i) := fun i hi => by
          have h1 := hel i hi
          have hs : elems[i]? = some (elems[i]'(by omega)) := List.getElem?_eq_getElem (by omega)
          rw [hs, Option.bind_eq_some_iff] at h1
          obtain ⟨cs, h2, h3⟩ := h1
          have : cf i = cs := by show Option.getD _ [] = cs; rw [h2]; rfl
          rw [this]
          exact ⟨h2, open_flat d e ks hk n cs _ h3⟩
        refine ⟨b, off, len, cap, C, E, fz, (List.range len).map cf, rfl, by simp, fun cs hcs => ?_, hb, fun i cs hi j u hj => ?_⟩
        · obtain ⟨i, hi, rfl⟩ := List.mem_map.1 hcs
          exact (hcf i (by simpa using hi)).2
        · rw [List.getElem?_map] at hi
          obtain ⟨i', hi', rfl⟩ := Option.map_eq_some_iff.1 hi
          obtain ⟨hlt, hi'⟩ := List.getElem?_eq_some_iff.1 hi'
          simp at hi' hlt
          subst hi'
          have h1 := (cells_at (hcf i hlt).1).2 j u hj
          rw [add_eq, add_eq] at h1
          unfold World.cell? at h1
          simp only [hb] at h1
          rw [← hc, ← Nat.add_assoc]
          simpa using h1
      | _ => rw [hb] at hsh; cases hsh
end

/-! ### A list out of cells -/
/-- Cells of elements as a list of what they stand for. -/
theorem list_of {α : Type} {en : α → List Value} {ks : List FlatK} (h : ∀ cs, cellsAre ks cs → ∃ a, en a = cs) : ∀ {css : List (List Value)}, (∀ cs ∈ css, cellsAre ks cs) → ∃ l : List α, css = l.map en
  | [], _ => ⟨[], rfl⟩
  | cs :: css, hc => by
    obtain ⟨a, ha⟩ := h cs (hc cs (List.mem_cons_self ..))
    obtain ⟨l, hl⟩ := list_of h fun x hx => hc x (List.mem_cons_of_mem _ hx)
    exact ⟨a :: l, by rw [List.map_cons, ha, hl]⟩

theorem encL_index {α : Type} {en : α → List Value} {sz : Nat} (hs : ∀ a, (en a).length = sz) : ∀ (l : List α) (k : Nat) (v : Value), (encL en l)[k]? = some v → ∃ i j a, l[i]? = some a ∧ (en a)[j]? = some v ∧ k = i * sz + j
  | [], k, v, h => by simp [encL] at h
  | a :: l, k, v, h => by
    rw [encL_cons] at h
    by_cases hk : k < (en a).length
    · rw [List.getElem?_append_left hk] at h
      exact ⟨0, k, a, rfl, h, by simp⟩
    · rw [List.getElem?_append_right (by omega), hs] at h
      obtain ⟨i, j, b, h1, h2, h3⟩ := encL_index hs l _ v h
      refine ⟨i + 1, j, b, by simpa using h1, h2, ?_⟩
      rw [hs] at hk
      rw [Nat.succ_mul]
      omega

/-- **ONE MORE ARGUMENT THAT IS A SLICE**: a heap and an embedding for it. -/
theorem slice_arg {α : Type} {en : α → List Value} {sz : Nat} (hs : ∀ a, (en a).length = sz) (hs1 : 0 < sz) (hpl : ∀ a v, v ∈ en a → plainCell v = true) {w : World} {ι : Emb} {H : Hp} (hr : Rel w.heap.size ι H w) (hro : AllRo H) (hsz : ι.sz = sizes w) {v : Value} {l : List α}
    (hv : (v = .slice none 0 0 ∧ l = []) ∨ ∃ (b off cap : Nat) (C : Array Value) (E : TypeId) (fz : Nat × Nat), v = .slice (some ⟨b, off, none⟩) l.length cap ∧ w.heap[b]? = some (.cells C E fz) ∧ ∀ i a, l[i]? = some a → ∀ j u, (en a)[j]? = some u → C[off + (i * sz + j)]? = some u) :
    ∃ (u : Value) (ι' : Emb) (H' : Hp), Rel w.heap.size ι' H' w ∧ AllRo H' ∧ ι'.sz = sizes w ∧ ι.le ι' ∧ VR ι' u v ∧ Sl en H' u l ∧ (H' = H ∨ ∃ o, H' = H.new o) := by
  have hsz' : ∀ b C E fz, w.heap[b]? = some (.cells C E fz) → ι.sz b = C.size := fun b C E fz hb => by rw [hsz]; unfold sizes; rw [hb]
  rcases hv with ⟨rfl, rfl⟩ | ⟨b, off, cap, C, E, fz, rfl, hb, hc⟩
  · exact ⟨_, ι, H, hr, hro, hsz, fun i b p h => ⟨h, rfl⟩, .nils, .inl ⟨rfl, rfl⟩, .inl rfl⟩
  · by_cases hl : encL en l = []
    · have hr' := rel_more hr hro hsz' (p := 0) (cs := []) hb (by simp) (fun k v hk => by simp at hk)
      have h1 : (Emb.more ι H.next (b, 0)) H.next = some (b, 0) := if_pos rfl
      by_cases hll : l = []
      · subst hll
        refine ⟨.slice (some ⟨H.next, off, none⟩) 0 cap, _, _, hr', hro.new _, hsz, more_le hr _, ?_, .inr ⟨H.next, off, cap, none, [], true, rfl, by simp, ?_, .inl rfl⟩, .inr ⟨_, rfl⟩⟩
        · have := VR.slice (l := 0) (c := cap) (o := off) h1
          rw [Nat.zero_add] at this
          exact this
        · rw [Hp.get_new, if_pos rfl]
      · exfalso
        cases l with
        | nil => exact hll rfl
        | cons a l =>
          rw [encL_cons] at hl
          have := hs a
          rw [(List.append_eq_nil_iff.1 hl).1] at this
          simp at this
          omega
    · have hlen : off + (encL en l).length ≤ C.size := by
        have hne : 0 < (encL en l).length := List.length_pos_iff.2 hl
        have hk : (encL en l)[(encL en l).length - 1]? = some ((encL en l)[(encL en l).length - 1]'(by omega)) := List.getElem?_eq_getElem (by omega)
        obtain ⟨i, j, a, h1, h2, h3⟩ := encL_index hs l _ _ hk
        have := hc i a h1 j _ h2
        have := (Array.getElem?_eq_some_iff.1 this).1
        omega
      have hr' := rel_more hr hro hsz' (p := off) (cs := encL en l) hb hlen (fun k v hk => by
        obtain ⟨i, j, a, h1, h2, h3⟩ := encL_index hs l _ _ hk
        exact ⟨by rw [h3]; exact hc i a h1 j _ h2, hpl a v (List.mem_of_getElem? h2)⟩)
      have h1 : (Emb.more ι H.next (b, off)) H.next = some (b, off) := if_pos rfl
      refine ⟨.slice (some ⟨H.next, 0, none⟩) l.length cap, _, _, hr', hro.new _, hsz, more_le hr _, ?_, Holds.sl ⟨⟨true, ?_⟩, by simp⟩, .inr ⟨_, rfl⟩⟩
      · exact VR.slice (l := l.length) (c := cap) (o := 0) h1
      · rw [Hp.get_new, if_pos rfl]
end Go.Ahe.X
