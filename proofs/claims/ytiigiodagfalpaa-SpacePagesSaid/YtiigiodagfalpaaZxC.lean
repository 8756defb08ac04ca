/-
  X, 9: slices that read as lists.
-/
import Derived.Test.YtiigiodagfalpaaZxB
import Derived.Lib.Overlaps
import Derived.ChangeArms
namespace Go.Ahe.X
open Go.Ahe

/-- The cells of a list. -/
def encL {α : Type} (enc : α → List Value) (l : List α) : List Value := l.flatMap enc

section
variable {α : Type} {enc : α → List Value} {sz : Nat}
theorem encL_nil : encL enc [] = [] := rfl
theorem encL_cons (a : α) (l : List α) : encL enc (a :: l) = enc a ++ encL enc l := rfl
theorem encL_append (a b : List α) : encL enc (a ++ b) = encL enc a ++ encL enc b := by simp [encL]
theorem encL_len (h : ∀ a, (enc a).length = sz) : ∀ l : List α, (encL enc l).length = l.length * sz
  | [] => by simp [encL]
  | a :: l => by rw [encL_cons, List.length_append, h, encL_len h l, List.length_cons, Nat.succ_mul, Nat.add_comm]
theorem encL_at (h : ∀ a, (enc a).length = sz) : ∀ (l : List α) (k : Nat) (hk : k < l.length), ((encL enc l).drop (k * sz)).take sz = enc l[k]
  | a :: l, 0, _ => by rw [encL_cons, Nat.zero_mul, List.drop_zero, ← h a, List.take_left]; rfl
  | a :: l, k + 1, hk => by
    rw [encL_cons, Nat.succ_mul, Nat.add_comm, ← List.drop_drop]
    have : (enc a ++ encL enc l).drop sz = encL enc l := by rw [← h a, List.drop_left]
    rw [this]
    exact encL_at h l k (by simpa using hk)
theorem encL_in (h : ∀ a, (enc a).length = sz) (l : List α) {k : Nat} (hk : k < l.length) : k * sz + sz ≤ (encL enc l).length := by
  rw [encL_len h]
  have := Nat.mul_le_mul_right sz (show k + 1 ≤ l.length by omega)
  rw [Nat.succ_mul] at this
  exact this

/-- An object that holds a list. -/
structure Holds (enc : α → List Value) (H : Hp) (i : Nat) (l : List α) : Prop where
  get : ∃ ro, H.get i = some (.cells (encL enc l) ro)
  lt : i < H.next

theorem Holds.new {H : Hp} {i : Nat} {l : List α} (h : Holds enc H i l) (o : Ob) : Holds enc (H.new o) i l :=
  ⟨by obtain ⟨ro, hg⟩ := h.get; exact ⟨ro, by rw [Hp.get_new, if_neg (Nat.ne_of_lt h.lt)]; exact hg⟩, by rw [Hp.next_new]; exact Nat.lt_succ_of_lt h.lt⟩
theorem Holds.raised {H : Hp} {i : Nat} {l : List α} (h : Holds enc H i l) : Holds enc H.raised i l := ⟨h.get, h.lt⟩
theorem Holds.setO {H : Hp} {i j : Nat} {l : List α} (h : Holds enc H i l) (hj : i ≠ j) (o : Ob) : Holds enc (H.setO j o) i l :=
  ⟨by obtain ⟨ro, hg⟩ := h.get; exact ⟨ro, by rw [Hp.get_setO, if_neg hj]; exact hg⟩, h.lt⟩
theorem Holds.ldA (hs : ∀ a, (enc a).length = sz) {H : Hp} {i : Nat} {l : List α} (h : Holds enc H i l) {k : Nat} (hk : k < l.length) : ldA sz (P i (k * sz)) H = some (.agg (enc l[k]).toArray) := by
  obtain ⟨ro, hg⟩ := h.get
  rw [ldA_get hg, if_pos (encL_in hs l hk), encL_at hs l k hk]
theorem Holds.ld1 (hs : ∀ a, (enc a).length = 1) {H : Hp} {i : Nat} {l : List α} (h : Holds enc H i l) {k : Nat} (hk : k < l.length) {v : Value} (hv : enc l[k] = [v]) : ld1 (P i (k * 1)) H = some v := by
  obtain ⟨ro, hg⟩ := h.get
  rw [ld1_get hg]
  have h1 := encL_at hs l k hk
  rw [hv] at h1
  rw [Nat.mul_one] at h1 ⊢
  have h2 : ((encL enc l).drop k).take 1 = [v] := h1
  cases hd : (encL enc l).drop k with
  | nil => rw [hd] at h2; cases h2
  | cons a r =>
    rw [hd] at h2
    simp at h2
    subst h2
    have := congrArg List.head? hd
    simpa using this

/-- All stays but for some objects. -/
structure Keep (D : Nat → Prop) (H H' : Hp) : Prop where
  next : H.next ≤ H'.next
  floor : H'.floor = H.floor
  get : ∀ i, i < H.next → ¬ D i → H'.get i = H.get i
theorem Keep.refl (D : Nat → Prop) (H : Hp) : Keep D H H := ⟨Nat.le_refl _, rfl, fun _ _ _ => rfl⟩
theorem Keep.trans {D : Nat → Prop} {H H1 H2 : Hp} (h1 : Keep D H H1) (h2 : Keep D H1 H2) : Keep D H H2 :=
  ⟨Nat.le_trans h1.next h2.next, h2.floor.trans h1.floor, fun i hi hd => (h2.get i (Nat.lt_of_lt_of_le hi h1.next) hd).trans (h1.get i hi hd)⟩
theorem Keep.new (D : Nat → Prop) (H : Hp) (o : Ob) : Keep D H (H.new o) :=
  ⟨by rw [Hp.next_new]; exact Nat.le_succ _, rfl, fun i hi _ => by rw [Hp.get_new, if_neg (Nat.ne_of_lt hi)]⟩
theorem Keep.setO {D : Nat → Prop} {i : Nat} (h : D i) (H : Hp) (o : Ob) : Keep D H (H.setO i o) :=
  ⟨Nat.le_refl _, rfl, fun j _ hd => by rw [Hp.get_setO, if_neg fun e => hd (by rw [e]; exact h)]⟩
theorem Keep.mono {D D' : Nat → Prop} {H H' : Hp} (h : Keep D H H') (hd : ∀ i, i < H.next → D i → D' i) : Keep D' H H' := ⟨h.next, h.floor, fun i hi hn => h.get i hi fun hx => hn (hd i hi hx)⟩
theorem Keep.newSet {D : Nat → Prop} {H H1 : Hp} (h : Keep D H H1) {i : Nat} (hi : H.next ≤ i) (o : Ob) : Keep D H (H1.setO i o) :=
  ⟨h.next, h.floor, fun j hj hd => by rw [Hp.get_setO, if_neg (by omega)]; exact h.get j hj hd⟩
theorem Keep.lowered {D : Nat → Prop} {H H1 : Hp} (h : Keep D H.raised H1) : Keep D H (H1.lowered H.floor) := ⟨h.next, rfl, h.get⟩
theorem Keep.next_new {D : Nat → Prop} {H H1 : Hp} {o : Ob} (h : Keep D H H1) : H.next ≤ (H1.new o).next := Nat.le_trans h.next (by rw [Hp.next_new]; exact Nat.le_succ _)

/-- A slice that reads as a list: nil, or in an object of some kind. -/
def Sp (enc : α → List Value) (Q : Nat → Prop) (H : Hp) (v : Value) (l : List α) : Prop :=
  (v = .slice none 0 0 ∧ l = []) ∨ ∃ (i o cap : Nat) (x : Option Nat) (cs : List Value) (ro : Bool), v = .slice (some ⟨i, o, x⟩) l.length cap ∧ Q i ∧ H.get i = some (.cells cs ro) ∧ (l = [] ∨ (o + (encL enc l).length ≤ cs.length ∧ (cs.drop o).take (encL enc l).length = encL enc l))
/-- .. below a bound. -/
abbrev Sb (enc : α → List Value) (n : Nat) (H : Hp) (v : Value) (l : List α) : Prop := Sp enc (fun i => i < n) H v l
abbrev Sl (enc : α → List Value) (H : Hp) (v : Value) (l : List α) : Prop := Sb enc H.next H v l
theorem Sp.same {Q Q' : Nat → Prop} {H H' : Hp} {v : Value} {l : List α} (h : Sp enc Q H v l) (hm : ∀ i, Q i → Q' i) (hk : ∀ i, Q i → H'.get i = H.get i) : Sp enc Q' H' v l :=
  h.imp id fun ⟨i, o, cap, x, cs, ro, h1, h2, h3, h4⟩ => ⟨i, o, cap, x, cs, ro, h1, hm i h2, (hk i h2).trans h3, h4⟩
theorem Sp.keep {Q D : Nat → Prop} {H H' : Hp} {v : Value} {l : List α} (h : Sp enc Q H v l) (hk : Keep D H H') (hd : ∀ i, Q i → i < H.next ∧ ¬ D i) : Sp enc Q H' v l :=
  h.same (fun _ h => h) fun i hi => hk.get i (hd i hi).1 (hd i hi).2
theorem Sp.len {Q : Nat → Prop} {H : Hp} {v : Value} {l : List α} (h : Sp enc Q H v l) : lnS v = some (I l.length) := by
  rcases h with ⟨rfl, rfl⟩ | ⟨i, o, cap, x, cs, ro, rfl, _⟩ <;> rfl

theorem Sb.len {n : Nat} {H : Hp} {v : Value} {l : List α} (h : Sb enc n H v l) : lnS v = some (I l.length) := by
  rcases h with ⟨rfl, rfl⟩ | ⟨i, o, cap, x, cs, ro, rfl, _⟩ <;> rfl
theorem Sl.len {H : Hp} {v : Value} {l : List α} (h : Sl enc H v l) : lnS v = some (I l.length) := Sb.len h
theorem Sb.same {n m : Nat} {H H' : Hp} {v : Value} {l : List α} (h : Sb enc n H v l) (hm : n ≤ m) (hk : ∀ i, i < n → H'.get i = H.get i) : Sb enc m H' v l :=
  h.imp id fun ⟨i, o, cap, x, cs, ro, h1, h2, h3, h4⟩ => ⟨i, o, cap, x, cs, ro, h1, Nat.lt_of_lt_of_le h2 hm, (hk i h2).trans h3, h4⟩
theorem Sb.keep {n : Nat} {D : Nat → Prop} {H H' : Hp} {v : Value} {l : List α} (h : Sb enc n H v l) (hn : n ≤ H.next) (hk : Keep D H H') (hd : ∀ i, i < n → ¬ D i) : Sb enc n H' v l :=
  h.same (Nat.le_refl _) fun i hi => hk.get i (Nat.lt_of_lt_of_le hi hn) (hd i hi)
theorem Sb.mono {n m : Nat} {H : Hp} {v : Value} {l : List α} (h : Sb enc n H v l) (hm : n ≤ m) : Sb enc m H v l := h.same hm fun _ _ => rfl
theorem Sb.sl {n : Nat} {H : Hp} {v : Value} {l : List α} (h : Sb enc n H v l) (hm : n ≤ H.next) : Sl enc H v l := h.mono hm
theorem Sb.new {n : Nat} {H : Hp} {v : Value} {l : List α} (h : Sb enc n H v l) (hn : n ≤ H.next) (o : Ob) : Sb enc n (H.new o) v l := h.same (Nat.le_refl _) fun i hi => by rw [Hp.get_new, if_neg (by omega)]
theorem Sb.setO {n : Nat} {H : Hp} {v : Value} {l : List α} (h : Sb enc n H v l) {j : Nat} (hj : n ≤ j) (o : Ob) : Sb enc n (H.setO j o) v l := h.same (Nat.le_refl _) fun i hi => by rw [Hp.get_setO, if_neg (by omega)]
theorem Sl.new {H : Hp} {v : Value} {l : List α} (h : Sl enc H v l) (o : Ob) : Sl enc (H.new o) v l := (Sb.new h (Nat.le_refl _) o).mono (by rw [Hp.next_new]; exact Nat.le_succ _)
theorem Sl.raised {H : Hp} {v : Value} {l : List α} (h : Sl enc H v l) : Sl enc H.raised v l := h
theorem Sb.fresh {n : Nat} {H : Hp} {v : Value} {l : List α} (h : Sb enc n H v l) {args : List Value} (hv : v ∈ args) : Sb enc n (H.fresh args) v l := by
  rcases h with ⟨rfl, rfl⟩ | ⟨i, p, cap, x, cs, ro, rfl, h3, h2⟩
  · exact .inl ⟨rfl, rfl⟩
  · have : args.all plainV = false := by
      rw [Bool.eq_false_iff]
      intro hc
      have := List.all_eq_true.1 hc _ hv
      cases this
    unfold Hp.fresh
    rw [this, cond_false]
    exact .inr ⟨i, p, cap, x, cs, ro, rfl, h3, h2⟩
theorem Sl.fresh {H : Hp} {v : Value} {l : List α} (h : Sl enc H v l) {args : List Value} (hv : v ∈ args) : Sl enc (H.fresh args) v l := by
  rcases h with ⟨rfl, rfl⟩ | ⟨i, p, cap, x, cs, ro, rfl, h3, h2⟩
  · exact .inl ⟨rfl, rfl⟩
  · have : args.all plainV = false := by
      rw [Bool.eq_false_iff]
      intro hc
      have := List.all_eq_true.1 hc _ hv
      cases this
    unfold Hp.fresh
    rw [this, cond_false]
    exact .inr ⟨i, p, cap, x, cs, ro, rfl, h3, h2⟩
theorem Holds.sl {H : Hp} {i cap : Nat} {x : Option Nat} {l : List α} (h : Holds enc H i l) : Sl enc H (.slice (some ⟨i, 0, x⟩) l.length cap) l := by
  obtain ⟨ro, hg⟩ := h.get
  exact .inr ⟨i, 0, cap, x, _, ro, rfl, h.lt, hg, .inr ⟨by omega, by rw [List.drop_zero, List.take_length]⟩⟩
/-- The k-th element's place, and what lies there. -/
theorem Sb.at (hs : ∀ a, (enc a).length = sz) {n : Nat} {H : Hp} {v : Value} {l : List α} (h : Sb enc n H v l) {k : Nat} (hk : k < l.length) :
    ∃ i o, i < n ∧ ixS sz v (I k) = some (P i o) ∧ ldA sz (P i o) H = some (.agg (enc l[k]).toArray) ∧ ∀ j, j < sz → ld1 (P i (o + j)) H = (enc l[k])[j]? := by
  rcases h with ⟨rfl, rfl⟩ | ⟨i, o, cap, x, cs, ro, rfl, h1, h2, h3⟩
  · simp at hk
  · rcases h3 with rfl | ⟨h4, h5⟩
    · simp at hk
    · have hin := encL_in hs l hk
      have hat := encL_at hs l k hk
      rw [← h5] at hat
      have hcut : (cs.drop (o + k * sz)).take sz = enc l[k] := by
        rw [← hat, List.drop_take, List.take_take, List.drop_drop]
        congr 1
        omega
      refine ⟨i, o + k * sz, h1, ?_, ?_, fun j hj => ?_⟩
      · simp only [ixS, nat?_ofNat]
        rw [show Nat.blt k l.length = true by simp [Nat.blt]; omega]
        simp
      · rw [ldA_get h2, if_pos (by omega), hcut]
      · rw [ld1_get h2, ← hcut, List.getElem?_take_of_lt hj, List.getElem?_drop]
theorem Sl.at (hs : ∀ a, (enc a).length = sz) {H : Hp} {v : Value} {l : List α} (h : Sl enc H v l) {k : Nat} (hk : k < l.length) :
    ∃ i o, i < H.next ∧ ixS sz v (I k) = some (P i o) ∧ ldA sz (P i o) H = some (.agg (enc l[k]).toArray) := by
  obtain ⟨i, o, h1, h2, h3, _⟩ := Sb.at hs h hk
  exact ⟨i, o, h1, h2, h3⟩
end
end Go.Ahe.X
/-
  X, 11: slices that are made by append.
-/
namespace Go.Ahe.X
open Go.Ahe

/-- A type of slices, and its elements: so many cells each. -/
structure SlT (C : Ctx) (t : TypeId) (sz : Nat) : Prop where
  ex : ∃ (ti et : TI) (el : TypeId), C.T t = some ti ∧ ti.kind = .slice el ∧ C.T el = some et ∧ et.size = sz ∧ 1 ≤ sz ∧ 1 ≤ et.bytes ∧ et.bytes ≤ 4096 ∧ et.zero.length = sz

theorem nble_f {a b : Nat} (h : ¬ a ≤ b) : Nat.ble a b = false := by
  cases hq : Nat.ble a b with
  | false => rfl
  | true => exact absurd (Nat.le_of_ble_eq_true hq) h

section
variable {α : Type} {enc : α → List Value} {sz : Nat}
/-- A slice made by append: at ids from a bound on. -/
def Gr (enc : α → List Value) (sz lo : Nat) (H : Hp) (v : Value) (l : List α) : Prop :=
  (v = .slice none 0 0 ∧ l = []) ∨ (∃ i o, v = .slice (some ⟨i, o, none⟩) 0 0 ∧ l = [] ∧ lo ≤ i ∧ i < H.next ∧ ∃ cs ro, H.get i = some (.cells cs ro)) ∨
    ∃ i, v = .slice (some ⟨i, 0, some sz⟩) l.length l.length ∧ lo ≤ i ∧ i < H.next ∧ H.get i = some (.cells (encL enc l) false) ∧ l ≠ []

theorem Gr.sl {lo : Nat} {H : Hp} {v : Value} {l : List α} (h : Gr enc sz lo H v l) : Sl enc H v l := by
  rcases h with ⟨rfl, rfl⟩ | ⟨i, o, rfl, rfl, _, h1, cs, ro, h2⟩ | ⟨i, rfl, _, h1, h2, _⟩
  · exact .inl ⟨rfl, rfl⟩
  · exact .inr ⟨i, o, 0, none, cs, ro, rfl, h1, h2, .inl rfl⟩
  · exact Holds.sl ⟨⟨false, h2⟩, h1⟩
/-- Where it lies. -/
theorem Gr.sp {lo : Nat} {H : Hp} {v : Value} {l : List α} (h : Gr enc sz lo H v l) : Sp enc (fun i => lo ≤ i ∧ i < H.next) H v l := by
  rcases h with ⟨rfl, rfl⟩ | ⟨i, o, rfl, rfl, h0, h1, cs, ro, h2⟩ | ⟨i, rfl, h0, h1, h2, _⟩
  · exact .inl ⟨rfl, rfl⟩
  · exact .inr ⟨i, o, 0, none, cs, ro, rfl, ⟨h0, h1⟩, h2, .inl rfl⟩
  · exact .inr ⟨i, 0, _, _, _, _, rfl, ⟨h0, h1⟩, h2, .inr ⟨by omega, by rw [List.drop_zero, List.take_length]⟩⟩
theorem Gr.len {lo : Nat} {H : Hp} {v : Value} {l : List α} (h : Gr enc sz lo H v l) : lnS v = some (I l.length) := Sb.len h.sl
theorem Gr.nil {lo : Nat} {H : Hp} : Gr enc sz lo H (.slice none 0 0) [] := .inl ⟨rfl, rfl⟩
theorem Gr.keep {lo : Nat} {D : Nat → Prop} {H H' : Hp} {v : Value} {l : List α} (h : Gr enc sz lo H v l) (hk : Keep D H H') (hd : ∀ i, D i → v ≠ .slice (some ⟨i, 0, some sz⟩) l.length l.length ∧ ∀ o, v ≠ .slice (some ⟨i, o, none⟩) 0 0) : Gr enc sz lo H' v l := by
  rcases h with h | ⟨i, o, h1, h2, h0, h3, cs, ro, h4⟩ | ⟨i, h1, h2, h3, h4, h5⟩
  · exact .inl h
  · exact .inr (.inl ⟨i, o, h1, h2, h0, Nat.lt_of_lt_of_le h3 hk.next, cs, ro, (hk.get i h3 fun hx => (hd i hx).2 o h1).trans h4⟩)
  · exact .inr (.inr ⟨i, h1, h2, Nat.lt_of_lt_of_le h3 hk.next, (hk.get i h3 fun hx => (hd i hx).1 h1).trans h4, h5⟩)
theorem Gr.new {lo : Nat} {H : Hp} {v : Value} {l : List α} (h : Gr enc sz lo H v l) (o : Ob) : Gr enc sz lo (H.new o) v l := h.keep (Keep.new (fun _ => False) H o) fun _ h => h.elim

/-- The cells of a slice. -/
theorem Sb.first (hs : ∀ a, (enc a).length = sz) {n : Nat} {H : Hp} {v : Value} {l : List α} (h : Sb enc n H v l) : firstCellsE sz l.length v H = some (encL enc l) := by
  rcases h with ⟨rfl, rfl⟩ | ⟨i, o, cap, x, cs, ro, rfl, h1, h2, h3⟩
  · rfl
  · cases l with
    | nil => rfl
    | cons a l =>
      rcases h3 with h3 | ⟨h3, h4⟩
      · cases h3
      · have hl := encL_len hs (a :: l)
        rw [hl] at h3 h4
        simp only [firstCellsE, nbeq_f (show ¬ (a :: l).length = 0 by simp), cond_false, readCells, h2, lrange, Nat.ble_eq_true_of_le h3, cond_true, h4]
theorem Sb.newC (hs : ∀ a, (enc a).length = sz) {n : Nat} {H : Hp} {v : Value} {l : List α} (h : Sb enc n H v l) {et : TI} (he : et.size = sz) : newCellsE et l.length v H = some (encL enc l) ∧ addedE v = some l.length := by
  have h1 := Sb.first hs h
  rcases h with ⟨rfl, rfl⟩ | ⟨i, o, cap, x, cs, ro, rfl, _⟩
  · exact ⟨by simp only [newCellsE, he]; exact h1, rfl⟩
  · exact ⟨by simp only [newCellsE, he]; exact h1, rfl⟩

theorem encL_one (ho : ∀ a, (enc a).all oneCell = true) (l : List α) : (encL enc l).all oneCell = true := by
  rw [List.all_eq_true]
  intro v hv
  simp only [encL, List.mem_flatMap] at hv
  obtain ⟨a, _, ha⟩ := hv
  exact List.all_eq_true.1 (ho a) v ha

/-- **APPEND.** -/
theorem Gr.app {C : Ctx} {ts tx : TypeId} (hT : SlT C ts sz) (hX : ∃ ti el, C.T tx = some ti ∧ ti.kind = .slice el) (hs : ∀ a, (enc a).length = sz) (ho : ∀ a, (enc a).all oneCell = true) {lo n : Nat} {H : Hp} {v1 v2 : Value} {l1 l2 : List α} (g : Gr enc sz lo H v1 l1) (s : Sb enc n H v2 l2) (hf : H.floor ≤ lo) (hlo : lo ≤ H.next) (hb : l1.length + l2.length < 1000000000) :
    ∃ v H', appendE C ts tx v1 v2 H = some (v, H') ∧ Gr enc sz lo H' v (l1 ++ l2) ∧ Keep (fun i => lo ≤ i ∧ v1 = .slice (some ⟨i, 0, some sz⟩) l1.length l1.length) H H' := by
  obtain ⟨ti, et, el, t1, t2, t3, t4, t5, t6, t7, t8⟩ := hT.ex
  subst t4
  obtain ⟨tj, el2, x1, x2⟩ := hX
  have hv2 : ∃ a n c, v2 = .slice a n c := by
    rcases s with ⟨rfl, _⟩ | ⟨i, o, cap, x, cs, ro, rfl, _⟩
    · exact ⟨_, _, _, rfl⟩
    · exact ⟨_, _, _, rfl⟩
  have hap : appendE C ts tx v1 v2 H = appendE.appendTo C el v1 v2 H := by
    obtain ⟨a, n, c, rfl⟩ := hv2
    simp only [appendE, t1, x1, t2, x2]
  obtain ⟨s1, s2⟩ := Sb.newC hs s rfl
  rw [hap]
  simp only [appendE.appendTo, t3, Option.bind_some, s2]
  have q2 : Nat.ble ((2 * (l1.length + l2.length) + 768) * et.bytes) 281474976710656 = true := Nat.ble_eq_true_of_le (Nat.le_trans (Nat.mul_le_mul_left (2 * (l1.length + l2.length) + 768) t7) (by omega))
  have q4 : Nat.ble 1 et.size = true := Nat.ble_eq_true_of_le (by omega)
  have q5 : Nat.ble 1 et.bytes = true := Nat.ble_eq_true_of_le t6
  have q6 : Nat.beq et.zero.length et.size = true := nbeq_t (by omega)
  by_cases h0 : l2 = []
  · subst h0
    rw [List.append_nil]
    refine ⟨v1, H, ?_, g, .refl _ _⟩
    rcases g with ⟨rfl, rfl⟩ | ⟨i, o, rfl, rfl, _⟩ | ⟨i, rfl, _⟩
    · rfl
    · simp only [List.length_nil, Nat.add_zero, Nat.ble_eq_true_of_le (Nat.le_refl _), cond_true] at s1 ⊢
      rw [s1]; rfl
    · simp only [List.length_nil, Nat.add_zero, Nat.ble_eq_true_of_le (Nat.le_refl _), cond_true] at s1 ⊢
      rw [s1]; rfl
  · have hl2 : 0 < l2.length := List.length_pos_iff.2 h0
    have fin : ∀ H', H'.next = H.next + 1 → H'.get H.next = some (.cells (encL enc (l1 ++ l2)) false) → Gr enc et.size lo H' (.slice (some ⟨H.next, 0, some et.size⟩) (l1.length + l2.length) (l1.length + l2.length)) (l1 ++ l2) := fun H' a b => by
      refine .inr (.inr ⟨H.next, ?_, hlo, by omega, b, fun e => h0 (List.append_eq_nil_iff.1 e).2⟩)
      rw [List.length_append]
    rcases g with ⟨rfl, rfl⟩ | ⟨i, o, rfl, rfl, _⟩ | ⟨i, rfl, g1, g2, g3, g4⟩
    · simp only [List.length_nil, nble_f (show ¬ 0 + l2.length ≤ 0 by omega), cond_false] at q2 ⊢
      simp only [q2, q4, q5, q6, Bool.and_self, cond_true]
      have : firstCellsE et.size 0 (.slice none 0 0) H = some [] := rfl
      rw [this, Option.bind_some, s1, Option.bind_some]
      exact ⟨_, H.new (.cells (encL enc ([] ++ l2)) false), rfl, fin _ (by rw [Hp.next_new]) (by rw [Hp.get_new, if_pos rfl]), .new _ _ _⟩
    · simp only [List.length_nil, nble_f (show ¬ 0 + l2.length ≤ 0 by omega), cond_false] at q2 ⊢
      simp only [q2, q4, q5, q6, Bool.and_self, cond_true]
      have : firstCellsE et.size 0 (.slice (some ⟨i, o, none⟩) 0 0) H = some [] := rfl
      rw [this, Option.bind_some, s1, Option.bind_some]
      exact ⟨_, H.new (.cells (encL enc ([] ++ l2)) false), rfl, fin _ (by rw [Hp.next_new]) (by rw [Hp.get_new, if_pos rfl]), .new _ _ _⟩
    · have hfst := Sb.first hs (Holds.sl (cap := l1.length) (x := some et.size) ⟨⟨false, g3⟩, g2⟩ : Sl enc H _ l1)
      simp only [nble_f (show ¬ l1.length + l2.length ≤ l1.length by omega), cond_false]
      simp only [q2, q4, q5, q6, Bool.and_self, cond_true]
      rw [hfst, Option.bind_some, s1, Option.bind_some]
      have q7 : Nat.ble 1 l1.length = true := Nat.ble_eq_true_of_le (List.length_pos_iff.2 g4)
      have q8 : Nat.ble (encL enc l1).length (0 + (l1.length + l2.length) * et.size) = true := Nat.ble_eq_true_of_le (by rw [encL_len hs, Nat.zero_add, Nat.add_mul]; omega)
      simp only [g3, nbeq_t rfl, encL_one ho, q7, q8, Bool.and_self, cond_true]
      rw [Hp.upd_eq (H := H.new (.cells (encL enc l1 ++ encL enc l2) false)) (Nat.le_trans hf g1)]
      refine ⟨_, _, rfl, ?_, ?_⟩
      · exact fin ((H.new (.cells (encL enc l1 ++ encL enc l2) false)).setO i .dead) (by rw [Hp.next_setO, Hp.next_new]) (by rw [Hp.get_setO, if_neg (by omega), Hp.get_new, if_pos rfl, encL_append])
      · exact (Keep.new _ _ (Ob.cells (encL enc l1 ++ encL enc l2) false)).trans (Keep.setO (D := fun j => lo ≤ j ∧ Value.slice (some ⟨i, 0, some et.size⟩) l1.length l1.length = .slice (some ⟨j, 0, some et.size⟩) l1.length l1.length) ⟨g1, rfl⟩ _ _)
end
end Go.Ahe.X
/-
  X, 12: ranges over functions: what the loop's object does.
-/
namespace Go.Ahe.X
open Go.Ahe

/-- The objects of one range. -/
structure IsL (L : LoopState → Option Code → Ob) : Prop where
  ex : ∃ e ps a b, ∀ st pend, L st pend = .loop st pend e ps a b
section
variable {L : LoopState → Option Code → Ob} (hL : IsL L) {y : Nat} {H : Hp}
include hL
theorem busyL (h : H.get y = some (L .ready none)) (hf : H.floor ≤ y) : busyE y H = some (H.setO y (L .busy none)) := by
  obtain ⟨e, ps, a, b, hl⟩ := hL.ex
  rw [hl] at h
  rw [busyE_eq h, Hp.upd_eq hf, hl]
theorem leaveN (h : H.get y = some (L .busy none)) (hf : H.floor ≤ y) : leaveE y H none = some (.bool true, H.setO y (L .ready none)) := by
  obtain ⟨e, ps, a, b, hl⟩ := hL.ex
  rw [hl] at h
  rw [leaveE_none h hf, hl]; rfl
theorem leaveS (h : H.get y = some (L .busy none)) (hf : H.floor ≤ y) (j : Code) : leaveE y H (some j) = some (.bool false, H.setO y (L .done (some j))) := by
  obtain ⟨e, ps, a, b, hl⟩ := hL.ex
  rw [hl] at h
  rw [leaveE_some h hf, hl]; rfl
theorem aftN (h : H.get y = some (L .ready none)) (hf : H.floor ≤ y) (kn : Hp → O) (ke : List (Nat × (Hp → O))) (kr : Hp → O) : aft y H kn ke kr = kn (H.setO y .dead) := by
  obtain ⟨e, ps, a, b, hl⟩ := hL.ex
  rw [hl] at h
  simp only [aft, h, Hp.upd_eq hf, Option.bind_some]
theorem aftE {id : Nat} (h : H.get y = some (L .done (some (.exit id)))) (hf : H.floor ≤ y) (kn : Hp → O) (ke : List (Nat × (Hp → O))) (kr : Hp → O) : aft y H kn ke kr = kEx id (H.setO y .dead) ke := by
  obtain ⟨e, ps, a, b, hl⟩ := hL.ex
  rw [hl] at h
  simp only [aft, h, Hp.upd_eq hf, Option.bind_some]
theorem aftR (h : H.get y = some (L .done (some .ret))) (hf : H.floor ≤ y) (kn : Hp → O) (ke : List (Nat × (Hp → O))) (kr : Hp → O) : aft y H kn ke kr = kr (H.setO y .dead) := by
  obtain ⟨e, ps, a, b, hl⟩ := hL.ex
  rw [hl] at h
  simp only [aft, h, Hp.upd_eq hf, Option.bind_some]
end
theorem rf_eq {C : Ctx} {call : CallE} {L : LoopState → Option Code → Ob} {H H' : Hp} {g : FuncId} {x z : Array Value} {af : AF} {v : Value} (hfn : C.fn g = some af) (hc : call (.func g) (x.toList ++ [.func (.yield H.next) #[] #[]] ++ z.toList) (H.new (L .ready none)) = some (v, H')) (kn : Hp → O) (ke : List (Nat × (Hp → O))) (kr : Hp → O) :
    rfX C call (.func (.func g) x z) L H kn ke kr = aft H.next H' kn ke kr := by
  simp only [rfX, calleeE, Option.bind_some, hfn, hc]
@[simp] theorem kEx_cons (i id : Nat) (k : Hp → O) (r : List (Nat × (Hp → O))) (H : Hp) : kEx id H ((i, k) :: r) = if id = i then k H else kEx id H r := by
  simp only [kEx]
  by_cases h : id = i
  · rw [nbeq_t h, cond_true, if_pos h]
  · rw [nbeq_f h, cond_false, if_neg h]
end Go.Ahe.X
/-
  X, 13: a slice made by append, and its real capacity: known for a while, and forgotten again.
-/
namespace Go.Ahe.X
open Go.Ahe Go.RowKit

/-- Cells anew that stand for what lies there. -/
theorem rel_setO {base : Nat} {ι : Emb} {H : Hp} {w : World} (hr : Rel base ι H w) {i : Nat} {o o' : Ob} (hg : H.get i = some o) (hw : o'.wr = true → o.wr = true) (hl : o'.live = true → o.live = true) (ho : ∀ b p, ι i = some (b, p) → ObR ι w o' b p) : Rel base ι (H.setO i o') w := by
  refine ⟨hr.flo, hr.dom, hr.bnd, fun j oj b p h1 h2 => ?_, fun j k oj ok b p q h1 h2 h3 h4 h5 h6 => ?_, fun j oj b p h1 h2 h3 => ?_, hr.bs⟩
  · rw [Hp.get_setO] at h1
    by_cases e : j = i
    · subst e; rw [if_pos rfl] at h1; cases h1; exact ho b p h2
    · rw [if_neg e] at h1; exact hr.ob j oj b p h1 h2
  · rw [Hp.get_setO] at h1 h2
    by_cases e1 : j = i <;> by_cases e2 : k = i
    · omega
    · subst e1; rw [if_pos rfl] at h1; cases h1; rw [if_neg e2] at h2
      exact hr.inj j k o ok b p q hg h2 (hw h3) h4 h5 h6
    · subst e2; rw [if_pos rfl] at h2; cases h2; rw [if_neg e1] at h1
      exact hr.inj j k oj o b p q h1 hg h3 (hl h4) h5 h6
    · rw [if_neg e1] at h1; rw [if_neg e2] at h2
      exact hr.inj j k oj ok b p q h1 h2 h3 h4 h5 h6
  · rw [Hp.get_setO] at h1
    by_cases e : j = i
    · subst e; rw [if_pos rfl] at h1; cases h1; exact hr.bas j o b p hg (hw h2) h3
    · rw [if_neg e] at h1; exact hr.bas j oj b p h1 h2 h3

/-- **THE REAL CAPACITY**: the object with its spare cells. -/
theorem cap_known {base : Nat} {ι : Emb} {H : Hp} {w : World} (hr : Rel base ι H w) {i n sz : Nat} {cs : List Value} (hg : H.get i = some (.cells cs false)) (hcs : cs.length = n * sz) (hn : 1 ≤ n) {v' : Value} (hv : VR ι (.slice (some ⟨i, 0, some sz⟩) n n) v') :
    ∃ (b p c : Nat) (S : List Value), ι i = some (b, p) ∧ n ≤ c ∧ v' = .slice (some ⟨b, p, none⟩) n c ∧ p + c * sz = ι.sz b ∧ S.length = (c - n) * sz ∧ S.all plainCell = true ∧ Rel base ι (H.setO i (.cells (cs ++ S) false)) w ∧ VR ι (.slice (some ⟨i, 0, none⟩) n c) v' := by
  cases hv with
  | @sliceU _ _ b p q _ _ c' _ hι hl hcc hq he =>
    have hq : q = p := by rcases hq with hq | hq <;> omega
    subst hq
    have he : q + c' * sz = ι.sz b := by rcases he with he | he <;> omega
    obtain ⟨C, E, fz, h1, h2, ⟨h3, h4⟩, h5, h6⟩ := hr.ob i _ b q hg hι
    have hmul : n * sz ≤ c' * sz := Nat.mul_le_mul_right _ hcc
    have hS : (C.toList.drop (q + cs.length)).length = (c' - n) * sz := by
      rw [List.length_drop, Array.length_toList, h4, ← he, hcs, Nat.sub_mul]; omega
    have hat : ∀ (k : Nat) v, (C.toList.drop (q + cs.length))[k]? = some v → C[q + cs.length + k]? = some v := fun k v hk => by
      rw [List.getElem?_drop] at hk
      rw [← Array.getElem?_toList]; exact hk
    have hpl : ∀ v ∈ C.toList.drop (q + cs.length), plainCell v = true := fun v hv => by
      obtain ⟨k, hk⟩ := List.getElem?_of_mem hv
      exact h6 rfl _ v (by omega) (hat k v hk)
    refine ⟨b, q, c', C.toList.drop (q + cs.length), hι, hcc, rfl, he, hS, List.all_eq_true.2 hpl, rel_setO hr hg (fun h => h) (fun h => h) fun b2 p2 hb => ?_, by have := VR.slice (o := 0) (l := n) (c := c') hι; simpa using this⟩
    rw [hι] at hb; cases hb
    refine ⟨C, E, fz, h1, h2, ⟨?_, h4⟩, fun k v hk => ?_, fun _ k v' hk hv' => ?_⟩
    · rw [List.length_append, hS, hcs, Nat.sub_mul, h4, ← he]; omega
    · by_cases hk1 : k < cs.length
      · rw [List.getElem?_append_left hk1] at hk; exact h5 k v hk
      · rw [List.getElem?_append_right (by omega)] at hk
        have h7 := hat _ v hk
        rw [show q + cs.length + (k - cs.length) = q + k by omega] at h7
        exact ⟨v, h7, VR.plainCell (hpl v (List.mem_of_getElem? hk))⟩
    · have := (Array.getElem?_eq_some_iff.1 hv').1
      rw [List.length_append, hS, hcs, Nat.sub_mul] at hk
      omega

/-- A step from a heap that knew more. -/
theorem step_known {ι ι' : Emb} {H H' : Hp} {w w' : World} {i : Nat} {o o' : Ob} (hg : H.get i = some o) (hw : o'.wr = o.wr) (hf : H.floor ≤ i) (h : Step ι ι' (H.setO i o') H' w w') : Step ι ι' H H' w w' := by
  have hown : ∀ b, Owned ι (H.setO i o') b ↔ Owned ι H b := fun b => by
    constructor
    · rintro ⟨j, oj, p, h1, h2, h3, h4⟩
      rw [Hp.get_setO] at h1
      by_cases e : j = i
      · subst e; rw [if_pos rfl] at h1; cases h1; exact ⟨j, o, p, hg, by rw [← hw]; exact h2, h3, h4⟩
      · rw [if_neg e] at h1; exact ⟨j, oj, p, h1, h2, h3, h4⟩
    · rintro ⟨j, oj, p, h1, h2, h3, h4⟩
      by_cases e : j = i
      · subst e; rw [hg] at h1; cases h1; exact ⟨j, o', p, by rw [Hp.get_setO, if_pos rfl], by rw [hw]; exact h2, h3, h4⟩
      · exact ⟨j, oj, p, by rw [Hp.get_setO, if_neg e]; exact h1, h2, h3, h4⟩
  refine ⟨h.emb, h.ssz, h.next, h.floor, fun j hj => ?_, fun b hb ho => (hown b).1 (h.owned b hb ho), h.os, h.tape, h.output, h.size, fun b hb ho => h.same b hb fun hx => ho ((hown b).1 hx), h.loops, fun j b p h1 h2 => (h.news j b p h1 h2).imp id (hown b).1⟩
  have hj' : j < H.floor := hj
  have := h.low j hj
  rw [this, Hp.get_setO, if_neg (by omega)]

/-- **FORGOTTEN AGAIN**: the first cells under a new name. -/
theorem cap_gone {base : Nat} {ι : Emb} {H : Hp} {w : World} (hr : Rel base ι H w) {i b p c m sz : Nat} {A S : List Value} (hg : H.get i = some (.cells (A ++ S) false)) (hA : A.length = m * sz) (hS : S.all plainCell = true) (hι : ι i = some (b, p)) (he : p + c * sz = ι.sz b) (hm : m ≤ c) (hf : H.floor ≤ i) :
    ∃ ι', VR ι' (.slice (some ⟨H.next, 0, some sz⟩) m m) (.slice (some ⟨b, p, none⟩) m c) ∧ Rel base ι' ((H.new (.cells A false)).setO i .dead) w ∧ Step ι ι' H ((H.new (.cells A false)).setO i .dead) w w := by
  have hle : ι.le (ι.ext H.next (b, p) w.heap.size 0) := Emb.le_ext (b, p) 0 (hr.dom _ (Nat.le_refl _)) (fun j c p hj e => by have := hr.bnd j c p hj; omega)
  obtain ⟨C, E, fz, h1, h2, ⟨h3, h4⟩, h5, h6⟩ := hr.ob i _ b p hg hι
  have hlt := hr.bnd i b p hι
  have ho : ObR (ι.ext H.next (b, p) w.heap.size 0) w (.cells A false) b p := by
    rw [List.length_append] at h3
    refine ⟨C, E, fz, h1, h2, ⟨by omega, h4.trans (hle i b p hι).2.symm⟩, fun k v hk => ?_, fun _ k v' hk hv' => ?_⟩
    · obtain ⟨v', g1, g2⟩ := h5 k v (by rw [List.getElem?_append_left (List.getElem?_eq_some_iff.1 hk).1]; exact hk)
      exact ⟨v', g1, g2.mono hle⟩
    · by_cases hk2 : k < p + (A.length + S.length)
      · have hks : (A ++ S)[k - p]? = some (S[k - p - A.length]'(by omega)) := by
          rw [List.getElem?_append_right (by omega), List.getElem?_eq_getElem]
        obtain ⟨v2, g1, g2⟩ := h5 _ _ hks
        rw [show p + (k - p) = k by omega] at g1
        rw [g1] at hv'; cases hv'
        have hp := List.all_eq_true.1 hS _ (List.getElem_mem (show k - p - A.length < S.length by omega))
        rw [VR.plainCell_eq hp g2]; exact hp
      · exact h6 rfl k v' (by rw [List.length_append]; omega) hv'
  obtain ⟨f1, f2⟩ := hr.regrow hg hι (H1 := (H.new (.cells A false)).setO i .dead) (Hp.upd_eq (H := H.new (.cells A false)) hf _) (w' := w) ⟨rfl, rfl, rfl⟩ rfl (fun _ _ => rfl) ho
  refine ⟨_, .sliceU (o := 0) (p := p) (Emb.ext_self _ _ _ _ _) (Nat.le_refl _) hm (.inr rfl) (.inr ?_), f1, f2⟩
  rw [Emb.ext_sz_ne _ _ _ _ (by omega)]; exact he

/-- An object dies. -/
theorem rel_die {base : Nat} {ι : Emb} {H : Hp} {w : World} (hr : Rel base ι H w) {i : Nat} {o : Ob} (hg : H.get i = some o) (hf : H.floor ≤ i) : Rel base ι (H.setO i .dead) w ∧ Step ι ι H (H.setO i .dead) w w := by
  refine ⟨rel_setO hr hg (fun h => by cases h) (fun h => by cases h) fun _ _ _ => trivial, ?_⟩
  refine ⟨fun _ _ => rfl, fun _ _ => rfl, Nat.le_refl _, rfl, fun j hj => ?_, fun b hb => ?_, rfl, rfl, rfl, Nat.le_refl _, fun _ _ _ => rfl, fun _ L h => ⟨L, h⟩, fun j b p h1 h2 => by rw [hr.dom j h1] at h2; cases h2⟩
  · rw [Hp.get_setO, if_neg (by omega)]
  · rintro ⟨j, oj, p, h1, h2, h3, h4⟩
    rw [Hp.get_setO] at h1
    by_cases e : j = i
    · rw [if_pos e] at h1; cases h1; cases h2
    · rw [if_neg e] at h1; exact ⟨j, oj, p, h1, h2, h3, h4⟩

/-- slices.overlaps: two slices of two objects that may be written do not. -/
def ovE (args : List Value) (H : Hp) : Option (Value × Hp) := match args with
  | [.slice (some ⟨i, _, _⟩) _ _, .slice (some ⟨j, _, _⟩) _ _] => match H.get i, H.get j with
    | some (.cells (_ :: _) false), some (.cells (_ :: _) false) => bif Nat.beq i j then none else some (.bool false, H)
    | _, _ => none
  | _ => none
theorem slice_inv {ι : Emb} {i o : Nat} {x : Option Nat} {l c : Nat} {v' : Value} (h : VR ι (.slice (some ⟨i, o, x⟩) l c) v') : ∃ b p q c', ι i = some (b, p) ∧ v' = .slice (some ⟨b, q, none⟩) l c' := by
  cases h with
  | slice h => exact ⟨_, _, _, _, h, rfl⟩
  | sliceU h => exact ⟨_, _, _, _, h, rfl⟩
theorem ovE_ok {P : Program} {f : FuncId} {fn : Func} {tS tR e : TypeId} (hf : P.funcs[f]? = some fn) (hname : (fn.name == "runtime.NumGoroutine") = false) (hb : fn.body.isNone = true) (hn : Extern.findNext fn = none) (he : Extern.find fn = some (Extern.SlicesOverlaps.overlaps #[tS, tS] #[tR]))
    (ht : P.underlying tS = some (.slice e)) (size : Nat) (hz : ∀ w, (Go.sizeOf e).run P w = .ok size w) {args : List Value} {H H' : Hp} {v : Value} (h : ovE args H = some (v, H')) {base : Nat} {ι : Emb} {w : World} {args' : Array Value} (hr : Rel base ι H w) (ha : VRs ι args args'.toList) :
    RunsAs P base ι H H' w v (callFunc f args') := by
  unfold ovE at h
  split at h
  · rename_i i o x l c j o2 x2 l2 c2
    split at h
    · rename_i a0 cs b0 ds h1 h2
      cases hij : Nat.beq i j with
      | true => rw [hij] at h; cases h
      | false =>
        rw [hij, cond_false] at h
        cases h
        obtain ⟨l⟩ := args'
        cases ha with | cons ha1 ha =>
        cases ha with | cons ha2 ha =>
        cases ha
        obtain ⟨b, p, q, c', g1, rfl⟩ := slice_inv ha1
        obtain ⟨b2, p2, q2, c2', g2, rfl⟩ := slice_inv ha2
        obtain ⟨C, E, fz, d1, d2, ⟨d3, d4⟩, _⟩ := hr.ob i _ b p h1 g1
        obtain ⟨C2, E2, fz2, e1, e2, ⟨e3, e4⟩, _⟩ := hr.ob j _ b2 p2 h2 g2
        have hne : b ≠ b2 := fun hx => by
          subst hx
          have := hr.inj i j _ _ b p p2 h1 h2 rfl rfl g1 g2
          rw [this] at hij
          rw [Nat.beq_refl] at hij; cases hij
        have nf : ∀ (bb : Nat) (CC : Array Value) (EE : TypeId) (ff : Nat × Nat) (off : Nat), w.heap[bb]? = some (.cells CC EE ff) → (∀ k, ¬ (ff.1 ≤ k ∧ k < ff.2)) → w.frozen? ⟨bb, off, none⟩ = false := fun bb CC EE ff off hh hk => by
          unfold World.frozen?
          simp only [hh]
          have := hk off
          obtain ⟨lo, hi⟩ := ff
          simp at this ⊢
          exact this
        have hov := Lib.run_overlaps_apart (P := P) w tS tR e ht size hz ⟨b, q, none⟩ ⟨b2, q2, none⟩ l c' l2 c2' hne E E2 C.size C2.size (by simp [World.shape?, d1]) (by simp [World.shape?, e1]) (by simp at e3; omega) (nf _ _ _ _ _ d1 (d2 rfl)) (nf _ _ _ _ _ d1 (d2 rfl))
        refine ⟨.value (.bool false), w, ?_, ι, .bool false, hr, Step.refl hr⟩
        rw [run_callFunc_extern hf hname hb hn he, hov]
        rfl
    · cases h
  · cases h
end Go.Ahe.X
/-
  X, 14: copy, and parts of slices.
-/
namespace Go.Ahe.X
open Go.Ahe

section
variable {C : Ctx} {t el : TypeId} {ti et : TI} (h1 : C.T t = some ti) (h2 : ti.kind = .slice el) (h3 : C.T el = some et)
include h1 h2 h3
theorem slc_lo {i o len cap : Nat} {lo : Nat} (ha : lo ≤ len) (hb : len ≤ cap) : slc C t (.slice (some ⟨i, o, none⟩) len cap) (some (I lo)) none none = some (.slice (some ⟨i, if cap = lo then o else o + lo * et.size, none⟩) (len - lo) (cap - lo)) := by
  simp only [slc, nato?_some, nato?_none, nat?_ofNat, Option.map_some, Option.bind_some, sliceE, h1, h2, h3, sliceB, Option.getD_none, Option.getD_some, Nat.ble_eq_true_of_le (Nat.le_refl _), Nat.ble_eq_true_of_le ha, Nat.ble_eq_true_of_le hb]
  simp
theorem slc_hi {i o len cap : Nat} {hi : Nat} (hb : hi ≤ cap) : slc C t (.slice (some ⟨i, o, none⟩) len cap) none (some (I hi)) none = some (.slice (some ⟨i, o, none⟩) hi cap) := by
  simp only [slc, nato?_some, nato?_none, nat?_ofNat, Option.map_some, Option.bind_some, sliceE, h1, h2, h3, sliceB, Option.getD_none, Option.getD_some, Nat.ble_eq_true_of_le (Nat.le_refl _), Nat.ble_eq_true_of_le hb, Nat.ble_eq_true_of_le (Nat.zero_le _)]
  simp
theorem slc_loU {i o len cap sz : Nat} (hz : sz = et.size) {lo : Nat} (ha : lo ≤ len) (hb : len ≤ cap) : slc C t (.slice (some ⟨i, o, some sz⟩) len cap) (some (I lo)) none none = some (.slice (some ⟨i, o + lo * et.size, some sz⟩) (len - lo) (cap - lo)) := by
  subst hz
  simp only [slc, nato?_some, nato?_none, nat?_ofNat, Option.map_some, Option.bind_some, sliceE, h1, h2, h3, sliceB, Option.getD_none, Option.getD_some, Nat.ble_eq_true_of_le (Nat.le_refl _), Nat.ble_eq_true_of_le ha, Nat.ble_eq_true_of_le hb, Nat.beq_refl]
  simp
theorem copy_eq {t2 : TypeId} {H : Hp} {i o dl dc j o2 sl sc m : Nat} {x y : Option Nat} {ci cj : List Value} {ro : Bool} (hm : m = Nat.min sl dl) (h0 : 1 ≤ m) (hs : 1 ≤ et.size) (hj : H.get j = some (.cells cj ro)) (hi : H.get i = some (.cells ci false)) (hf : H.floor ≤ i) (hr : o2 + m * et.size ≤ cj.length) (hw : o + m * et.size ≤ ci.length) (ho : ((cj.drop o2).take (m * et.size)).all oneCell = true) :
    builtinE C .copy [t, t2] [.slice (some ⟨i, o, x⟩) dl dc, .slice (some ⟨j, o2, y⟩) sl sc] H = some (I m, H.setO i (.cells (ci.take o ++ (cj.drop o2).take (m * et.size) ++ ci.drop (o + m * et.size)) false)) := by
  have hlen : ((cj.drop o2).take (m * et.size)).length = m * et.size := by simp; omega
  have hpos : 1 ≤ m * et.size := Nat.mul_le_mul h0 hs
  obtain ⟨c, cs, hc⟩ : ∃ c cs, (cj.drop o2).take (m * et.size) = c :: cs := by
    cases hx : (cj.drop o2).take (m * et.size) with
    | nil => rw [hx] at hlen; simp at hlen; omega
    | cons c cs => exact ⟨c, cs, rfl⟩
  have hb : Nat.beq m 0 = false := by
    cases hq : Nat.beq m 0 with
    | false => rfl
    | true => have := Nat.eq_of_beq_eq_true hq; omega
  rw [hc] at ho hlen ⊢
  have hfst : firstCellsE et.size m (.slice (some ⟨j, o2, y⟩) sl sc) H = some (c :: cs) := by
    simp only [firstCellsE, hb, cond_false, readCells, hj, lrange, Nat.ble_eq_true_of_le hr, cond_true, hc]
  have hle : Nat.ble (o + m * et.size) ci.length = true := Nat.ble_eq_true_of_le (by omega)
  simp only [builtinE, copyE, h1, h2, h3, Option.bind_some, lenOfE, ← hm, hfst, writeCells, hi, ho, cond_true, lput, hlen, hle, Hp.upd_eq hf, Option.map_some]

variable (h4 : 1 ≤ et.size) (h5 : 1 ≤ et.bytes) (h6 : et.bytes ≤ 4096) (h7 : et.zero.length = et.size)
include h4 h5 h6 h7
omit h1 h2 h3 in
theorem grow_ok {len n : Nat} (hb : len + n < 1000000000) : (Nat.ble 1 et.size && Nat.ble 1 et.bytes && Nat.ble ((2 * (len + n) + 768) * et.bytes) 281474976710656 && Nat.beq et.zero.length et.size) = true := by
  rw [Nat.ble_eq_true_of_le h4, Nat.ble_eq_true_of_le h5, Nat.ble_eq_true_of_le (Nat.le_trans (Nat.mul_le_mul_left (2 * (len + n) + 768) h6) (by omega)), nbeq_t h7]; rfl
omit h4 h5 h6 h7 in
/-- Append where there is room. -/
theorem app_in {tx : TypeId} {tj : TI} {el2 : TypeId} (x1 : C.T tx = some tj) (x2 : tj.kind = .slice el2) {H : Hp} {i o len cap n j o2 c2 : Nat} {x : Option Nat} {ci cj : List Value} {ro : Bool} (hroom : len + n ≤ cap) (hn : 1 ≤ n) (hi : H.get i = some (.cells ci false)) (hf : H.floor ≤ i) (hj : H.get j = some (.cells cj ro)) (hr : o2 + n * et.size ≤ cj.length) (hw : o + len * et.size + n * et.size ≤ ci.length) (ho : ((cj.drop o2).take (n * et.size)).all oneCell = true) :
    appendE C t tx (.slice (some ⟨i, o, none⟩) len cap) (.slice (some ⟨j, o2, x⟩) n c2) H = some (.slice (some ⟨i, o, none⟩) (len + n) cap, H.setO i (.cells (ci.take (o + len * et.size) ++ (cj.drop o2).take (n * et.size) ++ ci.drop (o + len * et.size + n * et.size)) false)) := by
  have hb : Nat.beq n 0 = false := by
    cases hq : Nat.beq n 0 with
    | false => rfl
    | true => have := Nat.eq_of_beq_eq_true hq; omega
  have hlen : ((cj.drop o2).take (n * et.size)).length = n * et.size := by simp; omega
  have e1 : addedE (.slice (some ⟨j, o2, x⟩) n c2) = some n := rfl
  have e2 : newCellsE et n (.slice (some ⟨j, o2, x⟩) n c2) H = some ((cj.drop o2).take (n * et.size)) := by
    simp only [newCellsE, firstCellsE, hb, cond_false, readCells, hj, lrange, Nat.ble_eq_true_of_le hr, cond_true]
  simp only [appendE, h1, h2, x1, x2, appendE.appendTo, h3, Option.bind_some, e1, Nat.ble_eq_true_of_le hroom, cond_true, e2, hb, cond_false, writeCells, hi, ho, lput, hlen, Nat.ble_eq_true_of_le hw, Hp.upd_eq hf, Option.map_some]
/-- Append where there is none. -/
theorem app_new {tx : TypeId} {tj : TI} {el2 : TypeId} (x1 : C.T tx = some tj) (x2 : tj.kind = .slice el2) {H : Hp} {i o len cap n j o2 c2 : Nat} {x : Option Nat} {ci cj : List Value} {ri ro : Bool} (hroom : ¬ len + n ≤ cap) (hn : 1 ≤ n) (hlen : 1 ≤ len) (hi : H.get i = some (.cells ci ri)) (hj : H.get j = some (.cells cj ro)) (hr : o2 + n * et.size ≤ cj.length) (hw : o + len * et.size ≤ ci.length) (hb : len + n < 1000000000) :
    appendE C t tx (.slice (some ⟨i, o, none⟩) len cap) (.slice (some ⟨j, o2, x⟩) n c2) H = some (.slice (some ⟨H.next, 0, some et.size⟩) (len + n) (len + n), H.new (.cells ((ci.drop o).take (len * et.size) ++ (cj.drop o2).take (n * et.size)) false)) := by
  have b1 : Nat.beq n 0 = false := by
    cases hq : Nat.beq n 0 with
    | false => rfl
    | true => have := Nat.eq_of_beq_eq_true hq; omega
  have b2 : Nat.beq len 0 = false := by
    cases hq : Nat.beq len 0 with
    | false => rfl
    | true => have := Nat.eq_of_beq_eq_true hq; omega
  have e1 : addedE (.slice (some ⟨j, o2, x⟩) n c2) = some n := rfl
  have e2 : newCellsE et n (.slice (some ⟨j, o2, x⟩) n c2) H = some ((cj.drop o2).take (n * et.size)) := by
    simp only [newCellsE, firstCellsE, b1, cond_false, readCells, hj, lrange, Nat.ble_eq_true_of_le hr, cond_true]
  have e3 : firstCellsE et.size len (.slice (some ⟨i, o, none⟩) len cap) H = some ((ci.drop o).take (len * et.size)) := by
    simp only [firstCellsE, b2, cond_false, readCells, hi, lrange, Nat.ble_eq_true_of_le hw, cond_true]
  simp only [appendE, h1, h2, x1, x2, appendE.appendTo, h3, Option.bind_some, e1, nble_f hroom, cond_false, grow_ok h4 h5 h6 h7 hb, cond_true, e2, e3]
/-- Zeros put behind where there is no room. -/
theorem app_zero {tx : TypeId} {tj : TI} {k : IntKind} (x1 : C.T tx = some tj) (x2 : tj.kind = .int k) {H : Hp} {i o len cap n : Nat} {ci : List Value} {ri : Bool} (hroom : ¬ len + n ≤ cap) (hi : H.get i = some (.cells ci ri)) (hw : o + len * et.size ≤ ci.length) (hb : len + n < 1000000000) :
    appendE C t tx (.slice (some ⟨i, o, none⟩) len cap) (I n) H = some (.slice (some ⟨H.next, 0, some et.size⟩) (len + n) (len + n), H.new (.cells ((ci.drop o).take (len * et.size) ++ repeatL et.zero n) false)) := by
  have e1 : addedE (I n) = some n := by simp [addedE]
  have e3 : firstCellsE et.size len (.slice (some ⟨i, o, none⟩) len cap) H = some ((ci.drop o).take (len * et.size)) := by
    cases hq : Nat.beq len 0 with
    | true =>
      have := Nat.eq_of_beq_eq_true hq
      subst this
      simp only [firstCellsE, hq, cond_true, Nat.zero_mul, List.take_zero]
    | false => simp only [firstCellsE, hq, cond_false, readCells, hi, lrange, Nat.ble_eq_true_of_le hw, cond_true]
  have hn : decide ((n : Int) ≤ 4294967296) = true := by simp; omega
  have g := grow_ok h4 h5 h6 h7 hb
  rw [nbeq_t h7] at g
  simp only [appendE, h1, h2, x1, x2, h3, Option.bind_some, hn, Nat.ble_eq_true_of_le (Nat.le_trans h6 (by decide : 4096 ≤ 65536)), nbeq_t h7, Bool.and_self, cond_true, appendE.appendTo, e1, nble_f hroom, cond_false, g, newCellsE, e3]
end
end Go.Ahe.X
/-
  X, 10: arguments that are slices of flat elements.
-/
namespace Go.Ahe.X
open Go.Ahe Go.RowKit

/-- The sizes of a world's blocks. -/
def sizes (w : World) (b : Nat) : Nat := match w.heap[b]? with
  | some (.cells C _ _) => C.size
  | _ => 0
def emb0 (w : World) : Emb := ⟨fun _ => none, sizes w⟩
theorem rel0 (w : World) : Rel w.heap.size (emb0 w) ⟨.nl, 0, 0⟩ w :=
  ⟨Nat.le_refl _, fun _ _ => rfl, fun i b p h => (by cases h), fun i o b p h1 h2 => (by cases h2), fun i j oi oj b p q h1 _ _ _ h5 => (by cases h5), fun i o b p _ _ h => (by cases h), Nat.le_refl _⟩

/-- One object more. -/
def Emb.more (ι : Emb) (i : Nat) (x : Nat × Nat) : Emb := ⟨fun j => if j = i then some x else ι j, ι.sz⟩
theorem more_le {base : Nat} {ι : Emb} {H : Hp} {w : World} (hr : Rel base ι H w) (x : Nat × Nat) : ι.le (Emb.more ι H.next x) := fun i b p h => by
  have hi := hr.lt h
  exact ⟨by show (if i = H.next then some x else ι i) = _; rw [if_neg (by omega)]; exact h, rfl⟩

theorem plainOb {ι : Emb} {v : Value} (h : plainCell v = true) : VR ι v v := VR.plainCell h

/-- All objects are for reading. -/
def AllRo (H : Hp) : Prop := ∀ i o, H.get i = some o → o.wr = false
theorem AllRo.empty : AllRo ⟨.nl, 0, 0⟩ := fun i o h => by cases h
theorem AllRo.new {H : Hp} (h : AllRo H) (cs : List Value) : AllRo (H.new (.cells cs true)) := fun i o hg => by
  rw [Hp.get_new] at hg
  by_cases hi : i = H.next
  · rw [if_pos hi] at hg; cases hg; rfl
  · rw [if_neg hi] at hg; exact h i o hg

theorem rel_more {base : Nat} {ι : Emb} {H : Hp} {w : World} (hr : Rel base ι H w) (hro : AllRo H) (hsz : ∀ b C E fz, w.heap[b]? = some (.cells C E fz) → ι.sz b = C.size) {b p : Nat} {C : Array Value} {E : TypeId} {fz : Nat × Nat} (hb : w.heap[b]? = some (.cells C E fz)) {cs : List Value}
    (hl : p + cs.length ≤ C.size) (hv : ∀ k v, cs[k]? = some v → C[p + k]? = some v ∧ plainCell v = true) : Rel base (Emb.more ι H.next (b, p)) (H.new (.cells cs true)) w := by
  have hget : ∀ i o, (H.new (.cells cs true)).get i = some o → (i = H.next ∧ o = .cells cs true) ∨ (i ≠ H.next ∧ H.get i = some o) := fun i o h => by
    rw [Hp.get_new] at h
    by_cases hi : i = H.next
    · rw [if_pos hi] at h; cases h; exact .inl ⟨hi, rfl⟩
    · rw [if_neg hi] at h; exact .inr ⟨hi, h⟩
  have hat : ∀ i, Emb.more ι H.next (b, p) i = if i = H.next then some (b, p) else ι i := fun i => rfl
  refine ⟨?_, ?_, ?_, ?_, ?_, ?_, hr.bs⟩
  · simpa using le_more hr.flo
  · intro i hi
    rw [Hp.next_new] at hi
    rw [hat, if_neg (by omega)]
    exact hr.dom i (by omega)
  · intro i b' p' h
    rw [hat] at h
    by_cases hi : i = H.next
    · rw [if_pos hi] at h; cases h; exact (Array.getElem?_eq_some_iff.1 hb).1
    · rw [if_neg hi] at h; exact hr.bnd i b' p' h
  · intro i o b' p' ho h
    rw [hat] at h
    rcases hget i o ho with ⟨hi, rfl⟩ | ⟨hi, ho⟩
    · rw [if_pos hi] at h; cases h
      exact ⟨C, E, fz, hb, (fun h => by cases h), ⟨hl, (hsz b C E fz hb).symm⟩, fun k v hk => ⟨v, (hv k v hk).1, VR.plainCell (hv k v hk).2⟩, fun h => by cases h⟩
    · rw [if_neg hi] at h
      exact (hr.ob i o b' p' ho h).mono (more_le hr (b, p)) rfl
  · intro i j oi oj b' p' q' hi hj hwr _ _ _
    rcases hget i oi hi with ⟨_, rfl⟩ | ⟨_, h⟩
    · cases hwr
    · rw [hro i oi h] at hwr; cases hwr
  · intro i o b' p' hi hwr _
    rcases hget i o hi with ⟨_, rfl⟩ | ⟨_, h⟩
    · cases hwr
    · rw [hro i o h] at hwr; cases hwr

section
variable {Hd : Type} {enc : TypeId × Value → Hd} {Pg : Program} {w : World} {base : Nat} {spare : Nat → Bool} {held : Bool}

theorem cells_at {b0 : Nat} {a : Addr} : ∀ {n : Nat} {cs : List Value}, w.cells? b0 a n = some cs → cs.length = n ∧ ∀ j v, cs[j]? = some v → w.cell? (a.add j) = some v := fun {n cs} h => by
  unfold World.cells? at h
  split at h
  · have key : ∀ (l : List Nat) (cs : List Value), (l.mapM fun i => w.cell? (a.add i)) = some cs → cs.length = l.length ∧ ∀ (j : Nat) (v : Value), cs[j]? = some v → ∃ i, l[j]? = some i ∧ w.cell? (a.add i) = some v := by
      intro l
      induction l with
      | nil => intro cs h; simp at h; subst h; exact ⟨rfl, fun j v hj => by simp at hj⟩
      | cons x l ih =>
        intro cs h
        rw [List.mapM_cons] at h
        cases hx : w.cell? (a.add x) with
        | none => rw [hx] at h; cases h
        | some y =>
          rw [hx] at h
          cases hm : (l.mapM fun i => w.cell? (a.add i)) with
          | none => rw [hm] at h; cases h
          | some r =>
            rw [hm] at h
            cases h
            obtain ⟨h1, h2⟩ := ih r hm
            refine ⟨by simp [h1], fun j v hj => ?_⟩
            cases j with
            | zero => simp at hj; subst hj; exact ⟨x, rfl, hx⟩
            | succ j => simpa using h2 j v (by simpa using hj)
    obtain ⟨h1, h2⟩ := key _ _ h
    refine ⟨by simpa using h1, fun j v hj => ?_⟩
    obtain ⟨i, hi, hc⟩ := h2 j v hj
    have := List.getElem?_eq_some_iff.1 hi
    obtain ⟨hlt, hi⟩ := this
    simp at hi
    subst hi
    exact hc
  · cases h

theorem cellsAre_len : ∀ {ks : List FlatK} {cs : List Value}, cellsAre ks cs → cs.length = ks.length
  | [], [], _ => rfl
  | [], _ :: _, h => h.elim
  | _ :: _, [], h => h.elim
  | _ :: _, _ :: _, h => by simp [cellsAre_len h.2]
theorem FlatK.plain {k : FlatK} {v : Value} (h : k.is v) : plainCell v = true := by
  cases k with
  | bool => obtain ⟨b, rfl⟩ := h; rfl
  | int k => obtain ⟨n, rfl, _⟩ := h; rfl
  | str => obtain ⟨s, rfl, _⟩ := h; rfl
theorem cellsAre_plain : ∀ {ks : List FlatK} {cs : List Value}, cellsAre ks cs → ∀ v ∈ cs, plainCell v = true
  | [], [], _, v, hv => by cases hv
  | [], _ :: _, h, _, _ => h.elim
  | _ :: _, [], h, _, _ => h.elim
  | _ :: _, _ :: _, h, v, hv => by
    rcases List.mem_cons.1 hv with rfl | hv
    · exact FlatK.plain h.1
    · exact cellsAre_plain h.2 v hv

theorem add_eq (b off k : Nat) : (⟨b, off, none⟩ : Addr).add k = ⟨b, off + k, none⟩ := by
  unfold Addr.add
  split
  · rename_i h; subst h; rfl
  · rfl

/-- **A SLICE OF FLAT ELEMENTS**, opened: the elements' cells, and where they lie. -/
theorem open_flat_slice {t e : TypeId} {d : Nat} {ks : List FlatK} {v : Value} {x : DataW Hd} {ps : List MemPlace} (ht : Pg.underlying t = some (.slice e)) (hk : flatKs Pg d e = some ks) (hc : Pg.cellsOf e = ks.length)
    (hval : Value.okWide Pg w .any base t v) (hd : DataW.Trod enc Pg w 0 spare held t v x ps) :
    v = .slice none 0 0 ∨ ∃ (b off len cap : Nat) (C : Array Value) (E : TypeId) (fz : Nat × Nat) (css : List (List Value)), v = .slice (some ⟨b, off, none⟩) len cap ∧ css.length = len ∧ (∀ cs ∈ css, cellsAre ks cs) ∧ w.heap[b]? = some (.cells C E fz) ∧
      ∀ i cs, css[i]? = some cs → ∀ j u, cs[j]? = some u → C[off + (i * ks.length + j)]? = some u := by
  obtain ⟨a0, len, cap, rfl⟩ := Go.WideShapes.okWide_slice ht hval
  obtain ⟨fuel, hf⟩ := hd
  rcases DataW.trod_slice ht hf with ⟨h0, _⟩ | ⟨a, len', cap', elems, rest, n, _, h0, _, _, _, _, hlen, hel, _, _⟩
  · left; simpa [Value.cells] using h0
  · right
    simp [Value.cells] at h0
    obtain ⟨rfl, rfl, rfl⟩ := h0
    -- the block
    have hok : Cell.ok Pg w .any base t (.slice (some a) len cap) := by
      unfold Value.okWide at hval; rw [ht] at hval
      simp only [Cell.okWide, ht] at hval
      exact hval
    simp only [Cell.ok, ht, World.has] at hok
    obtain ⟨_, _, _, hspot, row, cells, hsh, _⟩ := hok
    obtain ⟨b, off, spot⟩ := a
    simp only at hspot hsh
    subst hspot
    unfold World.shape? at hsh
    cases hb : w.heap[b]? with
    | none => rw [hb] at hsh; cases hsh
    | some ob =>
      cases ob with
      | cells C E fz =>
        let cf : Nat → List Value := fun i => (w.cells? 0 ((⟨b, off, none⟩ : Addr).add (i * Pg.cellsOf e)) (Pg.cellsOf e)).getD []
        have hcf : ∀ i, i < len → w.cells? 0 ((⟨b, off, none⟩ : Addr).add (i * Pg.cellsOf e)) (Pg.cellsOf e) = some (cf i) ∧ cellsAre ks (cf i) := fun i hi => by
          have h1 := hel i hi
          have hs : elems[i]? = some (elems[i]'(by omega)) := List.getElem?_eq_getElem (by omega)
          rw [hs, Option.bind_eq_some_iff] at h1
          obtain ⟨cs, h2, h3⟩ := h1
          have : cf i = cs := by show Option.getD _ [] = cs; rw [h2]; rfl
          rw [this]
          exact ⟨h2, open_flat d e ks hk n cs _ h3⟩
        refine ⟨b, off, len, cap, C, E, fz, (List.range len).map cf, rfl, by simp, fun cs hcs => ?_, hb, fun i cs hi j u hj => ?_⟩
        · obtain ⟨i, hi, rfl⟩ := List.mem_map.1 hcs
          exact (hcf i (by simpa using hi)).2
        · rw [List.getElem?_map] at hi
          obtain ⟨i', hi', rfl⟩ := Option.map_eq_some_iff.1 hi
          obtain ⟨hlt, hi'⟩ := List.getElem?_eq_some_iff.1 hi'
          simp at hi' hlt
          subst hi'
          have h1 := (cells_at (hcf i hlt).1).2 j u hj
          rw [add_eq, add_eq] at h1
          unfold World.cell? at h1
          simp only [hb] at h1
          rw [← hc, ← Nat.add_assoc]
          simpa using h1
      | _ => rw [hb] at hsh; cases hsh
end

/-! ### A list out of cells -/
/-- Cells of elements as a list of what they stand for. -/
theorem list_of {α : Type} {en : α → List Value} {ks : List FlatK} (h : ∀ cs, cellsAre ks cs → ∃ a, en a = cs) : ∀ {css : List (List Value)}, (∀ cs ∈ css, cellsAre ks cs) → ∃ l : List α, css = l.map en
  | [], _ => ⟨[], rfl⟩
  | cs :: css, hc => by
    obtain ⟨a, ha⟩ := h cs (hc cs (List.mem_cons_self ..))
    obtain ⟨l, hl⟩ := list_of h fun x hx => hc x (List.mem_cons_of_mem _ hx)
    exact ⟨a :: l, by rw [List.map_cons, ha, hl]⟩

theorem encL_index {α : Type} {en : α → List Value} {sz : Nat} (hs : ∀ a, (en a).length = sz) : ∀ (l : List α) (k : Nat) (v : Value), (encL en l)[k]? = some v → ∃ i j a, l[i]? = some a ∧ (en a)[j]? = some v ∧ k = i * sz + j
  | [], k, v, h => by simp [encL] at h
  | a :: l, k, v, h => by
    rw [encL_cons] at h
    by_cases hk : k < (en a).length
    · rw [List.getElem?_append_left hk] at h
      exact ⟨0, k, a, rfl, h, by simp⟩
    · rw [List.getElem?_append_right (by omega), hs] at h
      obtain ⟨i, j, b, h1, h2, h3⟩ := encL_index hs l _ v h
      refine ⟨i + 1, j, b, by simpa using h1, h2, ?_⟩
      rw [hs] at hk
      rw [Nat.succ_mul]
      omega

/-- **ONE MORE ARGUMENT THAT IS A SLICE**: a heap and an embedding for it. -/
theorem slice_arg {α : Type} {en : α → List Value} {sz : Nat} (hs : ∀ a, (en a).length = sz) (hs1 : 0 < sz) (hpl : ∀ a v, v ∈ en a → plainCell v = true) {w : World} {ι : Emb} {H : Hp} (hr : Rel w.heap.size ι H w) (hro : AllRo H) (hsz : ι.sz = sizes w) {v : Value} {l : List α}
    (hv : (v = .slice none 0 0 ∧ l = []) ∨ ∃ (b off cap : Nat) (C : Array Value) (E : TypeId) (fz : Nat × Nat), v = .slice (some ⟨b, off, none⟩) l.length cap ∧ w.heap[b]? = some (.cells C E fz) ∧ ∀ i a, l[i]? = some a → ∀ j u, (en a)[j]? = some u → C[off + (i * sz + j)]? = some u) :
    ∃ (u : Value) (ι' : Emb) (H' : Hp), Rel w.heap.size ι' H' w ∧ AllRo H' ∧ ι'.sz = sizes w ∧ ι.le ι' ∧ VR ι' u v ∧ Sl en H' u l ∧ (H' = H ∨ ∃ o, H' = H.new o) := by
  have hsz' : ∀ b C E fz, w.heap[b]? = some (.cells C E fz) → ι.sz b = C.size := fun b C E fz hb => by rw [hsz]; unfold sizes; rw [hb]
  rcases hv with ⟨rfl, rfl⟩ | ⟨b, off, cap, C, E, fz, rfl, hb, hc⟩
  · exact ⟨_, ι, H, hr, hro, hsz, fun i b p h => ⟨h, rfl⟩, .nils, .inl ⟨rfl, rfl⟩, .inl rfl⟩
  · by_cases hl : encL en l = []
    · have hr' := rel_more hr hro hsz' (p := 0) (cs := []) hb (by simp) (fun k v hk => by simp at hk)
      have h1 : (Emb.more ι H.next (b, 0)) H.next = some (b, 0) := if_pos rfl
      by_cases hll : l = []
      · subst hll
        refine ⟨.slice (some ⟨H.next, off, none⟩) 0 cap, _, _, hr', hro.new _, hsz, more_le hr _, ?_, .inr ⟨H.next, off, cap, none, [], true, rfl, by simp, ?_, .inl rfl⟩, .inr ⟨_, rfl⟩⟩
        · have := VR.slice (l := 0) (c := cap) (o := off) h1
          rw [Nat.zero_add] at this
          exact this
        · rw [Hp.get_new, if_pos rfl]
      · exfalso
        cases l with
        | nil => exact hll rfl
        | cons a l =>
          rw [encL_cons] at hl
          have := hs a
          rw [(List.append_eq_nil_iff.1 hl).1] at this
          simp at this
          omega
    · have hlen : off + (encL en l).length ≤ C.size := by
        have hne : 0 < (encL en l).length := List.length_pos_iff.2 hl
        have hk : (encL en l)[(encL en l).length - 1]? = some ((encL en l)[(encL en l).length - 1]'(by omega)) := List.getElem?_eq_getElem (by omega)
        obtain ⟨i, j, a, h1, h2, h3⟩ := encL_index hs l _ _ hk
        have := hc i a h1 j _ h2
        have := (Array.getElem?_eq_some_iff.1 this).1
        omega
      have hr' := rel_more hr hro hsz' (p := off) (cs := encL en l) hb hlen (fun k v hk => by
        obtain ⟨i, j, a, h1, h2, h3⟩ := encL_index hs l _ _ hk
        exact ⟨by rw [h3]; exact hc i a h1 j _ h2, hpl a v (List.mem_of_getElem? h2)⟩)
      have h1 : (Emb.more ι H.next (b, off)) H.next = some (b, off) := if_pos rfl
      refine ⟨.slice (some ⟨H.next, 0, none⟩) l.length cap, _, _, hr', hro.new _, hsz, more_le hr _, ?_, Holds.sl ⟨⟨true, ?_⟩, by simp⟩, .inr ⟨_, rfl⟩⟩
      · exact VR.slice (l := l.length) (c := cap) (o := 0) h1
      · rw [Hp.get_new, if_pos rfl]
end Go.Ahe.X
