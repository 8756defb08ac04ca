/-
  X, 9: slices that read as lists.
-/
import Derived.Test.YthfmdomnoheklaaDoorZxWord
namespace Go.Ahe.X
open Go.Ahe

/-- The cells of a list. -/
def encL {α : Type} (enc : α → List Value) (l : List α) : List Value := l.flatMap enc

section
variable {α : Type} {enc : α → List Value} {sz : Nat}
theorem encL_nil : encL enc [] = [] := rfl
theorem encL_cons (a : α) (l : List α) : encL enc (a :: l) = enc a ++ encL enc l := rfl
theorem encL_append (a b : List α) : encL enc (a ++ b) = encL enc a ++ encL enc b := by simp [encL]
theorem encL_len (h : ∀ a, (enc a).length = sz) : ∀ l : List α, (encL enc l).length = l.length * sz
  | [] => by simp [encL]
  | a :: l => by rw [encL_cons, List.length_append, h, encL_len h l, List.length_cons, Nat.succ_mul, Nat.add_comm]
theorem encL_at (h : ∀ a, (enc a).length = sz) : ∀ (l : List α) (k : Nat) (hk : k < l.length), ((encL enc l).drop (k * sz)).take sz = enc l[k]
  | a :: l, 0, _ => by rw [encL_cons, Nat.zero_mul, List.drop_zero, ← h a, List.take_left]; rfl
  | a :: l, k + 1, hk => by
    rw [encL_cons, Nat.succ_mul, Nat.add_comm, ← List.drop_drop]
    have : (enc a ++ encL enc l).drop sz = encL enc l := by rw [← h a, List.drop_left]
    rw [this]
    exact encL_at h l k (by simpa using hk)
theorem encL_in (h : ∀ a, (enc a).length = sz) (l : List α) {k : Nat} (hk : k < l.length) : k * sz + sz ≤ (encL enc l).length := by
  rw [encL_len h]
  have := Nat.mul_le_mul_right sz (show k + 1 ≤ l.length by omega)
  rw [Nat.succ_mul] at this
  exact this

/-- An object that holds a list. -/
structure Holds (enc : α → List Value) (H : Hp) (i : Nat) (l : List α) : Prop where
  get : ∃ ro, H.get i = some (.cells (encL enc l) ro)
  lt : i < H.next

theorem Holds.new {H : Hp} {i : Nat} {l : List α} (h : Holds enc H i l) (o : Ob) : Holds enc (H.new o) i l :=
  ⟨by obtain ⟨ro, hg⟩ := h.get; exact ⟨ro, by rw [Hp.get_new, if_neg (Nat.ne_of_lt h.lt)]; exact hg⟩, by rw [Hp.next_new]; exact Nat.lt_succ_of_lt h.lt⟩
theorem Holds.raised {H : Hp} {i : Nat} {l : List α} (h : Holds enc H i l) : Holds enc H.raised i l := ⟨h.get, h.lt⟩
theorem Holds.setO {H : Hp} {i j : Nat} {l : List α} (h : Holds enc H i l) (hj : i ≠ j) (o : Ob) : Holds enc (H.setO j o) i l :=
  ⟨by obtain ⟨ro, hg⟩ := h.get; exact ⟨ro, by rw [Hp.get_setO, if_neg hj]; exact hg⟩, h.lt⟩
theorem Holds.ldA (hs : ∀ a, (enc a).length = sz) {H : Hp} {i : Nat} {l : List α} (h : Holds enc H i l) {k : Nat} (hk : k < l.length) : ldA sz (P i (k * sz)) H = some (.agg (enc l[k]).toArray) := by
  obtain ⟨ro, hg⟩ := h.get
  rw [ldA_get hg, if_pos (encL_in hs l hk), encL_at hs l k hk]
theorem Holds.ld1 (hs : ∀ a, (enc a).length = 1) {H : Hp} {i : Nat} {l : List α} (h : Holds enc H i l) {k : Nat} (hk : k < l.length) {v : Value} (hv : enc l[k] = [v]) : ld1 (P i (k * 1)) H = some v := by
  obtain ⟨ro, hg⟩ := h.get
  rw [ld1_get hg]
  have h1 := encL_at hs l k hk
  rw [hv] at h1
  rw [Nat.mul_one] at h1 ⊢
  have h2 : ((encL enc l).drop k).take 1 = [v] := h1
  cases hd : (encL enc l).drop k with
  | nil => rw [hd] at h2; cases h2
  | cons a r =>
    rw [hd] at h2
    simp at h2
    subst h2
    have := congrArg List.head? hd
    simpa using this

/-- A slice that reads as a list: nil, or the whole of an object. -/
def Sl (enc : α → List Value) (H : Hp) (v : Value) (l : List α) : Prop :=
  (v = .slice none 0 0 ∧ l = []) ∨ ∃ i o cap, v = .slice (some ⟨i, o, none⟩) l.length cap ∧ (l = [] ∨ o = 0) ∧ Holds enc H i l
theorem Sl.len {H : Hp} {v : Value} {l : List α} (h : Sl enc H v l) : lnS v = some (I l.length) := by
  rcases h with ⟨rfl, rfl⟩ | ⟨i, o, cap, rfl, _, _⟩ <;> rfl
theorem Sl.new {H : Hp} {v : Value} {l : List α} (h : Sl enc H v l) (o : Ob) : Sl enc (H.new o) v l := h.imp id fun ⟨i, p, cap, h1, h3, h2⟩ => ⟨i, p, cap, h1, h3, h2.new o⟩
theorem Sl.raised {H : Hp} {v : Value} {l : List α} (h : Sl enc H v l) : Sl enc H.raised v l := h.imp id fun ⟨i, p, cap, h1, h3, h2⟩ => ⟨i, p, cap, h1, h3, h2.raised⟩
theorem Sl.fresh {H : Hp} {v : Value} {l : List α} (h : Sl enc H v l) {args : List Value} (hv : v ∈ args) : Sl enc (H.fresh args) v l := by
  rcases h with ⟨rfl, rfl⟩ | ⟨i, p, cap, rfl, h3, h2⟩
  · exact .inl ⟨rfl, rfl⟩
  · have : args.all plainV = false := by
      rw [Bool.eq_false_iff]
      intro hc
      have := List.all_eq_true.1 hc _ hv
      cases this
    unfold Hp.fresh
    rw [this, cond_false]
    exact .inr ⟨i, p, cap, rfl, h3, h2.raised⟩
/-- The k-th element's place, and what lies there; behind new objects, too. -/
theorem Sl.at (hs : ∀ a, (enc a).length = sz) {H : Hp} {v : Value} {l : List α} (h : Sl enc H v l) {k : Nat} (hk : k < l.length) :
    ∃ i, i < H.next ∧ ixS sz v (I k) = some (P i (k * sz)) ∧ ldA sz (P i (k * sz)) H = some (.agg (enc l[k]).toArray) := by
  rcases h with ⟨rfl, rfl⟩ | ⟨i, o, cap, rfl, h3, h2⟩
  · simp at hk
  · have ho : o = 0 := by
      rcases h3 with rfl | h3
      · simp at hk
      · exact h3
    subst ho
    refine ⟨i, h2.lt, ?_, h2.ldA hs hk⟩
    simp only [ixS, nat?_ofNat]
    rw [show Nat.blt k l.length = true by simp [Nat.blt]; omega]
    simp
end
end Go.Ahe.X
