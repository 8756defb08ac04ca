/- The space seat: slices.Insert of one region, its slice's capacity being known. -/
import Derived.Test.YtiigiodagfalpaaSpaceY
set_option maxRecDepth 100000
set_option maxHeartbeats 2000000
namespace Go.Proofs.Ytiigiodagfalpaa.Y
open Go.Ahe Go.Ahe.X

theorem T22 : C0.T 22 = some ⟨.slice 32, 1, 24, [.slice none 0 0]⟩ := by kernel_rfl
theorem T32 : C0.T 32 = some ⟨.struct [(0, 23, false), (1, 3, false), (2, 4, false)], 3, 24, [U 0, I 0, .bool false]⟩ := by kernel_rfl
theorem T3 : C0.T 3 = some ⟨.int .i64, 1, 8, [I 0]⟩ := by kernel_rfl
theorem s44 {i o l c j o2 l2 c2 : Nat} {x y : Option Nat} {a b : Value} {cs ds : List Value} {H : Hp} (hi : H.get i = some (.cells (a :: cs) false)) (hj : H.get j = some (.cells (b :: ds) false)) (h : i ≠ j) : call 44 [.slice (some ⟨i, o, x⟩) l c, .slice (some ⟨j, o2, y⟩) l2 c2] H = some (.bool false, H) := by
  have hb : Nat.beq i j = false := nbeq_f h
  have e : ovE [.slice (some ⟨i, o, x⟩) l c, .slice (some ⟨j, o2, y⟩) l2 c2] H = some (.bool false, H) := by simp only [ovE, hi, hj, hb, cond_false]
  exact ext_call e

theorem cap22 (i o len cap : Nat) : capE C0 22 (.slice (some ⟨i, o, none⟩) len cap) = some (I cap) := by
  simp only [capE, T22]

/-- **INSERT**: in place, or anew. -/
theorem S32 {i j n c k : Nat} {cs S xs : List Value} {H : Hp} (hg : H.get i = some (.cells (cs ++ S) false)) (hj : H.get j = some (.cells xs false)) (hij : i ≠ j) (hcs : cs.length = n * 3) (hS : S.length = (c - n) * 3) (hxs : xs.length = 3) (hn : 1 ≤ n) (hn2 : n ≤ 1000000) (hk : k ≤ n) (hc : n ≤ c) (hf : H.floor ≤ i) (hnf : H.floor ≤ H.next)
    (ho : cs.all oneCell = true) (hox : xs.all oneCell = true) (hi' : i < H.next) (hj' : j < H.next) :
    call 32 [.slice (some ⟨i, 0, none⟩) n c, I k, .slice (some ⟨j, 0, none⟩) 1 1] H = if n + 1 ≤ c then some (.slice (some ⟨i, 0, none⟩) (n + 1) c, H.setO i (.cells (cs.take (k * 3) ++ xs ++ cs.drop (k * 3) ++ S.drop 3) false))
      else some (.slice (some ⟨H.next, 0, some 3⟩) (n + 1) (n + 1), H.new (.cells (cs.take (k * 3) ++ xs ++ cs.drop (k * 3)) false)) := by
  have w1 : ∀ {a b : Int}, 0 ≤ a → a ≤ 10000000 → 0 ≤ b → b ≤ 10000000 → IntKind.i64.wrap (a + b) = a + b := fun h1 h2 h3 h4 => wr_i64 (by omega) (by omega)
  have wn : IntKind.i64.wrap ((n : Int) + 1) = (n : Int) + 1 := w1 (by omega) (by omega) (by omega) (by omega)
  have wk : IntKind.i64.wrap ((k : Int) + 1) = (k : Int) + 1 := w1 (by omega) (by omega) (by omega) (by omega)
  have wd : IntKind.i64.wrap ((n : Int) + 1 - k) = (n : Int) + 1 - k := wr_i64 (by omega) (by omega)
  have hlen : (cs ++ S).length = c * 3 := by rw [List.length_append, hcs, hS, Nat.sub_mul]; have := Nat.mul_le_mul_right 3 hc; omega
  have ho2 : ∀ a m, ((cs.drop a).take m).all oneCell = true := fun a m => List.all_eq_true.2 fun v hv => List.all_eq_true.1 ho v (List.mem_of_mem_drop (List.mem_of_mem_take hv))
  have hox1 : ((xs.drop 0).take (1 * 3)).all oneCell = true := by rw [List.drop_zero, List.take_of_length_le (by omega)]; exact hox
  have hx0 : (xs.drop 0).take (1 * 3) = xs := by rw [List.drop_zero, List.take_of_length_le (by omega)]
  have l0 := slc_lo (i := i) (o := 0) T22 rfl T32 hk hc
  by_cases hkn : k = n
  · -- at the end
    subst hkn
    have ht : cs.take (k * 3) = cs := List.take_of_length_le (by omega)
    have hd : cs.drop (k * 3) = [] := List.drop_eq_nil_of_le (by omega)
    rw [ht, hd, List.append_nil]
    by_cases hroom : k + 1 ≤ c
    · have ha := app_in (t := 22) (len := k) (o := 0) T22 rfl T32 (tx := 22) T22 rfl hroom (Nat.le_refl 1) hg hf hj (o2 := 0) (x := none) (c2 := 1) (show 0 + 1 * 3 ≤ _ by omega) (show 0 + k * 3 + 1 * 3 ≤ _ by rw [hlen]; omega) hox1
      have ha : appendE C0 22 22 (.slice (some ⟨i, 0, none⟩) k c) (.slice (some ⟨j, 0, none⟩) 1 1) H = some (.slice (some ⟨i, 0, none⟩) (k + 1) c, H.setO i (.cells ((cs ++ S).take (0 + k * 3) ++ (xs.drop 0).take (1 * 3) ++ (cs ++ S).drop (0 + k * 3 + 1 * 3)) false)) := ha
      rw [hx0, Nat.zero_add, List.take_append_of_le_length (by omega), ht, List.drop_append, List.drop_eq_nil_of_le (by omega), List.nil_append, show k * 3 + 1 * 3 - cs.length = 3 by omega] at ha
      rw [if_pos hroom]
      refine c32 ?_
      simp [F32, l0, ha]
    · have ha := app_new (t := 22) (len := k) (o := 0) T22 rfl T32 (by decide) (by decide) (by decide) rfl (tx := 22) T22 rfl hroom (Nat.le_refl 1) hn hg hj (o2 := 0) (x := none) (c2 := 1) (show 0 + 1 * 3 ≤ _ by omega) (show 0 + k * 3 ≤ _ by rw [hlen]; omega) (by omega)
      have ha : appendE C0 22 22 (.slice (some ⟨i, 0, none⟩) k c) (.slice (some ⟨j, 0, none⟩) 1 1) H = some (.slice (some ⟨H.next, 0, some 3⟩) (k + 1) (k + 1), H.new (.cells (((cs ++ S).drop 0).take (k * 3) ++ (xs.drop 0).take (1 * 3)) false)) := ha
      rw [hx0, List.drop_zero, List.take_append_of_le_length (by omega), ht] at ha
      rw [if_neg hroom]
      refine c32 ?_
      simp [F32, l0, ha]
  · have hkl : k < n := by omega
    have hkni : ¬ ((k : Int) = n) := by omega
    have hk3 : k * 3 + 3 ≤ n * 3 := by have := Nat.mul_le_mul_right 3 (show k + 1 ≤ n from hkl); omega
    have e1 : (n - k) * 3 = n * 3 - k * 3 := Nat.sub_mul ..
    have e2 : (k + 1) * 3 = k * 3 + 3 := by omega
    have e3 : (n + 1 - k) * 3 = n * 3 + 3 - k * 3 := by rw [Nat.sub_mul]; omega
    have m1 : n - k = Nat.min (n + 1 - k) (n - k) := by simp only [Nat.min_def]; split <;> omega
    have m2 : 1 = Nat.min 1 (n + 1 - k) := by simp only [Nat.min_def]; split <;> omega
    have m3 : n - k = Nat.min (n - k) (n - k) := by simp
    by_cases hroom : n + 1 ≤ c
    · rw [if_pos hroom]
      refine c32 ?_
      have hri : ¬ ((c : Int) < (n : Int) + 1) := by omega
      have s1 := slc_hi (i := i) (o := 0) (len := n) T22 rfl T32 hroom
      have s2 := slc_lo (i := i) (o := 0) T22 rfl T32 (show k + 1 ≤ n + 1 by omega) hroom
      have s3 := slc_lo (i := i) (o := 0) T22 rfl T32 (show k ≤ n + 1 by omega) hroom
      simp only [show ¬ (c = k + 1) by omega, show ¬ (c = k) by omega, if_false] at s2 s3
      rw [show n + 1 - (k + 1) = n - k by omega] at s2
      obtain ⟨a, cs', hcs'⟩ : ∃ a cs', cs ++ S = a :: cs' := by
        cases hx : cs ++ S with
        | nil => rw [hx] at hlen; simp at hlen; omega
        | cons a l => exact ⟨a, l, rfl⟩
      obtain ⟨b, xs', hxs'⟩ : ∃ b xs', xs = b :: xs' := by
        cases hx : xs with
        | nil => rw [hx] at hxs; simp at hxs
        | cons a l => exact ⟨a, l, rfl⟩
      have q44 := s44 (o := 0) (l := 1) (c := 1) (o2 := 0 + (k + 1) * 3) (l2 := n - k) (c2 := c - (k + 1)) (x := none) (y := none) (hxs' ▸ hj) (hcs' ▸ hg) (Ne.symm hij)
      have c1 := copy_eq (C := C0) (t := 22) (t2 := 22) (H := H) (i := i) (o := 0 + (k + 1) * 3) (dl := n - k) (dc := c - (k + 1)) (j := i) (o2 := 0 + k * 3) (sl := n + 1 - k) (sc := c - k) (x := none) (y := none) T22 rfl T32 m1 (by omega) (by decide) hg hg hf (show 0 + k * 3 + (n - k) * 3 ≤ _ by rw [hlen]; omega) (show 0 + (k + 1) * 3 + (n - k) * 3 ≤ _ by rw [hlen]; omega) (by
        rw [Nat.zero_add, List.drop_append_of_le_length (by omega), List.take_append_of_le_length (by simp; omega)]; exact ho2 _ _)
      have hcells : (cs ++ S).take (0 + (k + 1) * 3) ++ ((cs ++ S).drop (0 + k * 3)).take ((n - k) * 3) ++ (cs ++ S).drop (0 + (k + 1) * 3 + (n - k) * 3) = (cs.take (k * 3 + 3) ++ cs.drop (k * 3)) ++ S.drop 3 := by
        rw [Nat.zero_add, Nat.zero_add, e2, List.take_append_of_le_length (by omega), List.drop_append_of_le_length (by omega), List.take_append_of_le_length (by simp; omega), List.take_of_length_le (l := cs.drop (k * 3)) (by simp; omega), List.drop_append, show cs.drop (k * 3 + 3 + (n - k) * 3) = [] from List.drop_eq_nil_of_le (by omega), List.nil_append, show k * 3 + 3 + (n - k) * 3 - cs.length = 3 by omega]
      have c1 : builtinE C0 .copy [22, 22] [.slice (some ⟨i, 0 + (k + 1) * 3, none⟩) (n - k) (c - (k + 1)), .slice (some ⟨i, 0 + k * 3, none⟩) (n + 1 - k) (c - k)] H = some (I (n - k : Nat), H.setO i (.cells ((cs.take (k * 3 + 3) ++ cs.drop (k * 3)) ++ S.drop 3) false)) := by
        rw [← hcells]; exact c1
      have g2 : (H.setO i (.cells ((cs.take (k * 3 + 3) ++ cs.drop (k * 3)) ++ S.drop 3) false)).get i = some (.cells ((cs.take (k * 3 + 3) ++ cs.drop (k * 3)) ++ S.drop 3) false) := by rw [Hp.get_setO, if_pos rfl]
      have g3 : (H.setO i (.cells ((cs.take (k * 3 + 3) ++ cs.drop (k * 3)) ++ S.drop 3) false)).get j = some (.cells xs false) := by rw [Hp.get_setO, if_neg (Ne.symm hij)]; exact hj
      have c2 := copy_eq (C := C0) (t := 22) (t2 := 22) (i := i) (o := 0 + k * 3) (dl := n + 1 - k) (dc := c - k) (j := j) (o2 := 0) (sl := 1) (sc := 1) (x := none) (y := none) T22 rfl T32 m2 (Nat.le_refl 1) (by decide) g3 g2 hf (show 0 + 1 * 3 ≤ _ by omega) (show 0 + k * 3 + 1 * 3 ≤ _ by simp; omega) hox1
      have hcells2 : ((cs.take (k * 3 + 3) ++ cs.drop (k * 3)) ++ S.drop 3).take (0 + k * 3) ++ (xs.drop 0).take (1 * 3) ++ ((cs.take (k * 3 + 3) ++ cs.drop (k * 3)) ++ S.drop 3).drop (0 + k * 3 + 1 * 3) = cs.take (k * 3) ++ xs ++ cs.drop (k * 3) ++ S.drop 3 := by
        rw [hx0, Nat.zero_add, List.append_assoc (cs.take (k * 3 + 3)), List.take_append_of_le_length (by simp; omega), List.take_take, Nat.min_eq_left (by omega), List.drop_append, List.drop_eq_nil_of_le (by simp; omega), List.nil_append]
        rw [show k * 3 + 1 * 3 - (cs.take (k * 3 + 3)).length = 0 by simp; omega, List.drop_zero]
        simp
      have c2 : builtinE C0 .copy [22, 22] [.slice (some ⟨i, 0 + k * 3, none⟩) (n + 1 - k) (c - k), .slice (some ⟨j, 0, none⟩) 1 1] (H.setO i (.cells ((cs.take (k * 3 + 3) ++ cs.drop (k * 3)) ++ S.drop 3) false)) = some (I (1 : Nat), H.setO i (.cells (cs.take (k * 3) ++ xs ++ cs.drop (k * 3) ++ S.drop 3) false)) := by
        have c2 := c2
        rw [show (List.take (1 * 3) (List.drop 0 xs)) = (xs.drop 0).take (1 * 3) from rfl] at c2
        rw [Hp.setO_setO] at c2
        rw [← hcells2]; exact c2
      rw [show ((n + 1 : Nat) : Int) = (n : Int) + 1 from rfl] at s1
      rw [show ((k + 1 : Nat) : Int) = (k : Int) + 1 from rfl] at s2
      simp only [F32, l0, B_some, lnS_slice, bin_eql, show decide ((1 : Int) = 0) = false from rfl, decide_false, br_bool, Bool.false_eq_true, if_false, hkni, bin_add, show ((1 : Nat) : Int) = 1 from rfl, wn, wk, cap22, bin_gtr, hri, s1, s2, s3, q44, un_not, Bool.not_false, if_true, c1, c2]
    · rw [if_neg hroom]
      refine c32 ?_
      have hcn : c = n := by omega
      have hri : (c : Int) < (n : Int) + 1 := by omega
      have s1 := slc_hi (i := i) (o := 0) (len := n) T22 rfl T32 (show k ≤ c by omega)
      have a1 := app_zero (t := 22) (tx := 3) (i := i) (o := 0) (len := k) (cap := c) (n := n + 1 - k) (H := H) T22 rfl T32 (by decide) (by decide) (by decide) rfl T3 rfl (by omega) hg (show 0 + k * 3 ≤ _ by rw [hlen]; omega) (by omega)
      rw [show k + (n + 1 - k) = n + 1 by omega, List.drop_zero] at a1
      obtain ⟨Z, hZ⟩ : ∃ Z, Z = repeatL [U 0, I 0, .bool false] (n + 1 - k) := ⟨_, rfl⟩
      have hZl : Z.length = (n + 1 - k) * 3 := by
        rw [hZ]
        have : ∀ m, (repeatL [U 0, I 0, .bool false] m).length = m * 3 := fun m => by
          induction m with
          | zero => rfl
          | succ m ih => simp only [repeatL, List.length_append, ih]; simp; omega
        exact this _
      have a1 : appendE C0 22 3 (.slice (some ⟨i, 0, none⟩) k c) (I (n + 1 - k : Nat)) H = some (.slice (some ⟨H.next, 0, some 3⟩) (n + 1) (n + 1), H.new (.cells (cs.take (k * 3) ++ Z) false)) := by
        rw [hZ]
        have a1 := a1
        rw [show (List.take (k * 3) (cs ++ S)) = cs.take (k * 3) from List.take_append_of_le_length (by omega)] at a1
        exact a1
      have s2 := slc_loU (i := H.next) (o := 0) (sz := 3) T22 rfl T32 rfl (show k ≤ n + 1 by omega) (Nat.le_refl _)
      have s3 := slc_loU (i := H.next) (o := 0) (sz := 3) T22 rfl T32 rfl (show k + 1 ≤ n + 1 by omega) (Nat.le_refl _)
      rw [show n + 1 - (k + 1) = n - k by omega] at s3
      simp only [show ¬ (c = k) by omega, if_false] at l0
      have gj : (H.new (.cells (cs.take (k * 3) ++ Z) false)).get j = some (.cells xs false) := by rw [Hp.get_new, if_neg (by omega)]; exact hj
      have gn : (H.new (.cells (cs.take (k * 3) ++ Z) false)).get H.next = some (.cells (cs.take (k * 3) ++ Z) false) := by rw [Hp.get_new, if_pos rfl]
      have c1 := copy_eq (C := C0) (t := 22) (t2 := 22) (i := H.next) (o := 0 + k * 3) (dl := n + 1 - k) (dc := n + 1 - k) (j := j) (o2 := 0) (sl := 1) (sc := 1) (x := some 3) (y := none) T22 rfl T32 m2 (Nat.le_refl 1) (by decide) gj gn hnf (show 0 + 1 * 3 ≤ _ by omega) (show 0 + k * 3 + 1 * 3 ≤ _ by simp; omega) hox1
      have hc1 : (cs.take (k * 3) ++ Z).take (0 + k * 3) ++ (xs.drop 0).take (1 * 3) ++ (cs.take (k * 3) ++ Z).drop (0 + k * 3 + 1 * 3) = cs.take (k * 3) ++ xs ++ Z.drop 3 := by
        rw [hx0, Nat.zero_add, List.take_append_of_le_length (by simp; omega), List.take_take, Nat.min_self, List.drop_append, List.drop_eq_nil_of_le (by simp; omega), List.nil_append]
        rw [show k * 3 + 1 * 3 - (cs.take (k * 3)).length = 3 by simp; omega]
      have c1 : builtinE C0 .copy [22, 22] [.slice (some ⟨H.next, 0 + k * 3, some 3⟩) (n + 1 - k) (n + 1 - k), .slice (some ⟨j, 0, none⟩) 1 1] (H.new (.cells (cs.take (k * 3) ++ Z) false)) = some (I (1 : Nat), H.new (.cells (cs.take (k * 3) ++ xs ++ Z.drop 3) false)) := by
        have c1 := c1
        rw [Hp.setO_new, if_pos rfl] at c1
        rw [← hc1]; exact c1
      have gi : (H.new (.cells (cs.take (k * 3) ++ xs ++ Z.drop 3) false)).get i = some (.cells (cs ++ S) false) := by rw [Hp.get_new, if_neg (by omega)]; exact hg
      have gn2 : (H.new (.cells (cs.take (k * 3) ++ xs ++ Z.drop 3) false)).get H.next = some (.cells (cs.take (k * 3) ++ xs ++ Z.drop 3) false) := by rw [Hp.get_new, if_pos rfl]
      have c2 := copy_eq (C := C0) (t := 22) (t2 := 22) (i := H.next) (o := 0 + (k + 1) * 3) (dl := n - k) (dc := n - k) (j := i) (o2 := 0 + k * 3) (sl := n - k) (sc := c - k) (x := some 3) (y := none) T22 rfl T32 m3 (by omega) (by decide) gi gn2 hnf (show 0 + k * 3 + (n - k) * 3 ≤ _ by rw [hlen]; omega) (show 0 + (k + 1) * 3 + (n - k) * 3 ≤ _ by simp; omega) (by
        rw [Nat.zero_add, List.drop_append_of_le_length (by omega), List.take_append_of_le_length (by simp; omega)]; exact ho2 _ _)
      have hc2 : (cs.take (k * 3) ++ xs ++ Z.drop 3).take (0 + (k + 1) * 3) ++ ((cs ++ S).drop (0 + k * 3)).take ((n - k) * 3) ++ (cs.take (k * 3) ++ xs ++ Z.drop 3).drop (0 + (k + 1) * 3 + (n - k) * 3) = cs.take (k * 3) ++ xs ++ cs.drop (k * 3) := by
        rw [Nat.zero_add, Nat.zero_add, List.take_left' (by simp; omega), List.drop_append_of_le_length (by omega), List.take_append_of_le_length (by simp; omega), List.take_of_length_le (l := cs.drop (k * 3)) (by simp; omega), show (cs.take (k * 3) ++ xs ++ Z.drop 3).drop ((k + 1) * 3 + (n - k) * 3) = [] from List.drop_eq_nil_of_le (by simp; omega), List.append_nil]
      have c2 : builtinE C0 .copy [22, 22] [.slice (some ⟨H.next, 0 + (k + 1) * 3, some 3⟩) (n - k) (n - k), .slice (some ⟨i, 0 + k * 3, none⟩) (n - k) (c - k)] (H.new (.cells (cs.take (k * 3) ++ xs ++ Z.drop 3) false)) = some (I (n - k : Nat), H.new (.cells (cs.take (k * 3) ++ xs ++ cs.drop (k * 3)) false)) := by
        have c2 := c2
        rw [Hp.setO_new, if_pos rfl] at c2
        rw [← hc2]; exact c2
      have hsub : (n : Int) + 1 - k = ((n + 1 - k : Nat) : Int) := by omega
      rw [show ((k + 1 : Nat) : Int) = (k : Int) + 1 from rfl] at s3
      rw [hsub] at wd
      simp only [F32, l0, B_some, lnS_slice, bin_eql, show decide ((1 : Int) = 0) = false from rfl, decide_false, br_bool, Bool.false_eq_true, if_false, hkni, bin_add, bin_sub, show ((1 : Nat) : Int) = 1 from rfl, wn, wk, hsub, wd, cap22, bin_gtr, hri, decide_true, if_true, s1, s2, s3, a1, c1, c2]
end Go.Proofs.Ytiigiodagfalpaa.Y
