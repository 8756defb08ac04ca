/- The space seat: descriptors, there and back. -/
import Derived.Test.YtiigiodagfalpaaSpaceD
import Derived.Test.YtiigiodagfalpaaSpaceS4
set_option maxRecDepth 100000
set_option maxHeartbeats 1000000
namespace Go.Proofs.Ytiigiodagfalpaa.X
open Go.Ahe Go.Ahe.X Go.RowKit
def okPb (w : Nat) : Bool := decide (okP w)
theorem okP_odd {w : Nat} (h : okP w) : ¬ w % 2 = 0 := by have := h.1; omega
theorem decS_ex (w : Nat) : ∃ k f a r u n e, decS w 3 = (D k f a r u n, e) := by
  unfold decS wD
  split
  · exact ⟨_, _, _, _, _, _, _, rfl⟩
  · split
    · exact ⟨_, _, _, _, _, _, _, rfl⟩
    · rw [if_pos rfl]
      split
      · exact ⟨_, _, _, _, _, _, _, rfl⟩
      · exact ⟨_, _, _, _, _, _, _, rfl⟩
theorem decS_ok {w : Nat} (h : okPb w = true) : decS w 3 = (wD 2 w, 0) := by
  have h := of_decide_eq_true h
  unfold decS; rw [if_neg (by omega), if_neg (okP_odd h), if_pos rfl, if_pos h]
theorem bv_c (b : Bool) (k : Nat) : ∃ c, bv b k = 2 ^ k * c ∧ c ≤ 1 ∧ b = decide (c = 1) := by
  cases b with
  | true => exact ⟨1, by simp [bv], Nat.le_refl _, rfl⟩
  | false => exact ⟨0, by simp [bv], by decide, rfl⟩
/-- What was written is read. -/
theorem dec_enc {k f : Int} {a r u n : Bool} (h : encOk k f a r u n = true) {l : Int} (hl : k = 1 ∧ 0 ≤ l ∧ l ≤ 2 ∨ k ≠ 1 ∧ l = 3) : decS (encW k f a r u n) l = (D k f a r u n, 0) ∧ encW k f a r u n < 18446744073709551616 := by
  have hv : encW k f a r u n = wsum f.toNat a r u n + (if k = 0 then 0 else 3) := by simp only [encW, h, cond_true]
  have hlt : 0 ≤ f ∧ f < 64 := by unfold encOk at h; simp at h; exact h.1
  obtain ⟨F, rfl⟩ := Int.eq_ofNat_of_zero_le hlt.1
  have hF : F < 64 := by omega
  have hlt2 := wsum_lt F a r u n hF
  simp only [Int.toNat_natCast] at hv
  have hk : k = 2 ∨ (k = 1 ∧ bare a r u n = true) ∨ (k = 0 ∧ bare a r u n = true ∧ F = 0) := by
    unfold encOk at h; simp at h
    rcases h.2 with (h | h) | h
    · exact .inl h
    · exact .inr (.inl h)
    · exact .inr (.inr ⟨h.1.1, h.1.2, h.2⟩)
  have bare_ok : bare a r u n = true → a = false ∧ r = false ∧ u = false ∧ n = false := by cases a <;> cases r <;> cases u <;> cases n <;> decide
  rcases hk with rfl | ⟨rfl, hb⟩ | ⟨rfl, hb, rfl⟩
  · rw [if_neg (by decide)] at hv
    have hl : l = 3 := by rcases hl with hl | hl <;> omega
    subst hl
    rw [hv]
    refine ⟨?_, by omega⟩
    have ho : okP (wsum F a r u n + 3) := by
      unfold okP wsum; cases a <;> cases r <;> cases u <;> cases n <;> simp only [bv, cond_true, cond_false] <;> omega
    unfold decS
    rw [if_neg (by omega), if_neg (okP_odd ho), if_pos rfl, if_pos ho]
    unfold wD bt wsum
    obtain ⟨c1, p1, q1, r1⟩ := bv_c u 6
    obtain ⟨c2, p2, q2, r2⟩ := bv_c r 7
    obtain ⟨c3, p3, q3, r3⟩ := bv_c a 10
    obtain ⟨c4, p4, q4, r4⟩ := bv_c n 11
    rw [p1, p2, p3, p4, r1, r2, r3, r4]
    clear hv hlt2 h hl ho p1 p2 p3 p4 r1 r2 r3 r4 hlt
    have e1 : ((F * 4096 + 2 ^ 11 * c4 + 2 ^ 10 * c3 + 2 ^ 7 * c2 + 2 ^ 6 * c1 + 3 : Nat) : Int) / 4096 % 64 = F := by omega
    have e2 : decide ((F * 4096 + 2 ^ 11 * c4 + 2 ^ 10 * c3 + 2 ^ 7 * c2 + 2 ^ 6 * c1 + 3) / 2 ^ 10 % 2 = 1) = decide (c3 = 1) := decide_eq_decide.2 (by omega)
    have e3 : decide ((F * 4096 + 2 ^ 11 * c4 + 2 ^ 10 * c3 + 2 ^ 7 * c2 + 2 ^ 6 * c1 + 3) / 2 ^ 7 % 2 = 1) = decide (c2 = 1) := decide_eq_decide.2 (by omega)
    have e4 : decide ((F * 4096 + 2 ^ 11 * c4 + 2 ^ 10 * c3 + 2 ^ 7 * c2 + 2 ^ 6 * c1 + 3) / 2 ^ 6 % 2 = 1) = decide (c1 = 1) := decide_eq_decide.2 (by omega)
    have e5 : decide ((F * 4096 + 2 ^ 11 * c4 + 2 ^ 10 * c3 + 2 ^ 7 * c2 + 2 ^ 6 * c1 + 3) / 2 ^ 11 % 2 = 1) = decide (c4 = 1) := decide_eq_decide.2 (by omega)
    rw [e1, e2, e3, e4, e5]
  · rw [if_neg (by decide)] at hv
    obtain ⟨rfl, rfl, rfl, rfl⟩ := bare_ok hb
    rw [hv]
    refine ⟨?_, by omega⟩
    have hl : 0 ≤ l ∧ l ≤ 2 := by rcases hl with hl | hl <;> omega
    have hw : wsum F false false false false + 3 = F * 4096 + 3 := rfl
    rw [hw]
    have ho : okT (F * 4096 + 3) := by unfold okT; omega
    unfold decS
    rw [if_neg (by omega), if_neg (by omega), if_neg (by omega), if_pos ho]
    unfold wD bt
    have e1 : ((F * 4096 + 3 : Nat) : Int) / 4096 % 64 = F := by omega
    have e2 : decide ((F * 4096 + 3) / 2 ^ 10 % 2 = 1) = false := decide_eq_false (by omega)
    have e3 : decide ((F * 4096 + 3) / 2 ^ 7 % 2 = 1) = false := decide_eq_false (by omega)
    have e4 : decide ((F * 4096 + 3) / 2 ^ 6 % 2 = 1) = false := decide_eq_false (by omega)
    have e5 : decide ((F * 4096 + 3) / 2 ^ 11 % 2 = 1) = false := decide_eq_false (by omega)
    rw [e1, e2, e3, e4, e5]
  · obtain ⟨rfl, rfl, rfl, rfl⟩ := bare_ok hb
    have hl : l = 3 := by rcases hl with hl | hl <;> omega
    subst hl
    rw [hv]
    refine ⟨?_, by decide⟩
    show decS 0 3 = _
    unfold decS
    rw [if_neg (by omega), if_pos (by decide)]; rfl
/-- What decoding may come to. -/
theorem decS_cases (w : Nat) (l : Int) : (decS w l = (zD, 2)) ∨ (decS w l = (zD, 0) ∧ w % 2 = 0) ∨ (decS w l = (zD, 30) ∧ w % 2 = 1) ∨ (∃ k, (k = 2 ∧ okP w ∨ k = 1 ∧ okT w) ∧ decS w l = (wD k w, 0) ∧ w % 2 = 1) := by
  unfold decS
  split
  · exact .inl rfl
  · split
    · rename_i h; exact .inr (.inl ⟨rfl, h⟩)
    · have h1 : w % 2 = 1 := by omega
      split
      · split
        · rename_i h; exact .inr (.inr (.inr ⟨2, .inl ⟨rfl, h⟩, rfl, h1⟩))
        · exact .inr (.inr (.inl ⟨rfl, h1⟩))
      · split
        · rename_i h; exact .inr (.inr (.inr ⟨1, .inr ⟨rfl, h⟩, rfl, h1⟩))
        · exact .inr (.inr (.inl ⟨rfl, h1⟩))
theorem decS_page (w : Nat) : (okPb w = true ∧ decS w 3 = (wD 2 w, 0)) ∨ (okPb w = false ∧ (decS w 3 = (zD, 0) ∨ decS w 3 = (zD, 30))) := by
  cases h : okPb w with
  | true => exact .inl ⟨rfl, decS_ok h⟩
  | false =>
    have h := of_decide_eq_false h
    right
    refine ⟨rfl, ?_⟩
    unfold decS
    rw [if_neg (by omega), if_pos rfl, if_neg h]
    split
    · exact .inl rfl
    · exact .inr rfl

/-- A page's word. -/
def leafW (f : Int) (ro : Bool) : Nat := encW 2 f false ro true true
theorem leaf_ok {f : Int} (h : 0 ≤ f ∧ f < 64) (ro : Bool) : encOk 2 f false ro true true = true := by unfold encOk; simp; omega
theorem leaf_dec {f : Int} (h : 0 ≤ f ∧ f < 64) (ro : Bool) : decS (leafW f ro) 3 = (D 2 f false ro true true, 0) ∧ leafW f ro < 18446744073709551616 := dec_enc (leaf_ok h ro) (.inr ⟨by decide, rfl⟩)
theorem S12 {f : Int} (h : 0 ≤ f ∧ f < 64) (ro : Bool) (H : Hp) : call 12 [I f, .bool ro] H = some (U (leafW f ro), H) := by
  refine c12 rfl ?_
  have hf := fresh_ok H [I f, .bool ro]
  generalize H.fresh [I f, .bool ro] = H at *
  have q := S29 2 f false ro true true
  have he : encE 2 f false ro true true = 0 := by simp only [encE, leaf_ok h ro, cond_true]
  rw [he, show encW 2 f false ro true true = leafW f ro from rfl] at q
  simp [F12, q, hf, le_more]

/-- Is a word that of a user's page? -/
def mpd (w : Nat) : Bool := okPb w && bt w 6
/-- What a fault comes to: kind, fault, error. -/
def dcd (l : List Rg) (p : Nat) (store : Bool) (w : Nat) (c : Int) : Int × Int × Int :=
  if c < 0 ∨ check l ≠ 0 then (0, 0, 2) else match find l p with
  | none => (0, 1, 0)
  | some r => if store = true ∧ r.write = false then (0, 2, 0) else
    if mpd w = false then (2, 0, 0) else if store = false ∨ bt w 7 = false then (1, 0, 0) else if c = 1 then (3, 0, 0) else (4, 0, 0)
abbrev DC (x : Int × Int × Int) : Value := .tuple #[.agg #[.int .i8 x.1, .int .i8 x.2.1], I x.2.2]

theorem S9 {v : Value} {l : List Rg} {p : Nat} (store : Bool) {w : Nat} (hw : w < 18446744073709551616) (c : Int) (H : Hp) (hs : Sl Rg.enc H v l) : call 9 [v, U p, .bool store, U w, I c] H = some (DC (dcd l p store w c), H) := by
  refine c9 rfl ?_
  have hs := hs.fresh (args := [v, U p, .bool store, U w, I c]) (List.mem_cons_self ..)
  have hf := fresh_ok H [v, U p, .bool store, U w, I c]
  generalize H.fresh [v, U p, .bool store, U w, I c] = H at *
  have hs1 := hs.new (.cells [.int .i8 0, .int .i8 0] false)
  have s14 := S14 _ hs1
  have s20 := S20 (p := p) _ hs1
  have s27 := S27 w hw 3
  unfold dcd
  by_cases c1 : c < 0
  · simp [F9, c1, hf, le_more]
  · by_cases c2 : check l = 0
    · rw [c2] at s14
      simp only [c1, c2, ne_eq, not_true_eq_false, or_self, if_false]
      unfold fnd at s20
      cases hfd : find l p with
      | none =>
        rw [hfd] at s20
        rcases decS_page w with ⟨h, hd⟩ | ⟨h, hd | hd⟩ <;> rw [hd] at s27 <;> simp only [wD] at s27 <;> simp [F9, c1, s14, s20, s27, hf, le_more, zR]
      | some r =>
        rw [hfd] at s20
        rcases decS_page w with ⟨h, hd⟩ | ⟨h, hd | hd⟩ <;> rw [hd] at s27 <;> simp only [wD] at s27
        · unfold mpd
          rw [h]
          generalize bt w 6 = b6 at *
          generalize bt w 7 = b7 at *
          obtain ⟨fi, co, wr⟩ := r
          by_cases cc : c = 1
          · cases store <;> cases wr <;> cases b6 <;> cases b7 <;> simp [F9, F9j0, c1, s14, s20, s27, hf, le_more, cc]
          · cases store <;> cases wr <;> cases b6 <;> cases b7 <;> simp [F9, F9j0, c1, s14, s20, s27, hf, le_more, cc]
        · unfold mpd
          rw [h]
          obtain ⟨fi, co, wr⟩ := r
          cases store <;> cases wr <;> simp [F9, F9j0, c1, s14, s20, s27, hf, le_more]
        · unfold mpd
          rw [h]
          obtain ⟨fi, co, wr⟩ := r
          cases store <;> cases wr <;> simp [F9, F9j0, c1, s14, s20, s27, hf, le_more]
    · rw [if_pos (.inr c2)]
      simp [F9, c1, s14, c2, hf, le_more]
end Go.Proofs.Ytiigiodagfalpaa.X
