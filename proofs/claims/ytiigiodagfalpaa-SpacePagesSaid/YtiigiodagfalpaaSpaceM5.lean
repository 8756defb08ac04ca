/- The space seat: the plain law of what a call makes of regions. -/
import Derived.Test.YtiigiodagfalpaaSpaceM4
set_option maxRecDepth 100000
set_option maxHeartbeats 4000000
namespace Go.Proofs.Ytiigiodagfalpaa.X
open Go.Ahe Go.Ahe.X

/-- How many pages. -/
def pl (l : List Rg) : Nat := (pgs l).length
theorem pl_nil : pl [] = 0 := rfl
theorem pl_app (a b : List Rg) : pl (a ++ b) = pl a + pl b := by simp [pl, pgs]
theorem pl_cons (r : Rg) (l : List Rg) : pl (r :: l) = r.count.toNat + pl l := by simp [pl, pgs, Rg.pg]
theorem pl_piece (a b : Nat) (w : Bool) : pl (piece a b w) = b - a := by
  unfold piece
  split
  · rw [pl_nil]; omega
  · rw [pl_cons, pl_nil]; simp
theorem pl_mem {l : List Rg} : ∀ {r : Rg}, r ∈ l → r.count.toNat ≤ pl l := by
  induction l with
  | nil => intro r h; cases h
  | cons a l ih =>
    intro r h
    rw [pl_cons]
    rcases List.mem_cons.1 h with rfl | h
    · omega
    · have := ih h; omega

theorem stop_of {r : Rg} (h : 1 ≤ r.count ∧ (r.first : Int) + r.count ≤ 34359738368) : r.stop = r.first + r.count := by
  unfold Rg.stop
  rw [wr_u64 (n := r.count) (by omega) (by omega), wr_u64 (by omega) (by omega)]
theorem chk_of : ∀ {l : List Rg} {n e : Int}, (∀ r ∈ l, 1 ≤ r.count ∧ r.count ≤ 16 ∧ (r.first : Int) + r.count ≤ 34359738368 ∧ e ≤ r.first) → (l.Pairwise fun a b => (a.first : Int) + a.count ≤ b.first) → chk l n e = some (n + pl l)
  | [], n, e, _, _ => by simp [chk, pl_nil]
  | r :: l, n, e, h1, h2 => by
    obtain ⟨a, b, c, d⟩ := h1 r (List.mem_cons_self ..)
    obtain ⟨p1, p2⟩ := List.pairwise_cons.1 h2
    have hb : r.bad e = false := by
      unfold Rg.bad
      simp only [Bool.or_eq_false_iff, decide_eq_false_iff_not]
      omega
    rw [chk, hb, cond_false, stop_of ⟨a, c⟩, chk_of (fun x hx => by
      obtain ⟨a', b', c', _⟩ := h1 x (List.mem_cons_of_mem _ hx)
      exact ⟨a', b', c', p1 x hx⟩) p2, pl_cons]
    congr 1
    omega
theorem check_of {l : List Rg} (h8 : l.length ≤ 8) (h : ∀ r ∈ l, 1 ≤ r.count ∧ (r.first : Int) + r.count ≤ 34359738368) (hp : l.Pairwise fun a b => (a.first : Int) + a.count ≤ b.first) (h16 : pl l ≤ 16) : check l = 0 := by
  unfold check
  rw [if_neg (by omega), chk_of (fun r hr => ⟨(h r hr).1, by have := pl_mem hr; omega, (h r hr).2, by omega⟩) hp]
  simp
  omega
theorem check_of_ok {l : List Rg} (h : check l = 0) : l.length ≤ 8 ∧ (∀ r ∈ l, 1 ≤ r.count ∧ (r.first : Int) + r.count ≤ 34359738368) ∧ (l.Pairwise fun a b => (a.first : Int) + a.count ≤ b.first) ∧ pl l ≤ 16 := by
  obtain ⟨h8, m, hm, _⟩ := check_ok h
  obtain ⟨c1, c2⟩ := chk_ok hm
  exact ⟨h8, fun r hr => ⟨(c1 r hr).1, (c1 r hr).2.2.1⟩, c2, pgs_few h⟩

/-! cut -/
theorem mem_piece {a b : Nat} {w : Bool} {x : Rg} : x ∈ piece a b w ↔ a < b ∧ x = ⟨a, ((b - a : Nat) : Int), w⟩ := by
  unfold piece
  split
  · simp; omega
  · simp; omega

structure Inn2 (inn : Rg → List Rg) : Prop where
  one : ∀ x, (inn x).length ≤ 1
  mem : ∀ x, ∀ y ∈ inn x, y.first = x.first ∧ y.count = x.count

theorem pl_inn {inn : Rg → List Rg} (h : Inn2 inn) (x : Rg) : pl (inn x) ≤ x.count.toNat := by
  have h1 := h.one x
  have h2 := h.mem x
  cases hx : inn x with
  | nil => simp [pl_nil]
  | cons y ys =>
    rw [hx] at h1 h2
    cases ys with
    | nil => have := h2 y (List.mem_cons_self ..); rw [pl_cons, pl_nil, this.2]; omega
    | cons => simp at h1

theorem cut1_mem {inn : Rg → List Rg} (h : Inn2 inn) {f t : Nat} {r : Rg} {x : Rg} (hx : x ∈ cut1 f t inn r) : (r.first ≤ x.first ∧ 1 ≤ x.count ∧ (x.first : Int) + x.count ≤ (r.first + r.count.toNat : Nat)) ∧
    ((x.first + x.count : Int) ≤ f ∨ ((f : Int) ≤ x.first ∧ (x.first + x.count : Int) ≤ t) ∨ (t : Int) ≤ x.first) := by
  simp only [cut1, List.mem_append, List.mem_flatMap, mem_piece] at hx
  rcases hx with (⟨h1, rfl⟩ | ⟨y, ⟨h1, rfl⟩, h2⟩) | ⟨h1, rfl⟩
  · simp only; omega
  · obtain ⟨e1, e2⟩ := h.mem _ _ h2
    rw [e1, e2]
    simp only; omega
  · simp only; omega

theorem pw_small {R : Rg → Rg → Prop} {l : List Rg} (h : l.length ≤ 1) : l.Pairwise R := by
  match l, h with
  | [], _ => exact .nil
  | [a], _ => exact List.pairwise_singleton ..

theorem cut1_pw {inn : Rg → List Rg} (h : Inn2 inn) {f t : Nat} (hft : f ≤ t) (r : Rg) : (cut1 f t inn r).Pairwise fun a b => (a.first : Int) + a.count ≤ b.first := by
  unfold cut1
  rw [List.pairwise_append, List.pairwise_append]
  refine ⟨⟨pw_small (piece_len _ _ _), ?_, ?_⟩, pw_small (piece_len _ _ _), ?_⟩
  · have hl := piece_len (max r.first f) (min (r.first + r.count.toNat) t) r.write
    generalize (piece (max r.first f) (min (r.first + r.count.toNat) t) r.write) = ps at *
    match ps, hl with
    | [], _ => exact .nil
    | [a], _ => simpa using pw_small (h.one a)
  · intro a ha b hb
    rw [mem_piece] at ha
    simp only [List.mem_flatMap, mem_piece] at hb
    obtain ⟨y, ⟨h1, rfl⟩, h2⟩ := hb
    obtain ⟨e1, e2⟩ := h.mem _ _ h2
    obtain ⟨h3, rfl⟩ := ha
    rw [e1]
    simp only; omega
  · intro a ha b hb
    rw [mem_piece] at hb
    obtain ⟨h3, rfl⟩ := hb
    simp only [List.mem_append, List.mem_flatMap, mem_piece] at ha
    rcases ha with ⟨h1, rfl⟩ | ⟨y, ⟨h1, rfl⟩, h2⟩
    · simp only; omega
    · obtain ⟨e1, e2⟩ := h.mem _ _ h2
      rw [e1, e2]
      simp only; omega

/-- How many pages of a stretch are in a region. -/
def ov (r : Rg) (f t : Nat) : Nat := min (r.first + r.count.toNat) t - max r.first f
theorem pl_cut1 {inn : Rg → List Rg} (h : Inn2 inn) {f t : Nat} (hft : f ≤ t) (r : Rg) : pl (cut1 f t inn r) ≤ r.count.toNat := by
  unfold cut1
  rw [pl_app, pl_app, pl_piece, pl_piece]
  have hp : pl ((piece (max r.first f) (min (r.first + r.count.toNat) t) r.write).flatMap inn) ≤ ov r f t := by
    unfold piece ov
    split
    · simp [pl_nil]
    · have := pl_inn h ⟨max r.first f, ((min (r.first + r.count.toNat) t - max r.first f : Nat) : Int), r.write⟩
      simpa using this
  unfold ov at hp
  omega
theorem pl_prot {f t : Nat} (b : Bool) (hft : f ≤ t) (r : Rg) : pl (cut1 f t (fun r => [⟨r.first, r.count, b⟩]) r) = r.count.toNat := by
  unfold cut1
  rw [pl_app, pl_app, pl_piece, pl_piece]
  have hp : pl ((piece (max r.first f) (min (r.first + r.count.toNat) t) r.write).flatMap fun r => [⟨r.first, r.count, b⟩]) = ov r f t := by
    unfold piece ov
    split
    · simp [pl_nil]; omega
    · simp [pl_cons, pl_nil]
  rw [hp]
  unfold ov
  omega
theorem flat_nil (l : List Rg) : l.flatMap (fun _ => ([] : List Rg)) = [] := by induction l <;> simp_all
theorem pl_unmap {f t : Nat} (hft : f ≤ t) (r : Rg) : pl (cut1 f t (fun _ => []) r) + ov r f t = r.count.toNat := by
  unfold cut1
  rw [pl_app, pl_app, pl_piece, pl_piece]
  rw [flat_nil, pl_nil]
  unfold ov
  omega

theorem i2unmap : Inn2 fun _ => [] := ⟨by simp, by simp⟩
theorem i2prot (b : Bool) : Inn2 fun r => [⟨r.first, r.count, b⟩] := ⟨by simp, by simp⟩

theorem chg_ok {l : List Rg} {f : Nat} {c : Int} {inn : Rg → List Rg} (h : Inn2 inn) (hn : chgN l f c inn = 0) : check l = 0 ∧ whole l f c = true ∧ (chgO l f c inn).length ≤ 8 ∧ chgL l f c inn = chgO l f c inn := by
  refine ⟨?_, ?_, ?_, if_pos hn⟩
  · apply Decidable.byContradiction
    intro hc
    unfold chgN at hn
    rw [if_pos hc] at hn
    cases hn
  · unfold chgN at hn
    split at hn
    · cases hn
    · split at hn
      · cases hn
      · rename_i h; simpa using h
  · unfold chgN at hn
    split at hn
    · cases hn
    · split at hn
      · cases hn
      · split at hn
        · cases hn
        · omega

theorem pl_flat {g : Rg → List Rg} {l : List Rg} (h : ∀ r, pl (g r) ≤ r.count.toNat) : pl (l.flatMap g) ≤ pl l := by
  induction l with
  | nil => simp
  | cons r l ih => have := h r; rw [List.flatMap_cons, pl_app, pl_cons]; omega

/-- What a change hands back is well. -/
theorem chg_check {l : List Rg} {f : Nat} {c : Int} {inn : Rg → List Rg} (h : Inn2 inn) (hn : chgN l f c inn = 0) : check (chgL l f c inn) = 0 := by
  obtain ⟨hc, hw, h8, he⟩ := chg_ok h hn
  obtain ⟨_, c1, c2, c3⟩ := check_of_ok hc
  rw [he]
  refine check_of h8 (fun x hx => ?_) ?_ (Nat.le_trans (pl_flat fun r => pl_cut1 h (by omega) r) c3)
  · obtain ⟨r, hr, hx⟩ := List.mem_flatMap.1 hx
    have := (cut1_mem h hx).1
    have := c1 r hr
    omega
  · unfold chgO
    rw [List.pairwise_flatMap]
    refine ⟨fun r _ => cut1_pw h (by omega) r, ?_⟩
    refine (List.Pairwise.and_mem.1 c2).imp ?_
    intro a b ⟨ha, hb, hab⟩ x hx y hy
    have h1 := (cut1_mem h hx).1
    have h2 := (cut1_mem h hy).1
    have := c1 a ha
    omega

/-! The stretch. -/
def sov (l : List Rg) (f t : Nat) : Nat := (l.map fun r => ov r f t).sum
theorem ov_step (r : Rg) {f t : Nat} (hft : f ≤ t) (hr : 1 ≤ r.count) : ov r f (t + 1) = ov r f t + if r.has t = true then 1 else 0 := by
  by_cases h : r.first ≤ t ∧ (t : Int) < r.first + r.count
  · have hh : r.has t = true := by unfold Rg.has; simp [h]
    rw [hh, if_pos rfl]
    unfold ov; omega
  · have hh : r.has t = false := by
      unfold Rg.has
      simp only [Bool.and_eq_false_iff, decide_eq_false_iff_not]
      omega
    rw [hh, if_neg (by decide)]
    unfold ov; omega
theorem sov_step {f t : Nat} (hft : f ≤ t) : ∀ {l : List Rg}, (∀ r ∈ l, 1 ≤ r.count) → sov l f (t + 1) = sov l f t + l.countP (Rg.has · t)
  | [], _ => rfl
  | r :: l, h => by
    have h1 := ov_step r hft (h r (List.mem_cons_self ..))
    have h2 := sov_step hft fun x hx => h x (List.mem_cons_of_mem r hx)
    unfold sov at h2 ⊢
    rw [List.map_cons, List.sum_cons, List.map_cons, List.sum_cons, List.countP_cons, h1, h2]
    omega
theorem has_not {a b : Rg} {p : Nat} (h : (a.first : Int) + a.count ≤ b.first) (ha : a.has p = true) : b.has p = false := by
  unfold Rg.has at *
  simp only [Bool.and_eq_true, decide_eq_true_eq, Bool.and_eq_false_iff, decide_eq_false_iff_not] at *
  omega
theorem count_one {p : Nat} : ∀ {l : List Rg}, (l.Pairwise fun a b => (a.first : Int) + a.count ≤ b.first) → (l.find? (Rg.has · p)).isSome = true → l.countP (Rg.has · p) = 1
  | [], _, h => by simp at h
  | r :: l, hp, h => by
    obtain ⟨p1, p2⟩ := List.pairwise_cons.1 hp
    rw [List.countP_cons]
    cases hr : r.has p with
    | true =>
      have : l.countP (Rg.has · p) = 0 := by
        rw [List.countP_eq_zero]
        intro x hx
        rw [has_not (p1 x hx) hr]
        decide
      rw [this]; rfl
    | false =>
      rw [List.find?_cons, hr] at h
      rw [count_one p2 h]; rfl
theorem find_eq {l : List Rg} (hc : check l = 0) (p : Nat) : find l p = l.find? (Rg.has · p) := if_pos hc
theorem sov_cov {l : List Rg} (hc : check l = 0) : ∀ {m p f : Nat}, f ≤ p → cov l p m = true → sov l f (p + m) = sov l f p + m
  | 0, p, f, _, _ => rfl
  | m + 1, p, f, hf, h => by
    obtain ⟨_, c1, c2, _⟩ := check_of_ok hc
    simp only [cov, Bool.and_eq_true] at h
    rw [find_eq hc] at h
    have := sov_cov hc (m := m) (p := p + 1) (f := f) (by omega) h.2
    rw [show p + (m + 1) = p + 1 + m by omega, this, sov_step hf (fun r hr => (c1 r hr).1), count_one c2 h.1]
    omega
theorem sov_zero (l : List Rg) (f : Nat) (h : ∀ r ∈ l, 1 ≤ r.count) : sov l f f = 0 := by
  unfold sov
  induction l with
  | nil => rfl
  | cons r l ih =>
    have := ih fun x hx => h x (List.mem_cons_of_mem r hx)
    rw [List.map_cons, List.sum_cons, this]
    unfold ov; omega
theorem cov_at {l : List Rg} : ∀ {m p : Nat}, cov l p m = true → ∀ i, i < m → (find l (p + i)).isSome = true
  | m + 1, p, h, 0, _ => by simp only [cov, Bool.and_eq_true] at h; exact h.1
  | m + 1, p, h, i + 1, hi => by
    simp only [cov, Bool.and_eq_true] at h
    have := cov_at h.2 i (by omega)
    rwa [show p + 1 + i = p + (i + 1) by omega] at this

/-- Unmap takes just the stretch's pages. -/
theorem unmap_pl {l : List Rg} {f : Nat} {c : Int} (hn : chgN l f c (fun _ => []) = 0) : (pl (chgL l f c fun _ => []) : Int) = pl l - c := by
  obtain ⟨hc, hw, h8, he⟩ := chg_ok i2unmap hn
  obtain ⟨_, c1, c2, c3⟩ := check_of_ok hc
  obtain ⟨w1, w2, w3, w4⟩ := whole_in hw
  have h1 := sov_cov hc (Nat.le_refl f) w4
  rw [sov_zero l f fun r hr => (c1 r hr).1] at h1
  have h2 : ∀ l : List Rg, pl (l.flatMap (cut1 f (f + c.toNat) fun _ => [])) + sov l f (f + c.toNat) = pl l := fun l => by
    induction l with
    | nil => rfl
    | cons r l ih =>
      have := pl_unmap (f := f) (t := f + c.toNat) (by omega) r
      unfold sov at ih ⊢
      rw [List.flatMap_cons, pl_app, List.map_cons, List.sum_cons, pl_cons]
      omega
  have := h2 l
  rw [he]
  unfold chgO
  omega
/-- Protect leaves all. -/
theorem prot_pl {l : List Rg} {f : Nat} {c : Int} {b : Bool} (hn : chgN l f c (fun r => [⟨r.first, r.count, b⟩]) = 0) : pl (chgL l f c fun r => [⟨r.first, r.count, b⟩]) = pl l := by
  obtain ⟨hc, hw, h8, he⟩ := chg_ok (i2prot b) hn
  rw [he]
  unfold chgO
  clear hn hc hw h8 he
  induction l with
  | nil => rfl
  | cons r l ih =>
    have := pl_prot (f := f) (t := f + c.toNat) b (by omega) r
    rw [List.flatMap_cons, pl_app, pl_cons]
    omega

/-! Map. -/
structure MapOk (l : List Rg) (r : Rg) : Prop where
  chk : check l = 0
  c1 : 1 ≤ r.count
  le : (r.first : Int) + r.count ≤ 34359738368
  q : ∃ q, q ≤ l.length ∧ mapL l r = l.take q ++ r :: l.drop q ∧ (∀ a ∈ l.take q, (a.first : Int) + a.count ≤ r.first) ∧ ∀ a ∈ l.drop q, (r.first : Int) + r.count ≤ a.first
  len : l.length < 8
  few : (pl l : Int) + r.count ≤ 16

theorem map_ok {l : List Rg} {r : Rg} (hr : r.wf) (hn : mapN l r = 0) : MapOk l r := by
  have hmL : mapL l r = l.take (cutAt l r.first) ++ r :: l.drop (cutAt l r.first) := if_pos hn
  unfold mapN at hn
  split at hn
  · cases hn
  · rename_i hc
    have hc : check l = 0 := by simpa using hc
    split at hn
    · cases hn
    · rename_i hb
      split at hn
      · cases hn
      · rename_i ht
        split at hn
        · cases hn
        · rename_i h8
          obtain ⟨_, k1, k2, k3⟩ := check_of_ok hc
          obtain ⟨r1, r2, r3⟩ := hr
          have b1 : 1 ≤ r.count := by omega
          have w1 : IntKind.u64.wrap r.count = r.count := wr_u64 (by omega) (by omega)
          rw [w1] at hb
          have w2 : IntKind.u64.wrap (34359738368 - r.count) = 34359738368 - r.count := wr_u64 (by omega) (by omega)
          rw [w2] at hb
          have hst := stop_of (r := r) ⟨b1, by omega⟩
          have w3 : IntKind.i64.wrap (16 - ((pgs l).length : Int)) = 16 - ((pgs l).length : Int) := wr_i64 (by have : pl l ≤ 16 := k3; unfold pl at this; omega) (by omega)
          rw [w3] at h8
          have hspec := Classical.choose_spec (at31 hc r.first)
          have hq : Classical.choose (at31 hc r.first) = cutAt l r.first := by unfold cutAt; rw [dif_pos hc]
          rw [hq] at hspec
          obtain ⟨hql, hcut, _⟩ := hspec
          unfold taken at ht
          generalize cutAt l r.first = q at *
          refine ⟨hc, b1, by omega, ⟨q, hql, hmL, fun a ha => ?_, fun a ha => ?_⟩, by omega, by unfold pl; omega⟩
          · obtain ⟨k, hk, rfl⟩ := List.mem_iff_getElem.1 ha
            rw [List.getElem_take]
            rw [List.length_take] at hk
            exact (hcut k (by omega)).2 (by omega)
          · by_cases hqn : q < l.length
            · rw [dif_pos hqn] at ht
              simp only [Bool.or_eq_true, decide_eq_true_eq] at ht
              have h0 : (r.first : Int) + r.count ≤ l[q].first := by omega
              rw [List.drop_eq_getElem_cons hqn] at ha
              rcases List.mem_cons.1 ha with rfl | ha
              · exact h0
              · have hd := List.Pairwise.drop (i := q) k2
                rw [List.drop_eq_getElem_cons hqn] at hd
                have := (List.pairwise_cons.1 hd).1 a ha
                have := (k1 l[q] (List.getElem_mem hqn)).1
                omega
            · rw [List.drop_eq_nil_of_le (by omega)] at ha
              cases ha

theorem map_pl {l : List Rg} {r : Rg} (h : MapOk l r) : (pl (mapL l r) : Int) = pl l + r.count := by
  obtain ⟨q, _, e, _⟩ := h.q
  have := h.c1
  have hs : pl l = pl (l.take q) + pl (l.drop q) := by rw [← pl_app, List.take_append_drop]
  rw [e, pl_app, pl_cons, hs]
  omega
theorem map_check {l : List Rg} {r : Rg} (h : MapOk l r) : check (mapL l r) = 0 := by
  have hp := map_pl h
  obtain ⟨_, k1, k2, k3⟩ := check_of_ok h.chk
  obtain ⟨q, hq, e, m1, m2⟩ := h.q
  have hlen := h.len
  have hfew := h.few
  refine check_of (by rw [e]; simp; omega) (fun x hx => ?_) ?_ (by omega)
  · rw [e] at hx
    rcases List.mem_append.1 hx with hx | hx
    · exact k1 x (List.mem_of_mem_take hx)
    · rcases List.mem_cons.1 hx with rfl | hx
      · exact ⟨h.c1, h.le⟩
      · exact k1 x (List.mem_of_mem_drop hx)
  · rw [e, List.pairwise_append]
    refine ⟨List.Pairwise.take k2, List.pairwise_cons.2 ⟨fun a ha => m2 a ha, List.Pairwise.drop k2⟩, fun a ha b hb => ?_⟩
    rcases List.mem_cons.1 hb with rfl | hb
    · exact m1 a ha
    · have h1 := m1 a ha
      have h2 := m2 b hb
      have h3 := h.c1
      omega
/-- No page of what is mapped was mapped. -/
theorem map_free {l : List Rg} {r : Rg} (h : MapOk l r) {p : Nat} (hp : r.has p = true) : l.find? (Rg.has · p) = none := by
  obtain ⟨q, hq, e, m1, m2⟩ := h.q
  rw [List.find?_eq_none]
  intro x hx
  rw [← List.take_append_drop q l] at hx
  have hfa : x.has p = false := by
    rcases List.mem_append.1 hx with hx | hx
    · have := m1 x hx
      unfold Rg.has at *
      simp only [Bool.and_eq_true, decide_eq_true_eq, Bool.and_eq_false_iff, decide_eq_false_iff_not] at *
      omega
    · exact has_not (m2 x hx) hp
  rw [hfa]; decide
theorem map_find {l : List Rg} {r : Rg} (h : MapOk l r) (p : Nat) : (mapL l r).find? (Rg.has · p) = if r.has p = true then some r else l.find? (Rg.has · p) := by
  obtain ⟨q, hq, e, m1, m2⟩ := h.q
  rw [e, List.find?_append, List.find?_cons]
  cases hp : r.has p with
  | true =>
    have hn : (l.take q).find? (Rg.has · p) = none := by
      have := map_free h hp
      rw [List.find?_eq_none] at this ⊢
      exact fun x hx => this x (List.mem_of_mem_take hx)
    rw [hn]; simp
  | false =>
    rw [if_neg (by decide)]
    conv => rhs; rw [← List.take_append_drop q l]
    rw [List.find?_append]
/-- Where Map is well, there is nothing to unmap. -/
theorem map_whole {l : List Rg} {r : Rg} (h : MapOk l r) : whole l r.first r.count = false := by
  cases hw : whole l r.first r.count with
  | false => rfl
  | true =>
    obtain ⟨w1, _, _, w4⟩ := whole_in hw
    have h1 := cov_at w4 0 (by omega)
    rw [Nat.add_zero, find_eq h.chk, map_free h (by unfold Rg.has; simp; omega)] at h1
    cases h1

/-! Page by page. -/
theorem flat_find {g : Rg → List Rg} {p : Nat} {k : Rg → Bool} : ∀ {l : List Rg}, (∀ r ∈ l, ((g r).find? (Rg.has · p)).map Rg.write = if r.has p = true then some (k r) else none) →
    ((l.flatMap g).find? (Rg.has · p)).map Rg.write = (l.find? (Rg.has · p)).map k
  | [], _ => rfl
  | r :: l, h => by
    have h1 := h r (List.mem_cons_self ..)
    have h2 := flat_find fun x hx => h x (List.mem_cons_of_mem r hx)
    rw [List.flatMap_cons, List.find?_append, List.find?_cons]
    cases hr : r.has p with
    | true =>
      rw [hr, if_pos rfl] at h1
      cases hg : (g r).find? (Rg.has · p) with
      | none => rw [hg] at h1; cases h1
      | some x => rw [hg] at h1; simpa using h1
    | false =>
      rw [hr, if_neg (by decide)] at h1
      cases hg : (g r).find? (Rg.has · p) with
      | none => simpa using h2
      | some x => rw [hg] at h1; cases h1
theorem piece_find (a b : Nat) (w : Bool) (p : Nat) : (piece a b w).find? (Rg.has · p) = if a ≤ p ∧ p < b then some ⟨a, ((b - a : Nat) : Int), w⟩ else none := by
  unfold piece
  by_cases h : a ≤ p ∧ p < b
  · rw [if_neg (by omega), if_pos h, List.find?_cons]
    have : Rg.has ⟨a, ((b - a : Nat) : Int), w⟩ p = true := by unfold Rg.has; simp; omega
    rw [this]
  · rw [if_neg h]
    split
    · rfl
    · have : Rg.has ⟨a, ((b - a : Nat) : Int), w⟩ p = false := by
        unfold Rg.has
        simp only [Bool.and_eq_false_iff, decide_eq_false_iff_not]
        omega
      rw [List.find?_cons, this]; rfl
end Go.Proofs.Ytiigiodagfalpaa.X
