/- The space seat: pieces of regions. -/
import Derived.Test.YtiigiodagfalpaaSpaceM2
set_option maxRecDepth 100000
set_option maxHeartbeats 4000000
namespace Go.Proofs.Ytiigiodagfalpaa.X
open Go.Ahe Go.Ahe.X

/-- A piece from a page to a page. -/
def piece (a b : Nat) (w : Bool) : List Rg := if b ≤ a then [] else [⟨a, ((b - a : Nat) : Int), w⟩]
theorem one_sl {H : Hp} (r : Rg) : Sl Rg.enc (H.new (.cells r.enc false)) (.slice (some ⟨H.next, 0, none⟩) 1 1) [r] :=
  Holds.sl (cap := 1) (x := none) (l := [r]) ⟨⟨false, by rw [Hp.get_new, if_pos rfl]; simp [encL]⟩, by rw [Hp.next_new]; exact Nat.lt_succ_self _⟩
theorem bsl_one {a : Nat} {c : Int} {w : Bool} (H : Hp) : bsl 3 [U 0, I 0, .bool false] 1 [(0, .agg #[U a, I c, .bool w])] H = some (.slice (some ⟨H.next, 0, none⟩) 1 1, H.new (.cells [U a, I c, .bool w] false)) := by kernel_rfl

theorem S46 {a b : Nat} (hb : b < 1000000000000) (w : Bool) (H : Hp) : ∃ v H', call 46 [U a, U b, .bool w] H = some (v, H') ∧ Sl Rg.enc H' v (piece a b w) ∧ Keep (fun _ => False) H H' := by
  unfold piece
  by_cases h : b ≤ a
  · refine ⟨_, _, c46 (r := (.slice none 0 0, H)) ?_, by rw [if_pos h]; exact .inl ⟨rfl, rfl⟩, .refl _ _⟩
    simp [F46, h]
  · have h' : ¬ ((b : Int) ≤ a) := by omega
    obtain ⟨c, hc⟩ : ∃ c : Nat, c = b - a := ⟨_, rfl⟩
    have e : (b : Int) - a = c := by omega
    have w1 : IntKind.u64.wrap (c : Int) = c := wr_u64 (by omega) (by omega)
    have w2 : IntKind.i64.wrap (c : Int) = c := wr_i64 (by omega) (by omega)
    refine ⟨_, _, c46 (r := (.slice (some ⟨H.next, 0, none⟩) 1 1, H.new (.cells (Rg.enc ⟨a, ((b - a : Nat) : Int), w⟩) false))) ?_, by rw [if_neg h]; exact one_sl _, .new _ _ _⟩
    have hbs := bsl_one (a := a) (c := c) (w := w) H
    rw [← hc]
    simp [F46, h, e, w1, w2, hbs, Rg.enc]

/-- What is left of a region, cut at two pages; and what becomes of the inner piece. -/
def cut1 (f t : Nat) (inn : Rg → List Rg) (r : Rg) : List Rg :=
  piece r.first (min (r.first + r.count.toNat) f) r.write ++ (piece (max r.first f) (min (r.first + r.count.toNat) t) r.write).flatMap inn ++ piece (max r.first t) (r.first + r.count.toNat) r.write

theorem piece_len (a b : Nat) (w : Bool) : (piece a b w).length ≤ 1 := by unfold piece; split <;> simp
theorem minU (a b : Nat) : minE [U (a : Int), U (b : Int)] = some (U ((min a b : Nat) : Int)) := by
  simp only [minE]
  congr 2
  split <;> omega
theorem maxU (a b : Nat) : maxE [U (a : Int), U (b : Int)] = some (U ((max a b : Nat) : Int)) := by
  simp only [maxE]
  congr 2
  split <;> omega

/-- What is done to an inner piece. -/
def Inn (H0 : Hp) (fv : Value) (inn : Rg → List Rg) : Prop :=
  ∀ (x : Rg) (H : Hp), Keep (fun _ => False) H0 H → H.floor ≤ H.next → (inn x).length ≤ 1 ∧ ∃ v H', cl (ev C0) fv [x.val] H = some (v, H') ∧ Sl Rg.enc H' v (inn x) ∧ Keep (fun _ => False) H H'

theorem grLo {lo lo' : Nat} {H : Hp} {v : Value} {l : List Rg} (h : Gr Rg.enc 3 lo H v l) (hl : lo' ≤ lo) : Gr Rg.enc 3 lo' H v l := by
  rcases h with h | ⟨i, o, h1, h2, h0, h3⟩ | ⟨i, h1, h2, h3⟩
  · exact .inl h
  · exact .inr (.inl ⟨i, o, h1, h2, by omega, h3⟩)
  · exact .inr (.inr ⟨i, h1, by omega, h3⟩)
theorem grOld {lo : Nat} {H H' : Hp} {v : Value} {l : List Rg} (h : Gr Rg.enc 3 lo H v l) (hk : Keep (fun _ => False) H H') : Gr Rg.enc 3 lo H' v l := h.keep hk fun _ h => h.elim

/-- Append to what grows, of what was just made. -/
theorem app22 {lo : Nat} {H : Hp} {v1 v2 : Value} {l1 l2 : List Rg} (g : Gr Rg.enc 3 lo H v1 l1) (s : Sl Rg.enc H v2 l2) (hf : H.floor ≤ lo) (hlo : lo ≤ H.next) (hb : l1.length + l2.length < 1000000000) :
    ∃ v H', appendE C0 22 22 v1 v2 H = some (v, H') ∧ Gr Rg.enc 3 lo H' v (l1 ++ l2) ∧ Keep (fun i => lo ≤ i) H H' := by
  obtain ⟨v, H', a1, a2, a3⟩ := Gr.app (C := C0) (ts := 22) (tx := 22) sl22 ⟨_, _, T22, rfl⟩ enc_len enc_one g s hf hlo hb
  exact ⟨v, H', a1, a2, a3.mono fun i _ h => h.1⟩

theorem loop48 {H0 : Hp} {fv : Value} {inn : Rg → List Rg} (hin : Inn H0 fv inn) {lo : Nat} (hlo0 : H0.next ≤ lo) (a1 a3 p1 : Value) {c4 : Nat} {v w : Value} {ps pre : List Rg} (hps : ps.length ≤ 1) (hpre : pre.length ≤ 10) {H : Hp} (hf : H.floor ≤ lo) (hlo : lo ≤ H.next) (k0 : Keep (fun i => lo ≤ i) H0 H)
    (h4 : H.get c4 = some (.cells [fv] false)) (h4l : c4 < lo) (hs : Sl Rg.enc H v ps) (hg : Gr Rg.enc 3 lo H w pre) (X : List Kx) : ∀ fuel, 2 ≤ fuel →
    ∃ w' H', loopS F48b0L fuel [a1, a3, P c4 0, p1, w, v, I ps.length, I 0] H X = nth X 0 [a1, a3, p1, w'] H' ∧ Gr Rg.enc 3 lo H' w' (pre ++ ps.flatMap inn) ∧ Keep (fun i => lo ≤ i) H H'
  | fuel + 2, _ => by
    cases ps with
    | nil =>
      refine ⟨w, H, ?_, by simpa using hg, .refl _ _⟩
      simp [-nth_eq, loopS, F48b0L, F48b0]
    | cons x ps =>
      have : ps = [] := by cases ps with
        | nil => rfl
        | cons => simp at hps
      subst this
      obtain ⟨b, io, hb, e1, eA, _⟩ := Sb.at enc_len hs (k := 0) (by simp)
      have eA : ldA 3 (P b io) H = some x.val := eA
      have w1 : IntKind.i64.wrap 1 = 1 := by decide
      obtain ⟨H5, hH5⟩ : ∃ H5, H5 = H.new (.cells x.enc false) := ⟨_, rfl⟩
      have k5 : Keep (fun _ => False) H H5 := by rw [hH5]; exact .new _ _ _
      have n5 : H5.next = H.next + 1 := by rw [hH5, Hp.next_new]
      have hst : st 3 (P H.next 0) x.val (H.new (.cells [U 0, I 0, .bool false] false)) = some (.tuple #[], H5) := by
        rw [st_new _ _ rfl (by omega) rfl, hH5]; rfl
      have m5 : ldA 3 (P H.next 0) H5 = some x.val := by rw [hH5, ldA_get (by rw [Hp.get_new, if_pos rfl])]; rfl
      have l5 : ld1 (P c4 0) H5 = some fv := by rw [ld1_get ((k5.get _ (by omega) (fun h => h)).trans h4)]; rfl
      obtain ⟨hl, u, H6, q1, q2, q3⟩ := hin x H5 ((k0.trans (k5.mono fun _ _ h => h.elim)).mono fun i hi h => by omega) (by rw [k5.floor]; omega)
      have n6 := q3.next
      obtain ⟨w', H7, r1, r2, r3⟩ := app22 (grOld (grOld hg k5) q3) q2 (by rw [q3.floor, k5.floor]; exact hf) (by omega) (by omega)
      refine ⟨w', H7, ?_, by simpa using r2, ((k5.trans q3).mono fun _ _ h => h.elim).trans r3⟩
      simp only [Int.natCast_zero] at e1
      simp [-nth_eq, -cl_func, loopS, F48b0L, F48b0, e1, eA, hst, m5, l5, q1, r1, w1]

structure Env48 (H : Hp) (c1 c2 c3 c4 f t : Nat) (fv : Value) : Prop where
  e1 : H.get c1 = some (.cells [fnv 46] false)
  e2 : H.get c2 = some (.cells [U f] false)
  e3 : H.get c3 = some (.cells [U t] false)
  e4 : H.get c4 = some (.cells [fv] false)
  l1 : c1 < H.next
  l2 : c2 < H.next
  l3 : c3 < H.next
  l4 : c4 < H.next

theorem Env48.keep {H H' : Hp} {c1 c2 c3 c4 f t : Nat} {fv : Value} {lo : Nat} (h : Env48 H c1 c2 c3 c4 f t fv) (hk : Keep (fun i => lo ≤ i) H H') (hl : H.next ≤ lo) : Env48 H' c1 c2 c3 c4 f t fv :=
  have := hk.next; have := h.l1; have := h.l2; have := h.l3; have := h.l4
  ⟨(hk.get _ h.l1 (by omega)).trans h.e1, (hk.get _ h.l2 (by omega)).trans h.e2, (hk.get _ h.l3 (by omega)).trans h.e3, (hk.get _ h.l4 (by omega)).trans h.e4, by omega, by omega, by omega, by omega⟩

/-- A region is cut. -/
theorem S48 {H0 : Hp} {fv : Value} {inn : Rg → List Rg} (hin : Inn H0 fv inn) {c1 c2 c3 c4 f t : Nat} {r : Rg} (hr : 1 ≤ r.count ∧ (r.first : Int) + r.count ≤ 34359738368 ∧ r.stop = r.first + r.count) (ht : t < 1000000000000) (hft : f ≤ t) {H : Hp} (hf : H.floor ≤ H.next) (k0 : Keep (fun _ => False) H0 H) (he : Env48 H c1 c2 c3 c4 f t fv) :
    ∃ w H', call 48 [r.val, P c1 0, P c2 0, P c3 0, P c4 0] H = some (w, H') ∧ Gr Rg.enc 3 H.next H' w (cut1 f t inn r) ∧ Keep (fun _ => False) H H' := by
  obtain ⟨e, hE⟩ : ∃ e : Nat, e = r.first + r.count.toNat := ⟨_, rfl⟩
  have hst : r.stop = (e : Int) := by omega
  unfold cut1
  rw [← hE]
  have hmin : ∀ a b : Nat, minE [U (a : Int), U (b : Int)] = some (U ((min a b : Nat) : Int)) := minU
  obtain ⟨H1, hH1⟩ : ∃ H1, H1 = H.new (.cells r.enc false) := ⟨_, rfl⟩
  have hal : H.new (.cells [U r.first, I r.count, .bool r.write] false) = H1 := hH1.symm
  have k1 : Keep (fun _ => False) H H1 := by rw [hH1]; exact .new _ _ _
  have n1 : H1.next = H.next + 1 := by rw [hH1, Hp.next_new]
  have f1 : H1.floor = H.floor := k1.floor
  have he1 : Env48 H1 c1 c2 c3 c4 f t fv := he.keep (k1.mono (D' := fun i => H.next ≤ i) fun _ _ h => h.elim) (Nat.le_refl _)
  have g1 : H1.get H.next = some (.cells r.enc false) := by rw [hH1, Hp.get_new, if_pos rfl]
  have rd : ∀ A, Keep (fun i => H1.next ≤ i) H1 A → (ld1 (P H.next 0) A = some (U r.first) ∧ ld1 (P H.next 2) A = some (.bool r.write) ∧ ldA 3 (P H.next 0) A = some r.val) ∧ ld1 (P c1 0) A = some (fnv 46) ∧ ld1 (P c2 0) A = some (U f) ∧ ld1 (P c3 0) A = some (U t) ∧ Env48 A c1 c2 c3 c4 f t fv := fun A hA => by
    have gA := (hA.get _ (show H.next < H1.next by omega) (by omega)).trans g1
    have hE := he1.keep hA (Nat.le_refl _)
    exact ⟨⟨by rw [ld1_get gA]; rfl, by rw [ld1_get gA]; rfl, by rw [ldA_get gA]; rfl⟩, by rw [ld1_get hE.e1]; rfl, by rw [ld1_get hE.e2]; rfl, by rw [ld1_get hE.e3]; rfl, hE⟩
  have up : ∀ {A B : Hp}, Keep (fun _ => False) A B → Keep (fun i => H1.next ≤ i) A B := fun h => h.mono fun _ _ h => h.elim
  have r1 := rd H1 (.refl _ _)
  -- the piece ahead
  obtain ⟨v2, H2, p1, p2, p3⟩ := S46 (a := r.first) (b := min e f) (by omega) r.write H1
  have n2 := p3.next
  obtain ⟨w3, H3, a1, a2, a3⟩ := app22 (lo := H1.next) (Gr.nil (H := H2)) p2 (by rw [p3.floor, f1]; omega) n2 (by have := piece_len r.first (min e f) r.write; simp; omega)
  rw [List.nil_append] at a2
  have k3 : Keep (fun i => H1.next ≤ i) H1 H3 := (up p3).trans a3
  have r3 := rd H3 k3
  -- the inner one
  obtain ⟨v4, H4, p4, p5, p6⟩ := S46 (a := max r.first f) (b := min e t) (by omega) r.write H3
  have k4 := k3.trans (up p6)
  obtain ⟨m, hm⟩ : ∃ m, m = rnd := ⟨_, rfl⟩
  have hlp := fun X => loop48 (H0 := H0) (lo := H1.next) hin (by have := k0.next; omega) (P c1 0) (P c3 0) (P H.next 0) (c4 := c4) (piece_len (max r.first f) (min e t) r.write) (by have := piece_len r.first (min e f) r.write; omega) (by rw [k4.floor, f1]; omega) k4.next ((up k0).trans ((up k1).trans k4)) (rd H4 k4).2.2.2.2.e4 he1.l4 p5 (grOld a2 p6) X rnd (by rw [rnd_eq]; decide)
  have hl4 := p5.len
  have hps := piece_len (max r.first f) (min e t) r.write
  generalize (piece (max r.first f) (min e t) r.write) = ps at *
  have hln : (piece r.first (min e f) r.write ++ ps.flatMap inn).length < 1000 := by
    have h1 := piece_len r.first (min e f) r.write
    rw [List.length_append]
    cases ps with
    | nil => simp; omega
    | cons x ps => cases ps with
      | nil => have := (hin x H k0 hf).1; simp; omega
      | cons => simp at hps
  have fin : ∀ w' H', Gr Rg.enc 3 H1.next H' w' (piece r.first (min e f) r.write ++ ps.flatMap inn) → Keep (fun i => H1.next ≤ i) H4 H' → (piece r.first (min e f) r.write ++ ps.flatMap inn).length < 1000 → ∃ w2 H2, (B (ld1 (P c1 0) H') fun t46 => B (fa 0 (P H.next 0)) fun t47 => B (ld1 t47 H') fun t48 => B (ld1 (P c3 0) H') fun t49 => B (maxE [t48, t49]) fun t50 => B (ldA 3 (P H.next 0) H') fun t51 => B (call 30 [t51] H') fun p13 =>
      B (fa 2 (P H.next 0)) fun t53 => B (ld1 t53 p13.2) fun t54 => B (cl (ev C0) t46 [t50, p13.1, t54] p13.2) fun p14 => B (appendE C0 22 22 w' p14.1 p14.2) fun p15 => some (p15.1, p15.2)) = some (w2, H2) ∧ Gr Rg.enc 3 H1.next H2 w2 (piece r.first (min e f) r.write ++ ps.flatMap inn ++ piece (max r.first t) e r.write) ∧ Keep (fun i => H1.next ≤ i) H' H2 := fun w' H' g k hlen => by
    have rr := rd H' (k4.trans k)
    obtain ⟨v8, H8, q1, q2, q3⟩ := S46 (a := max r.first t) (b := e) (by omega) r.write H'
    have n8 := q3.next
    obtain ⟨w9, H9, b1, b2, b3⟩ := app22 (grOld g q3) q2 (by rw [q3.floor, k.floor, k4.floor, f1]; omega) (by have := (k4.trans k).next; omega) (by have := piece_len (max r.first t) e r.write; omega)
    refine ⟨w9, H9, ?_, b2, (up q3).trans b3⟩
    have s30 := S30 r H'
    rw [hst] at s30
    simp [rr, s30, maxU, q1, b1]
  obtain ⟨w5, H5, b1, b2, b3⟩ := hlp [fun x11 h12 =>
    B (ld1 (gv x11 0) h12) fun t46 => B (fa 0 (gv x11 2)) fun t47 => B (ld1 t47 h12) fun t48 => B (ld1 (gv x11 1) h12) fun t49 => B (maxE [t48, t49]) fun t50 => B (ldA 3 (gv x11 2) h12) fun t51 => B (call 30 [t51] h12) fun p13 =>
      B (fa 2 (gv x11 2)) fun t53 => B (ld1 t53 p13.2) fun t54 => B (cl (ev C0) t46 [t50, p13.1, t54] p13.2) fun p14 => B (appendE C0 22 22 (gv x11 3) p14.1 p14.2) fun p15 => some (p15.1, p15.2)]
  obtain ⟨w9, H9, d1, d2, d3⟩ := fin w5 H5 b2 b3 hln
  have kk := k4.trans (b3.trans d3)
  refine ⟨w9, H9, c48 ?_, grLo d2 (by omega), (k1.trans ((kk.mono fun i hi h => by omega) : Keep (fun _ => False) H1 H9))⟩
  have s30 := fun A => S30 r A
  rw [hst] at s30
  rw [nth_eq] at b1
  simp [F48, hal, r1, r3, s30, minU, maxU, p1, a1, p4, hl4]
  exact b1.trans d1

/-- All regions are cut. -/
theorem loop47 {H0 : Hp} {a1 : Value} (g : Rg → List Rg) (hg3 : ∀ r, (g r).length ≤ 3) {v : Value} {l : List Rg} (h8 : l.length ≤ 8) {lo : Nat} (hlo0 : H0.next ≤ lo)
    (hg : ∀ r ∈ l, ∀ H, H.floor ≤ H.next → Keep (fun _ => False) H0 H → ∃ w H', cl (ev C0) a1 [r.val] H = some (w, H') ∧ Gr Rg.enc 3 H.next H' w (g r) ∧ Keep (fun _ => False) H H') (X : List Kx) : ∀ (m k fuel : Nat), k + m = l.length → m < fuel →
    ∀ (H : Hp) (w : Value), H.floor ≤ lo → lo ≤ H.next → Keep (fun i => lo ≤ i) H0 H → Sb Rg.enc lo H v l → Gr Rg.enc 3 lo H w ((l.take k).flatMap g) →
    ∃ (w' : Value) (H' : Hp), loopS F47b0L fuel [a1, w, v, I l.length, I k] H X = nth X 0 [w'] H' ∧ Gr Rg.enc 3 lo H' w' (l.flatMap g) ∧ Keep (fun i => lo ≤ i) H H'
  | 0, k, fuel + 1, hk, _, H, w, hf, hlo, k0, hs, hw => by
    have gk : ¬ ((k : Int) < l.length) := by omega
    refine ⟨w, H, ?_, by rwa [List.take_of_length_le (by omega)] at hw, .refl _ _⟩
    simp [-nth_eq, loopS, F47b0L, F47b0, gk]
  | m + 1, k, fuel + 1, hk, hm, H, w, hf, hlo, k0, hs, hw => by
    have gk : ((k : Int) < l.length) := by omega
    have hkl : k < l.length := by omega
    obtain ⟨b, io, hb, e1, eA, _⟩ := Sb.at enc_len hs hkl
    have eA : ldA 3 (P b io) H = some l[k].val := eA
    have wk : IntKind.i64.wrap ((k : Int) + 1) = (k : Int) + 1 := wr_i64 (by omega) (by omega)
    obtain ⟨H5, hH5⟩ : ∃ H5, H5 = H.new (.cells l[k].enc false) := ⟨_, rfl⟩
    have k5 : Keep (fun _ => False) H H5 := by rw [hH5]; exact .new _ _ _
    have n5 : H5.next = H.next + 1 := by rw [hH5, Hp.next_new]
    have hst : st 3 (P H.next 0) l[k].val (H.new (.cells [U 0, I 0, .bool false] false)) = some (.tuple #[], H5) := by
      rw [st_new _ _ rfl (by omega) rfl, hH5]; rfl
    have m5 : ldA 3 (P H.next 0) H5 = some l[k].val := by rw [hH5, ldA_get (by rw [Hp.get_new, if_pos rfl])]; rfl
    obtain ⟨u, H6, q1, q2, q3⟩ := hg l[k] (List.getElem_mem hkl) H5 (by rw [k5.floor]; omega) ((k0.trans (k5.mono fun _ _ h => h.elim)).mono fun i hi h => by omega)
    have n6 := q3.next
    have hpre : ∀ l : List Rg, (l.flatMap g).length ≤ 3 * l.length := fun l => by
      induction l with
      | nil => simp
      | cons a l ih => have := hg3 a; simp only [List.flatMap_cons, List.length_append, List.length_cons]; omega
    have hp := hpre (l.take k)
    rw [List.length_take] at hp
    obtain ⟨w', H7, r1, r2, r3⟩ := app22 (grOld (grOld hw k5) q3) q2.sl (by rw [q3.floor, k5.floor]; exact hf) (by omega) (by have := hg3 l[k]; omega)
    have k7 : Keep (fun i => lo ≤ i) H H7 := ((k5.trans q3).mono fun _ _ h => h.elim).trans r3
    have hpg : (l.take k).flatMap g ++ g l[k] = (l.take (k + 1)).flatMap g := by
      rw [List.take_succ_eq_append_getElem hkl, List.flatMap_append]
      simp
    rw [hpg] at r2
    obtain ⟨w2, H2, b1, b2, b3⟩ := loop47 g hg3 h8 hlo0 hg X m (k + 1) fuel (by omega) (by omega) H7 w' (by rw [k7.floor]; exact hf) (Nat.le_trans hlo k7.next) (k0.trans k7) (hs.keep hlo k7 fun i hi h => by omega) r2
    refine ⟨w2, H2, ?_, b2, k7.trans b3⟩
    rw [show ((k + 1 : Nat) : Int) = (k : Int) + 1 from rfl] at b1
    rw [← b1]
    simp [-nth_eq, -cl_func, loopS, F47b0L, F47b0, gk, e1, eA, hst, m5, q1, r1, wk]

theorem S47 {H0 : Hp} {a1 : Value} (g : Rg → List Rg) (hg3 : ∀ r, (g r).length ≤ 3) {v : Value} {l : List Rg} (h8 : l.length ≤ 8)
    (hg : ∀ r ∈ l, ∀ H, H.floor ≤ H.next → Keep (fun _ => False) H0 H → ∃ w H', cl (ev C0) a1 [r.val] H = some (w, H') ∧ Gr Rg.enc 3 H.next H' w (g r) ∧ Keep (fun _ => False) H H') (hs : Sl Rg.enc H0 v l) (hf : H0.floor ≤ H0.next) :
    ∃ (w' : Value) (H' : Hp), call 47 [v, a1] H0 = some (w', H') ∧ Sl Rg.enc H' w' (l.flatMap g) ∧ Keep (fun _ => False) H0 H' := by
  obtain ⟨w', H', b1, b2, b3⟩ := loop47 (H0 := H0) g hg3 h8 (Nat.le_refl _) hg [fun x5 h6 => some ((gv x5 0), h6)] l.length 0 rnd (by omega) (by rw [rnd_eq]; show _ < 4611686018427387904; omega) H0 (.slice none 0 0) hf (Nat.le_refl _) (.refl _ _) hs (by simpa using Gr.nil)
  refine ⟨w', H', c47 ?_, b2.sl, b3.mono fun i hi h => by omega⟩
  have hln := hs.len
  simp at b1
  simp [F47, hln, b1]
end Go.Proofs.Ytiigiodagfalpaa.X
