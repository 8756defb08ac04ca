/- The space seat: the pages of regions. -/
import Derived.Test.YtiigiodagfalpaaSpaceT1
set_option maxRecDepth 100000
set_option maxHeartbeats 1000000
namespace Go.Proofs.Ytiigiodagfalpaa.X
open Go.Ahe Go.Ahe.X

theorem T22 : C0.T 22 = some ⟨.slice 32, 1, 24, [.slice none 0 0]⟩ := by kernel_rfl
theorem T32 : C0.T 32 = some ⟨.struct [(0, 23, false), (1, 3, false), (2, 4, false)], 3, 24, [U 0, I 0, .bool false]⟩ := by kernel_rfl
theorem T47 : C0.T 47 = some ⟨.slice 23, 1, 24, [.slice none 0 0]⟩ := by kernel_rfl
theorem T23 : C0.T 23 = some ⟨.int .u64, 1, 8, [U 0]⟩ := by kernel_rfl
theorem sl22 : SlT C0 22 3 := ⟨_, _, _, T22, rfl, T32, rfl, by decide, by decide, by decide, rfl⟩
theorem sl47 : SlT C0 47 1 := ⟨_, _, _, T47, rfl, T23, rfl, by decide, by decide, by decide, rfl⟩
theorem enc_one (r : Rg) : r.enc.all oneCell = true := rfl

/-- Pages as cells. -/
def pe (p : Nat) : List Value := [U p]
theorem pe_len (p : Nat) : (pe p).length = 1 := rfl
theorem pe_one (p : Nat) : (pe p).all oneCell = true := rfl

def Rg.pg (r : Rg) : List Nat := List.range' r.first r.count.toNat
def pgs (l : List Rg) : List Nat := l.flatMap Rg.pg

theorem pgs_len : ∀ {l : List Rg} {n e m : Int}, chk l n e = some m → ((pgs l).length : Int) + n = m
  | [], n, e, m, h => by simp [chk] at h; simp [pgs, h]
  | r :: l, n, e, m, h => by
    have hin := (chk_ok h).1 r (List.mem_cons_self ..)
    simp only [chk] at h
    cases hb : r.bad e with
    | true => rw [hb] at h; cases h
    | false =>
      rw [hb, cond_false] at h
      have ih := pgs_len h
      have hc : (pgs (r :: l)).length = r.count.toNat + (pgs l).length := by simp [pgs, Rg.pg]
      rw [hc]
      omega
theorem pgs_few {l : List Rg} (h : check l = 0) : (pgs l).length ≤ 16 := by
  obtain ⟨_, m, hm, hm16⟩ := check_ok h
  have := pgs_len hm
  omega

/-- The document's inner loop. -/
theorem loop23i {v : Value} {l : List Rg} {lo : Nat} {r : Rg} {k : Nat} (hk : k < l.length) (hr : l[k] = r) (hin : 1 ≤ r.count ∧ r.count ≤ 16 ∧ (r.first : Int) + r.count ≤ 34359738368) (X : List Kx) (pre : List Nat) (hpre : pre.length < 10000) : ∀ (m j fuel : Nat), j + m = r.count.toNat → m < fuel →
    ∀ (H : Hp) (w : Value), H.floor ≤ lo → lo ≤ H.next → Sb Rg.enc lo H v l → Gr pe 1 lo H w (pre ++ List.range' r.first j) →
    ∃ (w' : Value) (H' : Hp), loopS F23b1L fuel [v, w, I k, I j] H X = nth X 0 [v, w', I k] H' ∧ Gr pe 1 lo H' w' (pre ++ r.pg) ∧ Keep (fun i => lo ≤ i) H H'
  | 0, j, fuel + 1, hj, _, H, w, hf, hlo, hs, hg => by
    obtain ⟨i, o, hi, e1, _, e2⟩ := hs.at enc_len hk
    have e3 := e2 1 (by decide)
    rw [hr] at e3
    have e3 : ld1 (P i (o + 1)) H = some (I r.count) := e3
    have g : ¬ ((j : Int) < r.count) := by omega
    refine ⟨w, H, ?_, ?_, .refl _ _⟩
    · simp [-nth_eq, loopS, F23b1L, F23b1, e1, e3, g]
    · rwa [show j = r.count.toNat by omega] at hg
  | m + 1, j, fuel + 1, hj, hm, H, w, hf, hlo, hs, hg => by
    obtain ⟨i, o, hi, e1, _, e2⟩ := hs.at enc_len hk
    have e3 := e2 1 (by decide)
    have e4 := e2 0 (by decide)
    rw [hr] at e3 e4
    have e3 : ld1 (P i (o + 1)) H = some (I r.count) := e3
    have e4 : ld1 (P i o) H = some (U r.first) := e4
    have g : (j : Int) < r.count := by omega
    have wj : IntKind.u64.wrap (j : Int) = (j : Int) := wr_u64 (by omega) (by omega)
    obtain ⟨q, hq⟩ : ∃ q, q = r.first + j := ⟨_, rfl⟩
    have wp : IntKind.u64.wrap ((r.first : Int) + j) = (q : Int) := by rw [wr_u64 (by omega) (by omega)]; omega
    have wi : IntKind.i64.wrap ((j : Int) + 1) = (j : Int) + 1 := wr_i64 (by omega) (by omega)
    -- the page is put behind
    have h1 : Holds pe (H.new (.cells [U q] false)) H.next [q] := ⟨⟨false, by rw [Hp.get_new, if_pos rfl]; rfl⟩, by rw [Hp.next_new]; exact Nat.lt_succ_self _⟩
    obtain ⟨w1, H1, a1, a2, a3⟩ := Gr.app (C := C0) (ts := 47) (tx := 47) sl47 ⟨_, _, T47, rfl⟩ pe_len pe_one (hg.new (.cells [U q] false)) (h1.sl (cap := 1) (x := none)) (show (H.new _).floor ≤ lo from hf) (by rw [Hp.next_new]; omega) (by simp; omega)
    have a1 : appendE C0 47 47 w (.slice (some ⟨H.next, 0, none⟩) 1 1) (H.new (.cells [U q] false)) = some (w1, H1) := a1
    have k1 : Keep (fun i => lo ≤ i) H H1 := (Keep.new _ _ _).trans (a3.mono fun i _ h => h.1)
    have hs1 : Sb Rg.enc lo H1 v l := hs.keep hlo k1 (fun i hi h => by omega)
    rw [List.append_assoc, hq, ← List.range'_1_concat] at a2
    obtain ⟨w2, H2, b1, b2, b3⟩ := loop23i hk hr hin X pre hpre m (j + 1) fuel (by omega) (by omega) H1 w1 (by rw [k1.floor]; exact hf) (Nat.le_trans hlo k1.next) hs1 a2
    refine ⟨w2, H2, ?_, b2, k1.trans b3⟩
    rw [show ((j + 1 : Nat) : Int) = (j : Int) + 1 from rfl] at b1
    rw [← b1]
    have hb : bsl 1 [U 0] 1 [(0, .int .u64 (q : Int))] H = some (.slice (some ⟨H.next, 0, none⟩) 1 1, H.new (.cells [U q] false)) := by kernel_rfl
    simp [-nth_eq, loopS, F23b1L, F23b1, e1, e3, e4, g, wj, wp, wi, hb, a1]

/-- The document's outer loop. -/
theorem loop23o {v : Value} {l : List Rg} {lo : Nat} (hl : l.length < 4611686018427387903) (X : List Kx) : ∀ (m k fuel : Nat), k + m = l.length → m < fuel →
    ∀ (H : Hp) (w : Value), H.floor ≤ lo → lo ≤ H.next → Sb Rg.enc lo H v l → (check l = 0 → Gr pe 1 lo H w (pgs (l.take k))) → (check l ≠ 0 → k = 0 ∧ w = .slice none 0 0) →
    ∃ (w' : Value) (H' : Hp), loopS F23b0L fuel [v, w, I k] H X = nth X 0 [w'] H' ∧ Gr pe 1 lo H' w' (if check l = 0 then pgs l else []) ∧ Keep (fun i => lo ≤ i) H H'
  | 0, k, fuel + 1, hk, _, H, w, hf, hlo, hs, hg, hz => by
    have g : ¬ ((k : Int) < l.length) := by omega
    have hln := hs.len
    refine ⟨w, H, ?_, ?_, .refl _ _⟩
    · simp [-nth_eq, loopS, F23b0L, F23b0, hln, g]
    · by_cases hc : check l = 0
      · rw [if_pos hc]
        have := hg hc
        rwa [List.take_of_length_le (by omega)] at this
      · rw [if_neg hc, (hz hc).2]; exact .nil
  | m + 1, k, fuel + 1, hk, hm, H, w, hf, hlo, hs, hg, hz => by
    have g : (k : Int) < l.length := by omega
    have hkl : k < l.length := by omega
    have hln := hs.len
    have s11 := S11 H (hs.sl hlo)
    by_cases hc : check l = 0
    · have hin := check_in hc l[k] (List.getElem_mem hkl)
      have hfew := pgs_few hc
      have hpre : (pgs (l.take k)).length < 10000 := by
        have : (pgs l).length = (pgs (l.take k)).length + (pgs (l.drop k)).length := by
          rw [← List.length_append]
          unfold pgs
          rw [← List.flatMap_append, List.take_append_drop]
        omega
      obtain ⟨w1, H1, a1, a2, a3⟩ := loop23i (lo := lo) hkl rfl ⟨hin.1, hin.2.1, hin.2.2.1⟩ [fun x h => B (bo .add 3 (gv x 2) (I 1)) fun t => loopS F23b0L fuel [gv x 0, gv x 1, t] h X] (pgs (l.take k)) hpre l[k].count.toNat 0 rnd (by omega) (by rw [rnd_eq]; show _ < 4611686018427387904; omega) H w hf hlo hs (by simpa using hg hc)
      have wk : IntKind.i64.wrap ((k : Int) + 1) = (k : Int) + 1 := wr_i64 (by omega) (by omega)
      have hs1 : Sb Rg.enc lo H1 v l := hs.keep hlo a3 (fun i hi h => by omega)
      have hpg : pgs (l.take k) ++ l[k].pg = pgs (l.take (k + 1)) := by
        unfold pgs
        rw [List.take_succ_eq_append_getElem hkl, List.flatMap_append]
        simp
      rw [hpg] at a2
      obtain ⟨w2, H2, b1, b2, b3⟩ := loop23o hl X m (k + 1) fuel (by omega) (by omega) H1 w1 (by rw [a3.floor]; exact hf) (Nat.le_trans hlo a3.next) hs1 (fun _ => a2) (fun h => absurd hc h)
      refine ⟨w2, H2, ?_, b2, a3.trans b3⟩
      rw [show ((k + 1 : Nat) : Int) = (k : Int) + 1 from rfl] at b1
      rw [← b1]
      have a1 := a1
      simp [-nth_eq] at a1
      simp [-nth_eq, loopS, F23b0L, F23b0, hln, g, s11, hc, a1]
      simp [wk]
    · obtain ⟨rfl, rfl⟩ := hz hc
      refine ⟨_, H, ?_, by rw [if_neg hc]; exact .nil, .refl _ _⟩
      simp [-nth_eq, loopS, F23b0L, F23b0, hln, hkl, s11, hc]

/-- The document's Pages. -/
theorem S23 {v : Value} {l : List Rg} (H : Hp) (hs : Sl Rg.enc H v l) (hl : l.length < 4611686018427387903) : ∃ (w : Value) (H' : Hp), call 23 [v] H = some (w, H') ∧ Sl pe H' w (if check l = 0 then pgs l else []) ∧ Keep (fun _ => False) H H' := by
  obtain ⟨w, H1, a1, a2, a3⟩ := loop23o (lo := H.next) hl [fun x h => some (gv x 0, h)] l.length 0 rnd (by omega) (by rw [rnd_eq]; show _ < 4611686018427387904; omega) H.raised (.slice none 0 0) (Nat.le_refl _) (Nat.le_refl _) hs (fun _ => by simpa [pgs] using Gr.nil) (fun _ => ⟨rfl, rfl⟩)
  refine ⟨w, H1.lowered H.floor, c23 ?_, a2.sl, (a3.mono fun i hi h => by have : i < H.next := hi; omega).lowered⟩
  simp at a1
  simp [F23, a1]

/-- Is a slice nil? -/
def isNil : Value → Bool
  | .slice none _ _ => true
  | _ => false
theorem eq22 {n : Nat} {v : Value} {l : List Rg} {H : Hp} (h : Sb Rg.enc n H v l) : bo .eql 22 v (.slice none 0 0) = some (.bool (isNil v)) := by
  rcases h with ⟨rfl, rfl⟩ | ⟨i, o, cap, x, cs, ro, rfl, _⟩
  · kernel_rfl
  · simp [binE, eqIn, T22, isNil]

/-- A copy. -/
theorem S33 {v : Value} {l : List Rg} (H : Hp) (hs : Sl Rg.enc H v l) (hl : l.length < 1000000) : ∃ (w : Value) (H' : Hp), call 33 [v] H = some (w, H') ∧ Gr Rg.enc 3 H.next H' w l ∧ Keep (fun _ => False) H H' := by
  have he := eq22 hs
  cases hn : isNil v with
  | true =>
    rw [hn] at he
    have : v = .slice none 0 0 ∧ l = [] := by
      rcases hs with h | ⟨i, o, cap, x, cs, ro, rfl, _⟩
      · exact h
      · cases hn
    refine ⟨.slice none 0 0, H.raised.lowered H.floor, c33 ?_, ?_, (Keep.refl (fun _ => False) H.raised).lowered⟩
    · simp [F33, he]
    · rw [this.2]; exact .nil
  | false =>
    rw [hn] at he
    have g0 : Gr Rg.enc 3 H.next (H.raised.new (.cells [] false)) (.slice (some ⟨H.next, 0, none⟩) 0 0) [] := .inr (.inl ⟨H.next, 0, rfl, rfl, Nat.le_refl _, by rw [Hp.next_new]; exact Nat.lt_succ_self _, [], false, by rw [Hp.get_new]; exact if_pos rfl⟩)
    obtain ⟨w, H1, a1, a2, a3⟩ := Gr.app (C := C0) (ts := 22) (tx := 22) sl22 ⟨_, _, T22, rfl⟩ enc_len enc_one g0 (Sl.new (H := H.raised) hs _) (show H.next ≤ H.next from Nat.le_refl _) (by rw [Hp.next_new]; exact Nat.le_succ _) (by simp; omega)
    rw [List.nil_append] at a2
    refine ⟨w, H1.lowered H.floor, c33 ?_, ?_, ((Keep.new (fun _ => False) H.raised _).trans (a3.mono fun i hi h => by cases h.2)).lowered⟩
    · have hb : bsl 3 [U 0, I 0, .bool false] 0 [] H.raised = some (.slice (some ⟨H.next, 0, none⟩) 0 0, H.raised.new (.cells [] false)) := by kernel_rfl
      simp [F33, he, hb, a1]
    · exact a2
end Go.Proofs.Ytiigiodagfalpaa.X
