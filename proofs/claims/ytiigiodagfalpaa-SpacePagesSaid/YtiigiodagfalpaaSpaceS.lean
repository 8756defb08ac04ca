/- The space seat: regions; what the checks answer. -/
import Derived.Test.YtiigiodagfalpaaSpaceF
import Derived.Test.YtiigiodagfalpaaZxC
set_option maxRecDepth 100000
set_option maxHeartbeats 1000000
namespace Go.Proofs.Ytiigiodagfalpaa.X
open Go.Ahe Go.Ahe.X

structure Rg where
  first : Nat
  count : Int
  write : Bool

def Rg.wf (r : Rg) : Prop := r.first < 18446744073709551616 ∧ -9223372036854775808 ≤ r.count ∧ r.count < 9223372036854775808
def Rg.enc (r : Rg) : List Value := [U r.first, I r.count, .bool r.write]
abbrev Rg.val (r : Rg) : Value := .agg #[U r.first, I r.count, .bool r.write]
theorem enc_len (r : Rg) : r.enc.length = 3 := rfl
/-- Where a region ends; as words are added. -/
def Rg.stop (r : Rg) : Int := IntKind.u64.wrap (r.first + IntKind.u64.wrap r.count)

theorem S30 (r : Rg) (H : Hp) : call 30 [r.val] H = some (.int .u64 r.stop, H) := by
  refine c30 rfl ?_
  have hf := fresh_ok H [r.val]
  generalize H.fresh [r.val] = H at *
  simp [F30, hf, le_more, Rg.stop]

/-- May a region be? -/
def Rg.bad (r : Rg) (e : Int) : Bool := decide (r.count < 1) || decide (16 < r.count) || decide ((34359738368 - r.count : Int) < r.first) || decide ((r.first : Int) < e)
/-- The sum of the counts, if no region is bad. -/
def chk : List Rg → Int → Int → Option Int
  | [], n, _ => some n
  | r :: l, n, e => bif r.bad e then none else chk l (n + r.count) r.stop
def check (l : List Rg) : Int := if 8 < l.length then 2 else match chk l 0 0 with
  | none => 2
  | some n => if 16 < n then 2 else 0

/-- The program's loop. -/
theorem loop14 {v : Value} {l : List Rg} : ∀ (m k fuel : Nat) (n e : Int) (H : Hp) (X : List Kx), k + m = l.length → m < fuel → Sl Rg.enc H v l → H.floor ≤ H.next → 0 ≤ n → n + 16 * m ≤ 1000000 → l.length ≤ 8 →
    ∃ H', loopS F14b0L fuel [I n, .int .u64 e, v, I l.length, I k] H X = match chk (l.drop k) n e with
      | none => nth X 0 [I 2] H'
      | some n' => nth X 1 [I n'] H'
  | 0, k, fuel + 1, n, e, H, X, hk, _, hs, hf, hn0, hn, h8 => by
    have g : ¬ (k : Int) < l.length := by omega
    refine ⟨H, ?_⟩
    rw [List.drop_eq_nil_of_le (by omega)]
    simp only [chk, loopS, F14b0L, F14b0, gv, List.getD_cons_zero, List.getD_cons_succ, bin_lss, B_some, br_bool, g, decide_false, Bool.false_eq_true, if_false]
  | m + 1, k, fuel + 1, n, e, H, X, hk, hm, hs, hf, hn0, hn, h8 => by
    have g : (k : Int) < l.length := by omega
    have hkl : k < l.length := by omega
    obtain ⟨i, io, hi, h1, h2⟩ := hs.at enc_len hkl
    have hd : l.drop k = l[k] :: l.drop (k + 1) := List.drop_eq_getElem_cons hkl
    rw [hd]
    generalize l[k] = r at *
    have hri : i ≠ H.next := Nat.ne_of_lt hi
    have h2 : ldA 3 (P i io) H = some r.val := h2
    -- the next round
    have next : ∀ (n' : Int) H1, Sl Rg.enc H1 v l → H1.floor ≤ H1.next → 0 ≤ n' → n' + 16 * m ≤ 1000000 → ∃ H', loopS F14b0L fuel [I n', .int .u64 r.stop, v, I l.length, I (k + 1)] H1 X = match chk (l.drop (k + 1)) n' r.stop with
      | none => nth X 0 [I 2] H'
      | some n' => nth X 1 [I n'] H' := fun n' H1 a1 a2 a3 a4 => by
        have := loop14 m (k + 1) fuel n' r.stop H1 X (by omega) (by omega) a1 a2 a3 a4 h8
        rwa [show ((k + 1 : Nat) : Int) = (k : Int) + 1 by omega] at this
    have wk : IntKind.i64.wrap ((k : Int) + 1) = (k : Int) + 1 := wr_i64 (by omega) (by omega)
    simp only [loopS, F14b0L, gv, List.getD_cons_zero, List.getD_cons_succ]
    by_cases c1 : r.count < 1
    · exact ⟨_, by simp [-nth_eq, F14b0, g, h1, h2, hri, hf, le_more, c1, chk, Rg.bad]; rfl⟩
    · by_cases c2 : 16 < r.count
      · exact ⟨_, by simp [-nth_eq, F14b0, g, h1, h2, hri, hf, le_more, c1, c2, chk, Rg.bad]; rfl⟩
      · have wc : IntKind.u64.wrap r.count = r.count := wr_u64 (by omega) (by omega)
        have ws : IntKind.u64.wrap (34359738368 - r.count) = 34359738368 - r.count := wr_u64 (by omega) (by omega)
        by_cases c3 : 34359738368 - r.count < r.first
        · exact ⟨_, by simp [-nth_eq, F14b0, g, h1, h2, hri, hf, le_more, c1, c2, c3, wc, ws, chk, Rg.bad]; rfl⟩
        · by_cases c4 : (r.first : Int) < e
          · exact ⟨_, by simp [-nth_eq, F14b0, g, h1, h2, hri, hf, le_more, c1, c2, c3, c4, wc, ws, chk, Rg.bad]; rfl⟩
          · have wn : IntKind.i64.wrap (n + r.count) = n + r.count := wr_i64 (by omega) (by omega)
            have s30 := S30 r
            obtain ⟨H', hn⟩ := next (n + r.count) (H.new (.cells r.enc false)) (hs.new _) (by simpa using le_more hf) (by omega) (by omega)
            refine ⟨H', ?_⟩
            have hb : r.bad e = false := by simp [Rg.bad, c1, c2, c3, c4]
            rw [chk, hb, cond_false, ← hn]
            simp [-nth_eq, F14b0, g, h1, h2, hri, hf, le_more, c1, c2, c3, c4, wc, ws, wn, wk, s30, Rg.enc]

theorem S14 {v : Value} {l : List Rg} (H : Hp) (hs : Sl Rg.enc H v l) : call 14 [v] H = some (I (check l), H) := by
  refine c14 rfl ?_
  have hs := hs.fresh (args := [v]) (List.mem_singleton.2 rfl)
  have hf := fresh_ok H [v]
  generalize H.fresh [v] = H at *
  have hln := hs.len
  unfold check
  by_cases h8 : 8 < l.length
  · have h8i : (8 : Int) < l.length := by omega
    rw [if_pos h8]
    simp [F14, hln, h8i]
  · have h8i : ¬ (8 : Int) < l.length := by omega
    rw [if_neg h8]
    obtain ⟨H', h⟩ := loop14 (v := v) (l := l) l.length 0 rnd 0 0 H [fun x h => some (gv x 0, h), fun x h => B (bo .gtr 3 (gv x 0) (I 16)) fun t => br t (some (I 2, h)) (some (I 0, h))] (by omega) (by rw [rnd_eq]; show _ < 4611686018427387904; omega) hs hf (by omega) (by omega) (by omega)
    rw [List.drop_zero] at h
    have h : loopS F14b0L rnd [I 0, U 0, v, I l.length, I 0] H [fun x h => some (gv x 0, h), fun x h => B (bo .gtr 3 (gv x 0) (I 16)) fun t => br t (some (I 2, h)) (some (I 0, h))] = _ := h
    simp only [F14, hln, B_some, bin_gtr, h8i, decide_false, br_bool, Bool.false_eq_true, if_false, h]
    cases chk l 0 0 with
    | none => simp
    | some n' =>
      by_cases c : 16 < n' <;> simp [c]


/-- The document's loop. -/
theorem loop11 {v : Value} {l : List Rg} : ∀ (m k fuel : Nat) (n e : Int) (H : Hp) (X : List Kx), k + m = l.length → m < fuel → Sl Rg.enc H v l → H.floor ≤ H.next → 0 ≤ n → n + 16 * m ≤ 1000000 → l.length ≤ 8 → (k = 0 → e = 0) →
    ∃ H', loopS F11b0L fuel [v, I n, .int .u64 e, I k] H X = match chk (l.drop k) n e with
      | none => nth X 0 [I 2] H'
      | some n' => nth X 1 [I n'] H'
  | 0, k, fuel + 1, n, e, H, X, hk, _, hs, hf, hn0, hn, h8, _ => by
    have g : ¬ (k : Int) < l.length := by omega
    refine ⟨H, ?_⟩
    rw [List.drop_eq_nil_of_le (by omega)]
    simp only [chk, loopS, F11b0L, F11b0, gv, List.getD_cons_zero, List.getD_cons_succ, hs.len, bin_lss, B_some, br_bool, g, decide_false, Bool.false_eq_true, if_false]
  | m + 1, k, fuel + 1, n, e, H, X, hk, hm, hs, hf, hn0, hn, h8, hk0 => by
    have g : (k : Int) < l.length := by omega
    have hkl : k < l.length := by omega
    obtain ⟨i, io, hi, h1, h2⟩ := hs.at enc_len hkl
    have hln := hs.len
    have hd : l.drop k = l[k] :: l.drop (k + 1) := List.drop_eq_getElem_cons hkl
    rw [hd]
    generalize l[k] = r at *
    have hri : i ≠ H.next := Nat.ne_of_lt hi
    have h2 : ldA 3 (P i io) H = some r.val := h2
    have next : ∀ (n' : Int) H1, Sl Rg.enc H1 v l → H1.floor ≤ H1.next → 0 ≤ n' → n' + 16 * m ≤ 1000000 → ∃ H', loopS F11b0L fuel [v, I n', .int .u64 r.stop, I (k + 1)] H1 X = match chk (l.drop (k + 1)) n' r.stop with
      | none => nth X 0 [I 2] H'
      | some n' => nth X 1 [I n'] H' := fun n' H1 a1 a2 a3 a4 => by
        have := loop11 m (k + 1) fuel n' r.stop H1 X (by omega) (by omega) a1 a2 a3 a4 h8 (fun h => by omega)
        rwa [show ((k + 1 : Nat) : Int) = (k : Int) + 1 by omega] at this
    have wk : IntKind.i64.wrap ((k : Int) + 1) = (k : Int) + 1 := wr_i64 (by omega) (by omega)
    simp only [loopS, F11b0L, gv, List.getD_cons_zero, List.getD_cons_succ]
    by_cases c1 : r.count < 1
    · exact ⟨_, by simp [-nth_eq, F11b0, hln, g, h1, h2, hri, hf, le_more, c1, chk, Rg.bad]; rfl⟩
    · by_cases c2 : 16 < r.count
      · exact ⟨_, by simp [-nth_eq, F11b0, hln, g, h1, h2, hri, hf, le_more, c1, c2, chk, Rg.bad]; rfl⟩
      · have wc : IntKind.u64.wrap r.count = r.count := wr_u64 (by omega) (by omega)
        have ws : IntKind.u64.wrap (34359738368 - r.count) = 34359738368 - r.count := wr_u64 (by omega) (by omega)
        by_cases c3 : 34359738368 - r.count < r.first
        · exact ⟨_, by simp [-nth_eq, F11b0, hln, g, h1, h2, hri, hf, le_more, c1, c2, c3, wc, ws, chk, Rg.bad]; rfl⟩
        · by_cases c5 : k = 0
          · have he := hk0 c5
            subst he
            have c4 : ¬ (r.first : Int) < 0 := by omega
            have c5i : ¬ 0 < k := by omega
            have wn : IntKind.i64.wrap (n + r.count) = n + r.count := wr_i64 (by omega) (by omega)
            obtain ⟨H', hn⟩ := next (n + r.count) (H.new (.cells r.enc false)) (hs.new _) (by simpa using le_more hf) (by omega) (by omega)
            refine ⟨H', ?_⟩
            have hb : r.bad 0 = false := by simp [Rg.bad, c1, c2, c3]
            rw [chk, hb, cond_false, ← hn]
            simp [-nth_eq, F11b0, hln, g, h1, h2, hri, hf, le_more, c1, c2, c3, c5i, wc, ws, wn, wk, Rg.enc, Rg.stop]
          · have c5i : 0 < k := by omega
            by_cases c4 : (r.first : Int) < e
            · exact ⟨_, by simp [-nth_eq, F11b0, hln, g, h1, h2, hri, hf, le_more, c1, c2, c3, c4, c5i, wc, ws, chk, Rg.bad]; rfl⟩
            · have wn : IntKind.i64.wrap (n + r.count) = n + r.count := wr_i64 (by omega) (by omega)
              obtain ⟨H', hn⟩ := next (n + r.count) (H.new (.cells r.enc false)) (hs.new _) (by simpa using le_more hf) (by omega) (by omega)
              refine ⟨H', ?_⟩
              have hb : r.bad e = false := by simp [Rg.bad, c1, c2, c3, c4]
              rw [chk, hb, cond_false, ← hn]
              simp [-nth_eq, F11b0, hln, g, h1, h2, hri, hf, le_more, c1, c2, c3, c4, c5i, wc, ws, wn, wk, Rg.enc, Rg.stop]

theorem S11 {v : Value} {l : List Rg} (H : Hp) (hs : Sl Rg.enc H v l) : call 11 [v] H = some (I (check l), H) := by
  refine c11 rfl ?_
  have hs := hs.fresh (args := [v]) (List.mem_singleton.2 rfl)
  have hf := fresh_ok H [v]
  generalize H.fresh [v] = H at *
  have hln := hs.len
  unfold check
  by_cases h8 : 8 < l.length
  · have h8i : (8 : Int) < l.length := by omega
    rw [if_pos h8]
    simp [F11, hln, h8i]
  · have h8i : ¬ (8 : Int) < l.length := by omega
    rw [if_neg h8]
    obtain ⟨H', h⟩ := loop11 (v := v) (l := l) l.length 0 rnd 0 0 H [fun x h => some (gv x 0, h), fun x h => B (bo .gtr 3 (gv x 0) (I 16)) fun t => br t (some (I 2, h)) (some (I 0, h))] (by omega) (by rw [rnd_eq]; show _ < 4611686018427387904; omega) hs hf (by omega) (by omega) (by omega) (fun _ => rfl)
    rw [List.drop_zero] at h
    have h : loopS F11b0L rnd [v, I 0, U 0, I 0] H [fun x h => some (gv x 0, h), fun x h => B (bo .gtr 3 (gv x 0) (I 16)) fun t => br t (some (I 2, h)) (some (I 0, h))] = _ := h
    simp only [F11, hln, B_some, bin_gtr, h8i, decide_false, br_bool, Bool.false_eq_true, if_false, h]
    cases chk l 0 0 with
    | none => simp
    | some n' =>
      by_cases c : 16 < n' <;> simp [c]

/-! ### Which region a page is in -/
/-- What is known of regions that may be. -/
theorem chk_ok : ∀ {l : List Rg} {n e m : Int}, chk l n e = some m → (∀ r ∈ l, 1 ≤ r.count ∧ r.count ≤ 16 ∧ (r.first : Int) + r.count ≤ 34359738368 ∧ e ≤ r.first ∧ r.stop = r.first + r.count) ∧ l.Pairwise fun a b => (a.first : Int) + a.count ≤ b.first
  | [], n, e, m, h => ⟨by simp, List.Pairwise.nil⟩
  | r :: l, n, e, m, h => by
    simp only [chk] at h
    cases hb : r.bad e with
    | true => rw [hb] at h; cases h
    | false =>
      rw [hb, cond_false] at h
      obtain ⟨h1, h2⟩ := chk_ok h
      have hc : 1 ≤ r.count ∧ r.count ≤ 16 ∧ (r.first : Int) + r.count ≤ 34359738368 ∧ e ≤ r.first := by
        unfold Rg.bad at hb; simp at hb; omega
      have hst : r.stop = r.first + r.count := by
        unfold Rg.stop
        rw [wr_u64 (n := r.count) (by omega) (by omega), wr_u64 (by omega) (by omega)]
      refine ⟨fun x hx => ?_, List.pairwise_cons.2 ⟨fun x hx => ?_, h2⟩⟩
      · rcases List.mem_cons.1 hx with rfl | hx
        · exact ⟨hc.1, hc.2.1, hc.2.2.1, hc.2.2.2, hst⟩
        · obtain ⟨a, b, c, d, e'⟩ := h1 x hx
          exact ⟨a, b, c, by omega, e'⟩
      · have := (h1 x hx).2.2.2.1
        omega
def Rg.has (r : Rg) (p : Nat) : Bool := decide (r.first ≤ p) && decide ((p : Int) < r.first + r.count)
def zR : Rg := ⟨0, 0, false⟩
/-- The region of a page. -/
def find (l : List Rg) (p : Nat) : Option Rg := if check l = 0 then l.find? (Rg.has · p) else none
end Go.Proofs.Ytiigiodagfalpaa.X
