/- The space seat: SpaceCounts, SpacePages. -/
import Derived.Test.YtiigiodagfalpaaSpaceM5
set_option maxRecDepth 100000
set_option maxHeartbeats 4000000
namespace Go.Proofs.Ytiigiodagfalpaa.X
open Go.Ahe Go.Ahe.X

/-! Page by page, whole. -/
theorem cut1_un (f t : Nat) (r : Rg) : cut1 f t (fun _ => []) r = piece r.first (min (r.first + r.count.toNat) f) r.write ++ piece (max r.first t) (r.first + r.count.toNat) r.write := by
  unfold cut1; rw [flat_nil, List.append_nil]
theorem cut1_pr (f t : Nat) (b : Bool) (r : Rg) : cut1 f t (fun r => [⟨r.first, r.count, b⟩]) r = piece r.first (min (r.first + r.count.toNat) f) r.write ++ piece (max r.first f) (min (r.first + r.count.toNat) t) b ++ piece (max r.first t) (r.first + r.count.toNat) r.write := by
  unfold cut1
  congr 2
  unfold piece
  split <;> rfl
theorem has_iff {r : Rg} {p : Nat} (h : 1 ≤ r.count) : r.has p = decide (r.first ≤ p ∧ p < r.first + r.count.toNat) := by
  unfold Rg.has
  rw [← Bool.decide_and]
  congr 1
  apply propext
  omega
theorem un_out {f t p : Nat} (hft : f ≤ t) (hp : ¬ (f ≤ p ∧ p < t)) {r : Rg} (hr : 1 ≤ r.count) : ((cut1 f t (fun _ => []) r).find? (Rg.has · p)).map Rg.write = if r.has p = true then some r.write else none := by
  rw [cut1_un, List.find?_append, piece_find, piece_find, has_iff hr]
  by_cases h : r.first ≤ p ∧ p < r.first + r.count.toNat
  · rw [decide_eq_true h, if_pos rfl]
    by_cases h1 : p < f
    · rw [if_pos (by omega)]; rfl
    · rw [if_neg (by omega), if_pos (by omega)]; rfl
  · rw [decide_eq_false h, if_neg Bool.false_ne_true, if_neg (by omega), if_neg (by omega)]; rfl
theorem un_in {f t p : Nat} (hp : f ≤ p ∧ p < t) (r : Rg) : (cut1 f t (fun _ => []) r).find? (Rg.has · p) = none := by
  rw [cut1_un, List.find?_append, piece_find, piece_find, if_neg (by omega), if_neg (by omega)]; rfl
theorem pr_out {f t p : Nat} (b : Bool) (hft : f ≤ t) (hp : ¬ (f ≤ p ∧ p < t)) {r : Rg} (hr : 1 ≤ r.count) : ((cut1 f t (fun r => [⟨r.first, r.count, b⟩]) r).find? (Rg.has · p)).map Rg.write = if r.has p = true then some r.write else none := by
  rw [cut1_pr, List.find?_append, List.find?_append, piece_find, piece_find, piece_find, has_iff hr]
  by_cases h : r.first ≤ p ∧ p < r.first + r.count.toNat
  · rw [decide_eq_true h, if_pos rfl]
    by_cases h1 : p < f
    · rw [if_pos (by omega)]; rfl
    · rw [if_neg (by omega), if_neg (by omega), if_pos (by omega)]; rfl
  · rw [decide_eq_false h, if_neg Bool.false_ne_true, if_neg (by omega), if_neg (by omega), if_neg (by omega)]; rfl
theorem pr_in {f t p : Nat} (b : Bool) (hp : f ≤ p ∧ p < t) {r : Rg} (hr : 1 ≤ r.count) : ((cut1 f t (fun r => [⟨r.first, r.count, b⟩]) r).find? (Rg.has · p)).map Rg.write = if r.has p = true then some b else none := by
  rw [cut1_pr, List.find?_append, List.find?_append, piece_find, piece_find, piece_find, has_iff hr]
  by_cases h : r.first ≤ p ∧ p < r.first + r.count.toNat
  · rw [decide_eq_true h, if_pos rfl, if_neg (by omega), if_pos (by omega)]; rfl
  · rw [decide_eq_false h, if_neg Bool.false_ne_true, if_neg (by omega), if_neg (by omega), if_neg (by omega)]; rfl
theorem flat_none {g : Rg → List Rg} {p : Nat} (h : ∀ r, (g r).find? (Rg.has · p) = none) (l : List Rg) : (l.flatMap g).find? (Rg.has · p) = none := by
  induction l with
  | nil => rfl
  | cons r l ih => rw [List.flatMap_cons, List.find?_append, h, ih]; rfl

/-- What a kind of call does to a page: what was there, what is there. -/
structure Good (kind : Nat) (r : Rg) (p : Nat) (was is : Option Rg) : Prop where
  out : r.has p = false → is.map Rg.write = was.map Rg.write
  un : r.has p = true → kind = 1 → is = none ∧ was.isSome = true
  on : r.has p = true → kind ≠ 1 → is.map Rg.write = some r.write ∧ was.isSome = decide (kind = 2)

theorem good0 {l : List Rg} {r : Rg} (p : Nat) (h : MapOk l r) : Good 0 r p (find l p) (find (mapL l r) p) := by
  rw [find_eq h.chk, find_eq (map_check h), map_find h]
  refine ⟨fun hp => by rw [hp]; rfl, fun _ h => (by cases h), fun hp _ => ?_⟩
  rw [hp, if_pos rfl, map_free h hp]
  exact ⟨rfl, rfl⟩
theorem good1 {l : List Rg} {r : Rg} (p : Nat) (hn : chgN l r.first r.count (fun _ => []) = 0) : Good 1 r p (find l p) (find (chgL l r.first r.count fun _ => []) p) := by
  obtain ⟨hc, hw, h8, he⟩ := chg_ok i2unmap hn
  obtain ⟨_, c1, c2, c3⟩ := check_of_ok hc
  obtain ⟨w1, w2, w3, w4⟩ := whole_in hw
  have hh := has_iff (p := p) w1
  rw [find_eq (chg_check i2unmap hn), he]
  refine ⟨fun hp => ?_, fun hp _ => ⟨?_, ?_⟩, fun _ h => absurd rfl h⟩
  · rw [hp] at hh
    rw [find_eq hc]
    have hh := of_decide_eq_false hh.symm
    exact flat_find fun x hx => un_out (by omega) hh (c1 x hx).1
  · rw [hp] at hh
    exact flat_none (un_in (of_decide_eq_true hh.symm)) l
  · rw [hp] at hh
    have hh := of_decide_eq_true hh.symm
    have := cov_at w4 (p - r.first) (by omega)
    rwa [show r.first + (p - r.first) = p by omega] at this
theorem good2 {l : List Rg} {r : Rg} (p : Nat) (hn : chgN l r.first r.count (fun x => [⟨x.first, x.count, r.write⟩]) = 0) : Good 2 r p (find l p) (find (chgL l r.first r.count fun x => [⟨x.first, x.count, r.write⟩]) p) := by
  obtain ⟨hc, hw, h8, he⟩ := chg_ok (i2prot _) hn
  obtain ⟨_, c1, c2, c3⟩ := check_of_ok hc
  obtain ⟨w1, w2, w3, w4⟩ := whole_in hw
  have hh := has_iff (p := p) w1
  rw [find_eq (chg_check (i2prot _) hn), he]
  refine ⟨fun hp => ?_, fun _ h => (by cases h), fun hp _ => ?_⟩
  · rw [hp] at hh
    rw [find_eq hc]
    have hh := of_decide_eq_false hh.symm
    exact flat_find fun x hx => pr_out _ (by omega) hh (c1 x hx).1
  · rw [hp] at hh
    have hh := of_decide_eq_true hh.symm
    have hs := cov_at w4 (p - r.first) (by omega)
    rw [show r.first + (p - r.first) = p by omega] at hs
    refine ⟨?_, hs⟩
    have : ((l.flatMap (cut1 r.first (r.first + r.count.toNat) fun x => [⟨x.first, x.count, r.write⟩])).find? (Rg.has · p)).map Rg.write = (l.find? (Rg.has · p)).map fun _ => r.write :=
      flat_find (k := fun _ => r.write) fun x hx => pr_in _ hh (c1 x hx).1
    unfold chgO
    rw [this]
    rw [find_eq hc] at hs
    cases hl : l.find? (Rg.has · p) with
    | none => rw [hl] at hs; cases hs
    | some x => rfl

/-! pages, in -/
theorem loop19 {v : Value} {l : List Rg} (hc : check l = 0) {H : Hp} (hs : Sl Rg.enc H v l) (X : List Kx) : ∀ (m k fuel : Nat), k + m = l.length → m < fuel →
    loopS F19b0L fuel [v, I (pl (l.take k)), I l.length, I k] H X = nth X 0 [I (pl l)] H
  | 0, k, fuel + 1, hk, _ => by
    have gk : ¬ ((k : Int) < l.length) := by omega
    rw [List.take_of_length_le (by omega)]
    simp [-nth_eq, loopS, F19b0L, F19b0, gk]
  | m + 1, k, fuel + 1, hk, hm => by
    have gk : ((k : Int) < l.length) := by omega
    have hkl : k < l.length := by omega
    obtain ⟨h8, c1, _, c3⟩ := check_of_ok hc
    obtain ⟨b, io, hb, e1, _, e2⟩ := Sb.at enc_len hs hkl
    have z1 : ld1 (P b (io + 1)) H = some (I l[k].count) := e2 1 (by decide)
    have hcnt := (c1 l[k] (List.getElem_mem hkl)).1
    have wk : IntKind.i64.wrap ((k : Int) + 1) = (k : Int) + 1 := wr_i64 (by omega) (by omega)
    have hsum : pl (l.take (k + 1)) = pl (l.take k) + l[k].count.toNat := by
      rw [List.take_succ_eq_append_getElem hkl, pl_app, pl_cons, pl_nil]; rfl
    have hle : pl l = pl (l.take (k + 1)) + pl (l.drop (k + 1)) := by rw [← pl_app, List.take_append_drop]
    have wn : IntKind.i64.wrap ((pl (l.take k) : Int) + l[k].count) = (pl (l.take (k + 1)) : Int) := by rw [wr_i64 (by omega) (by omega)]; omega
    have b1 := loop19 hc hs X m (k + 1) fuel (by omega) (by omega)
    rw [show ((k + 1 : Nat) : Int) = (k : Int) + 1 from rfl] at b1
    rw [← b1]
    simp [-nth_eq, loopS, F19b0L, F19b0, gk, e1, z1, wk, wn]
theorem S19 {v : Value} {l : List Rg} (hc : check l = 0) (H : Hp) (hs : Sl Rg.enc H v l) : call 19 [v] H = some (I (pl l), H) := by
  refine c19 rfl ?_
  have hs := hs.fresh (args := [v]) (List.mem_singleton.2 rfl)
  generalize H.fresh [v] = H at *
  have hln := hs.len
  have h8 := (check_ok hc).1
  have b1 := loop19 hc hs [fun x1 h2 => some ((gv x1 0), h2)] l.length 0 rnd (by omega) (by rw [rnd_eq]; show _ < 4611686018427387904; omega)
  simp [pl_nil] at b1
  simp [F19, hln, b1]

theorem S25 {r : Rg} {p : Nat} (hr : 1 ≤ r.count ∧ (r.first : Int) + r.count ≤ 34359738368) (hp : p < 18446744073709551616) (H : Hp) : call 25 [r.val, U p] H = some (.bool (r.has p), H) := by
  refine c25 rfl ?_
  have hf := fresh_ok H [r.val, U p]
  generalize H.fresh [r.val, U p] = H at *
  have wc : IntKind.u64.wrap r.count = r.count := wr_u64 (by omega) (by omega)
  have hmx : maxE [I r.count, I 0] = some (I r.count) := by
    simp only [maxE]
    rw [if_neg (by omega)]
  by_cases h : r.first ≤ p
  · obtain ⟨d, hd⟩ : ∃ d : Nat, d = p - r.first := ⟨_, rfl⟩
    have e : (p : Int) - r.first = d := by omega
    have wd : IntKind.u64.wrap (d : Int) = d := wr_u64 (by omega) (by omega)
    have hb : r.has p = decide ((d : Int) < r.count) := by
      unfold Rg.has
      rw [decide_eq_true h, Bool.true_and]
      congr 1
      apply propext
      omega
    rw [hb]
    simp [F25, h, hf, le_more, hmx, wc, e, wd]
  · have hb : r.has p = false := by unfold Rg.has; simp [h]
    rw [hb]
    simp [F25, h, hf, le_more]
end Go.Proofs.Ytiigiodagfalpaa.X
