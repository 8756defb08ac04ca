/- PlanBreaks: what Check says of the whole way, and of the way without one of its actions. -/
import Derived.Test.YthfmdomnoheklaaDoorPlanS7
set_option maxRecDepth 100000
set_option maxHeartbeats 1000000
namespace Go.Proofs.YthfmdomnoheklaaDoor.X
open Go.Ahe Go.Ahe.X

section
variable {w f g W : Int} {o z b : Nat}

theorem run6 (hl : Lf f W) {al0 : List Ac} (ha : al0.length < 100) {a0 : Value} {p cap : Nat} {x : Option Nat} (po : p ≠ o) (pz : p ≠ z) (pb : p ≠ b) : ∀ (l : List Ac) (i m j : Nat) (ok : Bool) (s : St) (H : Hp), l = al0.drop i → i ≤ al0.length → l.length < m → sim l i s = some (j, ok) → s.In → Od w f o z b s.zn s.d s.k H → Holds Act.enc H p (al0.map (Ac.act w f g W)) →
    ∃ H', ∀ X, loopS F6b0L m [a0, P o 0, .slice (some ⟨p, 0, x⟩) al0.length cap, I al0.length, I i] H X = if ok = true then nth X 1 [a0] H' else nth X 0 [I j, .bool false] H'
  | l, i, 0, j, ok, s, H, _, _, hm, _, _, _, _ => absurd hm (Nat.not_lt_zero _)
  | [], i, m + 1, j, ok, s, H, hd, hi, _, hs, _, h, hr => by
    simp [sim] at hs
    obtain ⟨rfl, rfl⟩ := hs
    have : al0.length ≤ i := by simpa using (List.drop_eq_nil_iff.1 hd.symm)
    have hc : ¬ ((i : Int) < al0.length) := by omega
    refine ⟨H, fun X => ?_⟩
    simp only [loopS]
    generalize loopS F6b0L m = K
    simp [F6b0L, F6b0, hc]
  | a :: l, i, m + 1, j, ok, s, H, hd, hi, hm, hs, hin, h, hr => by
    have hil : i < al0.length := by
      rcases Nat.lt_or_ge i al0.length with h | h
      · exact h
      · rw [List.drop_eq_nil_of_le h] at hd; cases hd
    rw [List.drop_eq_getElem_cons hil] at hd
    obtain ⟨hd1, hd2⟩ := List.cons.inj hd
    simp only [sim] at hs
    cases hst : a.step s with
    | none => rw [hst] at hs; cases hs
    | some q =>
      obtain ⟨ok1, s1⟩ := q
      rw [hst, Option.bind_some] at hs
      have hx : ixS 13 (.slice (some ⟨p, 0, x⟩) al0.length cap) (I i) = some (P p (i * 13)) := by
        simp only [ixS, nat?_ofNat]
        rw [show Nat.blt i al0.length = true by simp [Nat.blt]; omega]
        simp
      have hdd : ldA 13 (P p (i * 13)) H = some (.agg (Act.enc (a.act w f g W)).toArray) := by
        rw [hr.ldA Act.enc_len (k := i) (by simpa using hil), List.getElem_map, ← hd1]
      obtain ⟨H', h', kp, e⟩ := act6 (a0 := a0) hl hin h hst hil ha hx hdd
      have hr' : Holds Act.enc H' p (al0.map (Ac.act w f g W)) := ⟨by obtain ⟨ro, hg⟩ := hr.get; exact ⟨ro, by rw [kp.get p hr.lt po pz pb]; exact hg⟩, Nat.lt_of_lt_of_le hr.lt kp.next⟩
      cases ok1 with
      | false =>
        simp at hs
        obtain ⟨rfl, rfl⟩ := hs
        exact ⟨H', fun X => by rw [loopS, e]; simp⟩
      | true =>
        simp at hs
        obtain ⟨H2, h2⟩ := run6 hl ha (a0 := a0) (cap := cap) (x := x) po pz pb l (i + 1) m j ok s1 H' hd2 hil (by simpa using hm) hs (step_in hin hst) h' hr'
        exact ⟨H2, fun X => by rw [loopS, e]; simpa using h2 X⟩
end

/-- What Check says. -/
theorem S6 {w f g W : Int} (hl : Lf f W) {al0 : List Ac} (ha : al0.length < 100) {j : Nat} {ok : Bool} (hs : sim al0 0 ⟨none, false, false⟩ = some (j, ok)) {p cap : Nat} {x : Option Nat} {H : Hp} (hr : Holds Act.enc H p (al0.map (Ac.act w f g W))) :
    call 6 [.slice (some ⟨p, 0, x⟩) al0.length cap] H = some (.tuple #[if ok = true then I al0.length else I j, .bool ok], H) := by
  refine c6 (by cases ok <;> rfl) ?_
  have hf := fresh_ok H [.slice (some ⟨p, 0, x⟩) al0.length cap]
  have hr : Holds Act.enc (H.fresh [.slice (some ⟨p, 0, x⟩) al0.length cap]) p (al0.map (Ac.act w f g W)) := hr.raised
  generalize H.fresh [.slice (some ⟨p, 0, x⟩) al0.length cap] = H at *
  have hod : Od w f (H.next + 2) H.next (H.next + 1) none false false (((H.new (.map [] 0)).new (.map [] 0)).new (.cells [.map (some H.next), .bool false, .map (some (H.next + 1))] false)) := by
    refine ⟨?_, ⟨0, 0, fun h => absurd rfl h, ?_⟩, ⟨0, 0, ?_⟩, ?_, ?_, ?_, ?_, ?_, ?_, ?_, ?_, ?_⟩ <;> simp [Hp.get_new, zl, bl] <;> omega
  have hrr := ((hr.new (.map [] 0)).new (.map [] 0)).new (.cells [.map (some H.next), .bool false, .map (some (H.next + 1))] false)
  have hp := hr.lt
  obtain ⟨H', h⟩ := run6 (a0 := .slice (some ⟨p, 0, x⟩) al0.length cap) (cap := cap) (x := x) hl ha (p := p) (by omega) (by omega) (by omega) al0 0 rnd j ok ⟨none, false, false⟩ _ rfl (Nat.zero_le _) (by rw [rnd_eq]; show _ < 4611686018427387904; omega) hs (fun n hn => by cases hn) hod hrr
  simp [F6]
  have h := h
  simp at h
  rw [h]
  cases ok <;> simp
end Go.Proofs.YthfmdomnoheklaaDoor.X
