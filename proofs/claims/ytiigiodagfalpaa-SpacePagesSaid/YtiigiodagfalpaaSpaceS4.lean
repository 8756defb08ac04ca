/- The space seat: the program's Find. -/
import Derived.Test.YtiigiodagfalpaaSpaceS3
set_option maxRecDepth 100000
set_option maxHeartbeats 1000000
namespace Go.Proofs.Ytiigiodagfalpaa.X
open Go.Ahe Go.Ahe.X

theorem S31 {v : Value} {l : List Rg} {p q : Nat} (H : Hp) (hs : Sl Rg.enc H v l) (hl : l.length < 1000000) (hq : ∀ k (hk : k < l.length), l[k].stop ≤ p ↔ k < q) (hql : q ≤ l.length) :
    call 31 [v, U p] H = some (.tuple #[I q, .bool (if h : q < l.length then decide (l[q].first ≤ p) else false)], H) := by
  refine c31 rfl ?_
  have hs := hs.fresh (args := [v, U p]) (List.mem_cons_self ..)
  generalize H.fresh [v, U p] = H at *
  simp [F31, S42 H hs hl hq hql]

theorem S20 {v : Value} {l : List Rg} {p : Nat} (H : Hp) (hs : Sl Rg.enc H v l) : call 20 [v, U p] H = some (fnd l p, H) := by
  refine c20 (by unfold fnd; cases find l p <;> rfl) ?_
  have hs := hs.fresh (args := [v, U p]) (List.mem_cons_self ..)
  have hf := fresh_ok H [v, U p]
  generalize H.fresh [v, U p] = H at *
  have hs1 := hs.new (.cells [U 0, I 0, .bool false] false)
  have s14 := S14 _ hs1
  by_cases hc : check l = 0
  · obtain ⟨h8, m, hm, _⟩ := check_ok hc
    obtain ⟨c1, c2⟩ := chk_ok hm
    obtain ⟨q, hql, hq⟩ := cut_ex p l (fun r hr => (c1 r hr).1) c2
    have hfc := find_cut (fun r hr => (c1 r hr).1) c2 hq
    have s31 := S31 (p := p) (q := q) _ hs1 (by omega) (fun k hk => by rw [← hq k hk, (c1 l[k] (List.getElem_mem hk)).2.2.2.2]) hql
    rw [hc] at s14
    unfold fnd find
    rw [if_pos hc, hfc]
    by_cases g : q < l.length
    · obtain ⟨b, io, hb, e1, e2⟩ := hs.at enc_len g
      rw [dif_pos g]
      simp only [g, dif_pos] at s31
      generalize l[q] = r at *
      have e2 : ldA 3 (P b io) H = some r.val := e2
      have hbn : b ≠ H.next := Nat.ne_of_lt hb
      by_cases c : r.first ≤ p
      · simp only [c, decide_true] at s31
        simp [F20, s14, s31, c, e1, e2, hbn, hf, le_more]
      · simp only [c, decide_false] at s31
        simp [F20, s14, s31, c, hf, le_more, zR]
    · rw [dif_neg g]
      simp only [g, dif_neg, not_false_eq_true] at s31
      simp [F20, s14, s31, hf, le_more, zR]
  · have hfn : fnd l p = .tuple #[zR.val, .bool false] := by unfold fnd find; rw [if_neg hc]
    rw [hfn]
    simp [F20, s14, hc, hf, le_more, zR]
end Go.Proofs.Ytiigiodagfalpaa.X
