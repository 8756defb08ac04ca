/- The space seat: the range over pages. -/
import Derived.Test.YtiigiodagfalpaaSpaceT2
set_option maxRecDepth 100000
set_option maxHeartbeats 1000000
namespace Go.Proofs.Ytiigiodagfalpaa.X
open Go.Ahe Go.Ahe.X

/-- The program's Pages: a function with a cell of its own. -/
theorem S24 {v : Value} {l : List Rg} (H : Hp) (hs : Sl Rg.enc H v l) (hf : H.floor ≤ H.next) : ∃ (w : Value) (H' : Hp), call 24 [v] H = some (.func (.func 37) #[] #[P H.next 0], H') ∧
    H'.get H.next = some (.cells [w] false) ∧ H.next < H'.next ∧ Sp Rg.enc (fun i => H.next < i ∧ i < H'.next) H' w (if check l = 0 then l else []) ∧ Keep (fun _ => False) H H' := by
  have hs1 := hs.new (.cells [v] false)
  have s14 := S14 _ hs1
  have hcv : cellsOf v = [v] := by rcases hs with ⟨rfl, _⟩ | ⟨i, o, cap, x, cs, ro, rfl, _⟩ <;> rfl
  have hone : oneCell v = true := by rcases hs with ⟨rfl, _⟩ | ⟨i, o, cap, x, cs, ro, rfl, _⟩ <;> rfl
  -- behind the check: u lies in the cell
  have fin : ∀ (u : Value) (m : List Rg), Sl Rg.enc (H.new (.cells [u] false)) u m → m.length < 1000000 → ∃ (w : Value) (H' : Hp), (∀ X, F24j0 (P H.next 0) (H.new (.cells [u] false)) X = nth X 0 [.func (.func 37) #[] #[P H.next 0]] H') ∧
      H'.get H.next = some (.cells [w] false) ∧ H.next < H'.next ∧ Sp Rg.enc (fun i => H.next < i ∧ i < H'.next) H' w m ∧ Keep (fun _ => False) H H' := fun u m hu hm => by
    obtain ⟨w, H2, a1, a2, a3⟩ := S33 _ hu hm
    have hn : (H.new (.cells [u] false)).next = H.next + 1 := Hp.next_new _ _
    have h2 : H2.get H.next = some (.cells [u] false) := (a3.get _ (by omega) (fun h => h)).trans (by rw [Hp.get_new, if_pos rfl])
    have hwone : oneCell w = true ∧ cellsOf w = [w] := by
      rcases a2 with ⟨rfl, _⟩ | ⟨i, o, rfl, _⟩ | ⟨i, rfl, _⟩ <;> exact ⟨rfl, rfl⟩
    have h2n : H.next + 1 ≤ H2.next := by have := a3.next; omega
    have hst : st 1 (P H.next 0) w H2 = some (.tuple #[], H2.setO H.next (.cells [w] false)) := by
      rw [st_get h2 (by rw [a3.floor]; exact hf) 1 0 (by simp [hwone]), if_pos (by simp [hwone])]
      simp [hwone]
    refine ⟨w, H2.setO H.next (.cells [w] false), fun X => ?_, ?_, ?_, ?_, ?_⟩
    · simp [-nth_eq, F24j0, a1, hst]
    · rw [Hp.get_setO, if_pos rfl]
    · rw [Hp.next_setO]; omega
    · rw [Hp.next_setO]
      exact a2.sp.same (fun i hi => ⟨by omega, hi.2⟩) fun i hi => by rw [Hp.get_setO, if_neg (by omega)]
    · exact ((Keep.new (fun _ => False) H _).trans a3).newSet (Nat.le_refl _) _
  by_cases hc : check l = 0
  · rw [if_pos hc]
    obtain ⟨h8, _⟩ := check_ok hc
    obtain ⟨w, H', a1, a2, a3, a4, a5⟩ := fin v l hs1 (by omega)
    refine ⟨w, H', c24 ?_, a2, a3, a4, a5⟩
    simp [F24, hcv, s14, hc, a1]
  · rw [if_neg hc]
    obtain ⟨w, H', a1, a2, a3, a4, a5⟩ := fin (.slice none 0 0) [] (.inl ⟨rfl, rfl⟩) (by simp)
    refine ⟨w, H', c24 ?_, a2, a3, a4, a5⟩
    simp [F24, hcv, s14, hc, hf, a1]
end Go.Proofs.Ytiigiodagfalpaa.X
