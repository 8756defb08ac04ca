/- PlanBreaks: the law. -/
import Derived.Test.YthfmdomnoheklaaDoorPlanS8
import Derived.Test.YthfmdomnoheklaaDoorZxWord
set_option maxRecDepth 100000
set_option maxHeartbeats 1000000
namespace Go.Proofs.YthfmdomnoheklaaDoor.X
open Go.Ahe Go.Ahe.X

theorem T30 : C0.T 30 = some ⟨.slice 28, 1, 24, [.slice none 0 0]⟩ := by kernel_rfl
theorem T28 : ∃ ti, C0.T 28 = some ti ∧ ti.size = 13 ∧ ti.bytes = 104 ∧ ti.zero.length = 13 := by
  refine ⟨⟨.struct [(0, 24, false), (1, 22, false), (2, 22, false), (3, 3, false), (4, 3, false), (5, 26, false), (8, 3, false), (9, 3, false), (10, 3, false), (11, 24, false), (12, 3, false)], 13, 104, [.int .i8 0, U 0, U 0, I 0, I 0, .int .i8 0, I 0, U 0, I 0, I 0, I 0, .int .i8 0, I 0]⟩, by kernel_rfl, rfl, rfl, rfl⟩

/-- A slice put behind none. -/
theorem app1 {H : Hp} {p o n cap : Nat} {x : Option Nat} {cs : List Value} {ro : Bool} (h : H.get p = some (.cells cs ro)) (h0 : 0 < n) (hn : n < 100) (hl : o + n * 13 ≤ cs.length) :
    appendE C0 30 30 (.slice none 0 0) (.slice (some ⟨p, o, x⟩) n cap) H = some (.slice (some ⟨H.next, 0, some 13⟩) n n, H.new (.cells ((cs.drop o).take (n * 13)) false)) := by
  obtain ⟨ti, t1, t2, t3, t4⟩ := T28
  have q1 : Nat.ble (0 + n) 0 = false := by
    cases hq : Nat.ble (0 + n) 0 with
    | false => rfl
    | true => have := Nat.le_of_ble_eq_true hq; omega
  have q2 : Nat.ble ((2 * (0 + n) + 768) * 104) 281474976710656 = true := Nat.ble_eq_true_of_le (by omega)
  have q3 : Nat.beq n 0 = false := by
    cases hq : Nat.beq n 0 with
    | false => rfl
    | true => have := Nat.eq_of_beq_eq_true hq; omega
  have q4 : Nat.ble 1 13 = true := rfl
  have q5 : Nat.ble 1 104 = true := rfl
  have q6 : Nat.beq 13 13 = true := rfl
  have q7 : Nat.ble (o + n * 13) cs.length = true := Nat.ble_eq_true_of_le hl
  have e1 : addedE (.slice (some ⟨p, o, x⟩) n cap) = some n := rfl
  have e2 : newCellsE ti n (.slice (some ⟨p, o, x⟩) n cap) H = some ((cs.drop o).take (n * 13)) := by
    simp only [newCellsE, firstCellsE, q3, cond_false, t2, readCells, h, lrange, q7, cond_true]
  simp only [appendE, T30, appendE.appendTo, t1, Option.bind_some, e1, q1, cond_false, t2, t3, t4, q2, q4, q5, q6, Bool.and_self, cond_true, e2]
  simp [firstCellsE]
/-- A slice put behind one that is full: the elder place dies. -/
theorem app2 {H : Hp} {p q o n m cap : Nat} {x : Option Nat} {cs cs' : List Value} {ro : Bool} (h : H.get p = some (.cells cs ro)) (h' : H.get q = some (.cells cs' false)) (hq : H.floor ≤ q) (h0 : 0 < n) (hn : n < 100) (hm : 0 < m) (hm2 : m < 100) (hl : o + n * 13 ≤ cs.length) (hl' : m * 13 = cs'.length) (ho : cs.all oneCell = true) :
    appendE C0 30 30 (.slice (some ⟨q, 0, some 13⟩) m m) (.slice (some ⟨p, o, x⟩) n cap) H = some (.slice (some ⟨H.next, 0, some 13⟩) (m + n) (m + n), (H.new (.cells (cs' ++ (cs.drop o).take (n * 13)) false)).setO q .dead) := by
  obtain ⟨ti, t1, t2, t3, t4⟩ := T28
  have q1 : Nat.ble (m + n) m = false := by
    cases hq : Nat.ble (m + n) m with
    | false => rfl
    | true => have := Nat.le_of_ble_eq_true hq; omega
  have q2 : Nat.ble ((2 * (m + n) + 768) * 104) 281474976710656 = true := Nat.ble_eq_true_of_le (by omega)
  have q3 : Nat.beq n 0 = false := by
    cases hq : Nat.beq n 0 with
    | false => rfl
    | true => have := Nat.eq_of_beq_eq_true hq; omega
  have q3' : Nat.beq m 0 = false := by
    cases hq : Nat.beq m 0 with
    | false => rfl
    | true => have := Nat.eq_of_beq_eq_true hq; omega
  have q4 : Nat.ble 1 13 = true := rfl
  have q5 : Nat.ble 1 104 = true := rfl
  have q6 : Nat.beq 13 13 = true := rfl
  have q7 : Nat.ble (o + n * 13) cs.length = true := Nat.ble_eq_true_of_le hl
  have q8 : Nat.ble (0 + m * 13) cs'.length = true := Nat.ble_eq_true_of_le (by omega)
  have e1 : addedE (.slice (some ⟨p, o, x⟩) n cap) = some n := rfl
  have e2 : newCellsE ti n (.slice (some ⟨p, o, x⟩) n cap) H = some ((cs.drop o).take (n * 13)) := by
    simp only [newCellsE, firstCellsE, q3, cond_false, t2, readCells, h, lrange, q7, cond_true]
  have e3 : firstCellsE 13 m (.slice (some ⟨q, 0, some 13⟩) m m) H = some cs' := by
    simp only [firstCellsE, q3', cond_false, readCells, h', lrange, q8, cond_true, List.drop_zero]
    rw [hl', List.take_length]
  have e4 : ((cs.drop o).take (n * 13)).all oneCell = true := by
    rw [List.all_eq_true] at ho ⊢
    intro v hv
    exact ho v (List.mem_of_mem_drop (List.mem_of_mem_take hv))
  simp only [appendE, T30, appendE.appendTo, t1, Option.bind_some, e1, q1, cond_false, t2, t3, t4, q2, q4, q5, q6, Bool.and_self, cond_true, e2, e3, h', e4]
  rw [Hp.upd_eq (show (H.new _).floor ≤ q from hq)]
  simp

theorem lf_ok {n : Nat} (h0 : 1 ≤ n) (h : n < 64) : Lf n ((2115 + 4096 * n : Nat) : Int) := by
  refine ⟨?_, ?_, ?_, wr_i64 (by omega) (by omega), by omega⟩
  · rw [show (1 : Int) = ((1 : Nat) : Int) from rfl, and_u64 (by omega) (by omega), and_mod _ 1 1 rfl]
    rw [show (2115 + 4096 * n) % 2 ^ 1 = 1 by omega]
  · rw [show (12 : Int) = ((12 : Nat) : Int) from rfl, shr_nat _ 12 (by omega) _ rfl, show (2115 + 4096 * n) / 2 ^ 12 = n by omega]
  · rw [show (68719476735 : Int) = ((68719476735 : Nat) : Int) from rfl, and_u64 (by omega) (by omega), and_mod _ 36 _ rfl, Nat.mod_eq_of_lt (by omega)]

def way : List Ac := [.take, .zero, .dsb, .cast, .dsb, .copy, .dsb, .word, .dsb, .drop]

section
variable {w f g W : Int}
theorem bsl_way (H : Hp) : bsl 13 [.int .i8 0, U 0, U 0, I 0, I 0, .int .i8 0, I 0, U 0, I 0, I 0, I 0, .int .i8 0, I 0] 10 [
    (0, .agg (Act.enc (Ac.take.act w f g W)).toArray), (1, .agg (Act.enc (Ac.zero.act w f g W)).toArray), (2, .agg (Act.enc (Ac.dsb.act w f g W)).toArray), (3, .agg (Act.enc (Ac.cast.act w f g W)).toArray), (4, .agg (Act.enc (Ac.dsb.act w f g W)).toArray), (5, .agg (Act.enc (Ac.copy.act w f g W)).toArray), (6, .agg (Act.enc (Ac.dsb.act w f g W)).toArray), (7, .agg (Act.enc (Ac.word.act w f g W)).toArray), (8, .agg (Act.enc (Ac.dsb.act w f g W)).toArray), (9, .agg (Act.enc (Ac.drop.act w f g W)).toArray)] H
  = some (.slice (some ⟨H.next, 0, none⟩) 10 10, H.new (.cells (encL Act.enc (way.map (Ac.act w f g W))) false)) := by kernel_rfl
theorem enc_one (l : List Act) : (encL Act.enc l).all oneCell = true := by
  rw [List.all_eq_true]
  intro v hv
  simp only [encL, List.mem_flatMap] at hv
  obtain ⟨a, _, ha⟩ := hv
  have hq : a.enc.all oneCell = true := rfl
  exact List.all_eq_true.1 hq v ha

/-- The way without one of its actions. -/
theorem cut_ok (hl : Lf f W) {c : Nat} (hc : 0 < c ∧ c < 9) {j : Nat} (hs : sim (way.take c ++ way.drop (c + 1)) 0 ⟨none, false, false⟩ = some (j, false)) (hj : c ≤ j ∧ j < 9) {p : Nat} {H : Hp} (hr : Holds Act.enc H p (way.map (Ac.act w f g W))) (hf : H.floor ≤ H.next)
    (s1 : slc C0 30 (.slice (some ⟨p, 0, none⟩) 10 10) none (some (I c)) none = some (.slice (some ⟨p, 0, none⟩) c 10))
    (s2 : slc C0 30 (.slice (some ⟨p, 0, none⟩) 10 10) (some (I ((c + 1 : Nat) : Int))) none none = some (.slice (some ⟨p, (c + 1) * 13, none⟩) (9 - c) (9 - c)))
    (hS4 : ∀ H, call 4 [] H = some (.bool true, H)) (X : List Kx) : ∃ H', F3j0 (.slice (some ⟨p, 0, none⟩) 10 10) (I 10) (.bool true) (I c) H X = nth X 0 [.bool true] H' := by
  obtain ⟨ro, hg⟩ := hr.get
  have hlen : (encL Act.enc (way.map (Ac.act w f g W))).length = 130 := by rw [encL_len Act.enc_len]; rfl
  have hlt := hr.lt
  have a1 := app1 (cap := 10) (x := none) hg hc.1 (by omega) (show 0 + c * 13 ≤ _ by rw [hlen]; omega)
  obtain ⟨H1, hH1⟩ : ∃ H1, H1 = H.new (.cells (((encL Act.enc (way.map (Ac.act w f g W))).drop 0).take (c * 13)) false) := ⟨_, rfl⟩
  rw [← hH1] at a1
  have g1 : H1.get p = some (.cells (encL Act.enc (way.map (Ac.act w f g W))) ro) := by rw [hH1, Hp.get_new, if_neg (by omega)]; exact hg
  have g2 : H1.get H.next = some (.cells (((encL Act.enc (way.map (Ac.act w f g W))).drop 0).take (c * 13)) false) := by rw [hH1, Hp.get_new, if_pos rfl]
  have n1 : H1.next = H.next + 1 := by rw [hH1, Hp.next_new]
  have f1 : H1.floor = H.floor := by rw [hH1]; rfl
  have a2 := app2 (cap := 9 - c) (x := none) (o := (c + 1) * 13) (n := 9 - c) (m := c) g1 g2 (by rw [f1]; exact hf) (by omega) (by omega) hc.1 (by omega) (by rw [hlen]; omega) (by rw [List.drop_zero, List.length_take, hlen]; omega) (enc_one _)
  obtain ⟨H2, hH2⟩ : ∃ H2, H2 = (H1.new (.cells (((encL Act.enc (way.map (Ac.act w f g W))).drop 0).take (c * 13) ++ ((encL Act.enc (way.map (Ac.act w f g W))).drop ((c + 1) * 13)).take ((9 - c) * 13)) false)).setO H.next .dead := ⟨_, rfl⟩
  rw [← hH2] at a2
  have hcut : ((encL Act.enc (way.map (Ac.act w f g W))).drop 0).take (c * 13) ++ ((encL Act.enc (way.map (Ac.act w f g W))).drop ((c + 1) * 13)).take ((9 - c) * 13) = encL Act.enc ((way.take c ++ way.drop (c + 1)).map (Ac.act w f g W)) := by
    have : c = 1 ∨ c = 2 ∨ c = 3 ∨ c = 4 ∨ c = 5 ∨ c = 6 ∨ c = 7 ∨ c = 8 := by omega
    rcases this with h | h | h | h | h | h | h | h <;> subst h <;> rfl
  have hr2 : Holds Act.enc H2 H1.next ((way.take c ++ way.drop (c + 1)).map (Ac.act w f g W)) := by
    refine ⟨⟨false, ?_⟩, ?_⟩
    · rw [hH2, Hp.get_setO, if_neg (by omega), Hp.get_new, if_pos rfl, hcut]
    · rw [hH2, Hp.next_setO, Hp.next_new]; exact Nat.lt_succ_self _
  have hlen2 : (way.take c ++ way.drop (c + 1)).length = 9 := by
    have : c = 1 ∨ c = 2 ∨ c = 3 ∨ c = 4 ∨ c = 5 ∨ c = 6 ∨ c = 7 ∨ c = 8 := by omega
    rcases this with h | h | h | h | h | h | h | h <;> subst h <;> rfl
  have hS := S6 hl (al0 := way.take c ++ way.drop (c + 1)) (by rw [hlen2]; omega) hs (cap := 9) (x := some 13) hr2
  rw [hlen2] at hS
  have hcn : c + (9 - c) = 9 := by omega
  rw [hcn] at a2
  have hw : IntKind.i64.wrap ((c : Int) + 1) = ((c + 1 : Nat) : Int) := by rw [wr_i64 (by omega) (by omega)]; omega
  have hj1 : (c : Int) ≤ j := by omega
  have hj2 : (j : Int) < 9 := by omega
  refine ⟨H2, ?_⟩
  simp [F3j0, s1, a1, hw]
  have s2' := s2
  simp at s2'
  simp [s2', a2]
  simp at hS
  simp [hS, hj1, hj2, hS4]
end
end Go.Proofs.YthfmdomnoheklaaDoor.X
