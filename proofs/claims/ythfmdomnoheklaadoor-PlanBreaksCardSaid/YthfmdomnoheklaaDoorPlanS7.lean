/- PlanBreaks: what Check says of a row of actions. -/
import Derived.Test.YthfmdomnoheklaaDoorPlanS6
import Derived.Test.YthfmdomnoheklaaDoorZxList
set_option maxRecDepth 100000
set_option maxHeartbeats 1000000
namespace Go.Proofs.YthfmdomnoheklaaDoor.X
open Go.Ahe Go.Ahe.X

inductive Ac where | take | zero | dsb | cast | copy | word | drop
/-- How an action lies: of word w, frames f and g, the new word W. -/
def Ac.act (w f g W : Int) : Ac → Act
  | .take => ⟨6, 0, 0, f, 0⟩
  | .zero => ⟨0, w, 0, 0, 0⟩
  | .dsb => ⟨3, 0, 0, 0, 0⟩
  | .cast => ⟨4, 0, 0, 0, 0⟩
  | .copy => ⟨2, 0, 0, f, g⟩
  | .word => ⟨0, w, W, 0, 0⟩
  | .drop => ⟨8, 0, 0, g, 0⟩
structure St where
  zn : Option Int
  d : Bool
  k : Bool
def cst : Option Int → Option Int
  | none => none
  | some n => if n = 2 then some 3 else some n
/-- What an action does: is it well, and what is behind it; none: not asked here. -/
def Ac.step (s : St) : Ac → Option (Bool × St)
  | .take => some (true, s)
  | .zero => some (true, ⟨some 1, true, s.k⟩)
  | .dsb => some (true, ⟨bump s.zn, false, false⟩)
  | .cast => some (true, ⟨cst s.zn, true, s.k⟩)
  | .copy => if s.k then none else some (true, ⟨s.zn, true, true⟩)
  | .word => some ((decide (s.zn.getD 0 = 0) || decide (s.zn.getD 0 = 4)) && !s.k, ⟨none, true, s.k⟩)
  | .drop => some (!s.d, s)
def sim : List Ac → Nat → St → Option (Nat × Bool)
  | [], i, _ => some (i, true)
  | a :: l, i, s => (a.step s).bind fun r => if r.1 then sim l (i + 1) r.2 else some (i, false)
def St.In (s : St) : Prop := ∀ n ∈ s.zn, 0 ≤ n ∧ n ≤ 4

theorem Act.enc_len (a : Act) : a.enc.length = 13 := rfl

theorem step_in {a : Ac} {s s' : St} {ok : Bool} (hi : s.In) (h : a.step s = some (ok, s')) : s'.In := by
  obtain ⟨zn, d, k⟩ := s
  cases a <;> simp [Ac.step] at h
  case take => obtain ⟨rfl, rfl⟩ := h; exact hi
  case zero => obtain ⟨rfl, rfl⟩ := h; intro n hn; simp at hn; omega
  case dsb =>
    obtain ⟨rfl, rfl⟩ := h; intro n hn
    cases zn with
    | none => simp [bump] at hn
    | some m =>
      have := hi m rfl
      simp only [bump] at hn
      split at hn <;> (simp at hn; omega)
  case cast =>
    obtain ⟨rfl, rfl⟩ := h; intro n hn
    cases zn with
    | none => simp [cst] at hn
    | some m =>
      have := hi m rfl
      simp only [cst] at hn
      split at hn <;> (simp at hn; omega)
  case copy => obtain ⟨_, rfl, rfl⟩ := h; exact hi
  case word => obtain ⟨_, rfl⟩ := h; intro n hn; simp at hn
  case drop => obtain ⟨_, rfl⟩ := h; exact hi

section
variable {w f g W : Int} {o z b : Nat} {s s' : St} {H : Hp}

/-- A cast. -/
theorem range_cast (h : Od w f o z b s.zn s.d s.k H) (t0 t5 t7 t14 t15 t16 : Value) : ∃ r H1, rangeE C0 51 (.map (some z)) H = some (.pointer (some ⟨r, 0, none⟩), H1) ∧ ∃ H', Od w f o z b (cst s.zn) s.d s.k H' ∧ Kp o z b H H' ∧
    ∀ X, loopS F6b3L rnd [t0, P o 0, t5, t7, t14, t15, t16, .pointer (some ⟨r, 0, none⟩)] H1 X = nth X 0 [t0, P o 0, t5, t7, t14, t15, t16] H' := by
  obtain ⟨r, H3, e3, k3, h3, hx⟩ := h.range
  obtain ⟨m, hm⟩ := rnd_more
  have hL : loopS F6b3L rnd = fun xs H X => F6b3L (fun xs H => loopS F6b3L (m + 19) xs H X) xs H X := by rw [hm]; rfl
  have hN : ∀ H X, nextE (.pointer (some ⟨r, 0, none⟩)) H = some (.tuple #[.bool false], H) → loopS F6b3L (m + 19) [t0, P o 0, t5, t7, t14, t15, t16, .pointer (some ⟨r, 0, none⟩)] H X = nth X 0 [t0, P o 0, t5, t7, t14, t15, t16] H := fun H X he => by
    show F6b3L (fun xs H => loopS F6b3L (m + 18) xs H X) _ H X = _
    generalize (fun xs H => loopS F6b3L (m + 18) xs H X) = K
    simp [F6b3L, F6b3, he]
  generalize (m + 19) = m' at hL hN
  refine ⟨r, H3, e3, ?_⟩
  obtain ⟨zn, d, k⟩ := s
  cases zn with
  | none =>
    dsimp only at hx
    refine ⟨H3, h3, k3, fun X => ?_⟩
    simp only [hL]
    simp [F6b3L, F6b3, hx]
  | some n =>
    obtain ⟨H4, e4, e5, h4, k4, e6, hp⟩ := hx
    by_cases hn : n = 2
    · obtain ⟨H5, e7, h5, k5, e8⟩ := hp 3
      refine ⟨H5, by simpa [cst, hn] using h5, k5, fun X => ?_⟩
      subst hn
      simp only [hL]
      simp [hN, F6b3L, F6b3, e4, e5, h4.l0, e7, e8]
    · refine ⟨H4, by simpa [cst, hn] using h4, k4, fun X => ?_⟩
      simp only [hL]
      simp [hN, F6b3L, F6b3, e4, e5, e6, hn]

/-- One action of a row. -/
theorem act6 (hl : Lf f W) (hi : s.In) (h : Od w f o z b s.zn s.d s.k H) {a : Ac} {ok : Bool} (hs : a.step s = some (ok, s')) {v a0 : Value} {len i : Nat} (hil : i < len) (hlen : len < 100) {p : Nat} (hx : ixS 13 v (I i) = some (P p (i * 13))) (hd : ldA 13 (P p (i * 13)) H = some (.agg (Act.enc (a.act w f g W)).toArray)) :
    ∃ H', Od w f o z b s'.zn s'.d s'.k H' ∧ Kp o z b H H' ∧ ∀ K X, F6b0L K [a0, P o 0, v, I len, I i] H X = if ok = true then K [a0, P o 0, v, I len, I ((i + 1 : Nat) : Int)] H' else nth X 0 [I i, .bool false] H' := by
  obtain ⟨zn, d, k⟩ := s
  have h1 := h.new (.cells (Act.enc (a.act w f g W)) false)
  have g1 : (H.new (.cells (Act.enc (a.act w f g W)) false)).get H.next = some (.cells (Act.enc (a.act w f g W)) false) := by rw [Hp.get_new, if_pos rfl]
  have l1 : H.next < (H.new (.cells (Act.enc (a.act w f g W)) false)).next := by rw [Hp.next_new]; exact Nat.lt_succ_self _
  have kn : Kp o z b H (H.new (.cells (Act.enc (a.act w f g W)) false)) := .new _
  have n1 := ne_of_lt' h.no; have n2 := ne_of_lt' h.nz; have n3 := ne_of_lt' h.nb
  have hf : H.floor ≤ H.next := Nat.le_trans h.fo (Nat.le_of_lt h.no)
  have hst : st 13 (P H.next 0) (.agg (Act.enc (a.act w f g W)).toArray) (H.new (.cells [.int .i8 0, U 0, U 0, I 0, I 0, .int .i8 0, I 0, U 0, I 0, I 0, I 0, .int .i8 0, I 0] false)) = some (.tuple #[], H.new (.cells (Act.enc (a.act w f g W)) false)) := by
    rw [st_new _ _ rfl hf (by simp [Act.enc])]
    simp [Act.enc]
  have hid : (i : Int) < len := by omega
  have hwi : IntKind.i64.wrap ((i : Int) + 1) = ((i + 1 : Nat) : Int) := by rw [wr_i64 (by omega) (by omega)]; omega
  have hall : ldA 13 (P H.next 0) (H.new (.cells (Act.enc (a.act w f g W)) false)) = some (.agg (Act.enc (a.act w f g W)).toArray) := by rw [ldA_get g1]; simp [Act.enc]
  generalize hH1 : H.new (.cells (Act.enc (a.act w f g W)) false) = H1 at *
  have q0 : ld1 (P H.next 0) H1 = some (.int .i8 (a.act w f g W).k) := by rw [ld1_get g1]; rfl
  have q3 : ld1 (P H.next 3) H1 = some (I (a.act w f g W).f) := by rw [ld1_get g1]; rfl
  have q3' : ∀ {H2 : Hp}, Kp o z b H1 H2 → ld1 (P H.next 3) H2 = some (I (a.act w f g W).f) := fun {H2} k2 => by rw [ld1_get ((k2.get _ l1 n1.symm n2.symm n3.symm).trans g1)]; rfl
  generalize hE : Act.enc (a.act w f g W) = E at *
  cases a
  case take =>
    simp [Ac.step] at hs
    obtain ⟨rfl, rfl⟩ := hs
    refine ⟨H1, h1, kn, fun K X => ?_⟩
    simp [F6b0L, F6b0, hid, hx, hd, hst, q0, Ac.act, F6j2, F6j1, hwi]
  case zero =>
    simp [Ac.step] at hs
    obtain ⟨rfl, rfl⟩ := hs
    obtain ⟨H2, e2, h2, k2⟩ := S12z h1 0 0 0
    refine ⟨H2, h2, kn.trans k2, fun K X => ?_⟩
    simp only [Ac.act] at hE
    rw [hE] at e2
    simp [F6b0L, F6b0, hid, hx, hd, hst, q0, Ac.act, hall, e2, F6j1, hwi]
  case dsb =>
    simp [Ac.step] at hs
    obtain ⟨rfl, rfl⟩ := hs
    obtain ⟨H2, e2, h2, k2⟩ := S11 h1 hi
    refine ⟨H2, h2, kn.trans k2, fun K X => ?_⟩
    simp [F6b0L, F6b0, hid, hx, hd, hst, q0, Ac.act, e2, F6j1, hwi]
  case cast =>
    simp [Ac.step] at hs
    obtain ⟨rfl, rfl⟩ := hs
    obtain ⟨H2, e2, h2, k2⟩ := h1.st true
    obtain ⟨r, H3, e3, H4, h4, k4, e4⟩ := range_cast (s := ⟨zn, true, k⟩) h2 a0 (I i) (.bool true) v (I len) (I i)
    refine ⟨H4, h4, kn.trans (k2.trans k4), fun K X => ?_⟩
    simp [F6b0L, F6b0, hid, hx, hd, hst, q0, Ac.act, F6j2, e2, h2.l0, e3, e4, F6j1, hwi]
  case copy =>
    simp [Ac.step] at hs
    obtain ⟨rfl, rfl, rfl⟩ := hs
    obtain ⟨H2, e2, h2, k2⟩ := h1.st true
    obtain ⟨H3, st, e3, H4, e4, h4, k4⟩ := h2.ent
    have q3' := q3' k2
    refine ⟨H4, h4, kn.trans (k2.trans k4), fun K X => ?_⟩
    simp only [Ac.act] at q3 q3'
    simp [F6b0L, F6b0, hid, hx, hd, hst, q0, Ac.act, F6j2, e2, h1.l2, q3, q3', e3, e4, F6j1, hwi, same, valEq, valEq1, cellEq]
  case word =>
    simp only [Ac.step, Option.some.injEq, Prod.mk.injEq] at hs
    obtain ⟨rfl, rfl⟩ := hs
    obtain ⟨H2, e2, h2, k2⟩ := S12w hl h1 0 0 0
    refine ⟨H2, h2, kn.trans k2, fun K X => ?_⟩
    simp only [Ac.act] at hE
    rw [hE] at e2
    generalize ((decide (zn.getD 0 = 0) || decide (zn.getD 0 = 4)) && !k) = bb at *
    simp [F6b0L, F6b0, hid, hx, hd, hst, q0, Ac.act, hall, e2]
    cases bb <;> simp [F6j1, hwi]
  case drop =>
    simp [Ac.step] at hs
    obtain ⟨rfl, rfl⟩ := hs
    refine ⟨H1, h1, kn, fun K X => ?_⟩
    simp [F6b0L, F6b0, hid, hx, hd, hst, q0, Ac.act, F6j2, h1.l1]
    cases ok <;> simp [F6j1, hwi]
end
end Go.Proofs.YthfmdomnoheklaaDoor.X
