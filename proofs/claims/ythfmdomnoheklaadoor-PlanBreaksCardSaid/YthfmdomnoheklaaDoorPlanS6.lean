/- PlanBreaks: the order's object, a write, a barrier. -/
import Derived.Test.YthfmdomnoheklaaDoorPlanS5
set_option maxRecDepth 100000
set_option maxHeartbeats 1000000
namespace Go.Proofs.YthfmdomnoheklaaDoor.X
open Go.Ahe Go.Ahe.X

instance std0 : Std C0 := ⟨rfl, rfl⟩
def zl (w : Int) (s : Nat) : Option Int → List (Value × Value × Nat)
  | none => []
  | some n => [(.int .u64 w, .int .i64 n, s)]
def bl (f : Int) (s : Nat) : Bool → List (Value × Value × Nat)
  | false => []
  | true => [(.int .i64 f, .bool true, s)]

/-- The order's object at o, its maps at z and b. -/
structure Od (w f : Int) (o z b : Nat) (zn : Option Int) (d k : Bool) (H : Hp) : Prop where
  ho : H.get o = some (.cells [.map (some z), .bool d, .map (some b)] false)
  hz : ∃ ck s, (zn ≠ none → s < ck) ∧ H.get z = some (.map (zl w s zn) ck)
  hb : ∃ ck s, H.get b = some (.map (bl f s k) ck)
  fo : H.floor ≤ o
  fz : H.floor ≤ z
  fb : H.floor ≤ b
  oz : o ≠ z
  zb : z ≠ b
  ob : o ≠ b
  no : o < H.next
  nz : z < H.next
  nb : b < H.next

/-- All else stays. -/
structure Kp (o z b : Nat) (H H' : Hp) : Prop where
  next : H.next ≤ H'.next
  get : ∀ i, i < H.next → i ≠ o → i ≠ z → i ≠ b → H'.get i = H.get i

section
variable {w f : Int} {o z b : Nat} {zn zn' : Option Int} {d d' k k' : Bool} {H H1 H2 : Hp}

theorem Kp.refl : Kp o z b H H := ⟨Nat.le_refl _, fun _ _ _ _ _ => rfl⟩
theorem Kp.trans (h1 : Kp o z b H H1) (h2 : Kp o z b H1 H2) : Kp o z b H H2 :=
  ⟨Nat.le_trans h1.next h2.next, fun i hi a b c => by rw [h2.get i (Nat.lt_of_lt_of_le hi h1.next) a b c, h1.get i hi a b c]⟩
theorem Kp.new (ob : Ob) : Kp o z b H (H.new ob) := ⟨by rw [Hp.next_new]; exact Nat.le_succ _, fun i hi _ _ _ => by rw [Hp.get_new, if_neg (Nat.ne_of_lt hi)]⟩
theorem Kp.so (ob : Ob) : Kp o z b H (H.setO o ob) := ⟨Nat.le_refl _, fun i _ a _ _ => by rw [Hp.get_setO, if_neg a]⟩
theorem Kp.sz (ob : Ob) : Kp o z b H (H.setO z ob) := ⟨Nat.le_refl _, fun i _ _ a _ => by rw [Hp.get_setO, if_neg a]⟩
theorem Kp.sb (ob : Ob) : Kp o z b H (H.setO b ob) := ⟨Nat.le_refl _, fun i _ _ _ a => by rw [Hp.get_setO, if_neg a]⟩

theorem Od.new (h : Od w f o z b zn d k H) (ob : Ob) : Od w f o z b zn d k (H.new ob) := by
  obtain ⟨h1, ⟨ck, s, h2, h3⟩, ⟨ck', s', h4⟩, a1, a2, a3, a4, a5, a6, a7, a8, a9⟩ := h
  refine ⟨?_, ⟨ck, s, h2, ?_⟩, ⟨ck', s', ?_⟩, a1, a2, a3, a4, a5, a6, ?_, ?_, ?_⟩
  · rw [Hp.get_new, if_neg (Nat.ne_of_lt a7)]; exact h1
  · rw [Hp.get_new, if_neg (Nat.ne_of_lt a8)]; exact h3
  · rw [Hp.get_new, if_neg (Nat.ne_of_lt a9)]; exact h4
  all_goals (rw [Hp.next_new]; omega)
theorem Od.setI (h : Od w f o z b zn d k H) {i : Nat} (ob : Ob) (h1 : i ≠ o) (h2 : i ≠ z) (h3 : i ≠ b) : Od w f o z b zn d k (H.setO i ob) := by
  obtain ⟨g1, ⟨ck, s, g2, g3⟩, ⟨ck', s', g4⟩, a1, a2, a3, a4, a5, a6, a7, a8, a9⟩ := h
  refine ⟨?_, ⟨ck, s, g2, ?_⟩, ⟨ck', s', ?_⟩, a1, a2, a3, a4, a5, a6, a7, a8, a9⟩
  · rw [Hp.get_setO, if_neg (Ne.symm h1)]; exact g1
  · rw [Hp.get_setO, if_neg (Ne.symm h2)]; exact g3
  · rw [Hp.get_setO, if_neg (Ne.symm h3)]; exact g4
theorem Od.setO (h : Od w f o z b zn d k H) (d' : Bool) : Od w f o z b zn d' k (H.setO o (.cells [.map (some z), .bool d', .map (some b)] false)) := by
  obtain ⟨h1, ⟨ck, s, h2, h3⟩, ⟨ck', s', h4⟩, a1, a2, a3, a4, a5, a6, a7, a8, a9⟩ := h
  refine ⟨?_, ⟨ck, s, h2, ?_⟩, ⟨ck', s', ?_⟩, a1, a2, a3, a4, a5, a6, a7, a8, a9⟩
  · rw [Hp.get_setO, if_pos rfl]
  · rw [Hp.get_setO, if_neg (Ne.symm a4)]; exact h3
  · rw [Hp.get_setO, if_neg (Ne.symm a6)]; exact h4
theorem Od.setZ (h : Od w f o z b zn d k H) {ck s : Nat} (hs : zn' ≠ none → s < ck) : Od w f o z b zn' d k (H.setO z (.map (zl w s zn') ck)) := by
  obtain ⟨h1, _, ⟨ck', s', h4⟩, a1, a2, a3, a4, a5, a6, a7, a8, a9⟩ := h
  refine ⟨?_, ⟨ck, s, hs, ?_⟩, ⟨ck', s', ?_⟩, a1, a2, a3, a4, a5, a6, a7, a8, a9⟩
  · rw [Hp.get_setO, if_neg a4]; exact h1
  · rw [Hp.get_setO, if_pos rfl]
  · rw [Hp.get_setO, if_neg (Ne.symm a5)]; exact h4
theorem Od.setB (h : Od w f o z b zn d k H) (k' : Bool) {ck s : Nat} : Od w f o z b zn d k' (H.setO b (.map (bl f s k') ck)) := by
  obtain ⟨h1, ⟨ck', s', h2, h3⟩, _, a1, a2, a3, a4, a5, a6, a7, a8, a9⟩ := h
  refine ⟨?_, ⟨ck', s', h2, ?_⟩, ⟨ck, s, ?_⟩, a1, a2, a3, a4, a5, a6, a7, a8, a9⟩
  · rw [Hp.get_setO, if_neg a6]; exact h1
  · rw [Hp.get_setO, if_neg a5]; exact h3
  · rw [Hp.get_setO, if_pos rfl]

theorem Od.l0 (h : Od w f o z b zn d k H) : ld1 (P o 0) H = some (.map (some z)) := by rw [ld1_get h.ho]; rfl
theorem Od.l1 (h : Od w f o z b zn d k H) : ld1 (P o 1) H = some (.bool d) := by rw [ld1_get h.ho]; rfl
theorem Od.l2 (h : Od w f o z b zn d k H) : ld1 (P o 2) H = some (.map (some b)) := by rw [ld1_get h.ho]; rfl
theorem Od.st (h : Od w f o z b zn d k H) (d' : Bool) : ∃ H', st 1 (P o 1) (.bool d') H = some (.tuple #[], H') ∧ Od w f o z b zn d' k H' ∧ Kp o z b H H' :=
  ⟨_, by rw [st_get h.ho h.fo 1 1 rfl, if_pos (by simp)]; rfl, h.setO d', .so _⟩
theorem Od.look (h : Od w f o z b zn d k H) : lookupE C0 51 (.map (some z)) (.int .u64 w) false H = some (.int .i64 (zn.getD 0)) := by
  obtain ⟨ck, s, _, hg⟩ := h.hz
  rw [lkU, hg]
  cases zn with
  | none => exact lkX0 ..
  | some n => exact lkX1 ..
theorem Od.lookb (h : Od w f o z b zn d k H) : lookupE C0 52 (.map (some b)) (.int .i64 f) false H = some (.bool k) := by
  obtain ⟨ck, s, hg⟩ := h.hb
  rw [lkI, hg]
  cases k with
  | false => exact lkX0 ..
  | true => exact lkX2 ..
theorem Od.del (h : Od w f o z b zn d k H) : ∃ H', builtinE C0 .delete [51, 22] [.map (some z), .int .u64 w] H = some (.tuple #[], H') ∧ Od w f o z b none d k H' ∧ Kp o z b H H' := by
  obtain ⟨ck, s, hs, hg⟩ := h.hz
  refine ⟨_, ?_, h.setZ (ck := ck) (s := s) (zn' := none) (fun e => absurd rfl e), .sz _⟩
  show (deleteE C0 51 (.map (some z)) (.int .u64 w) H).map _ = _
  rw [delU, hg]
  have : delX 22 (.int .u64 w) (some (.map (zl w s zn) ck)) = some (.map [] ck) := by
    cases zn with
    | none => exact delX0 ..
    | some n => exact delX1 ..
  rw [this, Option.bind_some, Hp.upd_eq h.fz]; rfl
theorem Od.put (h : Od w f o z b zn d k H) (n : Int) : ∃ H', mapPutE C0 51 (.map (some z)) (.int .u64 w) (.int .i64 n) H = some H' ∧ Od w f o z b (some n) d k H' ∧ Kp o z b H H' := by
  obtain ⟨ck, s, hs, hg⟩ := h.hz
  rw [putU, hg]
  cases zn with
  | none =>
    refine ⟨_, ?_, h.setZ (ck := ck + 1) (s := ck) (zn' := some n) (fun _ => Nat.lt_succ_self _), .sz _⟩
    rw [zl, putX0, Option.bind_some, Hp.upd_eq h.fz]; rfl
  | some m =>
    refine ⟨_, ?_, h.setZ (ck := ck) (s := s) (zn' := some n) (fun _ => hs (by simp)), .sz _⟩
    rw [zl, putX1, Option.bind_some, Hp.upd_eq h.fz]; rfl
theorem Od.clr (h : Od w f o z b zn d k H) : ∃ H', builtinE C0 .clear [52] [.map (some b)] H = some (.tuple #[], H') ∧ Od w f o z b zn d false H' ∧ Kp o z b H H' := by
  obtain ⟨ck, s, hg⟩ := h.hb
  refine ⟨_, ?_, h.setB false (ck := ck) (s := s), .sb _⟩
  show (clearE C0 52 (.map (some b)) H).map _ = _
  rw [clrI hg, Hp.upd_eq h.fb]; rfl
/-- A frame's mark: first the entry, then its store. -/
theorem Od.ent (h : Od w f o z b zn d false H) : ∃ H' s, mapEntryE C0 52 (.map (some b)) (.int .i64 f) H = some (.tuple #[.bool false, .int .i64 s], H') ∧
    ∃ H'', entryStoreE (.map (some b)) (.int .i64 s) (.bool true) H' = some H'' ∧ Od w f o z b zn d true H'' ∧ Kp o z b H H'' := by
  obtain ⟨ck, s, hg⟩ := h.hb
  refine ⟨H.setO b (.map [(.int .i64 f, .bool false, ck)] (ck + 1)), ck, ?_, H.setO b (.map [(.int .i64 f, .bool true, ck)] (ck + 1)), ?_, h.setB true (ck := ck + 1) (s := ck), .sb _⟩
  · rw [entI0 hg, Hp.upd_eq h.fb]; rfl
  · rw [setI1 (f := f) (v := .bool false) (ck := ck + 1) (by rw [Hp.get_setO, if_pos rfl]), Hp.upd_eq (show (H.setO b _).floor ≤ b from h.fb), Hp.setO_setO]
end

theorem wr0 : IntKind.u64.wrap 0 = 0 := id rfl
/-- An action's cells. -/
structure Act where
  k : Int
  w : Int
  v : Int
  f : Int
  g : Int
def Act.enc (a : Act) : List Value := [.int .i8 a.k, U a.w, U a.v, I a.f, I a.g, .int .i8 0, I 0, U 0, I 0, I 0, I 0, .int .i8 0, I 0]

section
variable {w f : Int} {o z b : Nat} {zn : Option Int} {d k : Bool} {H : Hp}
/-- A write of 0. -/
theorem S12z (h : Od w f o z b zn d k H) (q g t : Int) : ∃ H', call 12 [P o 0, .agg (Act.enc ⟨q, w, 0, g, t⟩).toArray] H = some (.bool true, H') ∧ Od w f o z b (some 1) true k H' ∧ Kp o z b H H' := by
  have h1 := h.new (.cells (Act.enc ⟨q, w, 0, g, t⟩) false)
  have g1 : (H.new (.cells (Act.enc ⟨q, w, 0, g, t⟩) false)).get H.next = some (.cells (Act.enc ⟨q, w, 0, g, t⟩) false) := by rw [Hp.get_new, if_pos rfl]
  have l1 : H.next < (H.new (.cells (Act.enc ⟨q, w, 0, g, t⟩) false)).next := by rw [Hp.next_new]; exact Nat.lt_succ_self _
  have n1 := ne_of_lt' h.no; have n2 := ne_of_lt' h.nz; have n3 := ne_of_lt' h.nb
  obtain ⟨H2, e2, h2, k2⟩ := h1.del
  have g2 := (k2.get _ l1 n1.symm n2.symm n3.symm).trans g1
  have l2 := Nat.lt_of_lt_of_le l1 k2.next
  obtain ⟨H3, e3, h3, k3⟩ := h2.put 1
  have g3 := (k3.get _ l2 n1.symm n2.symm n3.symm).trans g2
  have l3 := Nat.lt_of_lt_of_le l2 k3.next
  obtain ⟨H4, e4, h4, k4⟩ := h3.st true
  have g4 := (k4.get _ l3 n1.symm n2.symm n3.symm).trans g3
  refine ⟨H4, c12 ?_, h4, (Kp.new _).trans (k2.trans (k3.trans k4))⟩
  unfold F12
  rw [al_eq, cellsOf_agg, List.toList_toArray]
  generalize H.new (.cells (Act.enc ⟨q, w, 0, g, t⟩) false) = H1 at *
  simp only [Act.enc] at g1 g2 g3 g4
  simp [F12j0, h1.l0, h2.l0, ld1_get g1, ld1_get g2, h1.look, e2, e3, e4, ld1_get g4, bitsE, wr0]
/-- What is asked of a frame's word. -/
structure Lf (n W : Int) : Prop where
  one : bitsE .and .u64 W 1 = some (U 1)
  shr : shiftE .shr .u64 W 12 = some (U n)
  and : bitsE .and .u64 n 68719476735 = some (U n)
  wrap : IntKind.i64.wrap n = n
  ne : W ≠ 0
/-- A write of a frame's word. -/
theorem S12w {W : Int} (hl : Lf f W) (h : Od w f o z b zn d k H) (q g t : Int) : ∃ H', call 12 [P o 0, .agg (Act.enc ⟨q, w, W, g, t⟩).toArray] H = some (.bool ((decide (zn.getD 0 = 0) || decide (zn.getD 0 = 4)) && !k), H') ∧ Od w f o z b none true k H' ∧ Kp o z b H H' := by
  have h1 := h.new (.cells (Act.enc ⟨q, w, W, g, t⟩) false)
  have g1 : (H.new (.cells (Act.enc ⟨q, w, W, g, t⟩) false)).get H.next = some (.cells (Act.enc ⟨q, w, W, g, t⟩) false) := by rw [Hp.get_new, if_pos rfl]
  have l1 : H.next < (H.new (.cells (Act.enc ⟨q, w, W, g, t⟩) false)).next := by rw [Hp.next_new]; exact Nat.lt_succ_self _
  have n1 := ne_of_lt' h.no; have n2 := ne_of_lt' h.nz; have n3 := ne_of_lt' h.nb
  obtain ⟨H2, e2, h2, k2⟩ := h1.del
  have g2 := (k2.get _ l1 n1.symm n2.symm n3.symm).trans g1
  have l2 := Nat.lt_of_lt_of_le l1 k2.next
  obtain ⟨H4, e4, h4, k4⟩ := h2.st true
  have g4 := (k4.get _ l2 n1.symm n2.symm n3.symm).trans g2
  refine ⟨H4, c12 ?_, h4, (Kp.new _).trans (k2.trans k4)⟩
  unfold F12
  rw [al_eq, cellsOf_agg, List.toList_toArray]
  generalize H.new (.cells (Act.enc ⟨q, w, W, g, t⟩) false) = H1 at *
  simp only [Act.enc] at g1 g2 g4
  by_cases z0 : zn.getD 0 = 0
  · simp [F12j0, h1.l0, h2.l0, h4.l2, ld1_get g1, ld1_get g2, h1.look, e2, e4, ld1_get g4, hl.one, hl.shr, hl.and, hl.wrap, hl.ne, h4.lookb, z0]
  · by_cases z4 : zn.getD 0 = 4
    · simp [F12j0, h1.l0, h2.l0, h4.l2, ld1_get g1, ld1_get g2, h1.look, e2, e4, ld1_get g4, hl.one, hl.shr, hl.and, hl.wrap, hl.ne, h4.lookb, z4]
    · simp [F12j0, h1.l0, h2.l0, h4.l2, ld1_get g1, ld1_get g2, h1.look, e2, e4, ld1_get g4, hl.one, hl.shr, hl.and, hl.wrap, hl.ne, h4.lookb, z0, z4]

theorem rnd_more : ∃ m, rnd = m + 20 := ⟨4611686018427387884, by rw [rnd_eq]; rfl⟩

/-- A range over the word's map: for each key a body that puts at most another number. -/
theorem Od.range (h : Od w f o z b zn d k H) : ∃ r H1, rangeE C0 51 (.map (some z)) H = some (.pointer (some ⟨r, 0, none⟩), H1) ∧ Kp o z b H H1 ∧ Od w f o z b zn d k H1 ∧
    match zn with
    | none => nextE (.pointer (some ⟨r, 0, none⟩)) H1 = some (.tuple #[.bool false], H1)
    | some n => ∃ H2, nextE (.pointer (some ⟨r, 0, none⟩)) H1 = some (.tuple #[.bool true, .int .u64 w, .int .i64 n], H2) ∧ entryE (.pointer (some ⟨r, 0, none⟩)) H2 = some (.tuple #[.int .u64 w, .int .i64 n]) ∧ Od w f o z b zn d k H2 ∧ Kp o z b H H2 ∧
        nextE (.pointer (some ⟨r, 0, none⟩)) H2 = some (.tuple #[.bool false], H2) ∧
        ∀ n', ∃ H3, mapPutE C0 51 (.map (some z)) (.int .u64 w) (.int .i64 n') H2 = some H3 ∧ Od w f o z b (some n') d k H3 ∧ Kp o z b H H3 ∧ nextE (.pointer (some ⟨r, 0, none⟩)) H3 = some (.tuple #[.bool false], H3) := by
  obtain ⟨ck, s, hs, hg⟩ := h.hz
  have n1 := ne_of_lt' h.no; have n2 := ne_of_lt' h.nz; have n3 := ne_of_lt' h.nb
  have hr : (H.new (.iter (some z) ck [] ck)).get H.next = some (.iter (some z) ck [] ck) := by rw [Hp.get_new, if_pos rfl]
  have hz : (H.new (.iter (some z) ck [] ck)).get z = some (.map (zl w s zn) ck) := by rw [Hp.get_new, if_neg n2]; exact hg
  refine ⟨H.next, H.new (.iter (some z) ck [] ck), rngU hg, .new _, h.new _, ?_⟩
  cases zn with
  | none => exact nxt0 hr hz
  | some n =>
    have hs := hs (by simp)
    have h1 := h.new (.iter (some z) ck [] ck)
    have kp : Kp o z b H ((H.new (.iter (some z) ck [] ck)).setO H.next (.iter (some z) ck [s] ck)) := ⟨by rw [Hp.next_setO, Hp.next_new]; exact Nat.le_succ _, fun i hi _ _ _ => by rw [Hp.get_setO, if_neg (Nat.ne_of_lt hi), Hp.get_new, if_neg (Nat.ne_of_lt hi)]⟩
    have hf : (H.new (.iter (some z) ck [] ck)).floor ≤ H.next := Nat.le_trans h.fo (Nat.le_of_lt h.no)
    have h2 := h1.setI (.iter (some z) ck [s] ck) n1.symm n2.symm n3.symm
    have hr2 : ((H.new (.iter (some z) ck [] ck)).setO H.next (.iter (some z) ck [s] ck)).get H.next = some (.iter (some z) ck [s] ck) := by rw [Hp.get_setO, if_pos rfl]
    have hz2 : ((H.new (.iter (some z) ck [] ck)).setO H.next (.iter (some z) ck [s] ck)).get z = some (.map [(.int .u64 w, .int .i64 n, s)] ck) := by rw [Hp.get_setO, if_neg n2]; exact hz
    refine ⟨_, ?_, ent1 hr2 hz2, h2, kp, nxt2 hr2 hz2 hs, fun n' => ⟨_, ?_, h2.setZ (zn' := some n') (ck := ck) (s := s) (fun _ => hs), kp.trans (.sz _), ?_⟩⟩
    · rw [nxt1 hr hz hs, Hp.upd_eq hf]; rfl
    · rw [putU, hz2, putX1, Option.bind_some, Hp.upd_eq h2.fz]; rfl
    · exact nxt2 (by rw [Hp.get_setO, if_neg n2.symm]; exact hr2) (by rw [Hp.get_setO, if_pos rfl]; rfl) hs

def bump : Option Int → Option Int
  | none => none
  | some n => if n = 1 ∨ n = 3 then some (n + 1) else some n

/-- A barrier. -/
theorem S11 (h : Od w f o z b zn d k H) (hz : ∀ n ∈ zn, 0 ≤ n ∧ n ≤ 4) : ∃ H', call 11 [P o 0] H = some (.tuple #[], H') ∧ Od w f o z b (bump zn) false false H' ∧ Kp o z b H H' := by
  obtain ⟨H1, e1, h1, k1⟩ := h.st false
  obtain ⟨H2, e2, h2, k2⟩ := h1.clr
  obtain ⟨r, H3, e3, k3, h3, hx⟩ := h2.range
  obtain ⟨m, hm⟩ := rnd_more
  have hL : loopS F11b0L rnd = fun xs H X => F11b0L (fun xs H => loopS F11b0L (m + 19) xs H X) xs H X := by rw [hm]; rfl
  have hN : ∀ H X, nextE (.pointer (some ⟨r, 0, none⟩)) H = some (.tuple #[.bool false], H) → loopS F11b0L (m + 19) [P o 0, .pointer (some ⟨r, 0, none⟩)] H X = nth X 0 [] H := fun H X he => by
    show F11b0L (fun xs H => loopS F11b0L (m + 18) xs H X) _ H X = _
    generalize (fun xs H => loopS F11b0L (m + 18) xs H X) = K
    simp [F11b0L, F11b0, he]
  generalize (m + 19) = m' at hL hN
  cases zn with
  | none =>
    refine ⟨H3, c11 ?_, h3, k1.trans (k2.trans k3)⟩
    simp [F11, e1, h1.l2, e2, h2.l0, e3, hL, hN, F11b0L, F11b0, hx]
  | some n =>
    obtain ⟨H4, e4, e5, h4, k4, e6, hp⟩ := hx
    by_cases hn : n = 1 ∨ n = 3
    · obtain ⟨H5, e7, h5, k5, e8⟩ := hp (n + 1)
      have hw : IntKind.i64.wrap (n + 1) = n + 1 := by rcases hn with rfl | rfl <;> rfl
      refine ⟨H5, c11 ?_, by simpa [bump, hn] using h5, k1.trans (k2.trans k5)⟩
      have hlk := h4.look
      rcases hn with rfl | rfl <;> simp at e7 hw hlk <;>
      simp [F11, e1, h1.l2, e2, h2.l0, e3, hL, hN, F11b0L, F11b0, e4, e5, h4.l0, hlk, hw, e7, e8]
    · refine ⟨H4, c11 ?_, by simpa [bump, hn] using h4, k1.trans (k2.trans k4)⟩
      have n1 : n ≠ 1 := fun e => hn (.inl e)
      have n3 : n ≠ 3 := fun e => hn (.inr e)
      simp [F11, e1, h1.l2, e2, h2.l0, e3, hL, hN, F11b0L, F11b0, e4, e5, e6, n1, n3]
end
end Go.Proofs.YthfmdomnoheklaaDoor.X
