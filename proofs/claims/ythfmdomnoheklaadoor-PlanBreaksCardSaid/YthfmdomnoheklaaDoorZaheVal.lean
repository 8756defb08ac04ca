/-
  AHE, 5: the operations on values: what the evaluator computes, the model's operation comes to, at related values.
-/
import Derived.Test.YthfmdomnoheklaaDoorZaheStep
import Derived.Laws.Cells
import Derived.Laws.IdiomCopy
namespace Go.Ahe
open Go.RowKit

/-- What a row of the table says of the program. -/
structure TIok (P : Program) (t : TypeId) (ti : TI) (i : TypeInfo) (d : TypeDesc) (z : Value) : Prop where
  info : P.info? t = some i
  under : P.underlying t = some d
  kind : mkKind P t d = some ti.kind
  size : i.size = ti.size
  bytes : i.bytes = ti.bytes
  zero : i.zero = some z
  zcells : z.cells.toList = ti.zero
  plain : ti.zero.all plainCell = true
  zagg : ti.agg = isAggV z

theorem Fits.ti {C : Ctx} {P : Program} (hC : Fits C P) {t : TypeId} {ti : TI} (h : C.T t = some ti) : ∃ i d z, TIok P t ti i d z := by
  have h1 := hC.types t ti h
  unfold mkTI at h1
  split at h1
  · cases h1
  · rename_i i hi
    split at h1
    · rename_i d z hd hz
      cases hp : z.cells.toList.all Go.Ahe.plainCell with
      | false => rw [hp, cond_false] at h1; cases h1
      | true =>
        rw [hp, cond_true, Option.bind_eq_some_iff] at h1
        obtain ⟨k, hk, h1⟩ := h1
        cases hq : (TI.agg ⟨k, i.size, i.bytes, z.cells.toList⟩ == isAggV z) with
        | false => rw [hq, cond_false] at h1; cases h1
        | true =>
          rw [hq, cond_true] at h1
          cases h1
          exact ⟨i, d, z, hi, hd, hk, rfl, rfl, hz, rfl, hp, by simpa using hq⟩
    · cases h1

section
variable {P : Program} {t : TypeId} {ti : TI} {i : TypeInfo} {d : TypeDesc} {z : Value}
theorem TIok.run_info (h : TIok P t ti i d z) (w : World) : (typeInfo t).run P w = .ok i w := by
  simp [typeInfo, h.info]
theorem TIok.run_under (h : TIok P t ti i d z) (w : World) : (underlying t).run P w = .ok d w := by
  simp [underlying, h.under]
theorem TIok.run_size (h : TIok P t ti i d z) (w : World) : (sizeOf t).run P w = .ok ti.size w := by
  simp [sizeOf, h.run_info, h.size]
theorem TIok.run_zero (h : TIok P t ti i d z) (w : World) : (zeroValue t).run P w = .ok z w := by
  simp [zeroValue, h.run_info, h.zero]
theorem mkKind_struct {fs : Array Field} {k : TK} (h : mkKind P t (.struct fs) = some k) : P.eqGuardType P.depth t = false ∧ P.stoodInHeld t = false ∧ k = .struct (fs.toList.map fun f => (f.offset, f.type, f.name == "_")) ∧ fs.toList.all (fun f => (P.info? f.type).isSome) = true := by
  simp only [mkKind] at h
  cases ha : P.eqGuardType P.depth t <;> cases hb : P.stoodInHeld t <;> cases hc : (fs.toList.all fun f => (P.info? f.type).isSome) <;> rw [ha, hb, hc] at h <;> simp at h
  exact ⟨rfl, rfl, h.symm, rfl⟩
theorem mkKind_array {n : Nat} {e : TypeId} {k : TK} (h : mkKind P t (.array n e) = some k) : P.eqGuardType P.depth t = false ∧ k = .array n e := by
  simp only [mkKind] at h
  cases ha : P.eqGuardType P.depth t <;> simp [ha] at h
  exact ⟨rfl, h.symm⟩
theorem TIok.run_agg (h : TIok P t ti i d z) (w : World) : (isAgg t).run P w = .ok ti.agg w := by
  have hk := h.kind
  simp only [isAgg, Sem.run_bind, h.run_under, Result.andThen_ok]
  cases d with
  | struct fs => simp [TI.agg, (mkKind_struct hk).2.2.1]
  | array n e => simp [TI.agg, (mkKind_array hk).2]
  | _ => simp only [mkKind, Option.some.injEq] at hk; simp [TI.agg, ← hk]
/-- The description behind a kind. -/
theorem TIok.desc (h : TIok P t ti i d z) :
    (match ti.kind with
     | .bool => d = .bool
     | .int k => d = .int k
     | .string => d = .string
     | .pointer e => d = .pointer e
     | .slice e => d = .slice e
     | .array n e => d = .array n e
     | .map k e => d = .map k e
     | .struct fs => ∃ F : Array Field, d = .struct F ∧ fs = F.toList.map (fun f => (f.offset, f.type, f.name == "_")) ∧ P.eqGuardType P.depth t = false ∧ P.stoodInHeld t = false
     | .func => ∃ a b c, d = .func a b c
     | .other => True) := by
  have hk := h.kind
  cases d with
  | struct fs => obtain ⟨h1, h2, h3, _⟩ := mkKind_struct hk; rw [h3]; exact ⟨fs, rfl, rfl, h1, h2⟩
  | array n e => rw [(mkKind_array hk).2]
  | func a b c => simp only [mkKind, Option.some.injEq] at hk; rw [← hk]; exact ⟨a, b, c, rfl⟩
  | _ => simp only [mkKind, Option.some.injEq] at hk; (rw [← hk]) <;> trivial
end

/-! ### Lists and arrays of cells -/
theorem lrange_some {cs r : List Value} {off n : Nat} (h : lrange cs off n = some r) : off + n ≤ cs.length ∧ r = (cs.drop off).take n := by
  unfold lrange at h
  cases hb : Nat.ble (off + n) cs.length with
  | false => rw [hb, cond_false] at h; cases h
  | true => rw [hb, cond_true] at h; cases h; exact ⟨Nat.le_of_ble_eq_true hb, rfl⟩

theorem lput_some {cs vs r : List Value} {off : Nat} (h : lput cs off vs = some r) : off + vs.length ≤ cs.length ∧ r = cs.take off ++ vs ++ cs.drop (off + vs.length) := by
  unfold lput at h
  cases hb : Nat.ble (off + vs.length) cs.length with
  | false => rw [hb, cond_false] at h; cases h
  | true => rw [hb, cond_true] at h; cases h; exact ⟨Nat.le_of_ble_eq_true hb, rfl⟩

theorem VRs.put {ι : Emb} {cs cs' vs vs' r : List Value} {off : Nat} (h : VRs ι cs cs') (hv : VRs ι vs vs') (hp : lput cs off vs = some r) :
    VRs ι r (cs'.take off ++ vs' ++ cs'.drop (off + vs'.length)) := by
  obtain ⟨_, rfl⟩ := lput_some hp
  rw [← hv.length]
  exact ((h.take _).append hv).append (h.drop _)

theorem partE_run {P : Program} {C : Ctx} (hC : Fits C P) {ι : Emb} {w : World} {t : TypeId} {ti : TI} (ht : C.T t = some ti) {cs : List Value} {cs' : Array Value} {off : Nat} {v : Value}
    (hcs : VRs ι cs cs'.toList) (h : partE ti cs off = some v) : ∃ v', (part t cs' off).run P w = .ok v' w ∧ VR ι v v' := by
  obtain ⟨i, d, z, hi⟩ := hC.ti ht
  unfold partE at h
  simp only [part, Sem.run_bind, hi.run_agg, Result.andThen_ok]
  cases ha : ti.agg with
  | true =>
    rw [ha] at h
    simp only [Option.map_eq_some_iff] at h
    obtain ⟨r, hr, rfl⟩ := h
    obtain ⟨hle, rfl⟩ := lrange_some hr
    simp only [if_true, Sem.run_bind, hi.run_size, Result.andThen_ok, Sem.run_pure]
    refine ⟨_, rfl, .agg ?_⟩
    have := (hcs.drop off).take ti.size
    simpa [Array.toList_extract, List.extract] using this
  | false =>
    rw [ha] at h
    simp only at h
    obtain ⟨v', h1, h2⟩ := hcs.get? h
    rw [Array.getElem?_toList] at h1
    simp only [Bool.false_eq_true, if_false, h1]
    exact ⟨v', rfl, h2⟩

/-! ### Numbers -/
theorem bitsE_run {op : BinOp} {k : IntKind} {x y : Int} {v : Value} (h : bitsE op k x y = some v) (P : Program) (w : World) : (Op.intBits op k x y).run P w = .ok v w := by
  unfold bitsE at h
  cases op <;> simp only [Option.some.injEq] at h <;> first | cases h; rfl | (subst h; rfl) | cases h

theorem intBin_run {op : BinOp} {k : IntKind} {x y : Int} {v : Value} (hs : op ≠ .shl ∧ op ≠ .shr) (h : intBin (fun x y => decide (x < y)) (fun x y => decide (x = y)) op k x y = some v) (P : Program) (t : TypeId) (w : World) :
    (binOp op t (.int k x) (.int k y)).run P w = .ok v w := by
  unfold intBin at h
  cases op
  case shl => exact absurd rfl hs.1
  case shr => exact absurd rfl hs.2
  case quo =>
    simp only at h
    split at h
    · cases h
    · rename_i hy
      cases h
      simp [binOp, Op.intDiv, hy]
  case rem =>
    simp only at h
    split at h
    · cases h
    · rename_i hy
      cases h
      simp [binOp, Op.intDiv, hy]
  all_goals first
    | (simp only at h; have := bitsE_run h P w; simpa [binOp] using this)
    | (simp only [Option.some.injEq] at h; subst h; simp [binOp, Op.intArith, Op.intCmp]; done)
    | skip
  case eql => simp only [Option.some.injEq] at h; subst h; simp [binOp, Op.intCmp]; rfl
  case neq => simp only [Option.some.injEq] at h; subst h; simp [binOp, Op.intCmp]; rfl
  case leq =>
    simp only [Option.some.injEq] at h; subst h
    have : (!decide (y < x)) = decide (x ≤ y) := by rw [← decide_not]; exact decide_eq_decide.2 Int.not_lt
    rw [this]; simp [binOp, Op.intCmp]
  case geq =>
    simp only [Option.some.injEq] at h; subst h
    have : (!decide (x < y)) = decide (y ≤ x) := by rw [← decide_not]; exact decide_eq_decide.2 Int.not_lt
    rw [this]; simp [binOp, Op.intCmp]

theorem shiftE_run {op : BinOp} {k yk : IntKind} {x y : Int} {v : Value} (h : shiftE op k x y = some v) (P : Program) (w : World) :
    (Op.shift op k x yk y).run P w = .ok v w := by
  unfold shiftE at h
  split at h
  · cases h
  · rename_i hy
    unfold Op.shift
    rw [if_neg hy]
    cases op <;> simp only [Option.some.injEq] at h <;> first | (cases h; rfl) | cases h

/-! ### Equality -/
/-- What is asked of the equality of parts. -/
def EqOk (P : Program) (ι : Emb) (eq : TypeId → Value → Value → Option Bool) (D : Nat) : Prop :=
  ∀ (t : TypeId) (x y x' y' : Value) (b : Bool), eq t x y = some b → VR ι x x' → VR ι y y' → ∀ w : World, (Op.equalIn D t x' y').run P w = .ok b w

theorem eqFs_run {P : Program} {C : Ctx} (hC : Fits C P) {ι : Emb} {eq : TypeId → Value → Value → Option Bool} {D : Nat} (he : EqOk P ι eq D) {xs ys : List Value} {xs' ys' : Array Value}
    (hx : VRs ι xs xs'.toList) (hy : VRs ι ys ys'.toList) (w : World) : ∀ (F : List Field) (b : Bool), eqIn.eqFs C eq (F.map fun f => (f.offset, f.type, f.name == "_")) xs ys = some b →
    (forIn (m := Sem) F ((none, ()) : Option Bool × Unit) fun f __s =>
              if f.name ≠ "_" then do
                let __do_lift ← part f.type xs' f.offset
                let __do_lift_1 ← part f.type ys' f.offset
                let __do_lift ← Op.equalIn D f.type __do_lift __do_lift_1
                if (!__do_lift) = true then pure (ForInStep.done (some false, ()))
                  else pure (ForInStep.yield (none, ()))
              else pure (ForInStep.yield (none, ()))).run P w = .ok (if b then (none, ()) else (some false, ())) w := by
  intro F
  induction F with
  | nil => intro b h; simp only [List.map_nil, eqIn.eqFs, Option.some.injEq] at h; subst h; rfl
  | cons f F ih =>
    intro b h
    rw [List.forIn_cons]
    simp only [List.map_cons, eqIn.eqFs] at h
    cases hb : (f.name == "_") with
    | true =>
      rw [hb] at h
      have hn : f.name = "_" := by simpa using hb
      simp only [hn, ne_eq, not_true, if_false, Sem.run_bind, Sem.run_pure, Result.andThen_ok]
      exact ih b h
    | false =>
      rw [hb] at h
      have hn : f.name ≠ "_" := by simpa using hb
      simp only at h
      split at h
      · cases h
      · rename_i fti hfti
        split at h
        · rename_i a c ha hc
          obtain ⟨a', ha1, ha2⟩ := partE_run hC (w := w) hfti hx ha
          obtain ⟨c', hc1, hc2⟩ := partE_run hC (w := w) hfti hy hc
          simp only [hn, ne_eq, not_false_eq_true, if_true, Sem.run_bind, ha1, hc1, Result.andThen_ok]
          rw [Option.bind_eq_some_iff] at h
          obtain ⟨u, hq, h⟩ := h
          rw [Option.map_eq_some_iff] at h
          obtain ⟨v, hv, rfl⟩ := h
          rw [he _ _ _ _ _ _ hq ha2 hc2 w]
          cases u with
          | true =>
            simp only [Result.andThen_ok, Bool.not_true, Bool.false_eq_true, if_false, Sem.run_pure, Bool.true_and]
            exact ih v hv
          | false => simp
        · cases h

theorem eqEs_run {P : Program} {C : Ctx} (hC : Fits C P) {ι : Emb} {eq : TypeId → Value → Value → Option Bool} {D : Nat} (he : EqOk P ι eq D) {xs ys : List Value} {xs' ys' : Array Value}
    (hx : VRs ι xs xs'.toList) (hy : VRs ι ys ys'.toList) (e : TypeId) (size : Nat) (w : World) : ∀ (n i : Nat) (b : Bool), eqIn.eqEs C eq e size xs ys n i = some b →
    (forIn (m := Sem) (List.range' i n 1) ((none, ()) : Option Bool × Unit) fun i __s => do
              let __do_lift ← part e xs' (i * size)
              let __do_lift_1 ← part e ys' (i * size)
              let __do_lift ← Op.equalIn D e __do_lift __do_lift_1
              if (!__do_lift) = true then pure (ForInStep.done (some false, ())) else pure (ForInStep.yield (none, ()))).run P w = .ok (if b then (none, ()) else (some false, ())) w := by
  intro n
  induction n with
  | zero => intro i b h; simp only [eqIn.eqEs, Option.some.injEq] at h; subst h; rfl
  | succ n ih =>
    intro i b h
    rw [List.range'_succ, List.forIn_cons]
    simp only [eqIn.eqEs] at h
    split at h
    · cases h
    · rename_i eti heti
      split at h
      · rename_i a c ha hc
        obtain ⟨a', ha1, ha2⟩ := partE_run hC (w := w) heti hx ha
        obtain ⟨c', hc1, hc2⟩ := partE_run hC (w := w) heti hy hc
        simp only [Sem.run_bind, ha1, hc1, Result.andThen_ok]
        rw [Option.bind_eq_some_iff] at h
        obtain ⟨u, hq, h⟩ := h
        rw [Option.map_eq_some_iff] at h
        obtain ⟨v, hv, rfl⟩ := h
        rw [he _ _ _ _ _ _ hq ha2 hc2 w]
        cases u with
        | true =>
          simp only [Result.andThen_ok, Bool.not_true, Bool.false_eq_true, if_false, Sem.run_pure, Bool.true_and]
          exact ih (i + 1) v hv
        | false => simp
      · cases h

theorem eqIn_run {P : Program} {C : Ctx} (hC : Fits C P) {ι : Emb} : ∀ (d D : Nat), d ≤ D → EqOk P ι (eqIn C d) D := by
  intro d
  induction d with
  | zero => intro D _ t x y x' y' b h; cases h
  | succ d ih =>
    intro D hD t x y x' y' b h hx hy w
    obtain ⟨D, rfl⟩ : ∃ k, D = k + 1 := ⟨D - 1, by omega⟩
    simp only [eqIn] at h
    split at h
    · cases h
    · rename_i ti hti
      obtain ⟨i, dd, z, hi⟩ := hC.ti hti
      have hd := hi.desc
      rw [Op.equalIn]
      simp only [Sem.run_bind, hi.run_under, Result.andThen_ok]
      split at h
      all_goals first | cases h; done | (rename_i hk; rw [hk] at hd; simp only at hd)
      · subst hd; cases hx; cases hy; cases h; rfl
      · subst hd; cases hx; cases hy
        split at h
        · rename_i e; rw [hC.eqi] at h; cases h; simp [e]; rfl
        · cases h
      · subst hd; cases hx; cases hy; cases h; rfl
      · subst hd; cases hx; cases hy <;> cases h <;> rfl
      · subst hd; cases hy; cases hx <;> cases h <;> first | rfl | (exfalso; simp_all; done)
      · subst hd; cases hx; cases hy <;> cases h <;> rfl
      · subst hd; cases hy; cases hx <;> cases h <;> first | rfl | (exfalso; simp_all; done)
      · subst hd; cases hx; cases hy <;> cases h <;> rfl
      · subst hd; cases hy; cases hx <;> cases h <;> first | rfl | (exfalso; simp_all; done)
      · obtain ⟨_, _, _, rfl⟩ := hd; cases hx; cases hy; cases h; rfl
      · obtain ⟨_, _, _, rfl⟩ := hd; cases hx; cases hy <;> cases h <;> rfl
      · obtain ⟨_, _, _, rfl⟩ := hd; cases hy; cases hx <;> cases h <;> first | rfl | (exfalso; simp_all; done)
      · obtain ⟨F, rfl, hfs, _, hst⟩ := hd
        cases hx with | agg hx => cases hy with | agg hy =>
        rw [hfs] at h
        have := eqFs_run hC (ih D (by omega)) hx hy w F.toList b h
        simp only [Sem.run_bind, run_program, Result.andThen_ok, hst, Bool.false_eq_true, if_false, ← Array.forIn_toList, this]
        cases b <;> rfl
      · subst hd
        cases hx with | agg hx => cases hy with | agg hy =>
        rw [Option.bind_eq_some_iff] at h
        obtain ⟨et, het, h⟩ := h
        obtain ⟨i', dd', z', hi'⟩ := hC.ti het
        have := eqEs_run hC (ih D (by omega)) hx hy _ et.size w _ 0 b h
        simp only [Sem.run_bind, hi'.run_size, Result.andThen_ok, Std.Legacy.Range.forIn_eq_forIn_range', Std.Legacy.Range.size, Nat.sub_zero, Nat.add_sub_cancel, Nat.div_one]
        rw [this]
        cases b <;> rfl

end Go.Ahe
