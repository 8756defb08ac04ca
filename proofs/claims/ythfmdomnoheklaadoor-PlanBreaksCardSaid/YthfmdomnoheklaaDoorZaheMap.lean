/-
  AHE, 10: keys of maps.
-/
import Derived.Test.YthfmdomnoheklaaDoorZaheRead
namespace Go.Ahe
open Go.RowKit

theorem keyOk_list {ι : Emb} {f : Value → Bool} (hf : ∀ v v', f v = true → VR ι v v' → v' = v) : ∀ {l l' : List Value}, l.all f = true → VRs ι l l' → l' = l
  | _, _, _, .nil => rfl
  | _, _, h, .cons hv t => by
    simp only [List.all_cons, Bool.and_eq_true] at h
    rw [hf _ _ h.1 hv, keyOk_list hf h.2 t]

theorem keyOk_eq {ι : Emb} {k k' : Value} (h : keyOk k = true) (hv : VR ι k k') : k' = k := by
  cases hv <;> first | rfl | (cases h; done) | skip
  case agg a a' hv =>
    have := keyOk_list (ι := ι) (f := fun v => match v with | .int _ _ => true | .string _ => true | .bool _ => true | _ => false)
      (fun v v' h1 h2 => by cases h2 <;> first | rfl | cases h1) h hv
    rw [Array.toList_inj.1 this]

theorem keyFit_parts {C : Ctx} {t : TypeId} {k : Value} (h : keyFit C t k = true) : keyOk k = true ∧ flatKey C t = true ∧ eqIn C 30 t k k = some true := by
  unfold keyFit at h
  rw [Bool.and_eq_true, Bool.and_eq_true] at h
  refine ⟨h.1, h.2.1, ?_⟩
  have := h.2.2
  split at this
  · assumption
  · cases this

/-- What is found, related. -/
def RF (ι : Emb) : Option (Nat × Value) → Option (Nat × Value) → Prop
  | none, none => True
  | some (i, v), some (j, v') => i = j ∧ VR ι v v'
  | _, _ => False

section
variable {P : Program} {C : Ctx} (hC : Fits C P) {ι : Emb} {w : World}
include hC

theorem checkScalar (e : Bool) (D : Nat) {t : TypeId} {ti : TI} (ht : C.T t = some ti) (hk : scalarK ti.kind = true) (x : Value) : (Instr.checkKey e (D + 1) t x).run P w = .ok () w := by
  obtain ⟨i, d, z, hi⟩ := hC.ti ht
  have hd := hi.desc
  simp only [Instr.checkKey, Sem.run_bind, hi.run_under, Result.andThen_ok]
  cases hkd : ti.kind <;> rw [hkd] at hk hd <;> first | (cases hk; done) | (simp only at hd; subst hd; rfl)

theorem checkFs (e : Bool) (D : Nat) {eq : TypeId → Value → Value → Option Bool} {xs : List Value} {xs' : Array Value} (hx : VRs ι xs xs'.toList) :
    ∀ (F : List Field), ((F.map fun f => (f.offset, f.type, f.name == "_")).all fun (f : Nat × TypeId × Bool) => match C.T f.2.1 with | some fi => scalarK fi.kind | none => false) = true →
    eqIn.eqFs C eq (F.map fun f => (f.offset, f.type, f.name == "_")) xs xs = some true →
    (forIn (m := Sem) F PUnit.unit fun f _ =>
      if f.name ≠ "_" then do
        let __do_lift ← part f.type xs' f.offset
        Instr.checkKey e (D + 1) f.type __do_lift
        pure (ForInStep.yield PUnit.unit)
      else pure (ForInStep.yield PUnit.unit)).run P w = .ok PUnit.unit w
  | [], _, _ => rfl
  | f :: F, hs, h => by
    rw [List.forIn_cons]
    simp only [List.map_cons, List.all_cons, Bool.and_eq_true] at hs
    simp only [List.map_cons, eqIn.eqFs] at h
    cases hb : (f.name == "_") with
    | true =>
      rw [hb] at h
      have hn : f.name = "_" := by simpa using hb
      simp only [hn, ne_eq, not_true, if_false, Sem.run_bind, Sem.run_pure, Result.andThen_ok]
      exact checkFs e D hx F hs.2 h
    | false =>
      rw [hb] at h
      have hn : f.name ≠ "_" := by simpa using hb
      simp only at h
      split at h
      · cases h
      · rename_i fti hfti
        have hsc := hs.1
        rw [hfti] at hsc
        simp only at hsc
        split at h
        · rename_i a c ha hc
          obtain ⟨a', ha1, ha2⟩ := partE_run hC (w := w) hfti hx ha
          simp only [hn, ne_eq, not_false_eq_true, if_true, Sem.run_bind, ha1, Result.andThen_ok]
          rw [checkScalar hC e D hfti hsc]
          simp only [Result.andThen_ok, Sem.run_pure]
          rw [Option.bind_eq_some_iff] at h
          obtain ⟨u, _, h⟩ := h
          rw [Option.map_eq_some_iff] at h
          obtain ⟨v, hv, huv⟩ := h
          rw [Bool.and_eq_true] at huv
          exact checkFs e D hx F hs.2 (by rw [hv, huv.2])
        · cases h

theorem checkKey_run (e : Bool) {t : TypeId} {k k' : Value} (hf : keyFit C t k = true) (hk : VR ι k k') : (Instr.checkKey e 10000 t k').run P w = .ok () w := by
  obtain ⟨_, h2, h3⟩ := keyFit_parts hf
  unfold flatKey at h2
  split at h2
  · cases h2
  · rename_i ti hti
    obtain ⟨i, d, z, hi⟩ := hC.ti hti
    have hd := hi.desc
    split at h2
    · rename_i fs hkd
      rw [hkd] at hd
      obtain ⟨F, rfl, rfl, _, _⟩ := hd
      rw [eqIn, hti] at h3
      simp only at h3
      rw [hkd] at h3
      cases hk with
      | @agg _ xs' hk =>
        simp only at h3
        have key : ∀ D, (Instr.checkKey e (D + 1 + 1) t (.agg xs')).run P w = .ok () w := by
          intro D
          have := checkFs hC e D (w := w) hk F.toList h2 h3
          rw [Instr.checkKey]
          simp only [Sem.run_bind, hi.run_under, Result.andThen_ok, ← Array.forIn_toList]
          rw [this]
          rfl
        exact key 9998
      | _ => cases h3
    · exact checkScalar hC e 9999 hti h2 k'

theorem findAsking_run {kt : TypeId} {k k' : Value} (hk : VR ι k k') : ∀ {es : List (Value × Value × Nat)} {ES : List MapEntry} (_ : MR ι es ES) (i : Nat) (r : Option (Nat × Value)), findE C kt k es i = some r →
    ∃ r', (Instr.findAsking kt k' ES i).run P w = .ok r' w ∧ RF ι r r' := by
  intro es ES hm
  induction hm with
  | nil => intro i r h; simp only [findE, Option.some.injEq] at h; subst h; exact ⟨none, rfl, trivial⟩
  | @cons ek v v' b es ES hek hv _ ih =>
    intro i r h
    have hkk : VR ι ek ek := by
      cases ek <;> first | (cases hek; done) | constructor | skip
      exact VRs.plain (f := fun v => match v with | .int _ _ => true | .string _ => true | .bool _ => true | _ => false)
        (fun v h => by cases v <;> first | (cases h; done) | constructor) hek
    simp only [findE] at h
    simp only [Instr.findAsking, Sem.run_bind]
    split at h
    · rename_i hq
      cases h
      have := eqIn_run hC 30 Op.maxDepth (by decide) kt k ek k' ek true hq hk hkk w
      have : (Op.equal kt k' ek).run P w = .ok true w := this
      rw [this]
      exact ⟨some (i, v'), rfl, rfl, hv⟩
    · rename_i hq
      have := eqIn_run hC 30 Op.maxDepth (by decide) kt k ek k' ek false hq hk hkk w
      have : (Op.equal kt k' ek).run P w = .ok false w := this
      rw [this]
      exact ih (i + 1) r h
    · cases h

theorem findNow_eq {kt : TypeId} {ti : TI} {i : TypeInfo} {d : TypeDesc} {z : Value} (hti : C.T kt = some ti) (hi : TIok P kt ti i d z) {k : Value} :
    ∀ {es : List (Value × Value × Nat)} {ES : List MapEntry} (_ : MR ι es ES) (n : Nat) (r : Option (Nat × Value)), findE C kt k es n = some r →
    Instr.findNow d k ES n = none ∨ ∃ r', Instr.findNow d k ES n = some r' ∧ RF ι r r' := by
  intro es ES hm
  have hd := hi.desc
  induction hm with
  | nil => intro n r h; simp only [findE, Option.some.injEq] at h; subst h; exact .inr ⟨none, rfl, trivial⟩
  | @cons ek v v' b es ES hek hv _ ih =>
    intro n r h
    simp only [findE] at h
    simp only [Instr.findNow]
    cases hs : Instr.sameNow d k ek with
    | none => exact .inl rfl
    | some c =>
      have hq : eqIn C 30 kt k ek = none ∨ eqIn C 30 kt k ek = some c := by
        rw [eqIn, hti, hC.eqi]
        unfold Instr.sameNow at hs
        split at hs <;> first
          | (split at hs <;> first | (cases hs; done) | skip)
          | skip
        all_goals first | (cases hs; done) | skip
        all_goals (cases hs; cases hkd : ti.kind <;> rw [hkd] at hd <;> simp only at hd <;> first
          | (exact .inl rfl)
          | (cases hd; done)
          | (obtain ⟨_, _, _, hd⟩ := hd; cases hd; done)
          | (obtain ⟨_, hd, _⟩ := hd; cases hd; done)
          | (subst_vars; right; simp; done)
          | (right; simp [*]; done)
          | (left; simp only [hkd]; done)
          | (right; simp only [hkd]; first | rfl | (rw [if_pos ‹_›]; rfl)))
      rcases hq with hq | hq
      · rw [hq] at h; cases h
      · rw [hq] at h
        cases c with
        | true =>
          simp only [Option.some.injEq] at h; subst h
          exact .inr ⟨some (n, v'), rfl, rfl, hv⟩
        | false => exact ih (n + 1) r h

theorem findKey_run {kt : TypeId} {k k' : Value} (hf : keyFit C kt k = true) (hk : VR ι k k') {es : List (Value × Value × Nat)} {ES : Array MapEntry} (hm : MR ι es ES.toList) {r : Option (Nat × Value)}
    (h : findE C kt k es 0 = some r) : ∃ r', (Instr.findKey kt k' ES.toList).run P w = .ok r' w ∧ RF ι r r' := by
  obtain ⟨h1, h2, _⟩ := keyFit_parts hf
  have := keyOk_eq h1 hk; subst this
  obtain ⟨ti, hti⟩ : ∃ ti, C.T kt = some ti := by
    unfold flatKey at h2
    split at h2
    · cases h2
    · rename_i ti hti; exact ⟨ti, hti⟩
  obtain ⟨i, d, z, hi⟩ := hC.ti hti
  simp only [Instr.findKey, Sem.run_bind, hi.run_under, Result.andThen_ok]
  rcases findNow_eq hC hti hi hm 0 r h with hn | ⟨r', hn, hr⟩
  · rw [hn]
    exact findAsking_run hC hk hm 0 r h
  · rw [hn]
    exact ⟨r', rfl, hr⟩
end
end Go.Ahe
