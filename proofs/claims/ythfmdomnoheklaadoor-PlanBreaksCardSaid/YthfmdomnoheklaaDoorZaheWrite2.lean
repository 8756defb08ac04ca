/-
  AHE, 12: writing maps.
-/
import Derived.Test.YthfmdomnoheklaaDoorZaheWrite
namespace Go.Ahe
open Go.RowKit

theorem bytes_eq {a b : ByteArray} (h : (a == b) = true) : a = b := by
  cases a; cases b
  have h : (_ : Array UInt8) == _ := h
  simpa using h
theorem bytes_self (a : ByteArray) : (a == a) = true := by
  cases a
  show ((_ : Array UInt8) == _) = true
  simp

theorem cellEq_eq {a b : Value} (h : cellEq a b = true) : a = b := by
  unfold cellEq at h
  split at h
  · rw [eq_of_beq h]
  · simp only [Bool.and_eq_true, decide_eq_true_eq] at h; rw [h.1, h.2]
  · rw [bytes_eq h]
  · simp only [decide_eq_true_eq] at h; rw [h]
  · simp only [Bool.and_eq_true, decide_eq_true_eq] at h; rw [h.1, nbeq_eq h.2.1, nbeq_eq h.2.2]
  · simp only [decide_eq_true_eq] at h; rw [h]
  · rfl
  · cases h

theorem cellsEq_eq : ∀ {a b : List Value}, cellsEq a b = true → a = b
  | [], [], _ => rfl
  | [], _ :: _, h => by cases h
  | _ :: _, [], h => by cases h
  | x :: a, y :: b, h => by
    simp only [cellsEq, Bool.and_eq_true] at h
    rw [cellEq_eq h.1, cellsEq_eq h.2]

theorem cellsOf_inj {a b : Value} (h : cellsOf a = cellsOf b) (h2 : isAggV a = isAggV b) : a = b := by
  have hna : ∀ v : Value, isAggV v = false → cellsOf v = [v] := fun v hv => by cases v <;> first | rfl | cases hv
  cases ha : isAggV a with
  | false =>
    rw [ha] at h2
    rw [hna a ha, hna b h2.symm] at h
    exact (List.cons.inj h).1
  | true =>
    rw [ha] at h2
    cases a <;> first | (cases ha; done) | skip
    cases b <;> first | (cases h2; done) | skip
    simp only [cellsOf] at h
    rw [Array.toList_inj.1 h]

theorem sameBits_list {f : Value → Bool} (n : Nat) (hf : ∀ v, f v = true → Instr.sameBits n v v = true) : ∀ {l : List Value}, l.all f = true → ((l.zip l).all fun (x, y) => Instr.sameBits n x y) = true
  | [], _ => rfl
  | v :: l, h => by
    simp only [List.all_cons, Bool.and_eq_true] at h
    simp only [List.zip_cons_cons, List.all_cons, Bool.and_eq_true]
    exact ⟨hf v h.1, sameBits_list n hf h.2⟩

theorem sameBits_self (n : Nat) {k : Value} (h : keyOk k = true) : Instr.sameBits (n + 1) k k = true := by
  cases k <;> first | (cases h; done) | (simp [Instr.sameBits]; done) | (simp [Instr.sameBits, bytes_self]; done) | skip
  rename_i a
  show (a.size == a.size && (a.toList.zip a.toList).all fun (x, y) => Instr.sameBits n x y) = true
  rw [beq_self_eq_true, Bool.true_and]
  refine sameBits_list (f := fun v => match v with | .int _ _ => true | .string _ => true | .bool _ => true | _ => false) n (fun v hv => ?_) h
  cases v <;> first | (cases hv; done) | (cases n <;> simp [Instr.sameBits, bytes_self])

theorem keyThatStays_run {P : Program} {w : World} {k : Value} (h : keyOk k = true) : (Instr.keyThatStays k k).run P w = .ok k w := by
  have : Instr.sameBits 10000 k k = true := sameBits_self 9999 h
  simp only [Instr.keyThatStays, this, if_true, Sem.run_pure]

theorem MR.get? {ι : Emb} {es : List (Value × Value × Nat)} {ES : List MapEntry} (h : MR ι es ES) : ∀ {j : Nat} {e : Value × Value × Nat}, es[j]? = some e → ∃ v', ES[j]? = some ⟨e.1, v', e.2.2⟩ ∧ VR ι e.2.1 v' := by
  induction h with
  | nil => intro j e h; simp at h
  | cons hk hv _ ih =>
    intro j e h
    cases j with
    | zero => simp at h; subst h; exact ⟨_, rfl, hv⟩
    | succ j => simp at h; obtain ⟨v', h1, h2⟩ := ih h; exact ⟨v', by simpa using h1, h2⟩

theorem MR.setAt {ι : Emb} {es : List (Value × Value × Nat)} {ES : List MapEntry} (h : MR ι es ES) {k v v' : Value} (hk : keyOk k = true) (hv : VR ι v v') : ∀ (j : Nat), MR ι (Go.Ahe.setAt es j k v) (ES.modify j fun e => { e with key := k, val := v' }) := by
  induction h with
  | nil => intro j; cases j <;> exact .nil
  | @cons k0 v0 v0' b es ES hk0 hv0 ht ih =>
    intro j
    cases j with
    | zero => exact .cons hk hv ht
    | succ j => exact .cons hk0 hv0 (ih j)

theorem MR.setKey {ι : Emb} {es : List (Value × Value × Nat)} {ES : List MapEntry} (h : MR ι es ES) {k : Value} (hk : keyOk k = true) : ∀ {j : Nat} {e : Value × Value × Nat}, es[j]? = some e → MR ι (Go.Ahe.setAt es j k e.2.1) (ES.modify j fun e => { e with key := k }) := by
  induction h with
  | nil => intro j e h; simp at h
  | @cons k0 v0 v0' b es ES hk0 hv0 ht ih =>
    intro j e h
    cases j with
    | zero => simp at h; subst h; exact .cons hk hv0 ht
    | succ j => simp at h; exact .cons hk0 hv0 (ih h)

theorem MR.snoc {ι : Emb} {es : List (Value × Value × Nat)} {ES : List MapEntry} (h : MR ι es ES) {k v v' : Value} {b : Nat} (hk : keyOk k = true) (hv : VR ι v v') : MR ι (es ++ [(k, v, b)]) (ES ++ [⟨k, v', b⟩]) := by
  induction h with
  | nil => exact .cons hk hv .nil
  | cons hk0 hv0 _ ih => exact .cons hk0 hv0 ih

theorem MR.erase {ι : Emb} {es : List (Value × Value × Nat)} {ES : List MapEntry} (h : MR ι es ES) : ∀ (j : Nat), MR ι (es.eraseIdx j) (ES.eraseIdx j) := by
  induction h with
  | nil => intro j; exact .nil
  | cons hk0 hv0 ht ih =>
    intro j
    cases j with
    | zero => exact ht
    | succ j => exact .cons hk0 hv0 (ih j)

theorem MR.stamp {ι : Emb} {es es' : List (Value × Value × Nat)} {ES : List MapEntry} (h : MR ι es ES) {v v' : Value} {b : Nat} (hv : VR ι v v') (hs : stampAt es b v = some es') :
    ∃ j, ES.findIdx? (fun e => (e.born : Int) == (b : Int)) = some j ∧ MR ι es' (ES.modify j fun e => { e with val := v' }) := by
  induction h generalizing es' with
  | nil => cases hs
  | @cons k0 v0 v0' c es ES hk0 hv0 ht ih =>
    simp only [stampAt] at hs
    cases hb : Nat.beq c b with
    | true =>
      rw [hb, cond_true] at hs
      cases hs
      have := nbeq_eq hb; subst this
      exact ⟨0, by simp [List.findIdx?_cons], .cons hk0 hv ht⟩
    | false =>
      rw [hb, cond_false, Option.map_eq_some_iff] at hs
      obtain ⟨r, hr, rfl⟩ := hs
      obtain ⟨j, h1, h2⟩ := ih hr
      have hne : ¬ ((c : Int) == (b : Int)) = true := by
        intro e
        have : (c : Int) = (b : Int) := by simpa using e
        have : c = b := by omega
        subst this
        rw [Nat.beq_refl] at hb; cases hb
      refine ⟨j + 1, ?_, .cons hk0 hv0 h2⟩
      rw [List.findIdx?_cons, if_neg hne, h1]
      rfl

section
variable {P : Program} {base : Nat} {ι : Emb} {H : Hp} {w : World} (hr : Rel base ι H w)
include hr

theorem setMap_run {i b p : Nat} {es es2 : List (Value × Value × Nat)} {ck ck2 : Nat} {ES : Array MapEntry} (ES2 : Array MapEntry) {H' : Hp} (hι : ι i = some (b, p)) (hg : H.get i = some (.map es ck)) (hb : w.heap[b]? = some (.map ES ck))
    (hu : H.upd i (.map es2 ck2) = some H') (hm : MR ι es2 ES2.toList) :
    ∃ w' : World, (setObj b (.map ES2 ck2)).run P w = .ok () w' ∧ Rel base ι H' w' ∧ Step ι ι H H' w w' := by
  have hlt : b < w.heap.size := hr.bnd i b p hι
  refine ⟨{ w with heap := w.heap.setIfInBounds b (.map ES2 ck2) }, by simp [setObj, Sem.run, hb], ?_⟩
  refine hr.write hg rfl hι hu ⟨rfl, rfl, rfl⟩ (by simp) (fun k hk => by simp [Array.getElem?_setIfInBounds_ne (Ne.symm hk)]) ?_ ?_
  · exact ⟨ES2, by simp [hlt], hm⟩
  · intro L hL; rw [hb] at hL; cases hL
end

section
variable {P : Program} {C : Ctx} (hC : Fits C P) {base : Nat} {ι : Emb} {H : Hp} {w : World} (hr : Rel base ι H w)
include hC hr

theorem mapPutE_run {t : TypeId} {x x' k k' v v' : Value} {H' : Hp} (hx : VR ι x x') (hk : VR ι k k') (hv : VR ι v v') (h : mapPutE C t x k v H = some H') :
    ∃ w' : World, (Instr.mapUpdate t x' k' v').run P w = .ok () w' ∧ Rel base ι H' w' ∧ Step ι ι H H' w w' := by
  unfold mapPutE at h
  split at h
  · cases h
  · rename_i ti hti
    obtain ⟨i, d, z, hi⟩ := hC.ti hti
    have hd := hi.desc
    split at h
    · rename_i kt et hkd; rw [hkd] at hd; simp only at hd; subst hd
      rw [Option.bind_eq_some_iff] at h
      obtain ⟨m, hm, h⟩ := h
      rcases mapOf_run hr hx hm with ⟨rfl, rfl⟩ | ⟨i', b, p, es, ck, ES, rfl, rfl, rfl, hι, hg, h1, h2⟩
      · cases h
      · simp only at h
        obtain ⟨hf, h⟩ := bif_some h
        rw [Option.bind_eq_some_iff] at h
        obtain ⟨r, hfind, h⟩ := h
        obtain ⟨r', hr1, hr2⟩ := findKey_run hC (w := w) hf hk h2 hfind
        have hck := checkKey_run hC (w := w) false hf hk
        have hok := (keyFit_parts hf).1
        have hkk := keyOk_eq hok hk
        simp only [Instr.mapUpdate, Sem.run_bind, hi.run_under, Result.andThen_ok, getObj, Sem.run, h1, hck, hr1]
        cases r with
        | none =>
          cases r' with
          | some _ => exact hr2.elim
          | none =>
            simp only at h ⊢
            subst hkk
            exact setMap_run hr (ES.push _) hι hg h1 h (by rw [Array.toList_push]; exact h2.snoc hok hv)
        | some iv =>
          obtain ⟨j, u⟩ := iv
          cases r' with
          | none => exact hr2.elim
          | some jv =>
            obtain ⟨j', u'⟩ := jv
            obtain ⟨rfl, _⟩ := hr2
            simp only at h
            split at h
            · rename_i e he
              obtain ⟨hcc, h⟩ := bif_some h
              simp only [Bool.and_eq_true, beq_iff_eq] at hcc
              have hek : e.1 = k := cellsOf_inj (cellsEq_eq hcc.1) hcc.2
              obtain ⟨v0', hes, _⟩ := h2.get? he
              rw [Array.getElem?_toList] at hes
              subst hkk
              simp only [hes, Option.map_some, Option.getD_some, hek, Sem.run_bind, keyThatStays_run hok, Result.andThen_ok]
              refine setMap_run hr _ hι hg h1 h ?_
              rw [Array.toList_modify]
              exact h2.setAt hok hv j
            · cases h
    · cases h

theorem mapEntryE_run {t : TypeId} {x x' k k' v : Value} {H' : Hp} (hx : VR ι x x') (hk : VR ι k k') (h : mapEntryE C t x k H = some (v, H')) :
    ∃ v', ∃ w' : World, (Instr.mapEntry t x' k').run P w = .ok v' w' ∧ VR ι v v' ∧ Rel base ι H' w' ∧ Step ι ι H H' w w' := by
  unfold mapEntryE at h
  split at h
  · cases h
  · rename_i ti hti
    obtain ⟨i, d, z, hi⟩ := hC.ti hti
    have hd := hi.desc
    split at h
    · rename_i kt et hkd; rw [hkd] at hd; simp only at hd; subst hd
      simp only [Option.bind_eq_some_iff] at h
      obtain ⟨eti, heti, m, hm, h⟩ := h
      obtain ⟨i2, d2, z2, hi2⟩ := hC.ti heti
      rcases mapOf_run hr hx hm with ⟨rfl, rfl⟩ | ⟨i', b, p, es, ck, ES, rfl, rfl, rfl, hι, hg, h1, h2⟩
      · cases h
      · simp only at h
        obtain ⟨hf, h⟩ := bif_some h
        rw [Option.bind_eq_some_iff] at h
        obtain ⟨r, hfind, h⟩ := h
        obtain ⟨r', hr1, hr2⟩ := findKey_run hC (w := w) hf hk h2 hfind
        have hck := checkKey_run hC (w := w) false hf hk
        have hok := (keyFit_parts hf).1
        have hkk := keyOk_eq hok hk
        simp only [Instr.mapEntry, Sem.run_bind, hi.run_under, Result.andThen_ok, getObj, Sem.run, h1, hck, hr1]
        cases r with
        | none =>
          cases r' with
          | some _ => exact hr2.elim
          | none =>
            simp only [Option.bind_eq_some_iff, Option.map_eq_some_iff] at h
            obtain ⟨zv, hzv, H1, hu, he⟩ := h
            cases he
            subst hkk
            have hz := zeroV_rel (ι := ι) hi2 hzv
            obtain ⟨w', e1, e2, e3⟩ := setMap_run (P := P) hr (ES.push ⟨k', z2, ck⟩) hι hg h1 hu (by rw [Array.toList_push]; exact h2.snoc hok hz)
            refine ⟨_, w', ?_, .tuple (.cons hz (.cons (.int _ _) .nil)), e2, e3⟩
            simp only [Sem.run_bind, hi2.run_zero, Result.andThen_ok, e1, Sem.run_pure, goInt]
        | some iv =>
          obtain ⟨j, u⟩ := iv
          cases r' with
          | none => exact hr2.elim
          | some jv =>
            obtain ⟨j', u'⟩ := jv
            obtain ⟨rfl, huv⟩ := hr2
            simp only [Option.bind_eq_some_iff] at h
            obtain ⟨e, he, h⟩ := h
            cases hcc : (cellsEq (cellsOf e.1) (cellsOf k) && (isAggV e.1 == isAggV k)) with
            | false => rw [hcc] at h; cases h
            | true =>
              rw [hcc] at h
              simp only [Bool.not_true, cond_false, Option.map_eq_some_iff] at h
              obtain ⟨H1, hu, he2⟩ := h
              cases he2
              simp only [Bool.and_eq_true, beq_iff_eq] at hcc
              have hek : e.1 = k := cellsOf_inj (cellsEq_eq hcc.1) hcc.2
              obtain ⟨v0', hes, hv0⟩ := h2.get? he
              rw [Array.getElem?_toList] at hes
              subst hkk
              have hmod : MR ι (setAt es j k' e.2.1) (ES.modify j fun e => { e with key := k' }).toList := by
                rw [Array.toList_modify]
                exact h2.setKey hok he
              obtain ⟨w', e1, e2, e3⟩ := setMap_run (P := P) hr (ES.modify j fun e => { e with key := k' }) hι hg h1 hu hmod
              refine ⟨_, w', ?_, .tuple (.cons huv (.cons (.int _ _) .nil)), e2, e3⟩
              simp only [hes, Option.map_some, Option.getD_some, hek, Sem.run_bind, keyThatStays_run hok, Result.andThen_ok, e1, Sem.run_pure, goInt]
    · cases h

omit hC in
theorem entryStoreE_run {t : TypeId} {x x' st st' v v' : Value} {H' : Hp} (hx : VR ι x x') (hs : VR ι st st') (hv : VR ι v v') (h : entryStoreE x st v H = some H') :
    ∃ w' : World, (Instr.entryStore t x' st' v').run P w = .ok () w' ∧ Rel base ι H' w' ∧ Step ι ι H H' w w' := by
  unfold entryStoreE at h
  rw [Option.bind_eq_some_iff] at h
  obtain ⟨m, hm, h⟩ := h
  rcases mapOf_run hr hx hm with ⟨rfl, rfl⟩ | ⟨i', b, p, es, ck, ES, rfl, rfl, rfl, hι, hg, h1, h2⟩
  · cases h
  · simp only [Option.bind_eq_some_iff] at h
    obtain ⟨bn, hbn, es', hst, hu⟩ := h
    obtain ⟨ik, rfl⟩ := nat?_some hs hbn
    obtain ⟨j, hj, hm2⟩ := h2.stamp hv hst
    have hj' : ES.findIdx? (fun e => (e.born : Int) == (bn : Int)) = some j := by rw [← hj]; cases ES; simp
    simp only [Instr.entryStore, Sem.run_bind, getObj, Sem.run, h1, Result.andThen_ok, asInt, asIntOf, Sem.run_pure, hj']
    exact setMap_run hr _ hι hg h1 hu (by rw [Array.toList_modify]; exact hm2)

theorem deleteE_run {t ty : TypeId} {x x' k k' : Value} {H' : Hp} (hx : VR ι x x') (hk : VR ι k k') (h : deleteE C t x k H = some H') :
    ∃ w' : World, (Builtin.delete_ #[t, ty] ty #[x', k']).run P w = .ok (.tuple #[]) w' ∧ Rel base ι H' w' ∧ Step ι ι H H' w w' := by
  unfold deleteE at h
  split at h
  · cases h
  · rename_i ti hti
    obtain ⟨i, d, z, hi⟩ := hC.ti hti
    have hd := hi.desc
    split at h
    · rename_i kt et hkd; rw [hkd] at hd; simp only at hd; subst hd
      rw [Option.bind_eq_some_iff] at h
      obtain ⟨m, hm, h⟩ := h
      obtain ⟨hf, h⟩ := bif_some h
      rcases mapOf_run hr hx hm with ⟨rfl, rfl⟩ | ⟨i', b, p, es, ck, ES, rfl, rfl, rfl, hι, hg, h1, h2⟩
      · simp only [Option.some.injEq] at h; subst h
        have hck := checkKey_run hC (w := w) true hf hk
        refine ⟨w, ?_, hr, Step.refl hr⟩
        simp [Builtin.delete_, hi.run_under, hck]
      · simp only [Option.bind_eq_some_iff] at h
        obtain ⟨r, hfind, h⟩ := h
        obtain ⟨r', hr1, hr2⟩ := findKey_run hC (w := w) hf hk h2 hfind
        have hck := checkKey_run hC (w := w) ES.isEmpty hf hk
        cases r with
        | none =>
          cases r' with
          | some _ => exact hr2.elim
          | none =>
            obtain ⟨w', e1, e2⟩ := setMap_run (P := P) hr ES hι hg h1 h h2
            refine ⟨w', ?_, e2⟩
            simp [Builtin.delete_, hi.run_under, getObj, Sem.run, h1, hck, hr1, e1]
        | some iv =>
          obtain ⟨j, u⟩ := iv
          cases r' with
          | none => exact hr2.elim
          | some jv =>
            obtain ⟨j', u'⟩ := jv
            obtain ⟨rfl, _⟩ := hr2
            obtain ⟨w', e1, e2⟩ := setMap_run (P := P) hr (ES.eraseIdxIfInBounds j) hι hg h1 h (by rw [Array.toList_eraseIdxIfInBounds]; exact h2.erase j)
            refine ⟨w', ?_, e2⟩
            simp [Builtin.delete_, hi.run_under, getObj, Sem.run, h1, hck, hr1, e1]
    · cases h
end
end Go.Ahe
