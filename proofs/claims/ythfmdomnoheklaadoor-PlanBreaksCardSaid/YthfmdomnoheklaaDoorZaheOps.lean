/-
  AHE, 17: iterators of maps; the builtins, one table.
-/
import Derived.Test.YthfmdomnoheklaaDoorZaheApp3
namespace Go.Ahe
open Go.RowKit

section
variable {P : Program} {C : Ctx} (hC : Fits C P) {base : Nat} {ι : Emb} {H : Hp} {w : World} (hr : Rel base ι H w)
include hC hr

theorem rangeE_run {t : TypeId} {x x' v : Value} {H' : Hp} (hx : VR ι x x') (h : rangeE C t x H = some (v, H')) :
    ∃ v' w' ι', (Instr.range t x').run P w = .ok v' w' ∧ VR ι' v v' ∧ Rel base ι' H' w' ∧ Step ι ι' H H' w w' := by
  unfold rangeE at h
  split at h
  · cases h
  · rename_i ti hti
    obtain ⟨i, d, z, hi⟩ := hC.ti hti
    have hd := hi.desc
    split at h
    · rename_i kt et hkd; rw [hkd] at hd; simp only at hd; subst hd
      rw [Option.map_eq_some_iff] at h
      obtain ⟨m, hm, h⟩ := h
      have hnone : ι H.next = none := hr.dom _ (Nat.le_refl _)
      have hle : ι.le (ι.ext H.next (w.heap.size, 0) w.heap.size 0) := Emb.le_ext (w.heap.size, 0) 0 hnone (fun j b p hj e => by have := hr.bnd j b p hj; omega)
      rcases mapOf_run hr hx hm with ⟨rfl, rfl⟩ | ⟨i', b, p, es, ck, ES, rfl, rfl, rfl, hι, hg, h1, h2⟩
      · cases h
        obtain ⟨e1, e2⟩ := hr.new (.iter none 0 [] 0) (.mapIter none 0 #[] 0) 0 (fun w' hw => ⟨rfl, none, hw, rfl⟩)
        refine ⟨_, _, _, ?_, VR.newPtr ι H.next w.heap.size 0, e1, e2⟩
        simp only [Instr.range, Sem.run_bind, hi.run_under, Result.andThen_ok, Sem.run_pure, run_newObj, World.alloc]
      · cases h
        obtain ⟨e1, e2⟩ := hr.new (.iter (some i') ck [] ck) (.mapIter (some b) ck #[] ck) 0 (fun w' hw => ⟨rfl, some b, hw, b, p, (hle _ _ _ hι).1, rfl⟩)
        refine ⟨_, _, _, ?_, VR.newPtr ι H.next w.heap.size 0, e1, e2⟩
        have hg : (getObj b).run P w = .ok (.map ES ck) w := by simp [getObj, Sem.run, h1]
        simp only [Instr.range, Sem.run_bind, hi.run_under, Result.andThen_ok, hg, Sem.run_pure, run_newObj, World.alloc]
    · cases h

omit hr in
theorem capE_run {t : TypeId} {x x' v : Value} (hx : VR ι x x') (h : capE C t x = some v) (ty : TypeId) : (Builtin.cap_ #[t] ty #[x']).run P w = .ok v w ∧ VR ι v v := by
  unfold capE at h
  split at h
  · cases h
  · rename_i ti hti
    obtain ⟨i, d, z, hi⟩ := hC.ti hti
    have hd := hi.desc
    split at h
    · rename_i el l c hk; rw [hk] at hd; simp only at hd; subst hd
      cases h
      exact ⟨by cases hx; simp [Builtin.cap_, hi.run_under, goInt], .int _ _⟩
    · rename_i el a o l c hk; rw [hk] at hd; simp only at hd; subst hd
      cases h
      exact ⟨by cases hx; simp [Builtin.cap_, hi.run_under, goInt], .int _ _⟩
    · cases h

/-- What an operation that makes no call hands back. -/
def ValRun (P : Program) (base : Nat) (ι : Emb) (H H' : Hp) (w : World) (v : Value) (s : Sem Value) : Prop :=
  ∃ v' w' ι', s.run P w = .ok v' w' ∧ VR ι' v v' ∧ Rel base ι' H' w' ∧ Step ι ι' H H' w w'

omit hC in
theorem ValRun.same {v v' : Value} {s : Sem Value} (h1 : s.run P w = .ok v' w) (h2 : VR ι v v') : ValRun P base ι H H w v s :=
  ⟨v', w, ι, h1, h2, hr, Step.refl hr⟩

theorem builtinE_run {b : Builtin} {ts : Array TypeId} {ty : TypeId} {consts : Array Bool} {args : List Value} {args' : Array Value} {v : Value} {H' : Hp} (ha : VRs ι args args'.toList)
    (h : builtinE C b ts.toList args H = some (v, H')) : ∃ s : Sem Value, builtin b ts ty consts args' = (do pure (.value (← s))) ∧ ValRun P base ι H H' w v s := by
  unfold builtinE at h
  obtain ⟨ts⟩ := ts
  obtain ⟨as⟩ := args'
  simp only at h ha
  split at h
  · cases ha with | cons h1 ha => cases ha; simp only [Option.map_eq_some_iff] at h; obtain ⟨u, h, he⟩ := h; cases he; exact ⟨_, rfl, let ⟨e1, e2⟩ := lenE_run hC hr h1 h ty; ValRun.same hr e1 e2⟩
  · cases ha with | cons h1 ha => cases ha; simp only [Option.map_eq_some_iff] at h; obtain ⟨u, h, he⟩ := h; cases he; exact ⟨_, rfl, let ⟨e1, e2⟩ := capE_run hC h1 h ty; ValRun.same hr e1 e2⟩
  · cases ha with | cons h1 ha => cases ha with | cons h2 ha => cases ha; exact ⟨_, rfl, appendE_run hC hr h1 h2 h⟩
  · cases ha with | cons h1 ha => cases ha with | cons h2 ha => cases ha; exact ⟨_, rfl, let ⟨w', a, b, c⟩ := copyE_run hC hr h1 h2 h; ⟨v, w', ι, a, b, c⟩⟩
  · rw [Option.map_eq_some_iff] at h
    obtain ⟨u, h, he⟩ := h; cases he
    obtain ⟨e1, e2⟩ := minE_run (P := P) (w := w) (xs' := ⟨as⟩) ha h ⟨ts⟩ ty
    exact ⟨_, rfl, ValRun.same hr e1 e2⟩
  · rw [Option.map_eq_some_iff] at h
    obtain ⟨u, h, he⟩ := h; cases he
    obtain ⟨e1, e2⟩ := maxE_run (P := P) (w := w) (xs' := ⟨as⟩) ha h ⟨ts⟩ ty
    exact ⟨_, rfl, ValRun.same hr e1 e2⟩
  · cases ha with | cons h1 ha => cases ha; simp only [Option.map_eq_some_iff] at h; obtain ⟨u, h, he⟩ := h; cases he; exact ⟨_, rfl, let ⟨w', a, b⟩ := clearE_run hC hr h1 h; ⟨_, w', ι, a, .undef, b⟩⟩
  · cases ha with | cons h1 ha => cases ha with | cons h2 ha => cases ha; simp only [Option.map_eq_some_iff] at h; obtain ⟨u, h, he⟩ := h; cases he; exact ⟨_, rfl, let ⟨w', a, b⟩ := deleteE_run hC hr h1 h2 h; ⟨_, w', ι, a, .undef, b⟩⟩
  · cases h

omit hC hr in
theorem MR.all {ι : Emb} {es : List (Value × Value × Nat)} {ES : List MapEntry} (h : MR ι es ES) (f : Nat → Bool) : (ES.all fun e => f e.born) = es.all fun e => f e.2.2 := by
  induction h with
  | nil => rfl
  | cons _ _ _ ih => simp [ih]

omit hC hr in
theorem MR.filter {ι : Emb} {es : List (Value × Value × Nat)} {ES : List MapEntry} (h : MR ι es ES) (f : Nat → Bool) : MR ι (es.filter fun e => f e.2.2) (ES.filter fun e => f e.born) := by
  induction h with
  | nil => exact .nil
  | @cons k v v' b es ES hk hv _ ih =>
    simp only [List.filter_cons]
    cases f b with
    | true => exact .cons hk hv ih
    | false => exact ih

omit hC hr in
theorem keyOk_VR {ι : Emb} {k : Value} (h : keyOk k = true) : VR ι k k := by
  cases k <;> first | (cases h; done) | (constructor; done) | skip
  exact .agg (VRs.plain (fun v hv => by cases v <;> first | (cases hv; done) | constructor) h)

omit hC hr in
theorem MR.find {ι : Emb} {es : List (Value × Value × Nat)} {ES : List MapEntry} (h : MR ι es ES) (f : Nat → Bool) {e : Value × Value × Nat} (he : es.find? (fun e => f e.2.2) = some e) : ∃ E, ES.find? (fun e => f e.born) = some E ∧ E.key = e.1 ∧ keyOk e.1 = true ∧ VR ι e.2.1 E.val := by
  induction h with
  | nil => cases he
  | @cons k v v' b es ES hk hv _ ih =>
    simp only [List.find?_cons] at he ⊢
    cases hb : f b with
    | true => rw [hb] at he; cases he; exact ⟨_, rfl, rfl, hk, hv⟩
    | false => rw [hb] at he; exact ih he

omit hC in
theorem entryE_run {x x' v : Value} (hx : VR ι x x') (h : entryE x H = some v) : ∃ v', (Instr.entry x').run P w = .ok v' w ∧ VR ι v v' := by
  unfold entryE at h
  split at h
  · rename_i r
    cases hx with | @ptr _ _ rb rp hιr =>
    split at h
    · rename_i m since seen last hg
      obtain ⟨rfl, m', h1, mb, mp, hιm, rfl⟩ := hr.ob r _ rb rp hg hιr
      split at h
      · rename_i b es ck hb hgm
        obtain ⟨ES, g1, g2⟩ := hr.ob m _ mb mp hgm hιm
        have hgo : (getObj rb).run P w = .ok (.mapIter (some mb) since seen.toArray last) w := by simp [getObj, Sem.run, h1]
        have hgm : (getObj mb).run P w = .ok (.map ES ck) w := by simp [getObj, Sem.run, g1]
        have hx : ∃ e, es.find? (fun e => Nat.beq e.2.2 b) = some e ∧ Nat.beq ck last = true ∧ v = .tuple #[e.1, e.2.1] := by
          cases hq : Nat.beq ck last with
          | false => rw [hq] at h; cases h
          | true =>
            rw [hq] at h
            cases hf : es.find? (fun e => Nat.beq e.2.2 b) with
            | none => rw [hf] at h; cases h
            | some e => rw [hf] at h; cases h; exact ⟨e, rfl, rfl, rfl⟩
        obtain ⟨e, hf, hck, rfl⟩ := hx
        have hck := Nat.eq_of_beq_eq_true hck
        subst hck
        · skip
          obtain ⟨E, e1, e2, e3, e4⟩ := g2.find (fun n => Nat.beq n b) hf
          have e1 : ES.find? (fun e => e.born == b) = some E := by
            rw [← Array.find?_toList, ← e1]
            congr 1
            funext e
            cases hb : Nat.beq e.born b with
            | true => exact beq_iff_eq.2 (Nat.eq_of_beq_eq_true hb)
            | false => exact beq_eq_false_iff_ne.2 (fun h => by rw [h, Nat.beq_refl] at hb; cases hb)
          have hbk : seen.toArray.back? = some b := by rw [List.back?_toArray]; exact hb
          refine ⟨.tuple #[E.key, E.val], ?_, .tuple (.cons (by rw [e2]; exact keyOk_VR e3) (.cons e4 .nil))⟩
          simp only [Instr.entry, Nat.zero_add, Sem.run_bind, hgo, hgm, hbk, e1, Result.andThen_ok, bne_self_eq_false, Bool.false_eq_true, if_false, Sem.run_pure]
      · cases h
    · cases h
  · cases h

omit hC in
theorem nextE_run {x x' v : Value} {ty : TypeId} {H' : Hp} (hx : VR ι x x') (h : nextE x H = some (v, H')) : ValRun P base ι H H' w v (Instr.next x' false ty) := by
  unfold nextE at h
  split at h
  · rename_i r
    cases hx with | @ptr _ _ rb rp hιr =>
    split at h
    · rename_i since seen st hg
      cases h
      obtain ⟨rfl, m', h1, h2⟩ := hr.ob r _ rb rp hg hιr
      simp only at h2; subst h2
      refine ValRun.same hr (v' := .tuple #[.bool false]) ?_ (.tuple (.cons (.bool _) .nil))
      have hgo : (getObj rb).run P w = .ok (.mapIter none since seen.toArray st) w := by simp [getObj, Sem.run, h1]
      simp only [Instr.next, Nat.zero_add, Sem.run_bind, hgo, Result.andThen_ok, Sem.run_pure]
    · rename_i m since seen last hg
      obtain ⟨rfl, m', h1, mb, mp, hιm, rfl⟩ := hr.ob r _ rb rp hg hιr
      split at h
      · rename_i es ck hgm
        obtain ⟨ES, g1, g2⟩ := hr.ob m _ mb mp hgm hιm
        have hgo : (getObj rb).run P w = .ok (.mapIter (some mb) since seen.toArray last) w := by simp [getObj, Sem.run, h1]
        have hgm : (getObj mb).run P w = .ok (.map ES ck) w := by simp [getObj, Sem.run, g1]
        have hall : (ES.all fun e => decide (e.born ≥ last)) = es.all (fun e => Nat.ble last e.2.2) := by
          rw [← Array.all_toList, MR.all g2 (fun b => decide (b ≥ last))]
          congr 1
          funext e
          cases hb : Nat.ble last e.2.2 with
          | true => exact decide_eq_true (nble_le hb)
          | false => exact decide_eq_false (fun h => by rw [Nat.ble_eq_true_of_le h] at hb; cases hb)
        have hemp : ES.isEmpty = es.isEmpty := by
          have := g2.length
          obtain ⟨L⟩ := ES
          cases es <;> cases L <;> simp_all
        have hf := g2.filter (fun b => !seen.contains b)
        cases hcond : (!seen.isEmpty && !es.isEmpty && es.all fun e => Nat.ble last e.2.2) with
        | true => rw [hcond, cond_true] at h; cases h
        | false =>
          rw [hcond, cond_false] at h
          have hcond : (!seen.toArray.isEmpty && !ES.isEmpty && ES.all fun e => decide (e.born ≥ last)) = false := by
            have hse : seen.toArray.isEmpty = seen.isEmpty := by simp
            rw [hall, hemp, hse]; exact hcond
          have hleft : (ES.filter fun e => !seen.toArray.contains e.born).toList = ES.toList.filter (fun e => !seen.contains e.born) := by
            simp
          split at h
          · -- over
            rename_i hl
            cases h
            rw [hl] at hf
            have hl' : (ES.filter fun e => !seen.toArray.contains e.born) = #[] := by
              apply Array.toList_inj.1
              rw [hleft]
              cases hf' : ES.toList.filter (fun e => !seen.contains e.born) with
              | nil => rfl
              | cons a l => rw [hf'] at hf; cases hf
            refine ValRun.same hr (v' := .tuple #[.bool false]) ?_ (.tuple (.cons (.bool _) .nil))
            have hcand : ((if ((#[] : Array MapEntry).filter fun x => decide (x.born < since)).isEmpty = true then #[none] else #[]) ++ (((#[] : Array MapEntry).filter fun x => decide (x.born < since)) ++ ((#[] : Array MapEntry).filter fun x => decide (x.born ≥ since))).map some) = #[none] := by simp
            simp only [Instr.next, Nat.zero_add, Sem.run_bind, hgo, hgm, Result.andThen_ok, hcond, Bool.false_eq_true, if_false, hl', hcand]
            rfl
          · rename_i e hl
            obtain ⟨hb, h⟩ := bif_some h
            have hb := nblt_lt hb
            rw [Option.map_eq_some_iff] at h
            obtain ⟨H1, hu, he⟩ := h
            cases he
            rw [hl] at hf
            obtain ⟨E, hE1, hE2, hE3, hE4⟩ : ∃ E : MapEntry, ES.toList.filter (fun e => !seen.contains e.born) = [E] ∧ E.key = e.1 ∧ E.born = e.2.2 ∧ (keyOk e.1 = true ∧ VR ι e.2.1 E.val) := by
              cases hf' : ES.toList.filter (fun e => !seen.contains e.born) with
              | nil => rw [hf'] at hf; cases hf
              | cons a l => rw [hf'] at hf; cases hf with | cons hk hv t => cases t; exact ⟨_, rfl, rfl, rfl, hk, hv⟩
            have hl' : (ES.filter fun e => !seen.toArray.contains e.born) = #[E] := by
              apply Array.toList_inj.1
              rw [hleft, hE1]
            have hcand : ((if ((#[E] : Array MapEntry).filter fun x => decide (x.born < since)).isEmpty = true then #[none] else #[]) ++ (((#[E] : Array MapEntry).filter fun x => decide (x.born < since)) ++ ((#[E] : Array MapEntry).filter fun x => decide (x.born ≥ since))).map some) = #[some E] := by
              have hb' : E.born < since := by rw [hE3]; exact hb
              simp [hb']
            obtain ⟨f1, f2⟩ := hr.write hg rfl hιr hu (w' := { w with heap := w.heap.setIfInBounds rb (.mapIter (some mb) since (seen.toArray.push E.born) ck) }) ⟨rfl, rfl, rfl⟩ (by simp)
              (fun k hk => by simp [Array.getElem?_setIfInBounds_ne (Ne.symm hk)])
              ⟨rfl, some mb, by
                have := hr.bnd r rb 0 hιr
                simp [this, hE3], mb, mp, hιm, rfl⟩
              (fun L hL => by rw [h1] at hL; cases hL)
            refine ⟨.tuple #[.bool true, E.key, E.val], _, ι, ?_, ?_, f1, f2⟩
            · simp only [Instr.next, Nat.zero_add, Sem.run_bind, hgo, hgm, Result.andThen_ok, hcond, Bool.false_eq_true, if_false, hl', hcand]
              have hch : (choose (.mapNext (#[some E] : Array (Option MapEntry)).size)).run P w = .ok 0 w := rfl
              have hset : (setObj rb (.mapIter (some mb) since (seen.toArray.push E.born) ck)).run P w = .ok () { w with heap := w.heap.setIfInBounds rb (.mapIter (some mb) since (seen.toArray.push E.born) ck) } := by simp [setObj, Sem.run, h1]
              rw [hch]
              simp only [Result.andThen_ok, List.getElem?_toArray, List.getElem?_cons_zero, Sem.run_bind, hset, Sem.run_pure]
            · rw [hE2]
              exact .tuple (.cons (.bool _) (.cons (keyOk_VR hE4.1) (.cons hE4.2 .nil)))
          · cases h
      · cases h
    · cases h
  · cases h
end
end Go.Ahe
