/-
  AHE, 15: append.
-/
import Derived.Test.YthfmdomnoheklaaDoorZaheApp
namespace Go.Ahe
open Go.RowKit

/-- The model's append, once it is known what is to be appended. -/
def appTail (el : TypeId) (zeros : Bool) (base : Option Addr) (sLen sCap n size : Nat) (x s : Value) (appended : Sem (Array Value)) : Sem Value :=
  let need := sLen + n
  if need ≤ sCap then do
    let new ← appended
    if let some a := base then storeCells (a.add (sLen * size)) new.toList
    pure (.slice base need sCap)
  else do
    if (need : Int) > IntKind.i64.max ∧ (zeros ∨ (← typeInfo el).bytes = 0) then runtimePanic (.error "growslice: len out of range")
    if Builtin.nextslicecap need sCap * (← typeInfo el).bytes > 2 ^ 48 then (if zeros then runtimePanic (.error "growslice: len out of range") else do
      if !(← Builtin.mayShare size sLen n base x) then mark .noRoom
      unsupported (.resourceLimit "append: a slice or a string whose bytes no memory bears"))
    let newCap ← choose (.appendCap need sCap el)
    askRoom (newCap * (← typeInfo el).bytes)
    let old ← Builtin.firstCells size sLen s
    let new ← appended
    let rest := Builtin.zeroCells (← zeroValue el).cells (newCap - need)
    pure (.slice (some (← newRow el (old ++ new ++ rest))) need newCap)

theorem growBy_le (need : Nat) : ∀ (r c : Nat), c ≤ 2 * need + 768 → Builtin.growBy need r c ≤ 2 * need + 768
  | 0, c, h => h
  | r + 1, c, h => by
    rw [Builtin.growBy]
    split
    · exact h
    · exact growBy_le need r _ (by omega)

theorem nextcap_le {need cap : Nat} (h : ¬ need ≤ cap) : Builtin.nextslicecap need cap ≤ 2 * need + 768 := by
  unfold Builtin.nextslicecap
  split
  · omega
  · split
    · omega
    · exact growBy_le need 4 cap (by omega)

/-- Only the heap counts. -/
theorem Rel.ofHeap {base : Nat} {ι : Emb} {H : Hp} {w w1 : World} (hr : Rel base ι H w) (hh : w1.heap = w.heap) : Rel base ι H w1 :=
  ⟨hr.flo, hr.dom, by rw [hh]; exact hr.bnd, fun i o b p h1 h2 => (hr.ob i o b p h1 h2).same (by rw [hh]), hr.inj, hr.bas, by rw [hh]; exact hr.bs⟩
theorem Step.ofHeap {base : Nat} {ι : Emb} {H : Hp} {w w1 : World} (hr : Rel base ι H w) (hh : w1.heap = w.heap) (he : WEq w w1) : Step ι ι H H w w1 :=
  ⟨fun _ _ => rfl, fun _ _ => rfl, Nat.le_refl _, rfl, fun _ _ => rfl, fun _ _ h => h, he.os, he.tape, he.output, by rw [hh]; exact Nat.le_refl _, fun _ _ _ => by rw [hh], fun _ L h => ⟨L, by rw [hh]; exact h⟩, fun i b p h1 h2 => by rw [hr.dom i h1] at h2; cases h2⟩

/-- **AN OBJECT LIVES ON UNDER A NEW NAME**, its block written; the old name is dead. -/
theorem Rel.regrow {base : Nat} {ι : Emb} {H H1 : Hp} {w w' : World} (hr : Rel base ι H w) {i b p q : Nat} {cs : List Value} {o' : Ob} (hi : H.get i = some (.cells cs false)) (hι : ι i = some (b, p))
    (hu : (H.new o').upd i .dead = some H1) (heq : WEq w w') (hsz : w'.heap.size = w.heap.size) (hoth : ∀ k, k ≠ b → w'.heap[k]? = w.heap[k]?)
    (ho : ObR (ι.ext H.next (b, q) w.heap.size 0) w' o' b q) :
    Rel base (ι.ext H.next (b, q) w.heap.size 0) H1 w' ∧ Step ι (ι.ext H.next (b, q) w.heap.size 0) H H1 w w' := by
  obtain ⟨hf, hn, hfl, hg⟩ := Hp.upd_some hu
  have hin : i < H.next := hr.lt hι
  have hnone : ι H.next = none := hr.dom _ (Nat.le_refl _)
  have hle : ι.le (ι.ext H.next (b, q) w.heap.size 0) := Emb.le_ext (b, q) 0 hnone (fun j c p hj e => by have := hr.bnd j c p hj; omega)
  have hbs : b < w.heap.size := hr.bnd i b p hι
  simp only [Hp.next_new, Hp.floor_new] at hn hfl hf
  have hget : ∀ j, H1.get j = if j = H.next then some o' else if j = i then some .dead else H.get j := by
    intro j; rw [hg, Hp.get_new]
    by_cases e : j = i
    · rw [if_pos e, if_neg (by omega), if_pos e]
    · rw [if_neg e, if_neg e]
  have hother : ∀ j oj c r, H.get j = some oj → j ≠ i → oj.live = true → ι j = some (c, r) → c ≠ b := fun j oj c r h1 h2 h3 h4 e => by
    subst e; exact h2 (hr.inj i j _ oj c p r hi h1 rfl h3 hι h4).symm
  refine ⟨⟨?_, ?_, ?_, ?_, ?_, ?_, ?_⟩, ⟨?_, fun c hc => Emb.ext_sz_ne _ _ _ _ (by omega), ?_, ?_, ?_, ?_, heq.os, heq.tape, heq.output, by omega, ?_, ?_, ?_⟩⟩
  · have := hr.flo; simp [hfl, hn]; omega
  · intro j hj
    simp [hn] at hj
    rw [Emb.ext_ne _ _ _ _ (by omega)]; exact hr.dom j (by omega)
  · intro j c r h
    rw [hsz]
    by_cases e : j = H.next
    · subst e; rw [Emb.ext_self] at h; cases h; exact hbs
    · rw [Emb.ext_ne _ _ _ _ e] at h; exact hr.bnd j c r h
  · intro j oj c r h hj
    rw [hget] at h
    by_cases e1 : j = H.next
    · subst e1; rw [if_pos rfl] at h; cases h; rw [Emb.ext_self] at hj; cases hj; exact ho
    · rw [if_neg e1] at h; rw [Emb.ext_ne _ _ _ _ e1] at hj
      by_cases e2 : j = i
      · rw [if_pos e2] at h; cases h; trivial
      · rw [if_neg e2] at h
        by_cases hl : oj.live = true
        · exact ((hr.ob j oj c r h hj).same (hoth c (hother j oj c r h e2 hl hj))).mono hle (hle j c r hj).2
        · cases oj <;> first | trivial | exact absurd rfl hl
  · intro j k oj ok c r t h1 h2 h3 h4 h5 h6
    rw [hget] at h1 h2
    by_cases j1 : j = H.next <;> by_cases k1 : k = H.next
    · omega
    · subst j1; rw [Emb.ext_self] at h5; cases h5
      rw [if_neg k1] at h2; rw [Emb.ext_ne _ _ _ _ k1] at h6
      by_cases k2 : k = i
      · rw [if_pos k2] at h2; cases h2; cases h4
      · rw [if_neg k2] at h2; exact absurd rfl (hother k ok _ _ h2 k2 h4 h6)
    · subst k1; rw [Emb.ext_self] at h6; cases h6
      rw [if_neg j1] at h1; rw [Emb.ext_ne _ _ _ _ j1] at h5
      by_cases j2 : j = i
      · rw [if_pos j2] at h1; cases h1; cases h3
      · rw [if_neg j2] at h1; exact absurd rfl (hother j oj _ _ h1 j2 (Ob.wr_live h3) h5)
    · rw [if_neg j1] at h1; rw [if_neg k1] at h2; rw [Emb.ext_ne _ _ _ _ j1] at h5; rw [Emb.ext_ne _ _ _ _ k1] at h6
      by_cases j2 : j = i
      · rw [if_pos j2] at h1; cases h1; cases h3
      · by_cases k2 : k = i
        · rw [if_pos k2] at h2; cases h2; cases h4
        · rw [if_neg j2] at h1; rw [if_neg k2] at h2
          exact hr.inj j k oj ok c r t h1 h2 h3 h4 h5 h6
  · intro j oj c r h h2 hj
    rw [hget] at h
    by_cases e1 : j = H.next
    · subst e1; rw [Emb.ext_self] at hj; cases hj; exact hr.bas i _ b p hi rfl hι
    · rw [if_neg e1] at h; rw [Emb.ext_ne _ _ _ _ e1] at hj
      by_cases e2 : j = i
      · rw [if_pos e2] at h; cases h; cases h2
      · rw [if_neg e2] at h; exact hr.bas j oj c r h h2 hj
  · rw [hsz]; exact hr.bs
  · intro j hj; exact Emb.ext_ne _ _ _ _ (by omega)
  · simp [hn]
  · exact hfl
  · intro j hj
    have := hr.flo
    rw [hget, if_neg (by omega), if_neg (by omega)]
  · rintro c hc ⟨j, oj, r, h1, h2, h3, h4⟩
    rw [hget] at h1
    by_cases e1 : j = H.next
    · subst e1; rw [Emb.ext_self] at h4; cases h4; exact ⟨i, _, p, hi, rfl, hf, hι⟩
    · rw [if_neg e1] at h1; rw [Emb.ext_ne _ _ _ _ e1] at h4
      by_cases e2 : j = i
      · rw [if_pos e2] at h1; cases h1; cases h2
      · rw [if_neg e2] at h1; exact ⟨j, oj, r, h1, h2, by omega, h4⟩
  · intro c hc hno
    exact hoth c (fun e => hno ⟨i, _, p, hi, rfl, hf, by rw [e]; exact hι⟩)
  · intro c L hL
    by_cases e : c = b
    · subst e
      obtain ⟨C, E, fz, h1, _⟩ := hr.ob i _ c p hi hι
      rw [h1] at hL; cases hL
    · exact ⟨L, (hoth c e).trans hL⟩
  · intro j c r h1 h2
    by_cases e : j = H.next
    · subst e; rw [Emb.ext_self] at h2; cases h2; exact .inr ⟨i, _, p, hi, rfl, hf, hι⟩
    · rw [Emb.ext_ne _ _ _ _ e, hr.dom j h1] at h2; cases h2

theorem newCells0 {et : TI} {x : Value} {H : Hp} (h : addedE x = some 0) : newCellsE et 0 x H = some [] := by
  unfold addedE at h
  unfold newCellsE
  split at h
  · rfl
  · unfold lenOfE at h
    split at h
    · rename_i a l c _
      cases a with
      | none => rfl
      | some a => rfl
    · rename_i s _
      simp [firstCellsE]
    · cases h

section
variable {P : Program} {C : Ctx} (hC : Fits C P) {base : Nat} {ι : Emb} {H : Hp} {w : World} (hr : Rel base ι H w)
include hC hr

theorem appTail_run {el : TypeId} {et : TI} (het : C.T el = some et) {s s' x x' v : Value} {H' : Hp} (hs : VR ι s s') {n : Nat} (zeros : Bool) (hadd : addedE x = some n) (hxk : (∃ a l c, x = .slice a l c) ∨ ∃ k m, x = .int k m)
    {appended : Sem (Array Value)} (happ : ∀ (H1 : Hp) (w1 : World) (new : List Value), Rel base ι H1 w1 → newCellsE et n x H1 = some new → ∃ N : Array Value, appended.run P w1 = .ok N w1 ∧ VRs ι new N.toList)
    (h : appendE.appendTo C el s x H = some (v, H')) :
    ∃ bs l c, s' = .slice bs l c ∧ ∃ v' w' ι', (appTail el zeros bs l c n et.size x' s' appended).run P w = .ok v' w' ∧ VR ι' v v' ∧ Rel base ι' H' w' ∧ Step ι ι' H H' w w' := by
  obtain ⟨i2, d2, z2, hi2⟩ := hC.ti het
  unfold appendE.appendTo at h
  rw [Option.bind_eq_some_iff] at h
  obtain ⟨et', het', h⟩ := h
  rw [het] at het'; cases het'
  rw [hadd, Option.bind_some] at h
  split at h
  · rename_i bse len cap
    cases hfit : Nat.ble (len + n) cap with
    | true =>
      rw [hfit, cond_true] at h
      have hfit := nble_le hfit
      split at h
      · -- nil
        cases h
        cases hs
        have hn : n = 0 := by omega
        subst hn
        obtain ⟨N, hN, hv⟩ := happ H w [] hr (newCells0 hadd)
        refine ⟨none, 0, 0, rfl, .slice none 0 0, w, ι, ?_, .nils, hr, Step.refl hr⟩
        simp [appTail, hN]
      · rename_i io o sp
        rw [Option.bind_eq_some_iff] at h
        obtain ⟨new, hnew, h⟩ := h
        obtain ⟨N, hN, hv⟩ := happ H w new hr hnew
        cases hn : Nat.beq n 0 with
        | true =>
          rw [hn, cond_true] at h
          have hn := nbeq_eq hn; subst hn
          cases h
          rw [newCells0 hadd] at hnew
          cases hnew
          have hN0 : N.toList = [] := List.eq_nil_of_length_eq_zero hv.length.symm
          rw [Nat.add_zero] at hfit
          cases hs with
          | @slice _ _ b p _ _ hι =>
            refine ⟨_, _, _, rfl, _, w, ι, ?_, .slice hι, hr, Step.refl hr⟩
            simp only [appTail, Nat.add_zero, hfit, if_true, Sem.run_bind, hN, Result.andThen_ok, hN0, storeCells, Sem.run_pure]
          | @sliceU _ _ b p q _ _ c' zz hι hl hcc hq he =>
            have hfit' : len ≤ c' := by omega
            refine ⟨_, _, _, rfl, _, w, ι, ?_, .sliceU hι hl hcc hq he, hr, Step.refl hr⟩
            simp only [appTail, Nat.add_zero, hfit', if_true, Sem.run_bind, hN, Result.andThen_ok, hN0, storeCells, Sem.run_pure]
        | false =>
          rw [hn, cond_false, Option.map_eq_some_iff] at h
          obtain ⟨H1, hw1, he⟩ := h
          cases he
          have hn0 : n ≠ 0 := fun e => by subst e; cases hn
          cases hs with
          | @slice _ _ b p _ _ hι =>
            obtain ⟨w', e1, e2, e3⟩ := writeCells_run (P := P) hr hι hv hw1
            refine ⟨_, _, _, rfl, .slice (some ⟨b, p + o, none⟩) (len + n) cap, w', ι, ?_, .slice hι, e2, e3⟩
            simp only [appTail, hfit, if_true, Sem.run_bind, hN, Result.andThen_ok, Addr.add_lit]
            rw [Nat.add_assoc, e1]
            rfl
          | @sliceU _ _ b p q _ _ c' zz hι hl hcc hq he =>
            have hq' : q = p + o := by rcases hq with hq | hq <;> omega
            subst hq'
            obtain ⟨w', e1, e2, e3⟩ := writeCells_run (P := P) hr hι hv hw1
            have hfit' : len + n ≤ c' := by omega
            refine ⟨_, _, _, rfl, .slice (some ⟨b, p + o, none⟩) (len + n) c', w', ι, ?_, .sliceU hι hfit hcc (.inr rfl) he, e2, e3⟩
            simp only [appTail, hfit', if_true, Sem.run_bind, hN, Result.andThen_ok, Addr.add_lit]
            rw [Nat.add_assoc, e1]
            rfl
    | false =>
      rw [hfit, cond_false] at h
      have hfit : ¬ len + n ≤ cap := fun e => by rw [Nat.ble_eq_true_of_le e] at hfit; cases hfit
      obtain ⟨hb, h⟩ := bif_some h
      simp only [Bool.and_eq_true] at hb
      have b1 := nble_le hb.1.1.1
      have b2 := nble_le hb.1.1.2
      have b3 := nble_le hb.1.2
      have b4 := nbeq_eq hb.2
      simp only [Option.bind_eq_some_iff] at h
      obtain ⟨old, hold, new, hnew, h⟩ := h
      have hzs : z2.cells.size = et.size := by rw [← Array.length_toList, hi2.zcells, b4]
      have hlold : old.length = len * et.size := firstCellsE_length hold ⟨_, _, _, rfl⟩
      -- what growing comes to, at a real capacity that is too small
      have grow : ∀ (bs : Option Addr) (c' : Nat), s' = .slice bs len c' → ¬ len + n ≤ c' →
          ∃ newCap w2, (appTail el zeros bs len c' n et.size x' s' appended).run P w = .ok (.slice (some ⟨w.heap.size, 0, none⟩) (len + n) newCap) w2 ∧ len + n ≤ newCap ∧
            Rel base (ι.ext H.next (w.heap.size, 0) w.heap.size (newCap * et.size)) (H.new (.cells (old ++ new) false)) w2 ∧
            Step ι (ι.ext H.next (w.heap.size, 0) w.heap.size (newCap * et.size)) H (H.new (.cells (old ++ new) false)) w w2 := by
        intro bs c' hs' hno
        have hgap : ¬ Builtin.nextslicecap (len + n) c' * i2.bytes > 2 ^ 48 := by
          have h1 := nextcap_le hno
          have h2 : Builtin.nextslicecap (len + n) c' * i2.bytes ≤ (2 * (len + n) + 768) * et.bytes := by rw [hi2.bytes]; exact Nat.mul_le_mul_right _ h1
          have : (2 : Nat) ^ 48 = 281474976710656 := by decide
          omega
        have hnb : ¬ ((((len + n : Nat) : Int) > IntKind.i64.max) ∧ (zeros = true ∨ i2.bytes = 0)) := by
          rintro ⟨h1, _⟩
          rw [IntKind.max_i64] at h1
          have h3 : 2 * (len + n) + 768 ≤ (2 * (len + n) + 768) * et.bytes := Nat.le_mul_of_pos_right _ b2
          omega
        obtain ⟨newCap, hcut⟩ : ∃ nc, (Question.appendCap (len + n) c' el).cut (w.tape w.drawn (Question.appendCap (len + n) c' el)) = nc := ⟨_, rfl⟩
        have hle : len + n ≤ newCap := by rw [← hcut]; simp only [Question.cut]; omega
        let w1 : World := { w with drawn := w.drawn + 1 }
        have hr1 : Rel base ι H w1 := hr.ofHeap rfl
        have hs1 : VR ι (.slice bse len cap) (.slice bs len c') := hs' ▸ hs
        obtain ⟨L, hL, hLv⟩ := firstCells_run (P := P) hr1 hs1 hold (fun m hm => by simp only [lenOfE, Option.some.injEq] at hm; omega)
        obtain ⟨N, hN, hNv⟩ := happ H w1 new hr1 hnew
        have hrest : (Builtin.zeroCells z2.cells (newCap - (len + n))).size = (newCap - (len + n)) * et.size := by simp [Builtin.zeroCells, hzs]
        have hNl : N.size = n * et.size := by
          rw [← Array.length_toList, ← hNv.length]
          rcases hxk with ⟨a, l, c, rfl⟩ | ⟨k, m, rfl⟩
          · exact firstCellsE_length (x := .slice a l c) hnew ⟨_, _, _, rfl⟩
          · simp only [newCellsE, Option.some.injEq] at hnew
            rw [← hnew, repeatL_length, b4]
        have hsz : (L.toArray ++ N ++ Builtin.zeroCells z2.cells (newCap - (len + n))).size = newCap * et.size := by
          have h1 : L.length = len * et.size := by rw [← hLv.length, hlold]
          simp only [Array.size_append, List.size_toArray, h1, hNl, hrest, ← Nat.add_mul]
          congr 1
          omega
        have hcat : VRs ι (old ++ new) ((L.toArray ++ N ++ Builtin.zeroCells z2.cells (newCap - (len + n))).toList.take (old ++ new).length) := by
          have h1 : (L.toArray ++ N ++ Builtin.zeroCells z2.cells (newCap - (len + n))).toList = (L ++ N.toList) ++ (Builtin.zeroCells z2.cells (newCap - (len + n))).toList := by simp
          have h2 : (old ++ new).length = (L ++ N.toList).length := (hLv.append hNv).length
          rw [h1, h2, List.take_left]
          exact hLv.append hNv
        have hlen2 : (old ++ new).length ≤ (L.toArray ++ N ++ Builtin.zeroCells z2.cells (newCap - (len + n))).size := by
          have h2 : (old ++ new).length = (L ++ N.toList).length := (hLv.append hNv).length
          rw [h2]; simp
        obtain ⟨e1, e2⟩ := row_run hr1 el hcat hlen2
        rw [hsz] at e1 e2
        refine ⟨newCap, _, ?_, hle, e1, (Step.ofHeap (w1 := w1) hr rfl ⟨rfl, rfl, rfl⟩).trans e2⟩
        have hforced : (Question.appendCap (len + n) c' el).forced = false := rfl
        simp only [appTail, if_neg hno, Sem.run_bind, hi2.run_info, Result.andThen_ok, if_neg hnb, if_neg hgap, Sem.run_pure, run_choose, hforced, Bool.false_eq_true, if_false, hcut, run_askRoom]
        rw [hs', hL]
        simp only [Result.andThen_ok]
        rw [hN]
        simp only [Result.andThen_ok, hi2.run_zero, newRow, Sem.run_bind, run_newObj, Sem.run_pure, World.alloc]
        rfl
      split at h
      · rename_i io o sz _
        split at h
        · rename_i cs hg
          obtain ⟨hbb, h⟩ := bif_some h
          simp only [Bool.and_eq_true] at hbb
          have hszz := nbeq_eq hbb.1
          rw [Option.map_eq_some_iff] at h
          obtain ⟨H1, hu, he⟩ := h
          cases he
          cases hs with
          | @sliceU _ _ b p q _ _ c' zz hι hl hcc hq hee =>
            by_cases hin : len + n ≤ c'
            · -- in place
              obtain ⟨N, hN, hNv⟩ := happ H w new hr hnew
              obtain ⟨L, hL, hLv⟩ := firstCells_run (P := P) hr (VR.sliceU hι hl hcc hq hee) hold (fun m hm => by simp only [lenOfE, Option.some.injEq] at hm; omega)
              have hlN : N.size = n * et.size := by
                rw [← Array.length_toList, ← hNv.length]
                rcases hxk with ⟨a, l, c, rfl⟩ | ⟨k, m, rfl⟩
                · exact firstCellsE_length (x := .slice a l c) hnew ⟨_, _, _, rfl⟩
                · simp only [newCellsE, Option.some.injEq] at hnew
                  rw [← hnew, repeatL_length, b4]
              obtain ⟨D, E, fz, d1, d2, ⟨d3, d4⟩, d5⟩ := hr.ob io _ b p hg hι
              have hend : q + c' * et.size = D.size := by
                rw [d4]
                rcases hee with hee | hee
                · omega
                · rw [← hee, hszz]
              have hmul : len * et.size + n * et.size ≤ c' * et.size := by rw [← Nat.add_mul]; exact Nat.mul_le_mul_right _ hin
              have hNlen : N.toList.length = n * et.size := by rw [Array.length_toList]; exact hlN
              obtain ⟨w', D', e1, e2, e3, e4, e5, e6, e7⟩ := storeCells_run (P := P) (o := q + len * et.size) (d2 rfl) N.toList 0 w D d1 (by rw [hNlen]; omega) (hNv.allOne hbb.2)
              have hob : ObR (ι.ext H.next (b, q) w.heap.size 0) w' (.cells (old ++ new) false) b q := by
                have hle : ι.le (ι.ext H.next (b, q) w.heap.size 0) := Emb.le_ext (b, q) 0 (hr.dom _ (Nat.le_refl _)) (fun j c p hj e => by have := hr.bnd j c p hj; omega)
                refine ⟨D', E, fz, e2, d2, ⟨?_, ?_⟩, fun k v hk => ?_⟩
                · rw [e3, List.length_append, hlold, hNv.length, hNlen]; omega
                · rw [e3, d4]; exact (hle io b p hι).2.symm
                · rw [e4]
                  by_cases hk1 : k < old.length
                  · rw [List.getElem?_append_left hk1] at hk
                    rw [if_neg (by rw [hlold] at hk1; omega)]
                    have hq' : q = p + o := by
                      rcases hq with hq | hq
                      · exfalso
                        have : len = 0 := by omega
                        rw [hlold, this] at hk1; omega
                      · exact hq
                    unfold firstCellsE at hold
                    cases hl0 : Nat.beq len 0 with
                    | true =>
                      exfalso
                      rw [hlold, nbeq_eq hl0] at hk1; omega
                    | false =>
                      simp only [hl0, cond_false] at hold
                      unfold readCells at hold
                      rw [hg] at hold
                      simp only at hold
                      obtain ⟨hle2, hold2⟩ := lrange_some hold
                      have hkk : k < len * et.size := by rw [← hlold]; exact hk1
                      rw [hold2, List.getElem?_take, if_pos hkk, List.getElem?_drop] at hk
                      obtain ⟨v', g1, g2⟩ := d5 _ _ hk
                      refine ⟨v', ?_, g2.mono hle⟩
                      rw [hq', Nat.add_assoc]; exact g1
                  · have hk1 := Nat.le_of_not_lt hk1
                    rw [List.getElem?_append_right hk1, hlold] at hk
                    obtain ⟨v', g1, g2⟩ := hNv.get? hk
                    have hkn : k - len * et.size < n * et.size := by
                      have := (List.getElem?_eq_some_iff.1 g1).1
                      rw [hNlen] at this; exact this
                    rw [hlold] at hk1
                    refine ⟨v', ?_, g2.mono hle⟩
                    rw [if_pos (by rw [hNlen]; omega), show q + k - (q + len * et.size + 0) = k - len * et.size by omega]
                    exact g1
              obtain ⟨f1, f2⟩ := hr.regrow hg hι hu e5 e6 e7 hob
              refine ⟨_, _, _, rfl, .slice (some ⟨b, q, none⟩) (len + n) c', w', _, ?_, ?_, f1, f2⟩
              · simp only [appTail, hin, if_true, Sem.run_bind, hN, Result.andThen_ok, Addr.add_lit, e1, Sem.run_pure]
              · refine .sliceU (o := 0) (p := q) (Emb.ext_self _ _ _ _ _) (Nat.le_refl _) hin (.inr rfl) ?_
                right
                rw [Emb.ext_sz_ne _ _ _ _ (by have := hr.bnd io b p hι; omega), hend, d4]
            · obtain ⟨newCap, w2, e1, e2, e3, e4⟩ := grow _ c' rfl hin
              have hne : io ≠ H.next := by have := hr.lt hι; omega
              have hg2 : (H.new (.cells (old ++ new) false)).get io = some (.cells cs false) := by rw [Hp.get_new, if_neg hne]; exact hg
              have hι2 : (ι.ext H.next (w.heap.size, 0) w.heap.size (newCap * et.size)) io = some (b, p) := by rw [Emb.ext_ne _ _ _ _ hne]; exact hι
              obtain ⟨f1, f2⟩ := e3.write hg2 rfl hι2 hu (w' := w2) ⟨rfl, rfl, rfl⟩ rfl (fun _ _ => rfl) trivial (fun L hL => ⟨L, hL⟩)
              exact ⟨_, _, _, rfl, _, w2, _, e1, VR.newSliceU ι H.next w.heap.size _ _ _ newCap et.size (Nat.le_refl _) e2 rfl, f1, e4.trans f2⟩
        · cases h
      · rename_i hnb
        cases h
        have hs2 : ∃ bs, s' = .slice bs len cap := by
          cases hs with
          | nils => exact ⟨_, rfl⟩
          | slice hι => exact ⟨_, rfl⟩
          | sliceU => exact absurd rfl (hnb _ _ _)
        obtain ⟨bs, hs2⟩ := hs2
        obtain ⟨newCap, w2, e1, e2, e3, e4⟩ := grow bs cap hs2 hfit
        exact ⟨_, _, _, hs2, _, w2, _, e1, VR.newSliceU ι H.next w.heap.size _ _ _ newCap et.size (Nat.le_refl _) e2 rfl, e3, e4⟩
  · cases h
end
end Go.Ahe
