/-
  AHE, 20d: regions that draw their order: every order.
-/
import Derived.Test.YthfmdomnoheklaaDoorZaheD3
namespace Go.Ahe
open Go.RowKit

section
variable {P : Program} {C : Ctx} (hC : Fits C P) {base : Nat} {call : CallE} (hcall : CallOk P call) {ops : Array Oper} {ms : List Nat} {E : Nat → Env} {K : Nat → Hp} {V : Nat → Value} {EW : Nat → Prop} (T : Tc C call ops ms E K V EW)
  (hreg : RegOk ops ms) (hf : HF ops.size K EW) (hbd : ∀ k, k ≤ ops.size → ∀ t, t < (E k).size → Bd (K k).next ((E k).get t)) (hsize : ∀ k, k ≤ ops.size → (E k).size = (E 0).size)
  {ι0 : Emb} {w0 : World} {d0 : List Deferred} {D : Nat → Prop} {a : Act} {w : World} {q : Nat} {ι : Emb} (I : Inv base ops E K V EW ι0 w0 d0 D a w q ι) {k : Nat} {o : Oper} (hk : ops[k]? = some o) (hD : ¬ D k)
  (hrd : ∀ e ∈ o.after, Region.binds .any e = true → D e.on) {r : Option Nat} {Q : Exit → Act → World → Prop} {next : Act → World → Prop}
  (hnext : ∀ a' w' q' ι', Inv base ops E K V EW ι0 w0 d0 (fun j => D j ∨ j = k) a' w' q' ι' → next a' w')
include hC hcall T hreg hf hbd hsize I hk hD hrd hnext

/-- Run in a heap of the stage, it hands back what the walk says. -/
theorem step_read {m : Nat} (hmq : m ≤ q) (hmno : ∀ j, m ≤ j → j < q → ¬ EW j) (hew : ¬ EW k) (hop : OpsR (ι.cut (K m).next) (E k) a o.op.operands.toList) (hev : opE C call o.op o.type (E k) (K m).raised = some (V k, (K m).raised)) : o.wpIn (Fr r) 0 P a w next Q := by
  have _ := T
  have _ := hbd
  have _ := hsize
  have Rm := I.fam m hmq hmno
  refine (opE_run' hC Rm.raised hcall hop hev).wp (opE_defer hev) fun v' ι1 w' g1 g2 g3 => ?_
  obtain ⟨q', ι', I'⟩ := inv_read hreg hf I hk hD hrd hmq hmno hew g1 g2 g3 (hf.nextle hmq I.qn) (fun m' h1 h2 h3 => .inr ⟨hf.nextle (by omega) (Nat.le_trans h2 I.qn), fun i hi => hf.agree (by omega) (Nat.le_trans h2 I.qn) (fun j h4 h5 => hmno j h4 (by omega)) i hi⟩)
    (fun i h1 h2 => by have h2 : i < (K m).next := h2; omega)
  exact hnext _ _ _ _ I'

theorem step_one : wpOpIn (Fr r) 0 P ops Q k next a w := by
  have hkn : k < ops.size := (Array.getElem?_eq_some_iff.1 hk).1
  unfold wpOpIn
  rw [hk]
  simp only
  cases hw : wantE ops o (E k) with
  | false =>
    obtain ⟨e1, e2, e3⟩ := T.skip k o hk hw
    rw [if_neg (by rw [wantD T hreg hsize I hk hD hrd hw]; decide)]
    refine ⟨fun _ _ => trivial, hnext _ _ q ι (inv_done hreg I hk hD hrd (fun _ _ h => h) (by rw [e1]; exact .undef) I.qn I.qe (fun j h1 h2 => .inl (I.lo j h1 h2)) (fun j h1 h2 h3 => ?_) I.fam I.dom (fun j hj hnd _ => I.free j hj hnd) I.step)⟩
    rcases h3 with h3 | rfl
    · exact I.hi j h1 h2 h3
    · exact e3 h1
  | true =>
    rw [if_pos (wantD T hreg hsize I hk hD hrd hw)]
    by_cases hew : EW k
    · -- it writes: it is the next that does
      obtain ⟨_, hev, hwr, hoth⟩ := T.wr k o hk hew
      have hqk : q = k := by
        have h1 : q ≤ k := Nat.le_of_not_lt fun h => hD (I.lo k hew h)
        rcases Nat.lt_or_ge q k with h2 | h2
        · exfalso
          have hEq : EW q := I.qe.resolve_left (by omega)
          have hq : ops[q]? = some ops[q] := Array.getElem?_eq_getElem (by omega)
          have hwq := writer_not (T.wr q _ hq hEq).2.2.1
          rcases hoth q _ hq (by omega) with h3 | h3 | h3
          · rw [hwq.1] at h3; cases h3
          · rw [hwq.2] at h3; cases h3
          · exact I.hi q hEq (Nat.le_refl _) (ahead hreg I hk hrd (ord_gt h3 h2))
        · omega
      subst hqk
      have Rq : Rel base ι (K q) w := by
        have := I.fam q (Nat.le_refl _) (fun j h1 h2 => by omega)
        rwa [Emb.cut_all I.dom] at this
      refine (opE_run' hC Rq hcall (opsD_R T hreg hsize I hk hD hrd) hev).wp (opE_defer hev) fun v' ι' w' g1 g2 g3 => ?_
      obtain ⟨q', ⟨p1, p2⟩, p3⟩ := least_exists (p := fun j => q + 1 ≤ j ∧ (j = ops.size ∨ EW j)) ops.size ⟨by omega, .inl rfl⟩
      have hq'n : q' ≤ ops.size := p3 _ ⟨by omega, .inl rfl⟩
      have hno : ∀ j, q + 1 ≤ j → j < q' → ¬ EW j := fun j h1 h2 h3 => by have := p3 j ⟨h1, .inr h3⟩; omega
      have hle := g3.le Rq
      have S' : Step ι0 ι' (K 0) (K (q + 1)) w0 w' := I.step.trans g3
      have hgq : ∀ i, i < (K (q + 1)).next → (K q').get i = (K (q + 1)).get i := hf.agree p1 hq'n hno
      refine hnext _ _ q' ι' (inv_done hreg I hk hD hrd (fun _ _ h => h.mono hle) g1 hq'n p2 (fun j h1 h2 => ?_) (fun j h1 h2 h3 => ?_) (fun m h1 h2 => ?_) (fun i hi => ?_) (fun j hj hnd hne i h1 h2 => ?_) ?_)
      · rcases Nat.lt_trichotomy j q with h3 | h3 | h3
        · exact .inl (I.lo j h1 h3)
        · exact .inr h3
        · exact absurd h1 (hno j (by omega) h2)
      · rcases h3 with h3 | h3
        · exact I.hi j h1 (by omega) h3
        · omega
      · have hm : q + 1 ≤ m := Nat.le_of_not_lt fun h => h2 q (by omega) (by omega) hew
        have hmn : m ≤ ops.size := Nat.le_trans h1 hq'n
        rw [Emb.cut_all (fun i hi => g2.dom i (Nat.le_trans (hf.nextle hm hmn) hi))]
        exact g2.grow (hf.nextle hm hmn) (hf.flo m hmn) (hf.agree hm hmn fun j h3 h4 => hno j h3 (by omega))
      · exact g2.dom i (Nat.le_trans (hf.nextle p1 hq'n) hi)
      · rcases Nat.lt_or_ge i (K (q + 1)).next with h3 | h3
        · rcases Nat.lt_or_ge i (K q).next with h4 | h4
          · rw [g3.emb i h4]; exact I.free j hj hnd i h1 h2
          · exfalso
            rcases Nat.lt_or_gt_of_ne hne with hlt | hgt
            · have := hf.nextle (k := j + 1) (m := q) (by omega) (by omega); omega
            · have := hf.nextle (k := q + 1) (m := j) (by omega) (by omega); omega
        · exact g2.dom i h3
      · exact Step.grow g2 S' (hf.flo 0 (Nat.zero_le _)) (hf.nextle p1 hq'n) (hf.flooreq p1 hq'n) hgq
    · obtain ⟨H1, hev, hK1⟩ := T.md k o hk hw hew
      cases hp : pureOp o.op with
      | true =>
        have h1 := pure_any hp hev (K q).raised
        refine step_read hC hcall T hreg hf hbd hsize I hk hD hrd hnext (m := q) (Nat.le_refl _) (fun j h1 h2 => by omega) hew ?_ h1
        rw [Emb.cut_all I.dom]
        exact opsD_R T hreg hsize I hk hD hrd
      | false =>
        have hqk : q ≠ k := fun e => by
          subst e
          rcases I.qe with h | h
          · omega
          · exact hew h
        cases hr : readerOp o.op with
        | true =>
          by_cases hA : ∃ j, EW j ∧ j < k ∧ ¬ D j
          · -- the write that comes next stands ahead of it in the text
            obtain ⟨j, j1, j2, j3⟩ := hA
            have hqj : q ≤ j := Nat.le_of_not_lt fun h => j3 (I.lo j j1 h)
            have hEq : EW q := I.qe.resolve_left (by omega)
            have hqk' : q < k := by omega
            rcases T.was q k o hk hw hr hEq hqk' with h3 | ⟨u, H2, h3, h4⟩
            · exact absurd (ahead hreg I hk hrd (ord_lt h3 hqk')) (I.hi q hEq (Nat.le_refl _))
            · have := valEq_eq h4; subst this
              refine step_read hC hcall T hreg hf hbd hsize I hk hD hrd hnext (m := q) (Nat.le_refl _) (fun j h1 h2 => by omega) hew ?_ (reader_any hr h3).2
              rw [Emb.cut_all I.dom]
              exact opsD_R T hreg hsize I hk hD hrd
          · have hkq : k < q := by
              rcases Nat.lt_or_ge k q with h | h
              · exact h
              · exfalso
                have hEq : EW q := I.qe.resolve_left (by omega)
                exact hA ⟨q, hEq, by omega, I.hi q hEq (Nat.le_refl _)⟩
            by_cases hB : ∃ j, EW j ∧ k < j ∧ j < q
            · -- a write behind it in the text has been done: the last such
              obtain ⟨j0, b1, b2, b3⟩ := hB
              obtain ⟨d, ⟨j, c1, c2⟩, c3⟩ := least_exists (p := fun d => ∃ j, EW j ∧ j + d + 1 = q) (q - j0 - 1) ⟨j0, b1, by omega⟩
              have hmax : ∀ j', EW j' → j' < q → j' ≤ j := fun j' h1 h2 => by
                have := c3 (q - j' - 1) ⟨j', h1, by omega⟩
                omega
              have hkj : k < j := by have := hmax j0 b1 b3; omega
              obtain ⟨oj, hjs⟩ : ∃ oj, ops[j]? = some oj := ⟨_, Array.getElem?_eq_getElem (T.lt j c1)⟩
              rcases T.still j k o hk hw hr c1 hkj with h3 | ⟨u, H2, h3, h4⟩
              · exact absurd (I.lo j c1 (by omega)) (behind hreg I hD hjs (ord_gt h3 hkj))
              · have := valEq_eq h4; subst this
                have hj1 : j + 1 ≤ ops.size := T.lt j c1
                refine step_read hC hcall T hreg hf hbd hsize I hk hD hrd hnext (m := j + 1) (by omega) (fun j' h1 h2 h5 => by have := hmax j' h5 h2; omega) hew (opsD_cut T hreg hbd hsize I hk hD hrd (hf.nextle (by omega) hj1)) (reader_any hr h3).2
            · have hno : ∀ j, k ≤ j → j < q → ¬ EW j := fun j h1 h2 h3 => by
                by_cases e : j = k
                · subst e; exact hew h3
                · exact hB ⟨j, h3, by omega, h2⟩
              have h5 := reader_any hr hev
              rw [h5.1] at hev
              exact step_read hC hcall T hreg hf hbd hsize I hk hD hrd hnext (m := k) (by omega) hno hew (opsD_cut T hreg hbd hsize I hk hD hrd (Nat.le_refl _)) hev
        | false =>
          have hkq : k < q := by
            rcases Nat.lt_or_ge k q with h | h
            · exact h
            · exfalso
              have hEq : EW q := I.qe.resolve_left (by omega)
              have hq : ops[q]? = some ops[q] := Array.getElem?_eq_getElem (by omega)
              rcases (T.wr q _ hq hEq).2.2.2 k o hk (by omega) with h3 | h3 | h3
              · rw [hp] at h3; cases h3
              · rw [hr] at h3; cases h3
              · exact I.hi q hEq (Nat.le_refl _) (ahead hreg I hk hrd (ord_lt h3 (by omega)))
          have hno : ∀ j, k ≤ j → j < q → ¬ EW j := fun j h1 h2 h3 => by
            by_cases e : j = k
            · subst e; exact hew h3
            · obtain ⟨oj, hjs⟩ : ∃ oj, ops[j]? = some oj := ⟨_, Array.getElem?_eq_getElem (T.lt j h3)⟩
              rcases (T.wr j _ hjs h3).2.2.2 k o hk (by omega) with h4 | h4 | h4
              · rw [hp] at h4; cases h4
              · rw [hr] at h4; cases h4
              · exact behind hreg I hD hjs (ord_gt h4 (by omega)) (I.lo j h3 h2)
          have Rm := I.fam k (by omega) hno
          have hnx : (K (k + 1)).next = H1.next := by rw [hK1]; rfl
          have hgx : ∀ i, (K (k + 1)).get i = H1.get i := fun i => by rw [hK1]; rfl
          refine (opE_run' hC Rm.raised hcall (opsD_cut T hreg hbd hsize I hk hD hrd (Nat.le_refl _)) hev).wp (opE_defer hev) fun v' ι1 w' g1 g2 g3 => ?_
          obtain ⟨q', ι', I'⟩ := inv_read hreg hf I hk hD hrd (m := k) (by omega) hno hew g1 g2 g3 (by rw [← hnx]; exact hf.nextle (by omega) I.qn)
            (fun m' h1 h2 h3 => .inr ⟨by rw [← hnx]; exact hf.nextle (by omega) (Nat.le_trans h2 I.qn), fun i hi => by
              rw [← hgx]; exact hf.agree (by omega) (Nat.le_trans h2 I.qn) (fun j h4 h5 => hno j (by omega) (by omega)) i (by rw [hnx]; exact hi)⟩)
            (fun i h1 h2 => ⟨h1, by rw [hnx]; exact h2⟩)
          exact hnext _ _ _ _ I'
end

section
variable {P : Program} {C : Ctx} (hC : Fits C P) {base : Nat} {call : CallE} (hcall : CallOk P call) {ops : Array Oper} {ms : List Nat} {E : Nat → Env} {K : Nat → Hp} {V : Nat → Value} {EW : Nat → Prop} (T : Tc C call ops ms E K V EW)
  (hreg : RegOk ops ms) (hf : HF ops.size K EW) (hbd : ∀ k, k ≤ ops.size → ∀ t, t < (E k).size → Bd (K k).next ((E k).get t)) (hsize : ∀ k, k ≤ ops.size → (E k).size = (E 0).size)
  {ι0 : Emb} {w0 : World} {d0 : List Deferred} {r : Option Nat} {Q : Exit → Act → World → Prop}
  (hQ : ∀ ι' a' w', EnvR ι' (E ops.size) a'.tmps → Rel base ι' (K ops.size) w' → Step ι0 ι' (K 0) (K ops.size) w0 w' → a'.defers = d0 → Q .normal a' w')
include hC hcall T hreg hf hbd hsize hQ

omit hC hcall hf hbd in
theorem inv_end {D : Nat → Prop} {a : Act} {w : World} {q : Nat} {ι : Emb} (I : Inv base ops E K V EW ι0 w0 d0 D a w q ι) (hall : ∀ k, k < ops.size → D k) : Q .normal a w := by
  have hq : q = ops.size := by
    rcases I.qe with h | h
    · exact h
    · exact absurd (hall q (T.lt q h)) (I.hi q h (Nat.le_refl _))
  subst hq
  have R := I.fam ops.size (Nat.le_refl _) (fun j h1 h2 => by omega)
  rw [Emb.cut_all I.dom] at R
  have hs := hsize ops.size (Nat.le_refl _)
  refine hQ ι a w ⟨by rw [hs, I.size], fun t ht => ?_⟩ R I.step I.defers
  rw [hs] at ht
  obtain ⟨s1, s2⟩ := env_spec T hreg ops.size (Nat.le_refl _) t
  by_cases hex : ∃ (j : Nat) (x : Oper), ops[j]? = some x ∧ x.dst = some t
  · obtain ⟨j, x, hj, hx⟩ := hex
    have hjn : j < ops.size := (Array.getElem?_eq_some_iff.1 hj).1
    rw [s1 j x hjn hj hx]
    exact I.tw j x t hj (hall j hjn) hx ht
  · rw [s2 fun i y _ hiy hy => hex ⟨i, y, hiy, hy⟩]
    exact I.tn t ht fun i y hi _ hy => hex ⟨i, y, hi, hy⟩

theorem any_order : ∀ (fuel : Nat) (U : List Nat) (listed : Array Bool) (a : Act) (w : World) (q : Nat) (ι : Emb), U.length ≤ fuel → U.Nodup → (∀ k, k < ops.size → (listed.getD k true = false ↔ k ∈ U)) → (∀ k ∈ U, k < ops.size) → listed.size = ops.size →
    Inv base ops E K V EW ι0 w0 d0 (fun k => listed.getD k false = true) a w q ι → wpAnyIn (Fr r) 0 P .any ops Q fuel listed a w := by
  intro fuel
  induction fuel with
  | zero =>
    intro U listed a w q ι hl hn hU hlt hsz I
    have hU0 : U = [] := List.eq_nil_of_length_eq_zero (by omega)
    subst hU0
    have hall : ∀ k, k < ops.size → listed.getD k true = true := fun k hk => by
      cases h : listed.getD k true with
      | true => rfl
      | false => exact absurd ((hU k hk).1 h) (by simp)
    refine ⟨?_, inv_end T hreg hsize hQ I fun k hk => ?_⟩
    · rw [List.eq_nil_iff_forall_not_mem]
      intro j hj
      obtain ⟨h1, o, h2, _⟩ := mem_ready.1 hj
      rw [hall j (Array.getElem?_eq_some_iff.1 h2).1] at h1; cases h1
    · have h1 := hall k hk
      rw [Array.getD_eq_getD_getElem?, Array.getElem?_eq_getElem (by omega)] at h1 ⊢
      exact h1
  | succ fuel ih =>
    intro U listed a w q ι hl hn hU hlt hsz I
    have hDU : ∀ k, k < ops.size → (¬ listed.getD k false = true ↔ k ∈ U) := fun k hk => by
      rw [← hU k hk, Array.getD_eq_getD_getElem?, Array.getD_eq_getD_getElem?, Array.getElem?_eq_getElem (by omega)]
      simp
    refine ⟨fun hnil => ?_, fun k hk => ?_⟩
    · refine inv_end T hreg hsize hQ I fun k hk => ?_
      -- the least that is left could come next
      refine Classical.byContradiction fun hnd => ?_
      obtain ⟨j, ⟨j1, j2⟩, j3⟩ := least_exists (p := fun j => j < ops.size ∧ ¬ listed.getD j false = true) k ⟨hk, hnd⟩
      have ho : ops[j]? = some ops[j] := Array.getElem?_eq_getElem j1
      have : j ∈ Region.ready .any ops listed := mem_ready.2 ⟨(hU j j1).2 ((hDU j j1).1 j2), _, ho, fun e he hb => by
        have hlt := hreg.back j _ ho e he hb
        refine Classical.byContradiction fun hne => ?_
        have := j3 e.on ⟨by omega, hne⟩
        omega⟩
      rw [hnil] at this; cases this
    · obtain ⟨h1, o, h2, h3⟩ := mem_ready.1 hk
      have hkn : k < ops.size := (Array.getElem?_eq_some_iff.1 h2).1
      have hkU : k ∈ U := (hU k hkn).1 h1
      refine step_one hC hcall T hreg hf hbd hsize I h2 ((hDU k hkn).2 hkU) h3 fun a' w' q' ι' I' => ?_
      refine ih (U.erase k) (listed.setIfInBounds k true) a' w' q' ι' ?_ (hn.erase k) (fun j hj => ?_) (fun j hj => hlt j (List.mem_of_mem_erase hj)) (by simp [hsz]) ?_
      · rw [List.length_erase_of_mem hkU]; omega
      · rw [hn.mem_erase_iff, ← hU j hj]
        by_cases e : j = k
        · subst e
          simp [Array.getD_eq_getD_getElem?, hsz, hkn]
        · rw [Array.getD_eq_getD_getElem?, Array.getElem?_setIfInBounds_ne (Ne.symm e), ← Array.getD_eq_getD_getElem?]
          simp [e]
      · have hfun : (fun j => (listed.setIfInBounds k true).getD j false = true) = (fun j => listed.getD j false = true ∨ j = k) := by
          funext j
          apply propext
          by_cases e : j = k
          · subst e
            simp [Array.getD_eq_getD_getElem?, hsz, hkn]
          · rw [Array.getD_eq_getD_getElem?, Array.getElem?_setIfInBounds_ne (Ne.symm e), ← Array.getD_eq_getD_getElem?]
            simp [e]
        rw [hfun]; exact I'
end

section
variable {P : Program} {C : Ctx} (hC : Fits C P) {base lo : Nat} {call : CallE} (hcall : CallOk P call) {r : Option Nat}
include hC hcall
theorem code_draw {id : Nat} {ops : Array Oper} : CodeOk P C call base lo r (.region id ops true) := fun e H res h ι a w he hr hm hl => by
  have h : (match opsD C call ops e H with
        | some (e', H') => some (Rs.nx e' H')
        | none => none) = some res := h
  split at h
  · rename_i e' H' hop
    cases h
    unfold opsD at hop
    split at hop
    · rename_i hreg0
      split at hop
      · rename_i s hrun
        cases hop
        have hreg := RegOk.of hreg0
        obtain ⟨E, K, V, EW, rfl, rfl, hE, hK, T⟩ := runD_tc hrun
        obtain ⟨hf, hbd, hsize⟩ := tc_heaps hC hcall T hr he
        refine wpIn_region_any hC.mixed ?_
        let w1 : World := { w with drawn := w.drawn + 1 }
        have hr1 : Rel base ι (K 0) w1 := hr.ofHeap rfl
        have hs1 : Step ι ι (K 0) (K 0) w w1 := Step.ofHeap hr rfl ⟨rfl, rfl, rfl⟩
        obtain ⟨q, p1, p3⟩ := least_exists (p := fun j => j = ops.size ∨ EW j) ops.size (.inl rfl)
        have hqn : q ≤ ops.size := p3 _ (.inl rfl)
        have hno : ∀ j, j < q → ¬ EW j := fun j h1 h2 => by have := p3 j (.inr h2); omega
        have hnd : ∀ k, ¬ (Array.replicate ops.size false).getD k false = true := fun k => by
          rw [Array.getD_eq_getD_getElem?, Array.getElem?_replicate]
          split <;> simp
        refine any_order (base := base) hC hcall T hreg hf hbd hsize (ι0 := ι) (w0 := w) (d0 := a.defers) (fun ι' a' w' g1 g2 g3 g4 => ?_) ops.size (List.range ops.size) _ a w1 q ι (by simp) List.nodup_range (fun k hk => ?_) (fun k hk => by simpa using hk) (by simp) ?_
        · rw [hE] at g1
          rw [hK] at g2 g3
          exact ⟨_, _, ι', rfl, g1, g2, g3, by rw [g4]; exact hm.step hr g3⟩
        · rw [Array.getD_eq_getD_getElem?, Array.getElem?_replicate, if_pos hk]
          simp [hk]
        · exact {
            cl := fun i o _ hd => absurd hd (hnd i)
            qn := hqn
            qe := p1
            lo := fun j h1 h2 => absurd h1 (hno j h2)
            hi := fun j _ _ => hnd j
            fam := fun m h1 _ => by
              have hmn : m ≤ ops.size := Nat.le_trans h1 hqn
              rw [Emb.cut_all (fun i hi => hr1.dom i (Nat.le_trans (hf.nextle (Nat.zero_le m) hmn) hi))]
              exact hr1.grow (hf.nextle (Nat.zero_le m) hmn) (hf.flo m hmn) (hf.agree (Nat.zero_le m) hmn fun j _ h4 => hno j (by omega))
            dom := fun i hi => hr1.dom i (Nat.le_trans (hf.nextle (Nat.zero_le q) hqn) hi)
            free := fun k hk _ i h1 _ => hr1.dom i (Nat.le_trans (hf.nextle (Nat.zero_le k) (by omega)) h1)
            step := Step.grow hr1 hs1 hr.flo (hf.nextle (Nat.zero_le q) hqn) (hf.flooreq (Nat.zero_le q) hqn) (hf.agree (Nat.zero_le q) hqn fun j _ h4 => hno j h4)
            size := he.1.symm
            tw := fun k o t _ hd => absurd hd (hnd k)
            tn := fun t ht _ => he.2 t ht
            defers := rfl }
      · cases hop
    · cases hop
  · cases h
end
end Go.Ahe
