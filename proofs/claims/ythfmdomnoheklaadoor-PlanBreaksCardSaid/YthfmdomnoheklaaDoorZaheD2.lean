/-
  AHE, 20b: regions that draw their order: a ghost's walk in the text's order; embeddings cut and laid over.
-/
import Derived.Test.YthfmdomnoheklaaDoorZaheD1
namespace Go.Ahe
open Go.RowKit

theorem RunsAs.ghost {P : Program} {base : Nat} {ι : Emb} {H H' : Hp} {w : World} {v : Value} {s : Sem Next} (h : RunsAs P base ι H H' w v s) : ∃ v' w' ι', VR ι' v v' ∧ Rel base ι' H' w' ∧ Step ι ι' H H' w w' := by
  obtain ⟨nx, w1, _, h2⟩ := h
  have key : ∀ e w', PostOf base ι H H' w v e w' → ∃ v' w' ι', VR ι' v v' ∧ Rel base ι' H' w' ∧ Step ι ι' H H' w w' := fun e w' h => by
    cases e with
    | returned v' => obtain ⟨ι', g⟩ := h; exact ⟨v', w', ι', g⟩
    | panicked c => exact h.elim
    | outgrown => exact h.elim
  cases nx with
  | value v' => exact key (.returned v') w1 h2
  | skip => exact key (.returned undef) w1 h2
  | enter f args => obtain ⟨e, w', fr, hR, _⟩ := h2.2 [] (room_wide _); exact key e w' hR
  | round l f tmps as body => obtain ⟨e, w', hR, _⟩ := h2.2 default [] (room_wide _); exact key e w' hR
  | _ => exact h2.elim

/-- What the walk's heaps keep. -/
structure HF (n : Nat) (K : Nat → Hp) (EW : Nat → Prop) : Prop where
  flo : ∀ k, k ≤ n → (K k).floor ≤ (K k).next
  next : ∀ k, k < n → (K k).next ≤ (K (k + 1)).next
  floor : ∀ k, k < n → (K (k + 1)).floor = (K k).floor
  low : ∀ k, k < n → ∀ i, i < (K k).floor → (K (k + 1)).get i = (K k).get i
  keep : ∀ k, k < n → ¬ EW k → ∀ i, i < (K k).next → (K (k + 1)).get i = (K k).get i

/-- Values whose ids are below a bound. -/
def Bd (n : Nat) (v : Value) : Prop := ∃ (ι : Emb) (v' : Value), VR ι v v' ∧ ∀ i, n ≤ i → ι i = none

theorem Rel.raised {base : Nat} {ι : Emb} {H : Hp} {w : World} (hr : Rel base ι H w) : Rel base ι H.raised w :=
  ⟨Nat.le_refl _, hr.dom, hr.bnd, hr.ob, hr.inj, hr.bas, hr.bs⟩

theorem Rel.lowered {base : Nat} {ι : Emb} {H : Hp} {w : World} (hr : Rel base ι H w) {f : Nat} (hf : f ≤ H.next) : Rel base ι (H.lowered f) w :=
  ⟨hf, hr.dom, hr.bnd, hr.ob, hr.inj, hr.bas, hr.bs⟩

section
variable {P : Program} {C : Ctx} (hC : Fits C P) {base : Nat} {call : CallE} (hcall : CallOk P call) {ops : Array Oper} {ms : List Nat} {E : Nat → Env} {K : Nat → Hp} {V : Nat → Value} {EW : Nat → Prop} (T : Tc C call ops ms E K V EW)
include hC hcall T

theorem tc_heaps {ι : Emb} {a : Act} {w : World} (hr : Rel base ι (K 0) w) (he : EnvR ι (E 0) a.tmps) : HF ops.size K EW ∧ (∀ k, k ≤ ops.size → ∀ t, t < (E k).size → Bd (K k).next ((E k).get t)) ∧ ∀ k, k ≤ ops.size → (E k).size = (E 0).size := by
  have key : ∀ k, k ≤ ops.size → (∃ (ι : Emb) (a : Act) (w : World), EnvR ι (E k) a.tmps ∧ Rel base ι (K k) w) ∧ (∀ j, j < k → ((K j).next ≤ (K (j + 1)).next ∧ (K (j + 1)).floor = (K j).floor ∧ (∀ i, i < (K j).floor → (K (j + 1)).get i = (K j).get i) ∧ (¬ EW j → ∀ i, i < (K j).next → (K (j + 1)).get i = (K j).get i) ∧ (E (j + 1)).size = (E j).size)) ∧
      (∀ j, j ≤ k → (K j).floor ≤ (K j).next ∧ ∀ t, t < (E j).size → Bd (K j).next ((E j).get t)) := by
    intro k
    induction k with
    | zero =>
      intro _
      refine ⟨⟨ι, a, w, he, hr⟩, fun j hj => by omega, fun j hj => ?_⟩
      have : j = 0 := by omega
      subst this
      exact ⟨hr.flo, fun t ht => ⟨ι, _, he.2 t ht, hr.dom⟩⟩
    | succ k ih =>
      intro hk
      obtain ⟨⟨ι, a, w, he, hr⟩, h2, h3⟩ := ih (by omega)
      have ho : ops[k]? = some ops[k] := Array.getElem?_eq_getElem (by omega)
      generalize ops[k] = o at ho
      have hput := T.put k o ho
      have hsz : (E (k + 1)).size = (E k).size := by
        cases hd : o.dst with
        | none => rw [hd] at hput; simp only [Env.put, Option.some.injEq] at hput; rw [hput]
        | some t => rw [hd] at hput; exact (Env.set_some hput).2.1
      suffices fin : ∃ (ι' : Emb) (v' : Value) (w' : World), VR ι' (V k) v' ∧ Rel base ι' (K (k + 1)) w' ∧ EnvR ι' (E k) a.tmps ∧
          ((K k).next ≤ (K (k + 1)).next ∧ (K (k + 1)).floor = (K k).floor ∧ (∀ i, i < (K k).floor → (K (k + 1)).get i = (K k).get i) ∧ (¬ EW k → ∀ i, i < (K k).next → (K (k + 1)).get i = (K k).get i)) by
        obtain ⟨ι', v', w', g1, g2, g3, g4⟩ := fin
        have hen : EnvR ι' (E (k + 1)) (a.put o.dst v').tmps := g3.put hput g1
        refine ⟨⟨ι', a.put o.dst v', w', hen, g2⟩, fun j hj => ?_, fun j hj => ?_⟩
        · rcases Nat.lt_or_ge j k with hlt | hge
          · exact h2 j hlt
          · have : j = k := by omega
            subst this
            exact ⟨g4.1, g4.2.1, g4.2.2.1, g4.2.2.2, hsz⟩
        · rcases Nat.lt_or_ge j (k + 1) with hlt | hge
          · exact h3 j (by omega)
          · have : j = k + 1 := by omega
            subst this
            exact ⟨g2.flo, fun t ht => ⟨ι', _, hen.2 t ht, g2.dom⟩⟩
      cases hw : wantE ops o (E k) with
      | false =>
        obtain ⟨e1, e2, e3⟩ := T.skip k o ho hw
        refine ⟨ι, .tuple #[], w, by rw [e1]; exact .undef, by rw [e2]; exact hr, he, ?_⟩
        rw [e2]
        exact ⟨Nat.le_refl _, rfl, fun _ _ => rfl, fun _ _ _ => rfl⟩
      | true =>
        by_cases hew : EW k
        · obtain ⟨_, e2, _⟩ := T.wr k o ho hew
          obtain ⟨v', w', ι', g1, g2, g3⟩ := (opE_run hC hr hcall he e2).ghost
          exact ⟨ι', v', w', g1, g2, he.mono (g3.le hr), g3.next, g3.floor, g3.low, fun h => absurd hew h⟩
        · obtain ⟨H1, e2, e3⟩ := T.md k o ho hw hew
          obtain ⟨v', w', ι', g1, g2, g3⟩ := (opE_run hC hr.raised hcall he e2).ghost
          have hn : (K k).next ≤ H1.next := g3.next
          have hl : ∀ i, i < (K k).next → H1.get i = (K k).get i := g3.low
          refine ⟨ι', v', w', g1, ?_, he.mono (g3.le hr.raised), ?_⟩
          · rw [e3]; exact g2.lowered (Nat.le_trans hr.flo hn)
          · rw [e3]
            exact ⟨hn, rfl, fun i hi => hl i (Nat.lt_of_lt_of_le hi hr.flo), fun _ => hl⟩
  obtain ⟨_, h2, h3⟩ := key ops.size (Nat.le_refl _)
  refine ⟨⟨fun k hk => (h3 k hk).1, fun k hk => (h2 k hk).1, fun k hk => (h2 k hk).2.1, fun k hk => (h2 k hk).2.2.1, fun k hk => (h2 k hk).2.2.2.1⟩, fun k hk => (h3 k hk).2, fun k hk => ?_⟩
  induction k with
  | zero => rfl
  | succ k ih => rw [(h2 k (by omega)).2.2.2.2]; exact ih (by omega)
end

section
variable {n : Nat} {K : Nat → Hp} {EW : Nat → Prop} (hf : HF n K EW)
include hf
theorem HF.mono (k : Nat) : ∀ d, k + d ≤ n → (K k).next ≤ (K (k + d)).next ∧ (K (k + d)).floor = (K k).floor ∧ (∀ i, i < (K k).floor → (K (k + d)).get i = (K k).get i) ∧ ((∀ j, k ≤ j → j < k + d → ¬ EW j) → ∀ i, i < (K k).next → (K (k + d)).get i = (K k).get i)
  | 0, _ => ⟨Nat.le_refl _, rfl, fun _ _ => rfl, fun _ _ _ => rfl⟩
  | d + 1, h => by
    obtain ⟨h1, h2, h3, h4⟩ := HF.mono k d (by omega)
    refine ⟨Nat.le_trans h1 (hf.next (k + d) (by omega)), (hf.floor (k + d) (by omega)).trans h2, fun i hi => (hf.low (k + d) (by omega) i (by rw [h2]; exact hi)).trans (h3 i hi), fun hno i hi => ?_⟩
    exact (hf.keep (k + d) (by omega) (hno (k + d) (by omega) (by omega)) i (Nat.lt_of_lt_of_le hi h1)).trans (h4 (fun j a b => hno j a (by omega)) i hi)

theorem HF.nextle {k m : Nat} (h : k ≤ m) (hm : m ≤ n) : (K k).next ≤ (K m).next := by
  have := (HF.mono hf k (m - k) (by omega)).1
  rwa [show k + (m - k) = m by omega] at this
theorem HF.flooreq {k m : Nat} (h : k ≤ m) (hm : m ≤ n) : (K m).floor = (K k).floor := by
  have := (HF.mono hf k (m - k) (by omega)).2.1
  rwa [show k + (m - k) = m by omega] at this
theorem HF.lowall {k m : Nat} (h : k ≤ m) (hm : m ≤ n) : ∀ i, i < (K k).floor → (K m).get i = (K k).get i := by
  have := (HF.mono hf k (m - k) (by omega)).2.2.1
  rwa [show k + (m - k) = m by omega] at this
theorem HF.agree {k m : Nat} (h : k ≤ m) (hm : m ≤ n) (hno : ∀ j, k ≤ j → j < m → ¬ EW j) : ∀ i, i < (K k).next → (K m).get i = (K k).get i := by
  have := (HF.mono hf k (m - k) (by omega)).2.2.2 (fun j a b => hno j a (by omega))
  rwa [show k + (m - k) = m by omega] at this
end

/-! ### Embeddings cut -/
def Emb.cut (ι : Emb) (n : Nat) : Emb := ⟨fun i => if i < n then ι i else none, ι.sz⟩
theorem Emb.cut_some {ι : Emb} {n i : Nat} {x : Nat × Nat} (h : ι.cut n i = some x) : i < n ∧ ι i = some x := by
  by_cases hi : i < n
  · exact ⟨hi, (if_pos hi).symm.trans h⟩
  · have h : (if i < n then ι i else none) = some x := h
    rw [if_neg hi] at h; cases h
theorem Emb.cut_lt {ι : Emb} {n i : Nat} (h : i < n) : ι.cut n i = ι i := if_pos h
theorem Emb.cut_ge {ι : Emb} {n i : Nat} (h : n ≤ i) : ι.cut n i = none := if_neg (by omega)
theorem Emb.cut_le_self (ι : Emb) (n : Nat) : (ι.cut n).le ι := fun _ _ _ h => ⟨(Emb.cut_some h).2, rfl⟩
theorem Emb.cut_le (ι : Emb) {n m : Nat} (h : n ≤ m) : (ι.cut n).le (ι.cut m) := fun i b p hx => by
  obtain ⟨h1, h2⟩ := Emb.cut_some hx
  exact ⟨by rw [Emb.cut_lt (by omega)]; exact h2, rfl⟩
theorem Emb.cut_all {ι : Emb} {n : Nat} (h : ∀ i, n ≤ i → ι i = none) : ι.cut n = ι := by
  obtain ⟨f, s⟩ := ι
  unfold Emb.cut
  congr 1
  funext i
  by_cases hi : i < n
  · rw [if_pos hi]
  · rw [if_neg hi]; exact (h i (by omega)).symm

mutual
theorem VR.cutBd {ι ι0 : Emb} {n : Nat} (h0 : ∀ i, n ≤ i → ι0 i = none) {v v' v0 : Value} : VR ι v v' → VR ι0 v v0 → VR (ι.cut n) v v'
  | .bool b, _ => .bool b
  | .int k m, _ => .int k m
  | .string s, _ => .string s
  | .nilp, _ => .nilp
  | .ptr h, .ptr g => .ptr (by rw [Emb.cut_lt (Nat.lt_of_not_le fun hle => by rw [h0 _ hle] at g; cases g)]; exact h)
  | .nils, _ => .nils
  | .slice h, .slice g => .slice (by rw [Emb.cut_lt (Nat.lt_of_not_le fun hle => by rw [h0 _ hle] at g; cases g)]; exact h)
  | .sliceU h hl hc hq he, .sliceU g _ _ _ _ => .sliceU (by rw [Emb.cut_lt (Nat.lt_of_not_le fun hle => by rw [h0 _ hle] at g; cases g)]; exact h) hl hc hq he
  | .nilm, _ => .nilm
  | .map h, .map g => .map (by rw [Emb.cut_lt (Nat.lt_of_not_le fun hle => by rw [h0 _ hle] at g; cases g)]; exact h)
  | .func ha hc, .func ga gc => .func (VRs.cutBd h0 ha ga) (VRs.cutBd h0 hc gc)
  | .yield h, .yield g => .yield (by rw [Emb.cut_lt (Nat.lt_of_not_le fun hle => by rw [h0 _ hle] at g; cases g)]; exact h)
  | .nilf, _ => .nilf
  | .nili, _ => .nili
  | .agg h, .agg g => .agg (VRs.cutBd h0 h g)
  | .tuple h, .tuple g => .tuple (VRs.cutBd h0 h g)
theorem VRs.cutBd {ι ι0 : Emb} {n : Nat} (h0 : ∀ i, n ≤ i → ι0 i = none) {l l' l0 : List Value} : VRs ι l l' → VRs ι0 l l0 → VRs (ι.cut n) l l'
  | .nil, _ => .nil
  | .cons h t, .cons g u => .cons (VR.cutBd h0 h g) (VRs.cutBd h0 t u)
end

theorem VR.cut {ι : Emb} {n : Nat} {v v' : Value} (h : VR ι v v') (hb : Bd n v) : VR (ι.cut n) v v' := by
  obtain ⟨ι0, v0, g, h0⟩ := hb
  exact VR.cutBd h0 h g

/-! ### Embeddings laid over -/
def Emb.over (ι ι1 : Emb) (a b : Nat) : Emb := ⟨fun i => if a ≤ i ∧ i < b then ι1 i else ι i, ι1.sz⟩
theorem Emb.over_in {ι ι1 : Emb} {a b i : Nat} (h1 : a ≤ i) (h2 : i < b) : ι.over ι1 a b i = ι1 i := if_pos ⟨h1, h2⟩
theorem Emb.over_out {ι ι1 : Emb} {a b i : Nat} (h : ¬ (a ≤ i ∧ i < b)) : ι.over ι1 a b i = ι i := if_neg h
theorem Emb.over_cut {ι ι1 : Emb} {a b m : Nat} (h : b ≤ m) : (ι.over ι1 a b).cut m = (ι.cut m).over ι1 a b := by
  unfold Emb.over Emb.cut
  congr 1
  funext i
  simp only
  by_cases hi : a ≤ i ∧ i < b
  · rw [if_pos hi, if_pos hi, if_pos (by omega)]
  · rw [if_neg hi, if_neg hi]
theorem Emb.over_cut_low {ι ι1 : Emb} {a b m : Nat} (h : m ≤ a) : (ι.over ι1 a b).cut m = ⟨(ι.cut m).at_, ι1.sz⟩ := by
  unfold Emb.over Emb.cut
  congr 1
  funext i
  simp only
  by_cases hi : i < m
  · rw [if_pos hi, if_pos hi, if_neg (by omega)]
  · rw [if_neg hi, if_neg hi]

theorem Rel.resz {base : Nat} {ι : Emb} {H : Hp} {w w' : World} (hr : Rel base ι H w) {s : Nat → Nat} (hs : ∀ b, b < w.heap.size → s b = ι.sz b) (hsz : w.heap.size ≤ w'.heap.size) (hsame : ∀ b, b < w.heap.size → w'.heap[b]? = w.heap[b]?) : Rel base ⟨ι.at_, s⟩ H w' := by
  have hle : ι.le ⟨ι.at_, s⟩ := fun i b p h => ⟨h, hs b (hr.bnd i b p h)⟩
  exact ⟨hr.flo, hr.dom, fun i b p h => Nat.lt_of_lt_of_le (hr.bnd i b p h) hsz, fun i o b p h1 h2 => ((hr.ob i o b p h1 h2).same (hsame b (hr.bnd i b p h2))).mono hle (hle i b p h2).2, hr.inj, hr.bas, Nat.le_trans hr.bs hsz⟩

/-- A heap that has grown by ids that lie nowhere yet. -/
theorem Rel.grow {base : Nat} {ι : Emb} {H H' : Hp} {w : World} (hr : Rel base ι H w) (hn : H.next ≤ H'.next) (hf : H'.floor ≤ H'.next) (hg : ∀ i, i < H.next → H'.get i = H.get i) : Rel base ι H' w :=
  ⟨hf, fun i hi => hr.dom i (by omega), hr.bnd, fun i o b p h1 h2 => hr.ob i o b p ((hg i (hr.lt h2)).symm.trans h1) h2,
    fun i j oi oj b p q h1 h2 h3 h4 h5 h6 => hr.inj i j oi oj b p q ((hg i (hr.lt h5)).symm.trans h1) ((hg j (hr.lt h6)).symm.trans h2) h3 h4 h5 h6,
    fun i o b p h1 h2 h3 => hr.bas i o b p ((hg i (hr.lt h3)).symm.trans h1) h2 h3, hr.bs⟩
theorem Step.grow {base : Nat} {ι0 ι : Emb} {H0 H H' : Hp} {w0 w : World} (hr : Rel base ι H w) (hs : Step ι0 ι H0 H w0 w) (h0 : H0.floor ≤ H0.next) (hn : H.next ≤ H'.next) (hf : H'.floor = H.floor) (hg : ∀ i, i < H.next → H'.get i = H.get i) : Step ι0 ι H0 H' w0 w :=
  ⟨hs.emb, hs.ssz, Nat.le_trans hs.next hn, hf.trans hs.floor, fun i hi => (hg i (by have := hs.next; omega)).trans (hs.low i hi),
    fun b hb ⟨i, o, p, h1, h2, h3, h4⟩ => hs.owned b hb ⟨i, o, p, (hg i (hr.lt h4)).symm.trans h1, h2, by rw [← hf]; exact h3, h4⟩,
    hs.os, hs.tape, hs.output, hs.size, hs.same, hs.loops, hs.news⟩

section
variable {base : Nat} {ι : Emb} {Hq : Hp} {w : World} (R : Rel base ι Hq w) {ιk ι1 : Emb} {Hk H1 : Hp} {w' : World} (hk : ∀ i, i < Hk.next → ιk i = ι i) (hsz : ∀ b, ιk.sz b = ι.sz b) (hdk : ∀ i, Hk.next ≤ i → ιk i = none)
  (R1 : Rel base ι1 H1 w') (S1 : Step ιk ι1 Hk.raised H1 w w') (hfree : ∀ i, Hk.next ≤ i → i < H1.next → ι i = none)
include hdk S1

theorem over_same : ∀ b, b < w.heap.size → w'.heap[b]? = w.heap[b]? := fun b hb =>
  S1.same b hb fun ⟨i, o, p, _, _, h3, h4⟩ => by
    have : Hk.next ≤ i := h3
    rw [hdk i this] at h4; cases h4

theorem over_news {i b p : Nat} (h1 : Hk.next ≤ i) (h2 : ι1 i = some (b, p)) : w.heap.size ≤ b := by
  rcases S1.news i b p h1 h2 with h | ⟨j, o, q, _, _, h3, h4⟩
  · exact h
  · have : Hk.next ≤ j := h3
    rw [hdk j this] at h4; cases h4

include R hk hsz R1 hfree
omit hdk hk R1 in
theorem over_le : ι.le (ι.over ι1 Hk.next H1.next) := fun i b p h => by
  have hn : ¬ (Hk.next ≤ i ∧ i < H1.next) := fun ⟨a, c⟩ => by rw [hfree i a c] at h; cases h
  refine ⟨by rw [Emb.over_out hn]; exact h, ?_⟩
  exact (S1.ssz b (R.bnd i b p h)).trans (hsz b)

omit R hsz hfree hdk in
theorem over_le1 : ι1.le (ι.over ι1 Hk.next H1.next) := fun i b p h => by
  refine ⟨?_, rfl⟩
  have hlt := R1.lt h
  by_cases hi : Hk.next ≤ i
  · rw [Emb.over_in hi hlt]; exact h
  · rw [Emb.over_out (fun c => hi c.1), ← hk i (by omega)]
    have := S1.emb i (by show i < Hk.next; omega)
    rw [← this]; exact h

theorem over_rel (hle : H1.next ≤ Hq.next) (hag : ∀ i, i < H1.next → Hq.get i = H1.get i) : Rel base (ι.over ι1 Hk.next H1.next) Hq w' := by
  have hsame := over_same hdk S1
  have hl := over_le R hsz S1 hfree
  have hl1 := over_le1 hk R1 S1
  have hn1 : Hk.next ≤ H1.next := S1.next
  refine ⟨R.flo, fun i hi => ?_, fun i b p h => ?_, fun i o b p h1 h2 => ?_, fun i j oi oj b p q h1 h2 h3 h4 h5 h6 => ?_, fun i o b p h1 h2 h3 => ?_, Nat.le_trans R.bs S1.size⟩
  · rw [Emb.over_out (by omega)]; exact R.dom i hi
  · by_cases hi : Hk.next ≤ i ∧ i < H1.next
    · rw [Emb.over_in hi.1 hi.2] at h; exact R1.bnd i b p h
    · rw [Emb.over_out hi] at h; exact Nat.lt_of_lt_of_le (R.bnd i b p h) S1.size
  · by_cases hi : Hk.next ≤ i ∧ i < H1.next
    · rw [Emb.over_in hi.1 hi.2] at h2
      exact (R1.ob i o b p ((hag i hi.2).symm.trans h1) h2).mono hl1 rfl
    · rw [Emb.over_out hi] at h2
      exact ((R.ob i o b p h1 h2).same (hsame b (R.bnd i b p h2))).mono hl (hl i b p h2).2
  · by_cases hi : Hk.next ≤ i ∧ i < H1.next <;> by_cases hj : Hk.next ≤ j ∧ j < H1.next
    · rw [Emb.over_in hi.1 hi.2] at h5; rw [Emb.over_in hj.1 hj.2] at h6
      exact R1.inj i j oi oj b p q ((hag i hi.2).symm.trans h1) ((hag j hj.2).symm.trans h2) h3 h4 h5 h6
    · rw [Emb.over_in hi.1 hi.2] at h5; rw [Emb.over_out hj] at h6
      have := over_news hdk S1 hi.1 h5
      have := R.bnd j b q h6
      omega
    · rw [Emb.over_out hi] at h5; rw [Emb.over_in hj.1 hj.2] at h6
      have := over_news hdk S1 hj.1 h6
      have := R.bnd i b p h5
      omega
    · rw [Emb.over_out hi] at h5; rw [Emb.over_out hj] at h6
      exact R.inj i j oi oj b p q h1 h2 h3 h4 h5 h6
  · by_cases hi : Hk.next ≤ i ∧ i < H1.next
    · rw [Emb.over_in hi.1 hi.2] at h3; exact R1.bas i o b p ((hag i hi.2).symm.trans h1) h2 h3
    · rw [Emb.over_out hi] at h3; exact R.bas i o b p h1 h2 h3

omit R hk R1 hfree in
theorem over_step {ι0 : Emb} {H0 : Hp} {w0 : World} (h0 : H0.next ≤ Hk.next) (S : Step ι0 ι H0 Hq w0 w) : Step ι0 (ι.over ι1 Hk.next H1.next) H0 Hq w0 w' := by
  have hsame := over_same hdk S1
  refine ⟨fun i hi => ?_, fun b hb => ?_, S.next, S.floor, S.low, fun b hb ⟨i, o, p, h1, h2, h3, h4⟩ => ?_, S1.os.trans S.os, S1.tape.trans S.tape, S1.output.trans S.output, Nat.le_trans S.size S1.size, fun b hb hno => ?_, fun b L hL => ?_, fun i b p h1 h2 => ?_⟩
  · rw [Emb.over_out (by omega)]; exact S.emb i hi
  · have hb' : b < w.heap.size := Nat.lt_of_lt_of_le hb S.size
    exact ((S1.ssz b hb').trans (hsz b)).trans (S.ssz b hb)
  · by_cases hi : Hk.next ≤ i ∧ i < H1.next
    · rw [Emb.over_in hi.1 hi.2] at h4
      have := over_news hdk S1 hi.1 h4
      have := S.size
      omega
    · rw [Emb.over_out hi] at h4
      exact S.owned b hb ⟨i, o, p, h1, h2, h3, h4⟩
  · exact (hsame b (Nat.lt_of_lt_of_le hb S.size)).trans (S.same b hb hno)
  · obtain ⟨L1, h1⟩ := S.loops b L hL
    exact S1.loops b L1 h1
  · by_cases hi : Hk.next ≤ i ∧ i < H1.next
    · rw [Emb.over_in hi.1 hi.2] at h2
      exact .inl (Nat.le_trans S.size (over_news hdk S1 hi.1 h2))
    · rw [Emb.over_out hi] at h2
      exact S.news i b p h1 h2
end
end Go.Ahe
