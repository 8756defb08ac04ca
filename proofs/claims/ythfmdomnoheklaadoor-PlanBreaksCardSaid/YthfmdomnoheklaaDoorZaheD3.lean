/-
  AHE, 20c: regions that draw their order: the invariant.
-/
import Derived.Test.YthfmdomnoheklaaDoorZaheD2
namespace Go.Ahe
open Go.RowKit

theorem pure_any {C : Ctx} {call : CallE} {op : Op} {t : TypeId} {e : Env} {H H1 : Hp} {v : Value} (hp : pureOp op = true) (h : opE C call op t e H = some (v, H1)) : ∀ H2, opE C call op t e H2 = some (v, H2) := by
  intro H2
  cases op <;> first | (cases hp; done) | skip
  case call c =>
    obtain ⟨callee, args, ats⟩ := c
    cases callee with
    | builtin b =>
      simp only [opE, Option.bind_eq_some_iff] at h ⊢
      obtain ⟨vs, h1, h2⟩ := h
      refine ⟨vs, h1, ?_⟩
      cases b <;> first | (cases hp; done) | skip
      all_goals
        simp only [builtinE, Option.map_eq_some_iff] at h2 ⊢
        obtain ⟨u, h3, h4⟩ := h2
        cases h4
        exact ⟨_, h3, rfl⟩
    | value f => cases hp
    | invoke r n => cases hp
  case pick c x y =>
    simp only [opE] at h ⊢
    split at h
    · replace h := pureV_some h; rw [h.1]
    · replace h := pureV_some h; rw [h.1]
    · cases h
  all_goals
    simp only [opE] at h ⊢
    replace h := pureV_some h
    rw [h.1]

theorem len_any {C : Ctx} {ts : List TypeId} {vs : List Value} {H H1 : Hp} {v : Value} (h : builtinE C .len ts vs H = some (v, H1)) : H1 = H ∧ builtinE C .len ts vs H.raised = some (v, H.raised) := by
  rcases ts with _ | ⟨t, _ | ⟨t2, ts⟩⟩ <;> rcases vs with _ | ⟨x, _ | ⟨x2, vs⟩⟩ <;> first | (cases h; done) | skip
  have h : (lenE C t x H).map (fun v => (v, H)) = some (v, H1) := h
  rw [Option.map_eq_some_iff] at h
  obtain ⟨u, h3, h4⟩ := h
  cases h4
  refine ⟨rfl, ?_⟩
  show (lenE C t x H.raised).map (fun v => (v, H.raised)) = _
  have h5 : lenE C t x H.raised = some v := h3
  rw [h5]; rfl

theorem reader_any {C : Ctx} {call : CallE} {op : Op} {t : TypeId} {e : Env} {H H1 : Hp} {v : Value} (hp : readerOp op = true) (h : opE C call op t e H = some (v, H1)) : H1 = H ∧ opE C call op t e H.raised = some (v, H.raised) := by
  cases op <;> first | (cases hp; done) | skip
  case call c =>
    obtain ⟨callee, args, ats⟩ := c
    cases callee with
    | builtin b =>
      simp only [opE, Option.bind_eq_some_iff] at h ⊢
      obtain ⟨vs, h1, h2⟩ := h
      cases b <;> first | (cases hp; done) | skip
      obtain ⟨h3, h4⟩ := len_any h2
      exact ⟨h3, vs, h1, h4⟩
    | value f => cases hp
    | invoke r n => cases hp
  case load ty x =>
    simp only [opE] at h ⊢
    replace h := pureV_some h
    refine ⟨h.2, ?_⟩
    have h2 : ((opV e x).bind fun a => (C.T ty).bind fun ti => loadE ti a H.raised) = some v := h.1
    rw [h2]
  case lookup ty x k ok =>
    simp only [opE] at h ⊢
    replace h := pureV_some h
    refine ⟨h.2, ?_⟩
    have h2 : ((opV e x).bind fun v => (opV e k).bind fun k => lookupE C ty v k ok H.raised) = some v := h.1
    rw [h2]

theorem valsEq_eq : ∀ {a b : List Value}, valsEq a b = true → a = b
  | [], [], _ => rfl
  | [], _ :: _, h => by cases h
  | _ :: _, [], h => by cases h
  | x :: a, y :: b, h => by
    rw [valsEq, Bool.and_eq_true] at h
    have h1 : x = y := by
      have h := h.1
      unfold valEq1 at h
      split at h
      · rw [Array.toList_inj.1 (cellsEq_eq h)]
      · exact cellEq_eq h
    rw [h1, valsEq_eq h.2]

theorem valEq_eq {a b : Value} (h : valEq a b = true) : a = b := by
  unfold valEq at h
  split at h
  · rw [Array.toList_inj.1 (valsEq_eq h)]
  · unfold valEq1 at h
    split at h
    · rw [Array.toList_inj.1 (cellsEq_eq h)]
    · exact cellEq_eq h

theorem usesT_op {ops : List Oper} {o : Oper} {t : Tmp} (h : .tmp t ∈ o.op.operands.toList) : usesT ops o t = true := by
  unfold usesT
  rw [Bool.or_eq_true]
  right
  rw [List.any_eq_true]
  exact ⟨.tmp t, h, nbeq_t rfl⟩

theorem usesT_guard {ops : Array Oper} {o : Oper} {t : Tmp} (h : ∃ j w, o.guard = some (j, w) ∧ (ops[j]?).bind (·.dst) = some t) : usesT ops.toList o t = true := by
  obtain ⟨j, w, h1, h2⟩ := h
  unfold usesT guardT
  rw [h1]
  simp only [Array.getElem?_toList, h2, nbeq_t, Bool.true_or]

theorem ord_lt {ms : List Nat} {i j : Nat} (h : ordB ms i j = true) (hlt : i < j) : ((ms[j]?).getD 0).testBit i = true := by
  unfold ordB at h
  have : Nat.blt i j = true := by simpa using hlt
  rw [this, cond_true] at h; exact h
theorem ord_gt {ms : List Nat} {i j : Nat} (h : ordB ms i j = true) (hlt : j < i) : ((ms[i]?).getD 0).testBit j = true := by
  unfold ordB at h
  have : Nat.blt i j = false := by
    cases hb : Nat.blt i j with
    | false => rfl
    | true => have := nblt_lt hb; omega
  rw [this, cond_false] at h; exact h

section
variable {P : Program} {C : Ctx} (hC : Fits C P) {base : Nat} {call : CallE} (hcall : CallOk P call) {ops : Array Oper} {ms : List Nat} {E : Nat → Env} {K : Nat → Hp} {V : Nat → Value} {EW : Nat → Prop} (T : Tc C call ops ms E K V EW)
  (hreg : RegOk ops ms) (hf : HF ops.size K EW) (hbd : ∀ k, k ≤ ops.size → ∀ t, t < (E k).size → Bd (K k).next ((E k).get t)) (hsize : ∀ k, k ≤ ops.size → (E k).size = (E 0).size)

/-- **WHAT HOLDS WHEN THE OPERATIONS OF D HAVE BEEN DONE**; q: the next operation that writes. -/
structure Inv (base : Nat) (ops : Array Oper) (E : Nat → Env) (K : Nat → Hp) (V : Nat → Value) (EW : Nat → Prop) (ι0 : Emb) (w0 : World) (d0 : List Deferred) (D : Nat → Prop) (a : Act) (w : World) (q : Nat) (ι : Emb) : Prop where
  cl : ∀ (i : Nat) (o : Oper), ops[i]? = some o → D i → ∀ e ∈ o.after, Region.binds .any e = true → D e.on
  qn : q ≤ ops.size
  qe : q = ops.size ∨ EW q
  lo : ∀ j, EW j → j < q → D j
  hi : ∀ j, EW j → q ≤ j → ¬ D j
  fam : ∀ m, m ≤ q → (∀ j, m ≤ j → j < q → ¬ EW j) → Rel base (ι.cut (K m).next) (K m) w
  dom : ∀ i, (K q).next ≤ i → ι i = none
  free : ∀ k, k < ops.size → ¬ D k → ∀ i, (K k).next ≤ i → i < (K (k + 1)).next → ι i = none
  step : Step ι0 ι (K 0) (K q) w0 w
  size : a.tmps.size = (E 0).size
  tw : ∀ (k : Nat) (o : Oper) (t : Tmp), ops[k]? = some o → D k → o.dst = some t → t < (E 0).size → VR ι (V k) (a.tmps.getD t undef)
  tn : ∀ t, t < (E 0).size → (∀ (k : Nat) (o : Oper), ops[k]? = some o → D k → o.dst ≠ some t) → VR ι ((E 0).get t) (a.tmps.getD t undef)
  defers : a.defers = d0

include T hreg in
theorem env_spec : ∀ k, k ≤ ops.size → ∀ t, (∀ (j : Nat) (o : Oper), j < k → ops[j]? = some o → o.dst = some t → (E k).get t = V j) ∧ ((∀ (j : Nat) (o : Oper), j < k → ops[j]? = some o → o.dst ≠ some t) → (E k).get t = (E 0).get t) := by
  intro k
  induction k with
  | zero => intro _ t; exact ⟨fun j o h => by omega, fun _ => rfl⟩
  | succ k ih =>
    intro hk t
    obtain ⟨h1, h2⟩ := ih (by omega) t
    have ho : ops[k]? = some ops[k] := Array.getElem?_eq_getElem (by omega)
    generalize ops[k] = o at ho
    have hput := T.put k o ho
    cases hd : o.dst with
    | none =>
      rw [hd] at hput
      simp only [Env.put, Option.some.injEq] at hput
      rw [← hput]
      refine ⟨fun j o' hj ho' hdt => ?_, fun hno => h2 fun j o' hj => hno j o' (by omega)⟩
      rcases Nat.lt_or_ge j k with hlt | hge
      · exact h1 j o' hlt ho' hdt
      · have : j = k := by omega
        subst this; rw [ho] at ho'; cases ho'; rw [hd] at hdt; cases hdt
    | some d =>
      rw [hd] at hput
      obtain ⟨_, _, hg⟩ := Env.set_some hput
      rw [hg]
      refine ⟨fun j o' hj ho' hdt => ?_, fun hno => ?_⟩
      · rcases Nat.lt_or_ge j k with hlt | hge
        · have hne : t ≠ d := fun e => by subst e; exact hreg.alone j k o' o t ho' ho (by omega) hdt hd
          rw [if_neg hne]; exact h1 j o' hlt ho' hdt
        · have : j = k := by omega
          subst this; rw [ho] at ho'; cases ho'; rw [hd] at hdt; cases hdt; rw [if_pos rfl]
      · have hne : t ≠ d := fun e => by subst e; exact hno k o (by omega) ho hd
        rw [if_neg hne]; exact h2 fun j o' hj => hno j o' (by omega)

section
variable {ι0 : Emb} {w0 : World} {d0 : List Deferred} {D : Nat → Prop} {a : Act} {w : World} {q : Nat} {ι : Emb} (I : Inv base ops E K V EW ι0 w0 d0 D a w q ι) {k : Nat} {o : Oper} (hk : ops[k]? = some o) (hD : ¬ D k)
  (hrd : ∀ e ∈ o.after, Region.binds .any e = true → D e.on)
include hreg I hk hD hrd

omit hD in
theorem ahead {j : Nat} (h : ((ms[k]?).getD 0).testBit j = true) : D j := hreg.closed (L := D) I.cl k o hk hrd j h
omit hk hrd in
theorem behind {j : Nat} {x : Oper} (hj : ops[j]? = some x) (h : ((ms[j]?).getD 0).testBit k = true) : ¬ D j := fun hd => hD (hreg.closed (L := D) I.cl j x hj (I.cl j x hj hd) k h)

include T hsize in
/-- The temporaries that the operation looks at. -/
theorem tmpR {t : Tmp} (ht : t < (E k).size) (hu : usesT ops.toList o t = true) : VR ι ((E k).get t) (a.tmps.getD t undef) := by
  have hkn : k < ops.size := (Array.getElem?_eq_some_iff.1 hk).1
  obtain ⟨s1, s2⟩ := env_spec T hreg k (by omega) t
  have ht0 : t < (E 0).size := by rw [← hsize k (by omega)]; exact ht
  by_cases hex : ∃ (j : Nat) (x : Oper), ops[j]? = some x ∧ x.dst = some t
  · obtain ⟨j, x, hj, hx⟩ := hex
    have huniq : ∀ (i : Nat) (y : Oper), ops[i]? = some y → y.dst = some t → i = j := fun i y hi hy => by
      by_cases e : i = j
      · exact e
      · exact absurd hx (hreg.alone i j y x t hi hj e hy)
    rcases Nat.lt_trichotomy j k with hlt | heq | hgt
    · have hb := ord_lt (hreg.uses j k x o t hj hk (by omega) hx hu) hlt
      rw [s1 j x hlt hj hx]
      exact I.tw j x t hj (ahead hreg I hk hrd hb) hx ht0
    · rw [s2 fun i y hi hiy hy => by have := huniq i y hiy hy; omega]
      exact I.tn t ht0 fun i y hi hdi hy => by have := huniq i y hi hy; subst this; subst heq; exact hD hdi
    · have hb := ord_gt (hreg.uses j k x o t hj hk (by omega) hx hu) hgt
      rw [s2 fun i y hi hiy hy => by have := huniq i y hiy hy; omega]
      exact I.tn t ht0 fun i y hi hdi hy => by have := huniq i y hi hy; subst this; exact behind hreg I hD hj hb hdi
  · rw [s2 fun i y hi hiy hy => hex ⟨i, y, hiy, hy⟩]
    exact I.tn t ht0 fun i y hi hdi hy => hex ⟨i, y, hi, hy⟩

include T hsize in
theorem opsD_R : OpsR ι (E k) a o.op.operands.toList := fun x hx v hv => by
  cases x with
  | tmp t =>
    obtain ⟨hb, hv⟩ := bif_some hv
    cases hv
    exact tmpR T hreg hsize I hk hD hrd (nblt_lt hb) (usesT_op hx)
  | const u =>
    obtain ⟨hb, hv⟩ := bif_some hv
    cases hv
    exact VR.plainV hb
  | func f => cases hv; exact .func .nil .nil
  | global g => cases hv

include T hsize hbd in
theorem opsD_cut {m : Nat} (hm : (K k).next ≤ (K m).next) : OpsR (ι.cut (K m).next) (E k) a o.op.operands.toList := fun x hx v hv => by
  have hkn : k < ops.size := (Array.getElem?_eq_some_iff.1 hk).1
  cases x with
  | tmp t =>
    obtain ⟨hb, hv⟩ := bif_some hv
    cases hv
    exact (VR.cut (tmpR T hreg hsize I hk hD hrd (nblt_lt hb) (usesT_op hx)) (hbd k (by omega) t (nblt_lt hb))).mono (Emb.cut_le ι hm)
  | const u =>
    obtain ⟨hb, hv⟩ := bif_some hv
    cases hv
    exact VR.plainV hb
  | func f => cases hv; exact .func .nil .nil
  | global g => cases hv

include T hsize in
theorem wantD {b : Bool} (h : wantE ops o (E k) = b) : Region.wanted o (yielded ops a.tmps) = b := by
  have hkn : k < ops.size := (Array.getElem?_eq_some_iff.1 hk).1
  refine wantE_ok' (ι := ι) ?_ (fun t ht hlt => tmpR T hreg hsize I hk hD hrd hlt (usesT_guard ht)) h
  rw [hsize k (by omega), I.size]

/-- The operation has been done: the temporaries. -/
theorem inv_done {q' : Nat} {ι' : Emb} {w' : World} {v' : Value} (hle : ∀ v u, VR ι v u → VR ι' v u) (hv : VR ι' (V k) v') (hqn : q' ≤ ops.size) (hqe : q' = ops.size ∨ EW q') (hlo : ∀ j, EW j → j < q' → D j ∨ j = k) (hhi : ∀ j, EW j → q' ≤ j → ¬ (D j ∨ j = k))
    (hfam : ∀ m, m ≤ q' → (∀ j, m ≤ j → j < q' → ¬ EW j) → Rel base (ι'.cut (K m).next) (K m) w') (hdom : ∀ i, (K q').next ≤ i → ι' i = none)
    (hfree : ∀ j, j < ops.size → ¬ D j → j ≠ k → ∀ i, (K j).next ≤ i → i < (K (j + 1)).next → ι' i = none) (hstep : Step ι0 ι' (K 0) (K q') w0 w') :
    Inv base ops E K V EW ι0 w0 d0 (fun j => D j ∨ j = k) (a.put o.dst v') w' q' ι' where
  cl i x hi hdi e he hb := by
    rcases hdi with hdi | rfl
    · exact .inl (I.cl i x hi hdi e he hb)
    · rw [hk] at hi; cases hi; exact .inl (hrd e he hb)
  qn := hqn
  qe := hqe
  lo := hlo
  hi := hhi
  fam := hfam
  dom := hdom
  free j hj hno := hfree j hj (fun h => hno (.inl h)) (fun h => hno (.inr h))
  step := hstep
  size := by
    rw [← I.size]
    cases o.dst <;> simp [Act.put]
  tw j x t hj hdj hx ht := by
    have hts : t < a.tmps.size := by rw [I.size]; exact ht
    by_cases hjk : j = k
    · subst hjk
      rw [hk] at hj; cases hj
      rw [hx]
      simp only [Act.put, Array.getD_eq_getD_getElem?, Array.getElem?_setIfInBounds_self, hts, if_true, Option.getD_some]
      exact hv
    · have hdj : D j := hdj.resolve_right hjk
      have h1 := hle _ _ (I.tw j x t hj hdj hx ht)
      cases hd : o.dst with
      | none => exact h1
      | some d =>
        have hne : d ≠ t := fun e => by subst e; exact hreg.alone j k x o d hj hk hjk hx hd
        simp only [Act.put, Array.getD_eq_getD_getElem?, Array.getElem?_setIfInBounds_ne hne]
        rw [← Array.getD_eq_getD_getElem?]; exact h1
  tn t ht hno := by
    have h1 := hle _ _ (I.tn t ht fun j x hj hdj => hno j x hj (.inl hdj))
    cases hd : o.dst with
    | none => exact h1
    | some d =>
      have hne : d ≠ t := fun e => by subst e; exact hno k o hk (.inr rfl) hd
      simp only [Act.put, Array.getD_eq_getD_getElem?, Array.getElem?_setIfInBounds_ne hne]
      rw [← Array.getD_eq_getD_getElem?]; exact h1
  defers := by rw [put_defers']; exact I.defers

include hf in
/-- It was run in a heap of the stage, and wrote nothing that was there. -/
theorem inv_read {m : Nat} (hmq : m ≤ q) (hmno : ∀ j, m ≤ j → j < q → ¬ EW j) (hew : ¬ EW k) {H1 : Hp} {ι1 : Emb} {w' : World} {v' : Value} (hv : VR ι1 (V k) v') (R1 : Rel base ι1 H1 w') (S1 : Step (ι.cut (K m).next) ι1 (K m).raised H1 w w')
    (hq : H1.next ≤ (K q).next) (hag : ∀ m', m < m' → m' ≤ q → (∀ j, m' ≤ j → j < q → ¬ EW j) → (K m').next ≤ (K m).next ∨ (H1.next ≤ (K m').next ∧ ∀ i, i < H1.next → (K m').get i = H1.get i))
    (hdis : ∀ i, (K m).next ≤ i → i < H1.next → (K k).next ≤ i ∧ i < (K (k + 1)).next) : ∃ q' ι', Inv base ops E K V EW ι0 w0 d0 (fun j => D j ∨ j = k) (a.put o.dst v') w' q' ι' := by
  have hkn : k < ops.size := (Array.getElem?_eq_some_iff.1 hk).1
  have hcut : ∀ i, i < (K m).next → ι.cut (K m).next i = ι i := fun i hi => Emb.cut_lt hi
  have hge : ∀ i, (K m).next ≤ i → ι.cut (K m).next i = none := fun i hi => Emb.cut_ge hi
  have hfr : ∀ i, (K m).next ≤ i → i < H1.next → ι i = none := fun i h1 h2 => by
    obtain ⟨h3, h4⟩ := hdis i h1 h2
    exact I.free k hkn hD i h3 h4
  have Rq : Rel base ι (K q) w := by
    have := I.fam q (Nat.le_refl _) (fun j h1 h2 => by omega)
    rwa [Emb.cut_all I.dom] at this
  have hn1 : (K m).next ≤ H1.next := S1.next
  have hsame := over_same hge S1
  have hl : ι.le (ι.over ι1 (K m).next H1.next) := over_le (ιk := ι.cut (K m).next) Rq (fun _ => rfl) S1 hfr
  have hl1 : ι1.le (ι.over ι1 (K m).next H1.next) := over_le1 hcut R1 S1
  refine ⟨q, ι.over ι1 (K m).next H1.next, inv_done hreg I hk hD hrd (fun v u h => h.mono hl) (hv.mono hl1) I.qn I.qe (fun j h1 h2 => .inl (I.lo j h1 h2)) (fun j h1 h2 h3 => ?_) (fun m' hm' hno' => ?_) (fun i hi => ?_) (fun j hj hnd hne i h1 h2 => ?_) ?_⟩
  · rcases h3 with h3 | rfl
    · exact I.hi j h1 h2 h3
    · exact hew h1
  · have Rm := I.fam m' hm' hno'
    by_cases hc : (K m').next ≤ (K m).next
    · rw [Emb.over_cut_low hc]
      exact Rm.resz (fun b hb => S1.ssz b hb) S1.size hsame
    · have hlt : m < m' := Nat.lt_of_not_le fun hle => hc (hf.nextle hle (Nat.le_trans hmq I.qn))
      rcases hag m' hlt hm' hno' with h | ⟨h1, h2⟩
      · exact absurd h hc
      · rw [Emb.over_cut h1]
        refine over_rel (ιk := ι.cut (K m).next) Rm (fun i hi => ?_) (fun _ => rfl) hge R1 S1 (fun i g1 g2 => ?_) h1 h2
        · rw [Emb.cut_lt hi, Emb.cut_lt (by omega)]
        · cases hx : ι.cut (K m').next i with
          | none => rfl
          | some x => obtain ⟨_, h3⟩ := Emb.cut_some hx; rw [hfr i g1 g2] at h3; cases h3
  · rw [Emb.over_out (by omega)]; exact I.dom i hi
  · by_cases hin : (K m).next ≤ i ∧ i < H1.next
    · obtain ⟨g1, g2⟩ := hdis i hin.1 hin.2
      rcases Nat.lt_or_gt_of_ne hne with hlt | hgt
      · have := hf.nextle (k := j + 1) (m := k) (by omega) (by omega)
        omega
      · have := hf.nextle (k := k + 1) (m := j) (by omega) (by omega)
        omega
    · rw [Emb.over_out hin]; exact I.free j hj hnd i h1 h2
  · exact over_step (ι := ι) (ιk := ι.cut (K m).next) (fun _ => rfl) hge S1 (hf.nextle (Nat.zero_le _) (Nat.le_trans hmq I.qn)) I.step
end
end
end Go.Ahe
