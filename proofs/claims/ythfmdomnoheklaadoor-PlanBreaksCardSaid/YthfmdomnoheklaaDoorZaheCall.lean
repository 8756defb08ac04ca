/-
  AHE, 22: calls to a depth.
-/
import Derived.Test.YthfmdomnoheklaaDoorZaheFn
namespace Go.Ahe
open Go.RowKit

/-- The marks are closed, one after the other. -/
theorem close_marks {P : Program} {base : Nat} {ι0 ι : Emb} {H0 H : Hp} {w0 : World} {fn : Func} {tmps : Array Value} {R : Ending → World → Prop}
    (hend : ∀ w, Rel base ι H w → Step ι0 ι H0 H w0 w → LeavesIn Fence.wide 0 P fn tmps R [] .returning w) :
    ∀ (rs : List Nat) (w : World), rs.Nodup → (∀ r ∈ rs, w0.heap.size ≤ r ∧ w.heap[r]? = some (.deferred (some []))) → Rel base ι H w → Step ι0 ι H0 H w0 w → LeavesInM Fence.wide 0 P fn tmps R (rs.map mark1) .returning w
  | [], w, _, _, hr, hs => hend w hr hs
  | r :: rs, w, hn, hm, hr, hs => by
    obtain ⟨h1, h2⟩ := hm r (List.mem_cons_self ..)
    have hlt : r < w.heap.size := (Array.getElem?_eq_some_iff.1 h2).1
    let w' : World := { w with heap := w.heap.setIfInBounds r (.deferred none) }
    have hoth : ∀ k, k ≠ r → w'.heap[k]? = w.heap[k]? := fun k hk => by simp [w', Array.getElem?_setIfInBounds_ne (Ne.symm hk)]
    have hsz : w'.heap.size = w.heap.size := by simp [w']
    have hr' : Rel base ι H w' := ⟨hr.flo, hr.dom, fun i b p h => by rw [hsz]; exact hr.bnd i b p h, fun i o b p g1 g2 => by
      by_cases hb : b = r
      · subst hb
        have h3 := hr.ob i o b p g1 g2
        cases o with
        | cells cs ro => obtain ⟨_, _, _, g, _⟩ := h3; rw [h2] at g; cases g
        | map es ck => obtain ⟨_, g, _⟩ := h3; rw [h2] at g; cases g
        | iter m s t u => obtain ⟨_, _, g, _⟩ := h3; rw [h2] at g; cases g
        | loop => obtain ⟨_, g, _⟩ := h3; rw [h2] at g; cases g
        | dead => trivial
      · exact (hr.ob i o b p g1 g2).same (hoth b hb), hr.inj, hr.bas, by rw [hsz]; exact hr.bs⟩
    have hs' : Step ι0 ι H0 H w0 w' := ⟨hs.emb, hs.ssz, hs.next, hs.floor, hs.low, hs.owned, hs.os, hs.tape, hs.output, by rw [hsz]; exact hs.size,
      fun b hb hno => (hoth b (by omega)).trans (hs.same b hb hno), fun b L hL => by
        obtain ⟨L', hL'⟩ := hs.loops b L hL
        exact ⟨L', (hoth b (fun e => by subst e; rw [h2] at hL'; cases hL')).trans hL'⟩, hs.news⟩
    have hn' := List.nodup_cons.1 hn
    refine ⟨by simp, .inl ⟨r, w', rfl, ?_, close_marks hend rs w' hn'.2 (fun q hq => ?_) hr' hs'⟩⟩
    · simp only [Instr.takeDeferred, getObj, setObj, Sem.run_bind, Sem.run, h2, Result.andThen_ok, Sem.run_pure]
      rfl
    · obtain ⟨h3, h4⟩ := hm q (List.mem_cons_of_mem _ hq)
      exact ⟨h3, (hoth q (fun e => hn'.1 (e ▸ hq))).trans h4⟩

section
variable {P : Program} {C : Ctx} (hC : Fits C P) {call : CallE} (hcall : CallOk P call)
include hC hcall

theorem bodyE_run {f : FuncId} {fn : Func} {c : Code} (hf : P.funcs[f]? = some fn) (hb : fn.body = some c) {pure : Bool} {args : List Value} {H H' : Hp} {v : Value} (h : bodyE C call ⟨c, fn.ntmps, fn.results.toList, pure⟩ args H = some (v, H'))
    {base : Nat} {ι : Emb} {w : World} {args' : Array Value} (hr : Rel base ι H w) (ha : VRs ι args args'.toList) : CallsIn Fence.wide 0 P f args' w (PostOf base ι H H' w v) := by
  unfold bodyE at h
  obtain ⟨hle, h⟩ := bif_some h
  have hle := nble_le hle
  have he := EnvR.ofArgs ha hle
  have hm : Marked w.heap.size [] w := ⟨Nat.le_refl _, [], rfl, List.nodup_nil, fun r hr => by cases hr⟩
  have hend : ∀ e1 H1, (resultE C e1 H1 fn.results.toList).map (fun v => (v, H1)) = some (v, H') → ∀ ι1 (a1 : Act) w1, EnvR ι1 e1 a1.tmps → Rel base ι1 H1 w1 → Step ι ι1 H H1 w w1 → Marked w.heap.size a1.defers w1 →
      LeavesInM Fence.wide 0 P fn a1.tmps (PostOf base ι H H' w v) a1.defers .returning w1 := fun e1 H1 h ι1 a1 w1 g1 g2 g3 g4 => by
    rw [Option.map_eq_some_iff] at h
    obtain ⟨v1, h, he1⟩ := h
    cases he1
    obtain ⟨_, rs, m1, m2, m3⟩ := g4
    rw [m1]
    refine close_marks (ι0 := ι) (H0 := H) (w0 := w) (fun w2 r2 s2 => ?_) rs w1 m2 m3 g2 g3
    obtain ⟨v', e1, e2⟩ := resultE_run hC r2 g1 (fn := fn) h
    exact ⟨v', e1, ι1, e2, r2, s2⟩
  split at h
  · rename_i e1 H1 hev
    refine callsIn_of_wp_marks hf hb trivial (wpIn_mono (code_ok hC hcall (r := none) c _ _ _ hev ι { tmps := args' ++ Array.replicate (fn.ntmps - args'.size) undef, defers := [] } w he hr hm (fun l hl => by cases hl)) fun ex a1 w1 hq => ?_)
    cases ex with
    | normal => obtain ⟨e2, H2, ι2, hx, q⟩ := hq; cases hx; exact hend e1 H1 h ι2 a1 w1 q.1 q.2.1 q.2.2.1 q.2.2.2
    | exit id => obtain ⟨e2, H2, ι2, hx, q⟩ := hq; cases hx
    | ret => obtain ⟨e2, H2, ι2, hx, q⟩ := hq; cases hx
    | goto l => exact hq.elim
    | panic c => exact hq.elim
    | outgrown => exact hq.elim
  · rename_i e1 H1 hev
    refine callsIn_of_wp_marks hf hb trivial (wpIn_mono (code_ok hC hcall (r := none) c _ _ _ hev ι { tmps := args' ++ Array.replicate (fn.ntmps - args'.size) undef, defers := [] } w he hr hm (fun l hl => by cases hl)) fun ex a1 w1 hq => ?_)
    cases ex with
    | normal => obtain ⟨e2, H2, ι2, hx, q⟩ := hq; cases hx
    | exit id => obtain ⟨e2, H2, ι2, hx, q⟩ := hq; cases hx
    | ret => obtain ⟨e2, H2, ι2, hx, q⟩ := hq; cases hx; exact hend e1 H1 h ι2 a1 w1 q.1 q.2.1 q.2.2.1 q.2.2.2
    | goto l => exact hq.elim
    | panic c => exact hq.elim
    | outgrown => exact hq.elim
  · cases h

omit hC hcall in
theorem zipSet_run {ι : Emb} : ∀ {ps : List Tmp} {args : List Value} {args' : List Value} {e e0 : Env} {tmps : Array Value}, VRs ι args args' → zipSet (ps.zip args) e = some e0 → EnvR ι e tmps →
    EnvR ι e0 ((ps.zip args').foldl (fun tmps (x : Tmp × Value) => tmps.setIfInBounds x.1 x.2) tmps)
  | [], _, _, e, e0, tmps, _, h, he => by simp only [List.zip_nil_left, zipSet] at h; cases h; exact he
  | p :: ps, _, _, e, e0, tmps, .nil, h, he => by simp only [List.zip_nil_right, zipSet] at h; cases h; exact he
  | p :: ps, _, _, e, e0, tmps, .cons hv ht, h, he => by
    simp only [List.zip_cons_cons, zipSet, Option.bind_eq_some_iff] at h
    obtain ⟨e1, h1, h2⟩ := h
    simp only [List.zip_cons_cons, List.foldl_cons]
    exact zipSet_run ht h2 (he.set h1 hv)

theorem roundE_run {l : Nat} {args : List Value} {H H' : Hp} {v : Value} (h : roundE C call l args H = some (v, H')) {base : Nat} {ι : Emb} {w : World} {args' : Array Value} {b p : Nat} (hr : Rel base ι H w) (ha : VRs ι args args'.toList) (hι : ι l = some (b, p)) :
    RunsAs P base ι H H' w v (Instr.yield b args') := by
  unfold roundE at h
  split at h
  · rename_i st0 pend0 env ps as bd hget
    obtain ⟨L, hL1, hL2, hL3, hL4, hL5, hL6, hL7⟩ := hr.ob l _ b p hget hι
    obtain ⟨hlen, h⟩ := bif_some h
    have hlen := nbeq_eq hlen
    have hsz : ¬ args'.size ≠ L.params.size := by
      have h1 := ha.length
      have h2 : L.params.toList.length = ps.length := by rw [hL5]
      simp only [Array.length_toList] at h1 h2
      omega
    rw [Option.bind_eq_some_iff] at h
    obtain ⟨e0, he0, h⟩ := h
    have hgo : (Instr.getLoop b).run P w = .ok L w := by simp [Instr.getLoop, getObj, Sem.run, hL1]
    refine ⟨.round b L.fn ((L.params.zip args').foldl (fun tmps (x : Tmp × Value) => tmps.setIfInBounds x.1 x.2) L.tmps) L.assign L.body, w, by
      simp only [Instr.yield, Sem.run_bind, hgo, Result.andThen_ok, hsz, if_false, Sem.run_pure], ?_⟩
    have henv : EnvR ι e0 ((L.params.zip args').foldl (fun tmps (x : Tmp × Value) => tmps.setIfInBounds x.1 x.2) L.tmps) := by
      rw [← Array.foldl_toList, Array.toList_zip, hL5]
      exact zipSet_run ha he0 hL4
    have hm : Marked w.heap.size [] w := ⟨Nat.le_refl _, [], rfl, List.nodup_nil, fun r hr => by cases hr⟩
    have hla : LoopAt (some b) w := fun l hl => by cases hl; exact ⟨L, hL1⟩
    split at h
    · rename_i e1 H1 hev
      show RoundIn Fence.wide 0 P b L.fn _ L.assign L.body w (PostOf base ι H H' w v)
      rw [hL6, hL7]
      refine roundIn_of_wpIn trivial (wpIn_mono (code_ok hC hcall (r := some b) as _ _ _ hev ι { tmps := (L.params.zip args').foldl (fun tmps (x : Tmp × Value) => tmps.setIfInBounds x.1 x.2) L.tmps, defers := [] } w henv hr hm hla) fun ex a1 w1 hq => ?_)
      cases ex with
      | exit id => obtain ⟨e2, H2, ι2, hx, q⟩ := hq; cases hx
      | ret => obtain ⟨e2, H2, ι2, hx, q⟩ := hq; cases hx
      | goto l => exact hq.elim
      | panic c => exact hq.elim
      | outgrown => exact hq.elim
      | normal =>
        obtain ⟨e2, H2, ι1, hx, q1, q2, q3, q4⟩ := hq
        cases hx
        split at h
        · rename_i pend1 env1 ps1 as1 bd1 hget1
          have hι1 : ι1 l = some (b, p) := (q3.emb l (hr.lt hι)).trans hι
          obtain ⟨L1, k1, k2, k3, k4, k5, k6, k7⟩ := q2.ob l _ b p hget1 hι1
          rw [Option.bind_eq_some_iff] at h
          obtain ⟨H2, hu, h⟩ := h
          have hlt1 := (Array.getElem?_eq_some_iff.1 k1).1
          obtain ⟨r2, s2⟩ := q2.write hget1 rfl hι1 hu (w' := { w1 with heap := w1.heap.setIfInBounds b (.loop { L1 with state := .busy }) }) ⟨rfl, rfl, rfl⟩ (by simp)
            (fun k hk => by simp [Array.getElem?_setIfInBounds_ne (Ne.symm hk)])
            ⟨{ L1 with state := .busy }, by simp [hlt1], rfl, k3, k4, k5, k6, k7⟩
            (fun L' hL' => ⟨{ L1 with state := .busy }, by simp [hlt1]⟩)
          refine ⟨{ w1 with heap := w1.heap.setIfInBounds b (.loop { L1 with state := .busy }) }, ?_, ?_⟩
          · simp only [Instr.beginRound, Instr.getLoop, getObj, setObj, Sem.run_bind, Sem.run, k1, Result.andThen_ok, Sem.run_pure, k2]
          · have hm2 : Marked w.heap.size a1.defers { w1 with heap := w1.heap.setIfInBounds b (.loop { L1 with state := .busy }) } := q4.step q2 s2
            have hla2 : LoopAt (some b) { w1 with heap := w1.heap.setIfInBounds b (.loop { L1 with state := .busy }) } := (hla.step q3).step s2
            have hleave : ∀ (j : Option Code) (H3 : Hp) (e3 : Env), (match H3.get l with
                | some (.loop _ _ env3 ps3 a3 b3) =>
                  (H3.upd l (.loop (match j with | none => .ready | some _ => .done) j env3 ps3 a3 b3)).map fun H4 => (Value.bool (match j with | none => true | some _ => false), H4)
                | _ => none) = some (v, H') → ∀ ι3 w3, Rel base ι3 H3 w3 → Step ι1 ι3 H2 H3 { w1 with heap := w1.heap.setIfInBounds b (.loop { L1 with state := .busy }) } w3 →
                ∃ v' w', (Instr.endRound b j).run P w3 = .ok v' w' ∧ PostOf base ι H H' w v (.returned v') w' := fun j H3 e3 h ι3 w3 r3 s3 => by
              split at h
              · rename_i st3 pend3 env3 ps3 as3 bd3 hget3
                rw [Option.map_eq_some_iff] at h
                obtain ⟨H4, hu4, he4⟩ := h
                cases he4
                have hlt : l < H2.next := by
                  have := hr.lt hι
                  have g1 := q3.next
                  have g2 := s2.next
                  omega
                have hι3 : ι3 l = some (b, p) := (s3.emb l hlt).trans hι1
                obtain ⟨L3, n1, n2, n3, n4, n5, n6, n7⟩ := r3.ob l _ b p hget3 hι3
                have hlt3 := (Array.getElem?_eq_some_iff.1 n1).1
                obtain ⟨r4, s4⟩ := r3.write hget3 rfl hι3 hu4 (w' := { w3 with heap := w3.heap.setIfInBounds b (.loop { L3 with state := if j.isNone then .ready else .done, pending := j }) }) ⟨rfl, rfl, rfl⟩ (by simp)
                  (fun k hk => by simp [Array.getElem?_setIfInBounds_ne (Ne.symm hk)])
                  ⟨{ L3 with state := if j.isNone then .ready else .done, pending := j }, by simp [hlt3], by cases j <;> rfl, rfl, n4, n5, n6, n7⟩
                  (fun L' hL' => ⟨{ L3 with state := if j.isNone then .ready else .done, pending := j }, by simp [hlt3]⟩)
                refine ⟨.bool j.isNone, _, ?_, ι3, ?_, r4, ((q3.trans s2).trans s3).trans s4⟩
                · simp only [Instr.endRound, Instr.getLoop, getObj, setObj, Sem.run_bind, Sem.run, n1, Result.andThen_ok, Sem.run_pure]
                · cases j <;> exact .bool _
              · cases h
            split at h
            · rename_i e3 H3 hev3
              refine wpIn_mono (code_ok hC hcall (r := some b) bd _ _ _ hev3 ι1 a1 _ q1 r2 hm2 hla2) fun ex a3 w3 hq3 => ?_
              cases ex with
              | exit id => obtain ⟨_, _, _, hx, _⟩ := hq3; cases hx
              | ret => obtain ⟨_, _, _, hx, _⟩ := hq3; cases hx
              | goto l => exact hq3.elim
              | panic c => exact hq3.elim
              | outgrown => exact hq3.elim
              | normal => obtain ⟨_, _, ι3, hx, _, r3, s3, _⟩ := hq3; cases hx; exact hleave none H3 e3 h ι3 w3 r3 s3
            · rename_i id e3 H3 hev3
              refine wpIn_mono (code_ok hC hcall (r := some b) bd _ _ _ hev3 ι1 a1 _ q1 r2 hm2 hla2) fun ex a3 w3 hq3 => ?_
              cases ex with
              | exit id => obtain ⟨_, _, ι3, hx, _, r3, s3, _⟩ := hq3; cases hx; exact hleave (some (.exit id)) H3 e3 h ι3 w3 r3 s3
              | ret => obtain ⟨_, _, _, hx, _⟩ := hq3; cases hx
              | goto l => exact hq3.elim
              | panic c => exact hq3.elim
              | outgrown => exact hq3.elim
              | normal => obtain ⟨_, _, _, hx, _⟩ := hq3; cases hx
            · rename_i e3 H3 hev3
              refine wpIn_mono (code_ok hC hcall (r := some b) bd _ _ _ hev3 ι1 a1 _ q1 r2 hm2 hla2) fun ex a3 w3 hq3 => ?_
              cases ex with
              | exit id => obtain ⟨_, _, _, hx, _⟩ := hq3; cases hx
              | ret => obtain ⟨_, _, ι3, hx, _, r3, s3, _⟩ := hq3; cases hx; exact hleave (some .ret) H3 e3 h ι3 w3 r3 s3
              | goto l => exact hq3.elim
              | panic c => exact hq3.elim
              | outgrown => exact hq3.elim
              | normal => obtain ⟨_, _, _, hx, _⟩ := hq3; cases hx
            · cases h
        · cases h
    · cases h
  · cases h
end

theorem emptyRel (w : World) : Rel w.heap.size ⟨fun _ => none, fun _ => 0⟩ ⟨.nl, 0, 0⟩ w :=
  ⟨Nat.le_refl _, fun _ _ => rfl, fun i b p h => (by cases h), fun i o b p h1 h2 => (by cases h2), fun i j oi oj b p q h1 _ _ _ h5 => (by cases h5), fun i o b p _ _ h => (by cases h), Nat.le_refl _⟩

/-- A call that leaves no trace. -/
theorem pure_run {P : Program} {C : Ctx} (hC : Fits C P) {call : CallE} (hcall : CallOk P call) {f : FuncId} {fn : Func} {c : Code} (hf : P.funcs[f]? = some fn) (hb : fn.body = some c) {pu : Bool} {args : List Value} {H H1 : Hp} {v : Value} (hpl : plainV v = true)
    (hbd : bodyE C call ⟨c, fn.ntmps, fn.results.toList, pu⟩ args (H.fresh args) = some (v, H1)) {base : Nat} {ι : Emb} {w : World} {args' : Array Value} (hr : Rel base ι H w) (ha : VRs ι args args'.toList) : CallsIn Fence.wide 0 P f args' w (PostOf base ι H H w v) := by
  have hfin : ∀ {base0 : Nat} {ι0 : Emb} {H0 : Hp}, Rel base0 ι0 H0 w → H0.floor = H0.next → VRs ι0 args args'.toList → bodyE C call ⟨c, fn.ntmps, fn.results.toList, pu⟩ args H0 = some (v, H1) →
      CallsIn Fence.wide 0 P f args' w (PostOf base ι H H w v) := fun {base0 ι0 H0} hr0 hf0 ha0 hb0 => by
    refine (bodyE_run hC hcall hf hb hb0 hr0 ha0).mono fun ex w1 hq => ?_
    cases ex with
    | returned v' =>
      obtain ⟨ι', g1, g2, g3⟩ := hq
      have hsame : ∀ b, b < w.heap.size → w1.heap[b]? = w.heap[b]? := fun b hb => g3.same b hb fun ⟨i, o, p, _, _, h3, h4⟩ => by
        rw [hf0] at h3
        rw [hr0.dom i h3] at h4; cases h4
      have := VR.plainV_eq hpl g1
      subst this
      exact ⟨ι, VR.plainV hpl, hr.later g3.size hsame, Step.later hr g3.size hsame ⟨g3.os, g3.tape, g3.output⟩⟩
    | panicked c => exact hq.elim
    | outgrown => exact hq.elim
  unfold Hp.fresh at hbd
  cases hpa : args.all Go.Ahe.plainV with
  | true =>
    rw [hpa, cond_true] at hbd
    have heq := VRs.plain_eq (fun _ _ => VR.plainV_eq) hpa ha
    refine hfin (base0 := w.heap.size) (ι0 := ⟨fun _ => none, fun _ => 0⟩) (emptyRel w) rfl ?_ hbd
    rw [heq]
    exact VRs.plain (fun _ => VR.plainV) hpa
  | false =>
    rw [hpa, cond_false] at hbd
    exact hfin hr.raised rfl ha hbd

/-- The calls that are given. -/
def extCall (C : Ctx) : CallE := fun fn args H => match fn with
  | .func f => C.ext f args H
  | _ => none

/-- **THE EVALUATOR IS RIGHT.** -/
theorem evF_ok {P : Program} {C : Ctx} (hC : Fits C P) (hE : CallOk P (extCall C)) : ∀ d, CallOk P (evF C d)
  | 0 => ⟨(fun h => by cases h), (fun h => by cases h)⟩
  | d + 1 => by
    have ih := evF_ok hC hE d
    refine ⟨fun {f args H H' v} h {base ι w args'} hr ha => ?_, fun {l args H H' v} h {base ι w args' b p} hr ha hι => roundE_run hC ih h hr ha hι⟩
    simp only [evF] at h
    split at h
    · rename_i x hx
      cases h
      exact hE.func hx hr ha
    · split at h
      · cases h
      · rename_i a haf
        have hmk := hC.funcs f a haf
        generalize a.pure = pu at hmk
        obtain ⟨fn, c, hf, hb, hne, rfl⟩ := mkAF_some hmk
        refine ⟨.enter f args', w, enter_run hf hb hne args' w, ?_⟩
        show CallsIn Fence.wide 0 P f args' w (PostOf base ι H H' w v)
        simp only at h
        cases pu with
        | false => exact bodyE_run hC ih hf hb h hr ha
        | true =>
          simp only at h
          split at h
          · rename_i v1 H1 hbd
            obtain ⟨hpl, h⟩ := bif_some h
            cases h
            exact pure_run hC ih hf hb hpl hbd hr ha
          · cases h
end Go.Ahe
