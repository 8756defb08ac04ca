/-
  AHE, 18: one operation of a region, run.
-/
import Derived.Test.YthfmdomnoheklaaDoorZaheOps
namespace Go.Ahe
open Go.RowKit

/-- What is behind a call: the value, the heaps, the worlds. -/
def PostOf (base : Nat) (ι : Emb) (H H' : Hp) (w : World) (v : Value) : Ending → World → Prop
  | .returned v', w' => ∃ ι', VR ι' v v' ∧ Rel base ι' H' w' ∧ Step ι ι' H H' w w'
  | _, _ => False

/-- How an operation goes. -/
def RunsAs (P : Program) (base : Nat) (ι : Emb) (H H' : Hp) (w : World) (v : Value) (s : Sem Next) : Prop :=
  ∃ nx w1, s.run P w = .ok nx w1 ∧ (match nx with
    | .value v' => PostOf base ι H H' w v (.returned v') w1
    | .skip => PostOf base ι H H' w v (.returned undef) w1
    | .enter f args => CallsIn Fence.wide 0 P f args w1 (PostOf base ι H H' w v)
    | .round l f tmps as body => RoundIn Fence.wide 0 P l f tmps as body w1 (PostOf base ι H H' w v)
    | _ => False)

/-- Calls go as the evaluator says. -/
structure CallOk (P : Program) (call : CallE) : Prop where
  func : ∀ {f : FuncId} {args : List Value} {H H' : Hp} {v : Value}, call (.func f) args H = some (v, H') → ∀ {base : Nat} {ι : Emb} {w : World} {args' : Array Value}, Rel base ι H w → VRs ι args args'.toList →
    RunsAs P base ι H H' w v (callFunc f args')
  yield : ∀ {l : Nat} {args : List Value} {H H' : Hp} {v : Value}, call (.yield l) args H = some (v, H') → ∀ {base : Nat} {ι : Emb} {w : World} {args' : Array Value} {b p : Nat}, Rel base ι H w → VRs ι args args'.toList → ι l = some (b, p) →
    RunsAs P base ι H H' w v (Instr.yield b args')

theorem ValRun.as {P : Program} {base : Nat} {ι : Emb} {H H' : Hp} {w : World} {v : Value} {s : Sem Value} (h : ValRun P base ι H H' w v s) : RunsAs P base ι H H' w v (do pure (.value (← s))) := by
  obtain ⟨v', w', ι', h1, h2, h3, h4⟩ := h
  refine ⟨.value v', w', ?_, ι', h2, h3, h4⟩
  simp only [Sem.run_bind, h1, Result.andThen_ok, Sem.run_pure]

theorem UnitRun.as {P : Program} {base : Nat} {ι : Emb} {H H' : Hp} {w : World} {s : Sem Unit} (h : ∃ w' : World, s.run P w = .ok () w' ∧ Rel base ι H' w' ∧ Step ι ι H H' w w') : RunsAs P base ι H H' w (.tuple #[]) (do s; pure .skip) := by
  obtain ⟨w', h1, h2, h3⟩ := h
  refine ⟨.skip, w', ?_, ι, .undef, h2, h3⟩
  simp only [Sem.run_bind, h1, Result.andThen_ok, Sem.run_pure]

theorem RunsAs.pure {P : Program} {base : Nat} {ι : Emb} {H : Hp} {w : World} (hr : Rel base ι H w) {v v' : Value} (h : VR ι v v') : RunsAs P base ι H H w v (pure (.value v')) :=
  ⟨.value v', w, rfl, ι, h, hr, Step.refl hr⟩

/-- The operands' values are related. -/
def OpsR (ι : Emb) (e : Env) (a : Act) (xs : List Operand) : Prop := ∀ x ∈ xs, ∀ v, opV e x = some v → VR ι v (a.eval x)

theorem EnvR.opsR {ι : Emb} {e : Env} {a : Act} (h : EnvR ι e a.tmps) (xs : List Operand) : OpsR ι e a xs := fun x _ v hv => h.op hv

theorem OpsR.ops {ι : Emb} {e : Env} {a : Act} : ∀ {xs : List Operand} {vs : List Value}, OpsR ι e a xs → opVs e xs = some vs → VRs ι vs (xs.map a.eval)
  | [], vs, h, hs => by simp only [opVs] at hs; cases hs; exact .nil
  | x :: xs, vs, h, hs => by
    simp only [opVs] at hs
    split at hs
    · rename_i v vs' h1 h2; cases hs; exact .cons (h x (List.mem_cons_self ..) _ h1) (OpsR.ops (fun y hy => h y (List.mem_cons_of_mem _ hy)) h2)
    · cases hs
theorem OpsR.opo {ι : Emb} {e : Env} {a : Act} {x : Option Operand} {v : Option Value} (h : OpsR ι e a x.toList) (hs : opVo e x = some v) : VRo ι v (x.map a.eval) := by
  cases x with
  | none => simp only [opVo] at hs; cases hs; exact .none
  | some x =>
    simp only [opVo, Option.map_eq_some_iff] at hs
    obtain ⟨u, h1, rfl⟩ := hs
    exact .some (h x (by simp) _ h1)

theorem parts_map {ι : Emb} {e : Env} {a : Act} : ∀ {ps : List (Nat × Operand)} {vs : List (Nat × Value)} (_ : OpsR ι e a (ps.map (·.2))), partsE e ps = some vs →
    vs.map (·.1) = (ps.map fun (x : Nat × Operand) => (x.1, a.eval x.2)).map (·.1) ∧ VRs ι (vs.map (·.2)) ((ps.map fun (x : Nat × Operand) => (x.1, a.eval x.2)).map (·.2))
  | [], vs, he, h => by simp only [partsE] at h; cases h; exact ⟨rfl, .nil⟩
  | (i, x) :: ps, vs, he, h => by
    simp only [partsE] at h
    split at h
    · rename_i v vs' h1 h2; cases h
      obtain ⟨h3, h4⟩ := parts_map (fun y hy => he y (List.mem_cons_of_mem _ hy)) h2
      exact ⟨by simp [h3], .cons (he x (List.mem_cons_self ..) _ h1) h4⟩
    · cases h

section
variable {P : Program} {C : Ctx} (hC : Fits C P) {base : Nat} {ι : Emb} {H : Hp} {w : World} (hr : Rel base ι H w) {call : CallE} (hcall : CallOk P call) {e : Env} {a : Act}

theorem pureV_some {v : Option Value} {u : Value} {H H' : Hp} (h : (match v with | some v => some (v, H) | none => none : Option (Value × Hp)) = some (u, H')) : v = some u ∧ H' = H := by
  cases v with
  | none => cases h
  | some v => cases h; exact ⟨rfl, rfl⟩
theorem unitV_some {h : Option Hp} {u : Value} {H' : Hp} (hh : (match h with | some h => some (.tuple #[], h) | none => none : Option (Value × Hp)) = some (u, H')) : h = some H' ∧ u = .tuple #[] := by
  cases h with
  | none => cases hh
  | some v => cases hh; exact ⟨rfl, rfl⟩

set_option maxHeartbeats 1000000
include hC hr hcall
theorem opE_run' {o : Oper} (he : OpsR ι e a o.op.operands.toList) {v : Value} {H' : Hp} (h : opE C call o.op o.type e H = some (v, H')) : RunsAs P base ι H H' w v (execOp a.eval o) := by
  cases hop : o.op <;> rw [hop] at h he <;> simp only [execOp, hop] <;> simp only [opE] at h
  case move x => replace h := pureV_some h; obtain ⟨h, rfl⟩ := h; exact RunsAs.pure hr (he _ (by simp [Op.operands]) _ h)
  case assign x => replace h := pureV_some h; obtain ⟨h, rfl⟩ := h; exact RunsAs.pure hr (he _ (by simp [Op.operands]) _ h)
  case pick c x y =>
    split at h
    · rename_i hc
      replace h := pureV_some h; obtain ⟨h, rfl⟩ := h
      have h1 := he _ (by simp [Op.operands]) _ hc
      generalize hcv : a.eval c = cv at h1
      cases h1
      refine ⟨.value (a.eval x), w, ?_, ι, he _ (by simp [Op.operands]) _ h, hr, Step.refl hr⟩
      rfl
    · rename_i hc
      replace h := pureV_some h; obtain ⟨h, rfl⟩ := h
      have h1 := he _ (by simp [Op.operands]) _ hc
      generalize hcv : a.eval c = cv at h1
      cases h1
      refine ⟨.value (a.eval y), w, ?_, ι, he _ (by simp [Op.operands]) _ h, hr, Step.refl hr⟩
      rfl
    · cases h
  case alloc t =>
    simp only [Option.bind_eq_some_iff] at h
    obtain ⟨ti, hti, h⟩ := h; cases h
    obtain ⟨w', s, e1, e2, e3⟩ := allocOp_run hC hr hti
    exact ValRun.as ⟨_, w', _, e1, VR.newPtr ι H.next w.heap.size s, e2, e3⟩
  case box t x =>
    simp only [Option.bind_eq_some_iff] at h
    obtain ⟨u, hu, h⟩ := h; cases h
    obtain ⟨w', s, e1, e2, e3⟩ := boxOp_run hr (t := t) (he _ (by simp [Op.operands]) _ hu)
    exact ValRun.as ⟨_, w', _, e1, VR.newPtr ι H.next w.heap.size s, e2, e3⟩
  case build t ps =>
    replace h := pureV_some h; obtain ⟨h, rfl⟩ := h
    simp only [Option.bind_eq_some_iff] at h
    obtain ⟨vs, h1, h2⟩ := h
    obtain ⟨h3, h4⟩ := parts_map (ps := ps.toList) (fun x hx => he x (by simpa [Op.operands] using hx)) h1
    obtain ⟨v', e1, e2⟩ := buildE_run (w := w) hC (ps' := ps.map fun (i, x) => (i, a.eval x)) (by simpa using h3) (by simpa using h4) h2
    exact ValRun.as (ValRun.same hr e1 e2)
  case buildSlice t n ps =>
    simp only [Option.bind_eq_some_iff] at h
    obtain ⟨vs, h1, h2⟩ := h
    obtain ⟨h3, h4⟩ := parts_map (ps := ps.toList) (fun x hx => he x (by simpa [Op.operands] using hx)) h1
    obtain ⟨v', w', ι', e1, e2, e3, e4⟩ := buildSliceE_run hC hr (ps' := ps.map fun (i, x) => (i, a.eval x)) (by simpa using h3) (by simpa using h4) h2
    exact ValRun.as ⟨v', w', ι', e1, e2, e3, e4⟩
  case load t x =>
    replace h := pureV_some h; obtain ⟨h, rfl⟩ := h
    simp only [Option.bind_eq_some_iff] at h
    obtain ⟨u, h1, ti, h2, h3⟩ := h
    obtain ⟨v', e1, e2, _⟩ := loadE_run hC hr h2 (he _ (by simp [Op.operands]) _ h1) h3
    exact ValRun.as (ValRun.same hr e1 e2)
  case store t x y =>
    replace h := unitV_some h; obtain ⟨h, rfl⟩ := h
    simp only [Option.bind_eq_some_iff] at h
    obtain ⟨u, h1, u2, h2, ti, h3, h4⟩ := h
    exact UnitRun.as (storeE_run hC hr h3 (he _ (by simp [Op.operands]) _ h1) (he _ (by simp [Op.operands]) _ h2) h4)
  case nilCheck x =>
    replace h := pureV_some h; obtain ⟨h, rfl⟩ := h
    simp only [Option.bind_eq_some_iff] at h
    obtain ⟨u, h1, h2⟩ := h
    have h3 := he _ (by simp [Op.operands]) _ h1
    refine ⟨.value (a.eval x), w, ?_, ι, ?_, hr, Step.refl hr⟩
    · generalize hcv : a.eval x = cv at h3
      split at h2 <;> first | (cases h2; done) | (cases h3 <;> rfl)
    · split at h2 <;> first | (cases h2; done) | (cases h2; exact h3)
  case binOp op t x y ty =>
    replace h := pureV_some h; obtain ⟨h, rfl⟩ := h
    simp only [Option.bind_eq_some_iff] at h
    obtain ⟨u, h1, u2, h2, h3⟩ := h
    obtain ⟨v', e1, e2⟩ := binE_run (w := w) hC (x := x) (y := y) (he _ (by simp [Op.operands]) _ h1) (he _ (by simp [Op.operands]) _ h2) h3
    exact ValRun.as (ValRun.same hr e1 e2)
  case unOp op t x =>
    replace h := pureV_some h; obtain ⟨h, rfl⟩ := h
    simp only [Option.bind_eq_some_iff] at h
    obtain ⟨u, h1, h2⟩ := h
    obtain ⟨v', e1, e2⟩ := unE_run (w := w) (P := P) (he _ (by simp [Op.operands]) _ h1) h2
    exact ValRun.as (ValRun.same hr e1 e2)
  case convert s d x =>
    replace h := pureV_some h; obtain ⟨h, rfl⟩ := h
    simp only [Option.bind_eq_some_iff] at h
    obtain ⟨u, h1, h2⟩ := h
    obtain ⟨v', e1, e2⟩ := convE_run (w := w) hC (he _ (by simp [Op.operands]) _ h1) h2
    exact ValRun.as (ValRun.same hr e1 e2)
  case makeFunc fn first cap =>
    replace h := pureV_some h; obtain ⟨h, rfl⟩ := h
    simp only [Option.bind_eq_some_iff] at h
    obtain ⟨u, h1, u2, h2, h3⟩ := h
    split at h3
    · cases h3
      exact ValRun.as (ValRun.same hr (v' := .func (.func _) (first.map a.eval) (cap.map a.eval)) rfl (.func (by simpa using OpsR.ops (fun x hx => he x (by simp [Op.operands] at hx ⊢; exact .inl hx)) h1) (by simpa using OpsR.ops (fun x hx => he x (by simp [Op.operands] at hx ⊢; exact .inr hx)) h2)))
    · cases h3
  case makeMap t r =>
    simp only [Option.bind_eq_some_iff] at h
    obtain ⟨u, h1, h2⟩ := h
    have h3 := OpsR.opo (fun x hx => he x (by simpa [Op.operands] using hx)) h1
    split at h2
    · cases h2
      obtain ⟨e1, e2⟩ := hr.new (.map [] 0) (.map #[] 0) 0 (fun w' hw => ⟨#[], hw, .nil⟩)
      refine ValRun.as ⟨.map (some w.heap.size), _, _, ?_, .map (p := 0) (Emb.ext_self _ _ _ _ _), e1, e2⟩
      generalize hcv : r.map a.eval = cv at h3
      cases h3
      simp only [Instr.makeMap, Sem.run_bind, Sem.run_pure, run_newObj, Result.andThen_ok, World.alloc]
    · cases h2
  case makeSlice t l c =>
    simp only [Option.bind_eq_some_iff] at h
    obtain ⟨u, h1, u2, h2, h3⟩ := h
    exact ValRun.as (makeSliceE_run hC hr (he _ (by simp [Op.operands]) _ h1) (he _ (by simp [Op.operands]) _ h2) h3)
  case slice t x lo hi mx =>
    replace h := pureV_some h; obtain ⟨h, rfl⟩ := h
    simp only [Option.bind_eq_some_iff] at h
    obtain ⟨u, h1, l1, h2, l2, h3, l3, h4, n1, h5, n2, h6, n3, h7, h8⟩ := h
    obtain ⟨v', e1, e2⟩ := sliceE_run (w := w) hC (he _ (by simp [Op.operands]) _ h1) (nato?_some (OpsR.opo (fun x hx => he x (by simp [Op.operands] at hx ⊢; simp [hx])) h2) h5) (nato?_some (OpsR.opo (fun x hx => he x (by simp [Op.operands] at hx ⊢; simp [hx])) h3) h6) (nato?_some (OpsR.opo (fun x hx => he x (by simp [Op.operands] at hx ⊢; simp [hx])) h4) h7) h8
    exact ValRun.as (ValRun.same hr e1 e2)
  case fieldAddr t x f =>
    replace h := pureV_some h; obtain ⟨h, rfl⟩ := h
    simp only [Option.bind_eq_some_iff] at h
    obtain ⟨u, h1, h2⟩ := h
    obtain ⟨v', e1, e2⟩ := fieldAddrE_run (w := w) hC (he _ (by simp [Op.operands]) _ h1) h2
    exact ValRun.as (ValRun.same hr e1 e2)
  case field t x f =>
    replace h := pureV_some h; obtain ⟨h, rfl⟩ := h
    simp only [Option.bind_eq_some_iff] at h
    obtain ⟨u, h1, h2⟩ := h
    obtain ⟨v', e1, e2⟩ := fieldE_run (w := w) hC (he _ (by simp [Op.operands]) _ h1) h2
    exact ValRun.as (ValRun.same hr e1 e2)
  case indexAddr t x i =>
    replace h := pureV_some h; obtain ⟨h, rfl⟩ := h
    simp only [Option.bind_eq_some_iff] at h
    obtain ⟨u, h1, u2, h2, h3⟩ := h
    obtain ⟨v', e1, e2⟩ := indexAddrE_run (w := w) hC (he _ (by simp [Op.operands]) _ h1) (he _ (by simp [Op.operands]) _ h2) h3
    exact ValRun.as (ValRun.same hr e1 e2)
  case index t x i =>
    replace h := pureV_some h; obtain ⟨h, rfl⟩ := h
    simp only [Option.bind_eq_some_iff] at h
    obtain ⟨u, h1, u2, h2, h3⟩ := h
    obtain ⟨v', e1, e2⟩ := indexE_run (w := w) hC (he _ (by simp [Op.operands]) _ h1) (he _ (by simp [Op.operands]) _ h2) h3
    exact ValRun.as (ValRun.same hr e1 e2)
  case lookup t x k ok =>
    replace h := pureV_some h; obtain ⟨h, rfl⟩ := h
    simp only [Option.bind_eq_some_iff] at h
    obtain ⟨u, h1, u2, h2, h3⟩ := h
    obtain ⟨v', e1, e2⟩ := lookupE_run hC hr (he _ (by simp [Op.operands]) _ h1) (he _ (by simp [Op.operands]) _ h2) h3
    exact ValRun.as (ValRun.same hr e1 e2)
  case mapUpdate t m k x =>
    replace h := unitV_some h; obtain ⟨h, rfl⟩ := h
    simp only [Option.bind_eq_some_iff] at h
    obtain ⟨u, h1, u2, h2, u3, h3, h4⟩ := h
    exact UnitRun.as (mapPutE_run hC hr (he _ (by simp [Op.operands]) _ h1) (he _ (by simp [Op.operands]) _ h2) (he _ (by simp [Op.operands]) _ h3) h4)
  case insert t m k x =>
    replace h := unitV_some h; obtain ⟨h, rfl⟩ := h
    simp only [Option.bind_eq_some_iff] at h
    obtain ⟨u, h1, u2, h2, u3, h3, h4⟩ := h
    exact UnitRun.as (mapPutE_run hC hr (he _ (by simp [Op.operands]) _ h1) (he _ (by simp [Op.operands]) _ h2) (he _ (by simp [Op.operands]) _ h3) h4)
  case mapEntry t m k =>
    simp only [Option.bind_eq_some_iff] at h
    obtain ⟨u, h1, u2, h2, h3⟩ := h
    obtain ⟨v', w', e1, e2, e3, e4⟩ := mapEntryE_run hC hr (he _ (by simp [Op.operands]) _ h1) (he _ (by simp [Op.operands]) _ h2) h3
    exact ValRun.as ⟨v', w', ι, e1, e2, e3, e4⟩
  case entryStore t m s x =>
    replace h := unitV_some h; obtain ⟨h, rfl⟩ := h
    simp only [Option.bind_eq_some_iff] at h
    obtain ⟨u, h1, u2, h2, u3, h3, h4⟩ := h
    exact UnitRun.as (entryStoreE_run hr (he _ (by simp [Op.operands]) _ h1) (he _ (by simp [Op.operands]) _ h2) (he _ (by simp [Op.operands]) _ h3) h4)
  case range t x =>
    simp only [Option.bind_eq_some_iff] at h
    obtain ⟨u, h1, h2⟩ := h
    exact ValRun.as (rangeE_run hC hr (he _ (by simp [Op.operands]) _ h1) h2)
  case next it isS =>
    cases isS with
    | true => simp only [opE] at h; cases h
    | false =>
      simp only [opE] at h
      simp only [Option.bind_eq_some_iff] at h
      obtain ⟨u, h1, h2⟩ := h
      exact ValRun.as (nextE_run hr (he _ (by simp [Op.operands]) _ h1) h2)
  case entry it =>
    replace h := pureV_some h; obtain ⟨h, rfl⟩ := h
    simp only [Option.bind_eq_some_iff] at h
    obtain ⟨u, h1, h2⟩ := h
    obtain ⟨v', e1, e2⟩ := entryE_run (P := P) hr (he _ (by simp [Op.operands]) _ h1) h2
    exact ValRun.as (ValRun.same hr e1 e2)
  case extract x k =>
    replace h := pureV_some h; obtain ⟨h, rfl⟩ := h
    simp only [Option.bind_eq_some_iff] at h
    obtain ⟨u, h1, h2⟩ := h
    obtain ⟨v', e1, e2⟩ := extractE_run (w := w) (P := P) (he _ (by simp [Op.operands]) _ h1) h2
    exact ValRun.as (ValRun.same hr e1 e2)
  case call c =>
    obtain ⟨callee, cargs, ats⟩ := c
    simp only [Option.bind_eq_some_iff] at h
    obtain ⟨args, h1, h2⟩ := h
    have hargs : VRs ι args (cargs.map a.eval).toList := by simpa using OpsR.ops (fun x hx => he x (by simp [Op.operands, Call.operands] at hx ⊢; first | exact .inl hx | exact .inr hx | exact hx)) h1
    cases callee with
    | builtin b =>
      simp only at h2
      obtain ⟨s, e1, e2⟩ := builtinE_run hC hr (ts := ats) (ty := o.type) (consts := cargs.map fun | .const _ => true | _ => false) hargs h2
      have hx := ValRun.as e2
      rw [← e1] at hx
      obtain ⟨nx, w1, f1, f2⟩ := hx
      exact ⟨nx, w1, f1, f2⟩
    | value f =>
      simp only [Option.bind_eq_some_iff] at h2
      obtain ⟨fv, h2, p, h3, h4⟩ := h2
      have h5 := he _ (by simp [Op.operands, Call.operands]) _ h2
      generalize hcv : a.eval f = cv at h5
      unfold calleeE at h3
      split at h3
      · rename_i fid first cap
        cases h3
        cases h5 with | @func _ _ a' _ c' ha hc =>
        obtain ⟨nx, w1, e1, e2⟩ := hcall.func h4 hr (args' := a' ++ cargs.map a.eval ++ c') (by
          simp only [Array.toList_append]
          exact (ha.append hargs).append hc)
        refine ⟨nx, w1, ?_, e2⟩
        simp only [resolve, hcv, Deferred.ofValue, Sem.run_bind, Sem.run_pure, Result.andThen_ok, invoke]
        exact e1
      · rename_i l first cap
        cases h3
        cases h5 with | @yield _ b p hι =>
        obtain ⟨nx, w1, e1, e2⟩ := hcall.yield h4 hr (args' := #[] ++ cargs.map a.eval) (by simpa using hargs) hι
        refine ⟨nx, w1, ?_, e2⟩
        simp only [resolve, hcv, Deferred.ofValue, Sem.run_bind, Sem.run_pure, Result.andThen_ok, invoke]
        exact e1
      · cases h3
    | invoke r n => cases h2
  all_goals cases h

theorem opE_run (he : EnvR ι e a.tmps) {o : Oper} {v : Value} {H' : Hp} (h : opE C call o.op o.type e H = some (v, H')) : RunsAs P base ι H H' w v (execOp a.eval o) :=
  opE_run' hC hr hcall (he.opsR _) h
end
end Go.Ahe
