/-
  AHE, 21: functions, rounds, calls to a depth.
-/
import Derived.Test.YthfmdomnoheklaaDoorZaheDraw
namespace Go.Ahe
open Go.RowKit

section
variable {P : Program} {C : Ctx} (hC : Fits C P) {base lo : Nat} {call : CallE} (hcall : CallOk P call) {r : Option Nat}
include hC hcall
/-- **ALL CODE.** -/
theorem code_ok (c : Code) : CodeOk P C call base lo r c := by
  induction c with
  | skip => exact code_skip
  | region id ops draw => cases draw with
    | false => exact code_region hC hcall
    | true => exact code_draw hC hcall
  | seq x y hx hy => exact code_seq hx hy
  | cond c x y hx hy => exact code_cond hx hy
  | block id x hx => exact code_block hx
  | loop x hx => exact code_loop hx
  | rangeFunc f ps as b _ _ => exact code_rangeFunc hC hcall
  | exit id => exact code_exit id
  | scope x _ => exact fun e H res h => by cases h
  | label l => exact code_label l
  | goto l => exact fun e H res h => by cases h
  | ret => exact code_ret
  | refuse s => exact fun e H res h => by cases h
end

theorem ofArgs_get (k : Nat) : ∀ (args : List Value) (p : Nat) (t : Tr Value), (args.foldl (fun (q : Nat × Tr Value) v => (q.1 + 1, q.2.set q.1 v)) (p, t)).2.get k = if p ≤ k ∧ k < p + args.length then args[k - p]? else t.get k
  | [], p, t => by rw [if_neg (by simp)]; rfl
  | v :: args, p, t => by
    simp only [List.foldl_cons]
    rw [ofArgs_get k args (p + 1) (t.set p v), Tr.get_set]
    by_cases h1 : p + 1 ≤ k ∧ k < p + 1 + args.length
    · rw [if_pos h1, if_pos (by simp; omega)]
      have : k - p = (k - (p + 1)) + 1 := by omega
      rw [this, List.getElem?_cons_succ]
    · rw [if_neg h1]
      by_cases h2 : k = p
      · subst h2
        rw [if_pos rfl, if_pos (by simp)]
        simp
      · rw [if_neg h2, if_neg (by simp; omega)]

theorem EnvR.ofArgs {ι : Emb} {args : List Value} {args' : Array Value} (h : VRs ι args args'.toList) {n : Nat} (hn : args.length ≤ n) : EnvR ι (Env.ofArgs n args) (args' ++ Array.replicate (n - args'.size) undef) := by
  have hl : args.length = args'.size := by rw [← Array.length_toList]; exact h.length
  refine ⟨by simp [Env.ofArgs]; omega, fun k hk => ?_⟩
  have hk : k < n := hk
  have hg : (Env.ofArgs n args).get k = (if 0 ≤ k ∧ k < 0 + args.length then args[k - 0]? else (Tr.nl : Tr Value).get k).getD (.tuple #[]) := by
    unfold Env.get Env.ofArgs
    simp only
    rw [ofArgs_get k args 0 .nl]
  rw [hg]
  by_cases hlt : k < args.length
  · rw [if_pos ⟨Nat.zero_le _, by omega⟩, Nat.sub_zero]
    have h1 : args[k]? = some args[k] := List.getElem?_eq_getElem hlt
    obtain ⟨v', h2, h3⟩ := h.get? h1
    rw [h1, Option.getD_some, Array.getD_eq_getD_getElem?, Array.getElem?_append_left (by omega)]
    rw [Array.getElem?_toList] at h2
    rw [h2]; exact h3
  · rw [if_neg (by omega), Array.getD_eq_getD_getElem?, Array.getElem?_append_right (by omega)]
    have : (Array.replicate (n - args'.size) undef)[k - args'.size]? = some undef := by
      rw [Array.getElem?_replicate, if_pos (by omega)]
    rw [this]
    exact .undef

/-- Values without addresses stand for themselves alone. -/
theorem VR.plainCell_eq {ι : Emb} {v v' : Value} (h : Go.Ahe.plainCell v = true) (hv : VR ι v v') : v' = v := by
  cases hv <;> first | rfl | (cases h; done)
theorem VRs.plain_eq {ι : Emb} {f : Value → Bool} (hf : ∀ v v', f v = true → VR ι v v' → v' = v) : ∀ {l l' : List Value}, l.all f = true → VRs ι l l' → l' = l
  | _, _, _, .nil => rfl
  | _, _, h, .cons hv t => by
    simp only [List.all_cons, Bool.and_eq_true] at h
    rw [hf _ _ h.1 hv, VRs.plain_eq hf h.2 t]
theorem VR.plainV1_eq {ι : Emb} {v v' : Value} (h : Go.Ahe.plainV1 v = true) (hv : VR ι v v') : v' = v := by
  cases hv <;> first | rfl | (cases h; done) | skip
  rename_i hv
  rw [Array.toList_inj.1 (VRs.plain_eq (fun _ _ => VR.plainCell_eq) h hv)]
theorem VR.plainV_eq {ι : Emb} {v v' : Value} (h : Go.Ahe.plainV v = true) (hv : VR ι v v') : v' = v := by
  cases v with
  | tuple a =>
    cases hv with | tuple hv =>
    rw [Array.toList_inj.1 (VRs.plain_eq (fun _ _ => VR.plainV1_eq) h hv)]
  | _ => exact VR.plainV1_eq h hv

/-- Where nothing old could be written, all that was there is there. -/
theorem raised_same {base : Nat} {ι ι' : Emb} {H H1 : Hp} {w w' : World} (hr : Rel base ι H w) (hs : Step ι ι' H.raised H1 w w') : ∀ b, b < w.heap.size → w'.heap[b]? = w.heap[b]? := fun b hb =>
  hs.same b hb fun ⟨i, o, p, _, _, h3, h4⟩ => by
    have : H.next ≤ i := h3
    rw [hr.dom i this] at h4; cases h4

theorem Rel.later {base : Nat} {ι : Emb} {H : Hp} {w w' : World} (hr : Rel base ι H w) (hsz : w.heap.size ≤ w'.heap.size) (hs : ∀ b, b < w.heap.size → w'.heap[b]? = w.heap[b]?) : Rel base ι H w' :=
  ⟨hr.flo, hr.dom, fun i b p h => Nat.lt_of_lt_of_le (hr.bnd i b p h) hsz, fun i o b p h1 h2 => (hr.ob i o b p h1 h2).same (hs b (hr.bnd i b p h2)), hr.inj, hr.bas, Nat.le_trans hr.bs hsz⟩
theorem Step.later {base : Nat} {ι : Emb} {H : Hp} {w w' : World} (hr : Rel base ι H w) (hsz : w.heap.size ≤ w'.heap.size) (hs : ∀ b, b < w.heap.size → w'.heap[b]? = w.heap[b]?) (he : WEq w w') : Step ι ι H H w w' :=
  ⟨fun _ _ => rfl, fun _ _ => rfl, Nat.le_refl _, rfl, fun _ _ => rfl, fun _ _ h => h, he.os, he.tape, he.output, hsz, fun b hb _ => hs b hb, fun b L hL => ⟨L, (hs b (Array.getElem?_eq_some_iff.1 hL).1).trans hL⟩, fun i b p h1 h2 => by rw [hr.dom i h1] at h2; cases h2⟩

section
variable {P : Program} {C : Ctx} (hC : Fits C P) {base : Nat} {ι : Emb} {H : Hp} {w : World} (hr : Rel base ι H w)
include hC hr

theorem resE_run {e : Env} {tmps : Array Value} (he : EnvR ι e tmps) {x : ResultVar} {v : Value} (h : resE C e H x = some v) :
    ∃ v', (match x with
      | .tmp t => pure (tmps.getD t undef)
      | .cell a t => do loadVar t (← asAddr (tmps.getD a undef)) : Sem Value).run P w = .ok v' w ∧ VR ι v v' := by
  cases x with
  | tmp t =>
    obtain ⟨hb, h⟩ := bif_some h
    cases h
    exact ⟨_, rfl, he.2 t (nblt_lt hb)⟩
  | cell a t =>
    obtain ⟨hb, h⟩ := bif_some h
    rw [Option.bind_eq_some_iff] at h
    obtain ⟨ti, hti, h⟩ := h
    obtain ⟨v', _, h2, ad, h3, h4⟩ := loadE_run hC hr hti (he.2 a (nblt_lt hb)) h
    refine ⟨v', ?_, h2⟩
    simp only [h3, asAddr, Sem.run_bind, Sem.run_pure, Result.andThen_ok, h4]

omit hC hr in
theorem resEs_run {f : ResultVar → Sem Value} {e : Env} (hf : ∀ x v, resE C e H x = some v → ∃ v', (f x).run P w = .ok v' w ∧ VR ι v v') : ∀ {xs : List ResultVar} {vs : List Value}, resEs C e H xs = some vs →
    ∃ vs' : List Value, (xs.mapM (m := Sem) f).run P w = .ok vs' w ∧ VRs ι vs vs'
  | [], vs, h => by simp only [resEs] at h; cases h; exact ⟨[], rfl, .nil⟩
  | x :: xs, vs, h => by
    simp only [resEs] at h
    split at h
    · rename_i v vs1 h1 h2
      cases h
      obtain ⟨v', e1, e2⟩ := hf x v h1
      obtain ⟨vs', e3, e4⟩ := resEs_run hf h2
      refine ⟨v' :: vs', ?_, .cons e2 e4⟩
      rw [List.mapM_cons]
      simp only [Sem.run_bind, e1, Result.andThen_ok, e3, Sem.run_pure]
    · cases h

omit hC hr in
theorem resAs_run {f : ResultVar → Sem Value} {e : Env} (hf : ∀ x v, resE C e H x = some v → ∃ v', (f x).run P w = .ok v' w ∧ VR ι v v') {xs : Array ResultVar} {vs : List Value} (h : resEs C e H xs.toList = some vs) :
    ∃ vs' : List Value, (do let vs ← xs.mapM f; pure (if h : vs.size = 1 then vs[0] else .tuple vs) : Sem Value).run P w = .ok (if h : vs'.toArray.size = 1 then vs'.toArray[0] else .tuple vs'.toArray) w ∧ VRs ι vs vs' := by
  obtain ⟨vs', e1, e2⟩ := resEs_run hf h
  refine ⟨vs', ?_, e2⟩
  rw [Array.mapM_eq_mapM_toList]
  simp only [Sem.run_bind, Sem.run_map, e1, Result.andThen_ok, Sem.run_pure]

theorem resultE_run {e : Env} {tmps : Array Value} (he : EnvR ι e tmps) {fn : Func} {v : Value} (h : resultE C e H fn.results.toList = some v) : ∃ v', (results fn tmps).run P w = .ok v' w ∧ VR ι v v' := by
  unfold resultE at h
  have key : ∀ vs, resEs C e H fn.results.toList = some vs → ∃ vs' : List Value, (results fn tmps).run P w = .ok (if h : vs'.toArray.size = 1 then vs'.toArray[0] else .tuple vs'.toArray) w ∧ VRs ι vs vs' := fun vs hvs =>
    resAs_run (fun x v h => resE_run hC hr he h) hvs
  split at h
  · rename_i v1 hv
    cases h
    obtain ⟨vs', e1, e2⟩ := key _ hv
    cases e2 with | cons e3 e4 =>
    cases e4
    exact ⟨_, e1, e3⟩
  · rename_i vs hne hv
    cases h
    obtain ⟨vs', e1, e2⟩ := key _ hv
    have hl : ¬ vs'.toArray.size = 1 := fun h1 => by
      have h2 : vs'.length = 1 := by simpa using h1
      rw [← e2.length] at h2
      match vs, h2 with
      | [x], _ => exact hne x rfl
    rw [dif_neg hl] at e1
    exact ⟨_, e1, .tuple (by simpa using e2)⟩
  · cases h
end
end Go.Ahe
