/-
  AHE, 20: code.
-/
import Derived.Test.YthfmdomnoheklaaDoorZaheReg
namespace Go.Ahe
open Go.RowKit

def mark1 (r : Nat) : Deferred := { target := .collected r, args := #[] }

/-- The activation's deferred calls are marks, each of an empty block made since. -/
def Marked (lo : Nat) (ds : List Deferred) (w : World) : Prop :=
  lo ≤ w.heap.size ∧ ∃ rs : List Nat, ds = rs.map mark1 ∧ rs.Nodup ∧ ∀ r ∈ rs, lo ≤ r ∧ w.heap[r]? = some (.deferred (some []))

theorem deferred_unowned {base : Nat} {ι : Emb} {H : Hp} {w : World} (hr : Rel base ι H w) {b : Nat} {x : Option (List Deferred)} (h : w.heap[b]? = some (.deferred x)) : ¬ Owned ι H b := by
  rintro ⟨i, o, p, h1, h2, _, h4⟩
  have h3 := hr.ob i o b p h1 h4
  cases o with
  | cells cs ro => obtain ⟨_, _, _, g, _⟩ := h3; rw [h] at g; cases g
  | map es ck => obtain ⟨_, g, _⟩ := h3; rw [h] at g; cases g
  | iter m s t u => obtain ⟨_, _, g, _⟩ := h3; rw [h] at g; cases g
  | loop => obtain ⟨_, g, _⟩ := h3; rw [h] at g; cases g
  | dead => cases h2

theorem Marked.step {base : Nat} {ι ι' : Emb} {H H' : Hp} {w w' : World} {lo : Nat} {ds : List Deferred} (hr : Rel base ι H w) (hs : Step ι ι' H H' w w') (h : Marked lo ds w) : Marked lo ds w' := by
  obtain ⟨h1, rs, h2, h3, h4⟩ := h
  refine ⟨Nat.le_trans h1 hs.size, rs, h2, h3, fun r hrs => ?_⟩
  obtain ⟨h5, h6⟩ := h4 r hrs
  have hlt : r < w.heap.size := (Array.getElem?_eq_some_iff.1 h6).1
  exact ⟨h5, (hs.same r hlt (deferred_unowned hr h6)).trans h6⟩

/-- In a round of the loop at l: the loop is there. -/
def LoopAt (r : Option Nat) (w : World) : Prop := ∀ l, r = some l → ∃ L : Loop, w.heap[l]? = some (.loop L)
theorem LoopAt.step {ι ι' : Emb} {H H' : Hp} {w w' : World} {r : Option Nat} (hs : Step ι ι' H H' w w') (h : LoopAt r w) : LoopAt r w' := fun l hl => let ⟨L, h1⟩ := h l hl; hs.loops l L h1

/-- How the evaluator's end of a piece of code stands to the machine's. -/
def ResOk (base : Nat) (ι : Emb) (H : Hp) (w : World) (lo : Nat) (res : Rs) : Exit → Act → World → Prop
  | .normal, a', w' => ∃ e' H' ι', res = .nx e' H' ∧ EnvR ι' e' a'.tmps ∧ Rel base ι' H' w' ∧ Step ι ι' H H' w w' ∧ Marked lo a'.defers w'
  | .exit id, a', w' => ∃ e' H' ι', res = .ex id e' H' ∧ EnvR ι' e' a'.tmps ∧ Rel base ι' H' w' ∧ Step ι ι' H H' w w' ∧ Marked lo a'.defers w'
  | .ret, a', w' => ∃ e' H' ι', res = .rt e' H' ∧ EnvR ι' e' a'.tmps ∧ Rel base ι' H' w' ∧ Step ι ι' H H' w w' ∧ Marked lo a'.defers w'
  | _, _, _ => False

theorem ResOk.trans {base : Nat} {ι ι1 : Emb} {H H1 : Hp} {w w1 : World} {lo : Nat} {res : Rs} (hs : Step ι ι1 H H1 w w1) : ∀ e a' w', ResOk base ι1 H1 w1 lo res e a' w' → ResOk base ι H w lo res e a' w'
  | .normal, _, _, ⟨e', H', ι', h1, h2, h3, h4, h5⟩ => ⟨e', H', ι', h1, h2, h3, hs.trans h4, h5⟩
  | .exit _, _, _, ⟨e', H', ι', h1, h2, h3, h4, h5⟩ => ⟨e', H', ι', h1, h2, h3, hs.trans h4, h5⟩
  | .ret, _, _, ⟨e', H', ι', h1, h2, h3, h4, h5⟩ => ⟨e', H', ι', h1, h2, h3, hs.trans h4, h5⟩
  | .goto _, _, _, h => h.elim
  | .panic _, _, _, h => h.elim
  | .outgrown, _, _, h => h.elim

/-- A block of no id's is made. -/
theorem Rel.extra {base : Nat} {ι : Emb} {H : Hp} {w : World} (hr : Rel base ι H w) (O : Obj) : Rel base ι H (w.alloc O) ∧ Step ι ι H H w (w.alloc O) := by
  have hsz : (w.alloc O).heap.size = w.heap.size + 1 := by show (w.heap.push O).size = _; simp
  refine ⟨⟨hr.flo, hr.dom, fun i b p h => by have := hr.bnd i b p h; omega, fun i o b p h1 h2 => (hr.ob i o b p h1 h2).same (alloc_lt w O (hr.bnd i b p h2)), hr.inj, hr.bas, by have := hr.bs; omega⟩,
    ⟨fun _ _ => rfl, fun _ _ => rfl, Nat.le_refl _, rfl, fun _ _ => rfl, fun _ _ h => h, rfl, rfl, rfl, by omega, fun b hb _ => alloc_lt w O hb, fun b L hL => ⟨L, (alloc_lt w O (Array.getElem?_eq_some_iff.1 hL).1).trans hL⟩, fun i b p h1 h2 => by rw [hr.dom i h1] at h2; cases h2⟩⟩

theorem mkAF_some {P : Program} {pure : Bool} {f : FuncId} {a : AF} (h : mkAF P pure f = some a) : ∃ fn c, P.funcs[f]? = some fn ∧ fn.body = some c ∧ fn.name ≠ "runtime.NumGoroutine" ∧ a = ⟨c, fn.ntmps, fn.results.toList, pure⟩ := by
  unfold mkAF at h
  split at h
  · cases h
  · rename_i fn hfn
    split at h
    · cases h
    · rename_i c hc
      cases hb : fn.name == "runtime.NumGoroutine" with
      | true => rw [hb] at h; cases h
      | false =>
        rw [hb, cond_false] at h
        cases h
        exact ⟨fn, c, hfn, hc, fun e => by rw [e] at hb; simp at hb, rfl⟩

/-- A function with a body is entered. -/
theorem enter_run {P : Program} {f : FuncId} {fn : Func} {c : Code} (hf : P.funcs[f]? = some fn) (hb : fn.body = some c) (hne : fn.name ≠ "runtime.NumGoroutine") (args : Array Value) (w : World) : (callFunc f args).run P w = .ok (.enter f args) w := by
  have hne' : (fn.name == "runtime.NumGoroutine") = false := by simpa using hne
  simp only [callFunc, Sem.run_bind, program, Sem.run, Result.andThen_ok, hf, hne', Bool.false_eq_true, if_false, hb, Option.isNone_some, Sem.run_pure]

theorem RunsAs.enters {P : Program} {C : Ctx} (hC : Fits C P) {base : Nat} {ι : Emb} {H H' : Hp} {w : World} {v : Value} {f : FuncId} {a : AF} (haf : C.fn f = some a) {args : Array Value} (h : RunsAs P base ι H H' w v (callFunc f args)) :
    (callFunc f args).run P w = .ok (.enter f args) w ∧ CallsIn Fence.wide 0 P f args w (PostOf base ι H H' w v) := by
  have hmk := hC.funcs f a haf
  generalize a.pure = pu at hmk
  obtain ⟨fn, c, hf, hb, hne, rfl⟩ := mkAF_some hmk
  have h1 := enter_run hf hb hne args w
  obtain ⟨nx, w1, h2, h3⟩ := h
  rw [h1] at h2
  cases h2
  exact ⟨h1, h3⟩

/-- What is said of a piece of code. -/
def CodeOk (P : Program) (C : Ctx) (call : CallE) (base lo : Nat) (r : Option Nat) (c : Code) : Prop :=
  ∀ (e : Env) (H : Hp) (res : Rs), evC C call c e H = some res → ∀ (ι : Emb) (a : Act) (w : World), EnvR ι e a.tmps → Rel base ι H w → Marked lo a.defers w → LoopAt r w →
    c.wpIn (Fr r) 0 P (ResOk base ι H w lo res) a w

section
variable {P : Program} {C : Ctx} (hC : Fits C P) {base lo : Nat} {call : CallE} (hcall : CallOk P call) {r : Option Nat}

theorem code_skip : CodeOk P C call base lo r .skip := fun e H res h ι a w he hr hm hl => by
  cases h
  exact wpIn_skip ⟨e, H, ι, rfl, he, hr, Step.refl hr, hm⟩

theorem code_label (l : Nat) : CodeOk P C call base lo r (.label l) := fun e H res h ι a w he hr hm hl => by
  cases h
  exact wpIn_label ⟨e, H, ι, rfl, he, hr, Step.refl hr, hm⟩

theorem code_exit (id : Nat) : CodeOk P C call base lo r (.exit id) := fun e H res h ι a w he hr hm hl => by
  cases h
  exact wpIn_exit ⟨e, H, ι, rfl, he, hr, Step.refl hr, hm⟩

theorem code_ret : CodeOk P C call base lo r .ret := fun e H res h ι a w he hr hm hl => by
  cases h
  exact wpIn_ret ⟨e, H, ι, rfl, he, hr, Step.refl hr, hm⟩

theorem code_seq {x y : Code} (hx : CodeOk P C call base lo r x) (hy : CodeOk P C call base lo r y) : CodeOk P C call base lo r (.seq x y) := fun e H res h ι a w he hr hm hl => by
  have h : Rs.then (evC C call y) (evC C call x e H) = some res := h
  cases hx1 : evC C call x e H with
  | none => rw [hx1] at h; cases h
  | some r1 =>
    rw [hx1] at h
    refine wpIn_seq (wpIn_mono (hx e H r1 hx1 ι a w he hr hm hl) fun ex a1 w1 hq => ?_)
    cases ex with
    | normal =>
      obtain ⟨e1, H1, ι1, rfl, g1, g2, g3, g4⟩ := hq
      exact wpIn_mono (hy e1 H1 res h ι1 a1 w1 g1 g2 g4 (hl.step g3)) (ResOk.trans g3)
    | exit id =>
      obtain ⟨e1, H1, ι1, rfl, g⟩ := hq
      cases h
      exact ⟨e1, H1, ι1, rfl, g⟩
    | ret =>
      obtain ⟨e1, H1, ι1, rfl, g⟩ := hq
      cases h
      exact ⟨e1, H1, ι1, rfl, g⟩
    | goto l => exact hq.elim
    | panic c => exact hq.elim
    | outgrown => exact hq.elim

theorem code_cond {c : Operand} {x y : Code} (hx : CodeOk P C call base lo r x) (hy : CodeOk P C call base lo r y) : CodeOk P C call base lo r (.cond c x y) := fun e H res h ι a w he hr hm hl => by
  have h : (match opV e c with
      | some (.bool true) => evC C call x e H
      | some (.bool false) => evC C call y e H
      | _ => none) = some res := h
  split at h
  · rename_i hc
    have h1 := he.op hc
    generalize hcv : a.eval c = cv at h1
    cases h1
    exact wpIn_cond_true hcv (hx e H res h ι a w he hr hm hl)
  · rename_i hc
    have h1 := he.op hc
    generalize hcv : a.eval c = cv at h1
    cases h1
    exact wpIn_cond_false hcv (hy e H res h ι a w he hr hm hl)
  · cases h

theorem code_block {id : Nat} {x : Code} (hx : CodeOk P C call base lo r x) : CodeOk P C call base lo r (.block id x) := fun e H res h ι a w he hr hm hl => by
  have h : Rs.block id (evC C call x e H) = some res := h
  cases hx1 : evC C call x e H with
  | none => rw [hx1] at h; cases h
  | some r1 =>
    rw [hx1] at h
    refine wpIn_block (wpIn_mono (hx e H r1 hx1 ι a w he hr hm hl) fun ex a1 w1 hq => ?_)
    cases ex with
    | normal =>
      obtain ⟨e1, H1, ι1, rfl, g⟩ := hq
      cases h
      exact ⟨e1, H1, ι1, rfl, g⟩
    | exit j =>
      obtain ⟨e1, H1, ι1, rfl, g⟩ := hq
      simp only [Rs.block] at h
      simp only [Exit.inBlock]
      by_cases hj : j = id
      · rw [if_pos hj]
        rw [nbeq_t hj, cond_true] at h
        cases h
        exact ⟨e1, H1, ι1, rfl, g⟩
      · rw [if_neg hj]
        rw [nbeq_f hj, cond_false] at h
        cases h
        exact ⟨e1, H1, ι1, rfl, g⟩
    | ret =>
      obtain ⟨e1, H1, ι1, rfl, g⟩ := hq
      cases h
      exact ⟨e1, H1, ι1, rfl, g⟩
    | goto l => exact hq.elim
    | panic c => exact hq.elim
    | outgrown => exact hq.elim

theorem least_exists {p : Nat → Prop} : ∀ n, p n → ∃ k, p k ∧ ∀ m, p m → k ≤ m := by
  intro n
  induction n using Nat.strongRecOn with
  | _ n ih =>
    intro hn
    by_cases h : ∃ m, m < n ∧ p m
    · obtain ⟨m, h1, h2⟩ := h; exact ih m h1 h2
    · exact ⟨n, hn, fun m hm => Nat.le_of_not_lt fun hlt => h ⟨m, hlt, hm⟩⟩

open Classical in
/-- The least number of rounds that serves. -/
noncomputable def least (Φ : Nat → Act → World → Prop) (a : Act) (w : World) : Nat := if h : ∃ k, Φ k a w ∧ ∀ m, Φ m a w → k ≤ m then Classical.choose h else 0
theorem least_spec {Φ : Nat → Act → World → Prop} {a : Act} {w : World} (h : ∃ n, Φ n a w) : Φ (least Φ a w) a w := by
  obtain ⟨n, h⟩ := h
  have h1 := least_exists (p := fun k => Φ k a w) n h
  unfold least; rw [dif_pos h1]; exact (Classical.choose_spec h1).1
theorem least_le {Φ : Nat → Act → World → Prop} {a : Act} {w : World} {n : Nat} (h : Φ n a w) : least Φ a w ≤ n := by
  have h1 := least_exists (p := fun k => Φ k a w) n h
  unfold least; rw [dif_pos h1]; exact (Classical.choose_spec h1).2 n h

theorem code_loop {x : Code} (hx : CodeOk P C call base lo r x) : CodeOk P C call base lo r (.loop x) := fun e H res h ι a w he hr hm hl => by
  have h : loopE (evC C call x) rounds e H = some res := h
  let Φ : Nat → Act → World → Prop := fun n a1 w1 => ∃ e1 H1 ι1, loopE (evC C call x) n e1 H1 = some res ∧ EnvR ι1 e1 a1.tmps ∧ Rel base ι1 H1 w1 ∧ Step ι ι1 H H1 w w1 ∧ Marked lo a1.defers w1
  refine wpIn_loop (fun a1 w1 => ∃ n, Φ n a1 w1) (least Φ) ⟨rounds, e, H, ι, h, he, hr, Step.refl hr, hm⟩ fun a1 w1 hI => ?_
  have hn := least_spec hI
  generalize least Φ a1 w1 = n at hn ⊢
  obtain ⟨e1, H1, ι1, g1, g2, g3, g4, g5⟩ := hn
  cases n with
  | zero => cases g1
  | succ n =>
    simp only [loopE] at g1
    cases hx1 : evC C call x e1 H1 with
    | none => rw [hx1] at g1; cases g1
    | some r1 =>
      rw [hx1] at g1
      refine wpIn_mono (hx e1 H1 r1 hx1 ι1 a1 w1 g2 g3 g5 (hl.step g4)) fun ex a2 w2 hq => ?_
      cases ex with
      | normal =>
        obtain ⟨e2, H2, ι2, rfl, f1, f2, f3, f4⟩ := hq
        have hΦ : Φ n a2 w2 := ⟨e2, H2, ι2, g1, f1, f2, g4.trans f3, f4⟩
        exact ⟨⟨n, hΦ⟩, Nat.lt_succ_of_le (least_le hΦ)⟩
      | exit id =>
        obtain ⟨e2, H2, ι2, rfl, f1, f2, f3, f4⟩ := hq
        cases g1
        exact ⟨e2, H2, ι2, rfl, f1, f2, g4.trans f3, f4⟩
      | ret =>
        obtain ⟨e2, H2, ι2, rfl, f1, f2, f3, f4⟩ := hq
        cases g1
        exact ⟨e2, H2, ι2, rfl, f1, f2, g4.trans f3, f4⟩
      | goto l => exact hq.elim
      | panic c => exact hq.elim
      | outgrown => exact hq.elim

include hC hcall

theorem code_region {id : Nat} {ops : Array Oper} : CodeOk P C call base lo r (.region id ops false) := fun e H res h ι a w he hr hm hl => by
  have h : (match opsE C call ops ops.toList e H with
        | some (e', H') => some (Rs.nx e' H')
        | none => none) = some res := h
  split at h
  · rename_i e' H' hop
    cases h
    refine wpIn_region ?_
    have := opsE_wp (r := r) (Q := ResOk base ι H w lo (.nx e' H')) (d0 := a.defers) hC hcall (fun ι' a' w' g1 g2 g3 g4 => ⟨e', H', ι', rfl, g1, g2, g3, by rw [g4]; exact hm.step hr g3⟩) ops.toList 0 (by simp) e H ι a w he hr (Step.refl hr) rfl hop
    rw [List.range_eq_range']
    simpa using this
  · cases h

theorem code_rangeFunc {g : Operand} {ps : Array Tmp} {as body : Code} : CodeOk P C call base lo r (.rangeFunc g ps as body) := fun e H res h ι a w he hr hm hl => by
  have h : ((opV e g).bind fun fv => (calleeE fv [.func (.yield H.next) #[] #[]]).bind fun p =>
      match p.1 with
      | .func g => match C.fn g, call (.func g) p.2 (H.new (.loop .ready none e ps.toList as body)) with
        | some _, some (_, H') => afterLoop H.next e H'
        | _, _ => none
      | _ => none) = some res := h
  simp only [Option.bind_eq_some_iff] at h
  obtain ⟨fv, hfv, p, hp, h⟩ := h
  split at h
  · rename_i gf hp1
    split at h
    · rename_i ga v H' hga hcl
      refine wpIn_rangeFunc fun fn _ => ?_
      -- the record
      have henter : ∃ l mark w1, ∃ D : Nat, (Instr.enterLoop fn a.tmps ps as body (Fr r).round).run P w = .ok (l, mark) (w1.alloc (.loop { state := .ready, pending := none, fn, tmps := a.tmps, params := ps, assign := as, body, defers := D })) ∧ l = w1.heap.size ∧
          Rel base ι H w1 ∧ Step ι ι H H w w1 ∧ Marked lo (mark ++ a.defers) w1 := by
        cases r with
        | none =>
          obtain ⟨e1, e2⟩ := hr.extra (.deferred (some []))
          refine ⟨_, [mark1 w.heap.size], w.alloc (.deferred (some [])), w.heap.size, by simp only [Fr, Instr.enterLoop, Sem.run_bind, run_newObj, Result.andThen_ok, Sem.run_pure, World.alloc, mark1], rfl, e1, e2, ?_⟩
          obtain ⟨m1, rs, m2, m3, m4⟩ := hm.step hr e2
          refine ⟨m1, w.heap.size :: rs, by rw [m2]; rfl, List.nodup_cons.2 ⟨fun hin => ?_, m3⟩, fun q hq => ?_⟩
          · obtain ⟨_, rs', n2, n3, n4⟩ := hm
            have : rs = rs' := by
              have hinj : ∀ (l l' : List Nat), l.map mark1 = l'.map mark1 → l = l' := fun l => by
                induction l with
                | nil => intro l' h; cases l' with
                  | nil => rfl
                  | cons _ _ => cases h
                | cons x l ih => intro l' h; cases l' with
                  | nil => cases h
                  | cons y l' =>
                    simp only [List.map_cons, List.cons.injEq] at h
                    have h1 : x = y := by
                      have := h.1
                      simp only [mark1, Deferred.mk.injEq, Target.collected.injEq, and_true] at this
                      exact this
                    rw [h1, ih l' h.2]
              exact hinj _ _ (m2.symm.trans n2)
            subst this
            have := (Array.getElem?_eq_some_iff.1 (n4 _ hin).2).1
            omega
          · rcases List.mem_cons.1 hq with rfl | hq
            · exact ⟨hm.1, alloc_new w _⟩
            · exact m4 q hq
        | some l0 =>
          obtain ⟨L, hL⟩ := hl l0 rfl
          exact ⟨_, [], w, L.defers, by simp only [Fr, Instr.enterLoop, Instr.getLoop, getObj, Sem.run_bind, Sem.run, hL, run_newObj, Result.andThen_ok, Sem.run_pure, World.alloc], rfl, hr, Step.refl hr, hm⟩
      obtain ⟨l, mark, w1, D, g1, rfl, g2, g3, g4⟩ := henter
      let L0 : Loop := { state := .ready, pending := none, fn, tmps := a.tmps, params := ps, assign := as, body, defers := D }
      have hnone : ι H.next = none := g2.dom _ (Nat.le_refl _)
      have hle : ι.le (ι.ext H.next (w1.heap.size, 0) w1.heap.size 0) := Emb.le_ext (w1.heap.size, 0) 0 hnone (fun j b p hj e => by have := g2.bnd j b p hj; omega)
      obtain ⟨r2, s2⟩ := g2.new (.loop .ready none e ps.toList as body) (.loop L0) 0 (fun w' hw => ⟨L0, hw, rfl, rfl, he.mono hle, rfl, rfl, rfl⟩)
      have hfv' := he.op hfv
      generalize hcv : a.eval g = cv at hfv'
      unfold calleeE at hp
      split at hp
      · rename_i fid first cap
        cases hp
        simp only [Fn.func.injEq] at hp1
        subst hp1
        cases hfv' with | @func _ _ a' _ c' ha hc =>
        obtain ⟨e1, e2⟩ := (hcall.func hcl r2 (args' := a' ++ #[.func (.yield w1.heap.size) #[] #[]] ++ c') (by
          simp only [Array.toList_append]
          exact ((ha.mono hle).append (.one (.yield (p := 0) (Emb.ext_self _ _ _ _ _)))).append (hc.mono hle))).enters hC hga
        have hmap : (#[Operand.const (.func (.yield w1.heap.size) #[] #[])] : Array Operand).map a.eval = #[.func (.yield w1.heap.size) #[] #[]] := by simp [Act.eval]
        refine ⟨w1.heap.size, mark, w1.alloc (.loop L0), { target := .fn (.func fid) c', args := a' ++ #[.func (.yield w1.heap.size) #[] #[]] }, w1.alloc (.loop L0), fid, a' ++ #[.func (.yield w1.heap.size) #[] #[]] ++ c', w1.alloc (.loop L0), g1, ?_, fun _ _ => trivial, ?_, (fun h => by cases h), ?_⟩
        · simp only [resolve, hcv, Deferred.ofValue, Sem.run_pure, hmap]
        · exact e1
        · refine (calls_fr e2).mono fun ex w3 hq => ?_
          cases ex with
          | panicked c => exact hq.elim
          | outgrown => exact hq.elim
          | returned v' =>
            obtain ⟨ι3, q1, q2, q3⟩ := hq
            unfold afterLoop at h
            split at h
            · rename_i st pend env ps1 as1 b1 hget
              have hι3 : ι3 H.next = some (w1.heap.size, 0) := (q3.emb H.next (by simp)).trans (Emb.ext_self _ _ _ _ _)
              obtain ⟨L, hL1, hL2, hL3, hL4⟩ := q2.ob _ _ _ _ hget hι3
              split at h
              · cases h
              · rename_i hnb
                rw [Option.bind_eq_some_iff] at h
                obtain ⟨H4, hu, h⟩ := h
                obtain ⟨r4, s4⟩ := q2.write hget rfl hι3 hu (w' := { w3 with heap := w3.heap.setIfInBounds w1.heap.size (.loop { L with state := .exhausted }) }) ⟨rfl, rfl, rfl⟩ (by simp)
                  (fun k hk => by simp [Array.getElem?_setIfInBounds_ne (Ne.symm hk)])
                  ⟨{ L with state := .exhausted }, by
                    have := (Array.getElem?_eq_some_iff.1 hL1).1
                    simp [this], rfl, hL3, hL4⟩
                  (fun L' hL' => ⟨{ L with state := .exhausted }, by
                    have := (Array.getElem?_eq_some_iff.1 hL1).1
                    simp [this]⟩)
                have hend : (Instr.endLoop w1.heap.size).run P w3 = .ok pend { w3 with heap := w3.heap.setIfInBounds w1.heap.size (.loop { L with state := .exhausted }) } := by
                  have hst : (L.state == .busy) = false := by
                    rw [hL2]
                    cases st <;> first | rfl | exact absurd rfl hnb
                  simp only [Instr.endLoop, Instr.getLoop, getObj, setObj, Sem.run_bind, Sem.run, hL1, Result.andThen_ok, hst, Bool.false_eq_true, if_false, Sem.run_pure, hL3]
                have hstep : Step ι ι3 H H4 w { w3 with heap := w3.heap.setIfInBounds w1.heap.size (.loop { L with state := .exhausted }) } := ((g3.trans s2).trans q3).trans s4
                have hmk : Marked lo (mark ++ a.defers) { w3 with heap := w3.heap.setIfInBounds w1.heap.size (.loop { L with state := .exhausted }) } := g4.step g2 ((s2.trans q3).trans s4)
                have hen : EnvR ι3 e a.tmps := he.mono fun i b p hx => let ⟨x1, x2⟩ := hle i b p hx; q3.le r2 i b p x1 |>.imp id fun y => y.trans x2
                refine ⟨pend, _, hend, ?_⟩
                split at h
                · cases h
                  exact ⟨e, H4, ι3, rfl, hen, r4, hstep, hmk⟩
                · cases h
                  exact wpIn_exit ⟨e, H4, ι3, rfl, hen, r4, hstep, hmk⟩
                · cases h
                  exact wpIn_ret ⟨e, H4, ι3, rfl, hen, r4, hstep, hmk⟩
                · cases h
            · cases h
      · cases hp; cases hp1
      · cases hp
    · cases h
  · cases h
end
end Go.Ahe
