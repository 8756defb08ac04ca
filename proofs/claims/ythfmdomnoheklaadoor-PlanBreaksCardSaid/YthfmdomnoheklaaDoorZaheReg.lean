/-
  AHE, 19: regions in the text's order.
-/
import Derived.Test.YthfmdomnoheklaaDoorZaheOp
namespace Go.Ahe
open Go.RowKit

/-- The widest fence, in a round or in none. -/
def Fr (r : Option Nat) : Fence := { Fence.wide with round := r }

theorem calls_fr {r : Option Nat} {P : Program} {f : FuncId} {args : Array Value} {w : World} {R : Ending → World → Prop} (h : CallsIn Fence.wide 0 P f args w R) : CallsIn (Fr r) 0 P f args w R := h
theorem round_fr {r : Option Nat} {P : Program} {l : Nat} {f : FuncId} {tmps : Array Value} {as body : Code} {w : World} {R : Ending → World → Prop} (h : RoundIn Fence.wide 0 P l f tmps as body w R) : RoundIn (Fr r) 0 P l f tmps as body w R := h

theorem RunsAs.wp {P : Program} {base : Nat} {ι : Emb} {H H' : Hp} {w : World} {v : Value} {o : Oper} {a : Act} {r : Option Nat} {next : Act → World → Prop} {Q : Exit → Act → World → Prop} (ho : ∀ c, o.op ≠ .defer c)
    (h : RunsAs P base ι H H' w v (execOp a.eval o)) (hn : ∀ v' ι' w', VR ι' v v' → Rel base ι' H' w' → Step ι ι' H H' w w' → next (a.put o.dst v') w') : o.wpIn (Fr r) 0 P a w next Q := by
  obtain ⟨nx, w1, h1, h2⟩ := h
  refine ⟨fun _ _ => trivial, ?_⟩
  rw [Oper.semAt_eq _ _ _ ho, h1]
  have hend : ∀ e w'', PostOf base ι H H' w v e w'' → (match e with
      | .returned v => next (a.put o.dst v) w''
      | .panicked chain => Q (.panic chain) a w''
      | .outgrown => LetsOut Q) := fun e w'' he => by
    cases e with
    | returned v' => obtain ⟨ι', g1, g2, g3⟩ := he; exact hn v' ι' w'' g1 g2 g3
    | panicked c => exact he.elim
    | outgrown => exact he.elim
  cases nx with
  | value v' => exact hend (.returned v') w1 h2
  | skip => exact hend (.returned undef) w1 h2
  | enter f args => exact ⟨(fun h => by cases h), (calls_fr h2).mono (fun e w'' he => by
    cases e with
    | returned v' => exact hend (.returned v') w'' he
    | panicked c => exact hend (.panicked c) w'' he
    | outgrown => exact hend .outgrown w'' he)⟩
  | round l f tmps as body => exact ⟨(fun h => by cases h), (round_fr h2).mono (fun e w'' he => by
    cases e with
    | returned v' => exact hend (.returned v') w'' he
    | panicked c => exact hend (.panicked c) w'' he
    | outgrown => exact hend .outgrown w'' he)⟩
  | _ => exact h2.elim

/-- What it is asked of a wanted operation. -/
theorem wantE_ok' {ops : Array Oper} {o : Oper} {e : Env} {a : Act} {ι : Emb} (hsz : e.size = a.tmps.size)
    (he : ∀ t, (∃ j w, o.guard = some (j, w) ∧ (ops[j]?).bind (·.dst) = some t) → t < e.size → VR ι (e.get t) (a.tmps.getD t undef)) {b : Bool} (h : wantE ops o e = b) : Region.wanted o (yielded ops a.tmps) = b := by
  subst h
  unfold wantE Region.wanted yielded
  cases hgd : o.guard with
  | none => rfl
  | some g =>
    obtain ⟨j, want⟩ := g
    simp only
    cases hdt : (ops[j]?).bind (·.dst) with
    | none => cases want <;> rfl
    | some t =>
      simp only [Option.bind_some]
      cases hb : Nat.blt t e.size with
      | false =>
        have h1 : ¬ t < a.tmps.size := fun h => by
          rw [← hsz] at h
          have h2 : Nat.blt t e.size = true := by simpa using h
          rw [h2] at hb; cases hb
        rw [Array.getElem?_eq_none (Nat.le_of_not_lt h1)]
        cases want <;> rfl
      | true =>
        have h1 := nblt_lt hb
        have h2 := he t ⟨j, want, hgd, hdt⟩ h1
        have h3 : t < a.tmps.size := by rw [← hsz]; exact h1
        rw [Array.getD_eq_getD_getElem?, Array.getElem?_eq_getElem h3, Option.getD_some] at h2
        rw [Array.getElem?_eq_getElem h3, cond_true]
        generalize e.get t = x at h2 ⊢
        generalize a.tmps[t] = y at h2 ⊢
        cases h2 <;> first | rfl | (cases want <;> rfl) | (rename_i b; cases b <;> cases want <;> rfl)

theorem wantE_ok {ops : Array Oper} {o : Oper} {e : Env} {a : Act} {ι : Emb} (he : EnvR ι e a.tmps) {b : Bool} (h : wantE ops o e = b) : Region.wanted o (yielded ops a.tmps) = b :=
  wantE_ok' he.1 (fun t _ ht => he.2 t ht) h

theorem put_defers' (a : Act) (d : Option Tmp) (v : Value) : (a.put d v).defers = a.defers := by cases d <;> rfl

theorem opE_defer {C : Ctx} {call : CallE} {o : Oper} {e : Env} {H : Hp} {x : Value × Hp} (h : opE C call o.op o.type e H = some x) (c : Call) : o.op ≠ .defer c := by
  intro ho
  rw [ho] at h
  cases h

section
variable {P : Program} {C : Ctx} (hC : Fits C P) {base : Nat} {call : CallE} (hcall : CallOk P call) {r : Option Nat} {Q : Exit → Act → World → Prop} {ops : Array Oper}
include hC hcall

theorem opsE_wp {e' : Env} {H' : Hp} {ι0 : Emb} {H0 : Hp} {w0 : World} {d0 : List Deferred}
    (hQ : ∀ ι' a' w', EnvR ι' e' a'.tmps → Rel base ι' H' w' → Step ι0 ι' H0 H' w0 w' → a'.defers = d0 → Q .normal a' w') :
    ∀ (l : List Oper) (k : Nat), ops.toList.drop k = l → ∀ (e : Env) (H : Hp) (ι : Emb) (a : Act) (w : World), EnvR ι e a.tmps → Rel base ι H w → Step ι0 ι H0 H w0 w → a.defers = d0 →
      opsE C call ops l e H = some (e', H') → wpOpsIn (Fr r) 0 P ops Q (List.range' k l.length) a w
  | [], k, _, e, H, ι, a, w, he, hr, hst, hd, h => by
    simp only [opsE] at h
    cases h
    exact hQ ι a w he hr hst hd
  | o :: l, k, hl, e, H, ι, a, w, he, hr, hst, hd, h => by
    have hk : ops[k]? = some o := by
      have := List.getElem?_drop (xs := ops.toList) (i := k) (j := 0)
      rw [hl] at this
      simpa using this.symm
    have hl' : ops.toList.drop (k + 1) = l := by
      have := List.drop_drop (i := 1) (j := k) (l := ops.toList)
      rw [hl] at this
      simpa using this.symm
    simp only [List.length_cons, List.range'_succ, wpOpsIn, hk]
    simp only [opsE] at h
    split at h
    · rename_i hw
      rw [if_pos (wantE_ok he hw)]
      split at h
      · rename_i v H1 hop
        split at h
        · rename_i e1 hput
          refine (opE_run hC hr hcall he hop).wp (opE_defer hop) fun v' ι' w' g1 g2 g3 => ?_
          exact opsE_wp hQ l (k + 1) hl' e1 H1 ι' (a.put o.dst v') w' ((he.mono (g3.le hr)).put hput g1) g2 (hst.trans g3) (by rw [put_defers']; exact hd) h
        · cases h
      · cases h
    · rename_i hw
      rw [if_neg (by rw [wantE_ok he hw]; decide)]
      split at h
      · rename_i e1 hput
        exact ⟨fun _ _ => trivial, opsE_wp hQ l (k + 1) hl' e1 H ι (a.put o.dst undef) w (he.put hput .undef) hr hst (by rw [put_defers']; exact hd) h⟩
      · cases h
end
end Go.Ahe
