/-
  X, 0: steps, one by one.
-/
import Derived.Test.YtiigiodagfalpaaZaheC
namespace Go.Ahe
def noCall : CallE := fun _ _ _ => none
def putE (o : Oper) (e : Env) (p : Value × Hp) : Option (Env × Hp) := match e.put o.dst p.1 with
  | some e' => some (e', p.2)
  | none => none

def opStep (C : Ctx) (call : CallE) (o : Oper) (e : Env) (H : Hp) : Bool → Option (Env × Hp)
  | true => (opE C call o.op o.type e H).bind (putE o e)
  | false => putE o e (.tuple #[], H)
/-- A step of a region that draws, the guard being known. -/
def stepW (C : Ctx) (call : CallE) (ops : Array Oper) (ms : List Nat) (i : Nat) (o : Oper) (s : DS) (w : Bool) : Option DS :=
  match w with
  | false => match s.env.put o.dst (.tuple #[]) with
    | some e => some ⟨e, s.hp, s.seen, s.ws, .tuple #[]⟩
    | none => none
  | true => match isW C ms ops.toList i o with
    | true => match opE C call o.op o.type s.env s.hp with
      | some (v, H') => match stillSame C call ms i H' s.seen, s.env.put o.dst v with
        | true, some e => some ⟨e, H', s.seen, (i, s.hp) :: s.ws, v⟩
        | _, _ => none
      | none => none
    | false => match opE C call o.op o.type s.env s.hp.raised with
      | some (v, H') => match readerOp o.op with
        | true => match wasSame C call ms i o s.env v s.ws, s.env.put o.dst v with
          | true, some e => some ⟨e, H'.lowered s.hp.floor, ⟨i, o, s.env, v⟩ :: s.seen, s.ws, v⟩
          | _, _ => none
        | false => match s.env.put o.dst v with
          | some e => some ⟨e, H'.lowered s.hp.floor, s.seen, s.ws, v⟩
          | none => none
      | none => none

theorem stepW_eq {C : Ctx} {call : CallE} {ops : Array Oper} {ms : List Nat} {i : Nat} {o : Oper} {s : DS} : stepD C call ops ms i o s = (wantE ops o s.env).bind (stepW C call ops ms i o s) := by
  unfold stepD stepW
  cases wantE ops o s.env with
  | none => rfl
  | some b => cases b <;> rfl

/-- No given calls. -/
def noExt : FuncId → List Value → Hp → Option (Value × Hp) := fun _ _ _ => none
theorem noExt_ok {P : Program} {pure mk : FuncId → Bool} : CallOk P (extCall (mkCtx P pure mk noExt)) := ⟨(fun h => by cases h), (fun h => by cases h)⟩

def resO (C : Ctx) (a : AF) : Rs → Option (Value × Hp)
  | .nx e H' => (resultE C e H' a.results).map fun v => (v, H')
  | .rt e H' => (resultE C e H' a.results).map fun v => (v, H')
  | .ex _ _ _ => none

def leaveE (l : Nat) (H3 : Hp) (j : Option Code) : Option (Value × Hp) := match H3.get l with
  | some (.loop _ _ env3 ps3 a3 b3) =>
    (H3.upd l (.loop (match j with | none => .ready | some _ => .done) j env3 ps3 a3 b3)).map fun H4 => (.bool (match j with | none => true | some _ => false), H4)
  | _ => none
def leaveR (l : Nat) : Rs → Option (Value × Hp)
  | .nx _ H3 => leaveE l H3 none
  | .ex id _ H3 => leaveE l H3 (some (.exit id))
  | .rt _ H3 => leaveE l H3 (some .ret)
def beginE (l : Nat) : Rs → Option (Env × Hp)
  | .nx e1 H1 => match H1.get l with
    | some (.loop .ready pend env1 ps1 a1 b1) => (H1.upd l (.loop .busy pend env1 ps1 a1 b1)).map fun H2 => (e1, H2)
    | _ => none
  | _ => none

theorem opE_noCall {C : Ctx} {call : CallE} {o : Op} {t : TypeId} {e : Env} {H : Hp} (h : ∀ c, o ≠ .call c) : opE C noCall o t e H = opE C call o t e H := by
  cases o <;> first | rfl | exact absurd rfl (h _) | (rename_i b; cases b <;> rfl)

theorem opsE_step {C : Ctx} {call : CallE} {ops : Array Oper} {o : Oper} {r : List Oper} {e : Env} {H : Hp} : opsE C call ops (o :: r) e H = (wantE ops o e).bind fun w => (opStep C call o e H w).bind fun p => opsE C call ops r p.1 p.2 := by
  simp only [opsE]
  cases wantE ops o e with
  | none => rfl
  | some w =>
    cases w with
    | true =>
      simp only [opStep, Option.bind_some]
      cases opE C call o.op o.type e H with
      | none => rfl
      | some p =>
        simp only [Option.bind_some, putE]
        cases e.put o.dst p.1 <;> rfl
    | false =>
      simp only [opStep, putE, Option.bind_some]
      cases e.put o.dst (.tuple #[]) <;> rfl
end Go.Ahe
/-
  X, 1: more depth, the same answer; calls at any depth.
-/
namespace Go.Ahe

def CallLe (c c' : CallE) : Prop := ∀ fn args H r, c fn args H = some r → c' fn args H = some r

theorem opE_mono {C : Ctx} {c c' : CallE} (h : CallLe c c') {o : Op} {t : TypeId} {e : Env} {H : Hp} {r : Value × Hp} (hr : opE C c o t e H = some r) : opE C c' o t e H = some r := by
  by_cases hc : ∃ x, o = .call x
  · obtain ⟨x, rfl⟩ := hc
    obtain ⟨callee, args, ats⟩ := x
    simp only [opE] at hr ⊢
    rw [Option.bind_eq_some_iff] at hr ⊢
    obtain ⟨vs, h1, h2⟩ := hr
    refine ⟨vs, h1, ?_⟩
    cases callee with
    | builtin b => exact h2
    | value f =>
      simp only at h2 ⊢
      rw [Option.bind_eq_some_iff] at h2 ⊢
      obtain ⟨fv, h3, h4⟩ := h2
      rw [Option.bind_eq_some_iff] at h4
      obtain ⟨p, h5, h6⟩ := h4
      refine ⟨fv, h3, ?_⟩
      rw [Option.bind_eq_some_iff]
      exact ⟨p, h5, h _ _ _ _ h6⟩
    | invoke a b => cases h2
  · rw [← opE_noCall (call := c) (fun x hx => hc ⟨x, hx⟩)] at hr
    rw [← opE_noCall (call := c') (fun x hx => hc ⟨x, hx⟩)]
    exact hr

theorem opsE_mono {C : Ctx} {c c' : CallE} (h : CallLe c c') {ops : Array Oper} : ∀ (l : List Oper) {e : Env} {H : Hp} {r : Env × Hp}, opsE C c ops l e H = some r → opsE C c' ops l e H = some r
  | [], e, H, r, hr => hr
  | o :: l, e, H, r, hr => by
    rw [opsE_step] at hr ⊢
    rw [Option.bind_eq_some_iff] at hr ⊢
    obtain ⟨b, h0, hr⟩ := hr
    rw [Option.bind_eq_some_iff] at hr
    obtain ⟨p, h1, h2⟩ := hr
    refine ⟨b, h0, ?_⟩
    rw [Option.bind_eq_some_iff]
    refine ⟨p, ?_, opsE_mono h l h2⟩
    cases b with
    | false => exact h1
    | true =>
      simp only [opStep] at h1 ⊢
      rw [Option.bind_eq_some_iff] at h1 ⊢
      obtain ⟨q, h3, h4⟩ := h1
      exact ⟨q, opE_mono h h3, h4⟩

theorem stillSame_mono {C : Ctx} {c c' : CallE} (h : CallLe c c') {ms : List Nat} {i : Nat} {H : Hp} : ∀ (l : List Seen), stillSame C c ms i H l = true → stillSame C c' ms i H l = true
  | [], _ => rfl
  | s :: l, hs => by
    simp only [stillSame, Bool.and_eq_true, Bool.or_eq_true] at hs ⊢
    refine ⟨hs.1.imp id fun h1 => ?_, stillSame_mono h l hs.2⟩
    cases ho : opE C c s.op.op s.op.type s.env H with
    | none => rw [ho] at h1; cases h1
    | some r => rw [opE_mono h ho]; rw [ho] at h1; exact h1

theorem wasSame_mono {C : Ctx} {c c' : CallE} (h : CallLe c c') {ms : List Nat} {j : Nat} {o : Oper} {e : Env} {v : Value} : ∀ (l : List (Nat × Hp)), wasSame C c ms j o e v l = true → wasSame C c' ms j o e v l = true
  | [], _ => rfl
  | (i, H) :: l, hs => by
    simp only [wasSame, Bool.and_eq_true, Bool.or_eq_true] at hs ⊢
    refine ⟨hs.1.imp id fun h1 => ?_, wasSame_mono h l hs.2⟩
    cases ho : opE C c o.op o.type e H with
    | none => rw [ho] at h1; cases h1
    | some r => rw [opE_mono h ho]; rw [ho] at h1; exact h1

theorem stepW_mono {C : Ctx} {c c' : CallE} (h : CallLe c c') {ops : Array Oper} {ms : List Nat} {i : Nat} {o : Oper} {s s' : DS} {w : Bool} (hs : stepW C c ops ms i o s w = some s') : stepW C c' ops ms i o s w = some s' := by
  cases w with
  | false => exact hs
  | true =>
    simp only [stepW] at hs ⊢
    cases hw : isW C ms ops.toList i o with
    | true =>
      rw [hw] at hs
      simp only at hs ⊢
      cases ho : opE C c o.op o.type s.env s.hp with
      | none => rw [ho] at hs; cases hs
      | some r =>
        rw [ho] at hs; rw [opE_mono h ho]
        simp only at hs ⊢
        cases h1 : stillSame C c ms i r.2 s.seen with
        | false => rw [h1] at hs; simp at hs
        | true => rw [h1] at hs; rw [stillSame_mono h _ h1]; exact hs
    | false =>
      rw [hw] at hs
      simp only at hs ⊢
      cases ho : opE C c o.op o.type s.env s.hp.raised with
      | none => rw [ho] at hs; cases hs
      | some r =>
        rw [ho] at hs; rw [opE_mono h ho]
        simp only at hs ⊢
        cases hro : readerOp o.op with
        | false => rw [hro] at hs; exact hs
        | true =>
          rw [hro] at hs
          simp only at hs ⊢
          cases h1 : wasSame C c ms i o s.env r.1 s.ws with
          | false => rw [h1] at hs; simp at hs
          | true => rw [h1] at hs; rw [wasSame_mono h _ h1]; exact hs

theorem runD_step {C : Ctx} {call : CallE} {ops : Array Oper} {ms : List Nat} {o : Oper} {r : List Oper} {i : Nat} {s : DS} : runD C call ops ms (o :: r) i s = (wantE ops o s.env).bind fun w => (stepW C call ops ms i o s w).bind fun s' => runD C call ops ms r (i + 1) s' := by
  simp only [runD, stepW_eq]
  cases wantE ops o s.env with
  | none => rfl
  | some w =>
    simp only [Option.bind_some]
    cases stepW C call ops ms i o s w <;> rfl

theorem runD_mono {C : Ctx} {c c' : CallE} (h : CallLe c c') {ops : Array Oper} {ms : List Nat} : ∀ (l : List Oper) {i : Nat} {s s' : DS}, runD C c ops ms l i s = some s' → runD C c' ops ms l i s = some s'
  | [], _, _, _, hs => hs
  | o :: l, i, s, s', hs => by
    rw [runD_step] at hs ⊢
    rw [Option.bind_eq_some_iff] at hs ⊢
    obtain ⟨b, h0, hs⟩ := hs
    rw [Option.bind_eq_some_iff] at hs
    obtain ⟨p, h1, h2⟩ := hs
    refine ⟨b, h0, ?_⟩
    rw [Option.bind_eq_some_iff]
    exact ⟨p, stepW_mono h h1, runD_mono h l h2⟩

theorem opsD_mono {C : Ctx} {c c' : CallE} (h : CallLe c c') {ops : Array Oper} {e : Env} {H : Hp} {r : Env × Hp} (hr : opsD C c ops e H = some r) : opsD C c' ops e H = some r := by
  unfold opsD at hr ⊢
  cases hk : regOk ops.toList (masks ops.toList []) ops.toList 0 with
  | false => rw [hk] at hr; cases hr
  | true =>
    rw [hk] at hr
    simp only at hr ⊢
    split at hr
    · rename_i s hs
      rw [runD_mono h _ hs]
      exact hr
    · cases hr

theorem loopE_mono {f g : Env → Hp → Option Rs} (h : ∀ e H r, f e H = some r → g e H = some r) : ∀ (n : Nat) {e : Env} {H : Hp} {r : Rs}, loopE f n e H = some r → loopE g n e H = some r
  | 0, _, _, _, hr => by cases hr
  | n + 1, e, H, r, hr => by
    simp only [loopE] at hr ⊢
    cases hf : f e H with
    | none => rw [hf] at hr; cases hr
    | some q =>
      rw [hf] at hr; rw [h _ _ _ hf]
      cases q with
      | nx e1 H1 => exact loopE_mono h n hr
      | ex id e1 H1 => exact hr
      | rt e1 H1 => exact hr

theorem evC_mono {C : Ctx} {c c' : CallE} (h : CallLe c c') (x : Code) : ∀ {e : Env} {H : Hp} {r : Rs}, evC C c x e H = some r → evC C c' x e H = some r := by
  induction x with
  | skip => exact fun hr => hr
  | region id ops draw =>
    intro e H r hr
    cases draw with
    | false =>
      have hr : (match opsE C c ops ops.toList e H with
          | some (e', H') => some (Rs.nx e' H')
          | none => none) = some r := hr
      show (match opsE C c' ops ops.toList e H with
          | some (e', H') => some (Rs.nx e' H')
          | none => none) = some r
      cases ho : opsE C c ops ops.toList e H with
      | none => rw [ho] at hr; cases hr
      | some q => rw [ho] at hr; rw [opsE_mono h _ ho]; exact hr
    | true =>
      have hr : (match opsD C c ops e H with
          | some (e', H') => some (Rs.nx e' H')
          | none => none) = some r := hr
      show (match opsD C c' ops e H with
          | some (e', H') => some (Rs.nx e' H')
          | none => none) = some r
      cases ho : opsD C c ops e H with
      | none => rw [ho] at hr; cases hr
      | some q => rw [ho] at hr; rw [opsD_mono h ho]; exact hr
  | seq a b ha hb =>
    intro e H r hr
    have hr : Rs.then (evC C c b) (evC C c a e H) = some r := hr
    show Rs.then (evC C c' b) (evC C c' a e H) = some r
    cases ho : evC C c a e H with
    | none => rw [ho] at hr; cases hr
    | some q =>
      rw [ho] at hr; rw [ha ho]
      cases q with
      | nx e1 H1 => exact hb hr
      | ex id e1 H1 => exact hr
      | rt e1 H1 => exact hr
  | cond t a b ha hb =>
    intro e H r hr
    have hr : (match opV e t with
      | some (.bool true) => evC C c a e H
      | some (.bool false) => evC C c b e H
      | _ => none) = some r := hr
    show (match opV e t with
      | some (.bool true) => evC C c' a e H
      | some (.bool false) => evC C c' b e H
      | _ => none) = some r
    split at hr
    · exact ha hr
    · exact hb hr
    · cases hr
  | block id b hb =>
    intro e H r hr
    have hr : Rs.block id (evC C c b e H) = some r := hr
    show Rs.block id (evC C c' b e H) = some r
    cases ho : evC C c b e H with
    | none => rw [ho] at hr; cases hr
    | some q => rw [ho] at hr; rw [hb ho]; exact hr
  | loop b hb =>
    intro e H r hr
    exact loopE_mono (f := fun e H => evC C c b e H) (g := fun e H => evC C c' b e H) (fun _ _ _ => hb) rounds hr
  | rangeFunc f ps as b _ _ =>
    intro e H r hr
    have hr : ((opV e f).bind fun fv => (calleeE fv [.func (.yield H.next) #[] #[]]).bind fun p =>
        match p.1 with
        | .func g => match C.fn g, c (.func g) p.2 (H.new (.loop .ready none (e.keep (takes e.size ps.toList as b)) ps.toList as b)) with
          | some _, some (_, H') => afterLoop H.next e H'
          | _, _ => none
        | _ => none) = some r := hr
    show ((opV e f).bind fun fv => (calleeE fv [.func (.yield H.next) #[] #[]]).bind fun p =>
        match p.1 with
        | .func g => match C.fn g, c' (.func g) p.2 (H.new (.loop .ready none (e.keep (takes e.size ps.toList as b)) ps.toList as b)) with
          | some _, some (_, H') => afterLoop H.next e H'
          | _, _ => none
        | _ => none) = some r
    rw [Option.bind_eq_some_iff] at hr ⊢
    obtain ⟨fv, h1, hr⟩ := hr
    rw [Option.bind_eq_some_iff] at hr
    obtain ⟨p, h2, hr⟩ := hr
    refine ⟨fv, h1, ?_⟩
    rw [Option.bind_eq_some_iff]
    refine ⟨p, h2, ?_⟩
    split at hr
    · split at hr
      · rename_i h3 h4
        simp only [h3, h _ _ _ _ h4]
        exact hr
      · cases hr
    · cases hr
  | exit id => exact fun hr => hr
  | scope x _ => exact fun hr => by cases hr
  | label l => exact fun hr => hr
  | goto l => exact fun hr => by cases hr
  | ret => exact fun hr => hr
  | refuse s => exact fun hr => by cases hr

theorem bodyE_mono {C : Ctx} {c c' : CallE} (h : CallLe c c') {a : AF} {args : List Value} {H : Hp} {r : Value × Hp} (hr : bodyE C c a args H = some r) : bodyE C c' a args H = some r := by
  unfold bodyE at hr ⊢
  cases hle : Nat.ble args.length a.ntmps with
  | false => rw [hle] at hr; cases hr
  | true =>
    rw [hle, cond_true] at hr; rw [cond_true]
    cases ho : evC C c a.code (Env.ofArgs a.ntmps args) H with
    | none => rw [ho] at hr; cases hr
    | some q => rw [ho] at hr; rw [evC_mono h _ ho]; exact hr

theorem roundE_eq {C : Ctx} {call : CallE} {l : Nat} {args : List Value} {H : Hp} : roundE C call l args H = match H.get l with
    | some (.loop _ _ env ps a b) => bif Nat.beq args.length ps.length then (zipSet (ps.zip args) env).bind fun e0 => (evC C call a e0 H).bind fun r => (beginE l r).bind fun p => (evC C call b p.1 p.2).bind fun r => leaveR l r else none
    | _ => none := by
  unfold roundE
  cases H.get l with
  | none => rfl
  | some o =>
    cases o with
    | loop st pend env ps a b =>
      simp only
      congr 1
      congr 1
      funext e0
      cases evC C call a e0 H with
      | none => rfl
      | some r =>
        cases r with
        | nx e1 H1 =>
          simp only [Option.bind_some, beginE]
          split
          · rename_i pend1 env1 ps1 a1 b1 hg
            simp only [hg]
            cases H1.upd l (.loop .busy pend1 env1 ps1 a1 b1) with
            | none => rfl
            | some H2 =>
              simp only [Option.bind_some, Option.map_some]
              cases evC C call b e1 H2 with
              | none => rfl
              | some r => cases r <;> rfl
          · rename_i hn
            cases hg : H1.get l with
            | none => rfl
            | some o =>
              cases o with
              | loop st1 pend1 env1 ps1 a1 b1 =>
                cases st1 with
                | ready => exact absurd hg (hn _ _ _ _ _)
                | _ => rfl
              | _ => rfl
        | ex id e1 H1 => rfl
        | rt e1 H1 => rfl
    | _ => rfl

theorem roundE_mono {C : Ctx} {c c' : CallE} (h : CallLe c c') {l : Nat} {args : List Value} {H : Hp} {r : Value × Hp} (hr : roundE C c l args H = some r) : roundE C c' l args H = some r := by
  rw [roundE_eq] at hr ⊢
  split at hr
  · obtain ⟨hb, hr⟩ := bif_some hr
    rw [hb, cond_true]
    rw [Option.bind_eq_some_iff] at hr ⊢
    obtain ⟨e0, h1, hr⟩ := hr
    rw [Option.bind_eq_some_iff] at hr
    obtain ⟨q, h2, hr⟩ := hr
    rw [Option.bind_eq_some_iff] at hr
    obtain ⟨p, h3, hr⟩ := hr
    rw [Option.bind_eq_some_iff] at hr
    obtain ⟨q2, h4, hr⟩ := hr
    refine ⟨e0, h1, ?_⟩
    rw [evC_mono h _ h2, Option.bind_some, h3, Option.bind_some, evC_mono h _ h4]
    exact hr
  · cases hr

theorem evF_le (C : Ctx) : ∀ d, CallLe (evF C d) (evF C (d + 1))
  | 0 => fun _ _ _ _ hr => by cases hr
  | d + 1 => fun fn args H r hr => by
    have ih := evF_le C d
    cases fn with
    | func f =>
      simp only [evF] at hr
      have goal : evF C (d + 1 + 1) (.func f) args H = match C.ext f args H with
        | some r => some r
        | none => match C.fn f with
          | none => none
          | some a => match a.pure with
            | false => match a.fr with
              | false => bodyE C (evF C (d + 1)) a args H
              | true => (bodyE C (evF C (d + 1)) a args H.raised).map fun p => (p.1, p.2.lowered H.floor)
            | true => match bodyE C (evF C (d + 1)) a args (H.fresh args) with
              | some (v, _) => bif plainV v then some (v, H) else none
              | none => none := rfl
      rw [goal]
      cases he : C.ext f args H with
      | some q => rw [he] at hr; exact hr
      | none =>
        rw [he] at hr
        simp only at hr ⊢
        cases ha : C.fn f with
        | none => rw [ha] at hr; cases hr
        | some a =>
          rw [ha] at hr
          simp only at hr ⊢
          cases hp : a.pure with
          | false =>
            rw [hp] at hr
            simp only at hr ⊢
            cases hm : a.fr with
            | false => rw [hm] at hr; exact bodyE_mono ih hr
            | true =>
              rw [hm] at hr
              simp only [Option.map_eq_some_iff] at hr ⊢
              obtain ⟨q, h1, h2⟩ := hr
              exact ⟨q, bodyE_mono ih h1, h2⟩
          | true =>
            rw [hp] at hr
            simp only at hr ⊢
            cases hb : bodyE C (evF C d) a args (H.fresh args) with
            | none => rw [hb] at hr; cases hr
            | some q => rw [hb] at hr; rw [bodyE_mono ih hb]; exact hr
    | yield l => exact roundE_mono ih (show roundE C (evF C d) l args H = some r from hr)
    | _ => cases hr

theorem evF_more (C : Ctx) {d d' : Nat} (h : d ≤ d') : CallLe (evF C d) (evF C d') := by
  induction h with
  | refl => exact fun _ _ _ _ hr => hr
  | step _ ih => exact fun fn args H r hr => evF_le C _ _ _ _ _ (ih _ _ _ _ hr)

open Classical in
/-- Calls, to any depth. -/
noncomputable def ev (C : Ctx) : CallE := fun fn args H => if h : ∃ d r, evF C d fn args H = some r then some (Classical.choose (Classical.choose_spec h)) else none

theorem ev_iff {C : Ctx} {fn : Fn} {args : List Value} {H : Hp} {r : Value × Hp} : ev C fn args H = some r ↔ ∃ d, evF C d fn args H = some r := by
  unfold ev
  constructor
  · intro h
    split at h
    · rename_i hx
      cases h
      exact ⟨_, Classical.choose_spec (Classical.choose_spec hx)⟩
    · cases h
  · rintro ⟨d, h⟩
    have hx : ∃ d r, evF C d fn args H = some r := ⟨d, r, h⟩
    rw [dif_pos hx]
    have h2 := Classical.choose_spec (Classical.choose_spec hx)
    have h3 := evF_more C (Nat.le_max_left d (Classical.choose hx)) _ _ _ _ h
    have h4 := evF_more C (Nat.le_max_right d (Classical.choose hx)) _ _ _ _ h2
    rw [h3] at h4
    exact h4.symm

theorem evF_ev (C : Ctx) (d : Nat) : CallLe (evF C d) (ev C) := fun _ _ _ _ h => ev_iff.2 ⟨d, h⟩
end Go.Ahe
/-
  X, 2: the evaluator, a second time: what is to be done behind a piece of code is handed along; frames are partial; loops and joins are handed in, each with a proof.
-/
namespace Go.Ahe.X
open Go.Ahe

abbrev FE := Tr Value
abbrev O := Option (Value × Hp)

def oV (e : FE) : Operand → Option Value
  | .tmp t => e.get t
  | .const v => bif plainV v then some v else none
  | .func f => some (.func (.func f) #[] #[])
  | .global _ => none

def oVs (e : FE) : List Operand → Option (List Value)
  | [] => some []
  | x :: xs => match oV e x, oVs e xs with
    | some v, some vs => some (v :: vs)
    | _, _ => none

def oVo (e : FE) : Option Operand → Option (Option Value)
  | none => some none
  | some x => (oV e x).map some

def parts (e : FE) : List (Nat × Operand) → Option (List (Nat × Value))
  | [] => some []
  | (i, x) :: r => match oV e x, parts e r with
    | some v, some vs => some ((i, v) :: vs)
    | _, _ => none

/-- What an operation comes to: a value; a value and a heap. -/
inductive Res where
  | v (x : Option Value)
  | h (x : O)

def pk (c : Value) (a b : Option Value) : Option Value := match c with
  | .bool x => bif x then a else b
  | _ => none
def un (x : Option Hp) : O := x.bind fun H => some (.tuple #[], H)
def al (zs : List Value) (H : Hp) : O := some (.pointer (some ⟨H.next, 0, none⟩), H.new (.cells zs false))
def nilc (v : Value) : Option Value := match v with
  | .pointer (some a) => some (.pointer (some a))
  | .func (.func f) a b => some (.func (.func f) a b)
  | .func (.yield f) a b => some (.func (.yield f) a b)
  | _ => none
/-- A call of a function value. -/
def cl (call : CallE) (f : Value) (args : List Value) (H : Hp) : O := (calleeE f args).bind fun p => call p.1 p.2 H

def bltR (C : Ctx) (b : Builtin) (ts : List TypeId) (args : List Value) (H : Hp) : Res :=
  match b, ts, args with
  | .len, [t], [x] => .v (lenE C t x H)
  | .cap, [t], [x] => .v (capE C t x)
  | .min, _, args => .v (minE args)
  | .max, _, args => .v (maxE args)
  | b, ts, args => .h (builtinE C b ts args H)

def opR (C : Ctx) (call : CallE) (o : Op) (e : FE) (H : Hp) : Res :=
  match o with
  | .move x => .v (oV e x)
  | .assign x => .v (oV e x)
  | .pick c a b => .v ((oV e c).bind fun c => pk c (oV e a) (oV e b))
  | .alloc t => .h ((C.T t).bind fun ti => al ti.zero H)
  | .box _ x => .h ((oV e x).bind fun v => al (cellsOf v) H)
  | .build t ps => .v ((parts e ps.toList).bind fun ps => buildE C t ps)
  | .buildSlice t n ps => .h ((parts e ps.toList).bind fun ps => buildSliceE C t n ps H)
  | .load t a => .v ((oV e a).bind fun a => (C.T t).bind fun ti => loadE ti a H)
  | .store t a x => .h (un ((oV e a).bind fun a => (oV e x).bind fun v => (C.T t).bind fun ti => storeE ti a v H))
  | .nilCheck x => .v ((oV e x).bind nilc)
  | .binOp op t x y _ => .v ((oV e x).bind fun a => (oV e y).bind fun b => binE C op t a b)
  | .unOp op _ x => .v ((oV e x).bind fun a => unE op a)
  | .convert s d x => .v ((oV e x).bind fun a => convE C s d a)
  | .makeFunc fn first cap => .v ((oVs e first.toList).bind fun a => (oVs e cap.toList).bind fun b => match fn with
    | .func f => some (.func (.func f) a.toArray b.toArray)
    | _ => none)
  | .makeMap _ r => .h ((oVo e r).bind fun r => match r with
    | none => some (.map (some H.next), H.new (.map [] 0))
    | some _ => none)
  | .makeSlice t l c => .h ((oV e l).bind fun l => (oV e c).bind fun c => makeSliceE C t l c H)
  | .slice t x lo hi mx => .v ((oV e x).bind fun v => (oVo e lo).bind fun lo => (oVo e hi).bind fun hi => (oVo e mx).bind fun mx =>
      (nato? lo).bind fun lo => (nato? hi).bind fun hi => (nato? mx).bind fun mx => sliceE C t v lo hi mx)
  | .fieldAddr t x f => .v ((oV e x).bind fun v => fieldAddrE C t v f)
  | .field t x f => .v ((oV e x).bind fun v => fieldE C t v f)
  | .indexAddr t x i => .v ((oV e x).bind fun v => (oV e i).bind fun i => indexAddrE C t v i)
  | .index t x i => .v ((oV e x).bind fun v => (oV e i).bind fun i => indexE C t v i)
  | .lookup t x k ok => .v ((oV e x).bind fun v => (oV e k).bind fun k => lookupE C t v k ok H)
  | .mapUpdate t m k x => .h (un ((oV e m).bind fun m => (oV e k).bind fun k => (oV e x).bind fun v => mapPutE C t m k v H))
  | .insert t m k x => .h (un ((oV e m).bind fun m => (oV e k).bind fun k => (oV e x).bind fun v => mapPutE C t m k v H))
  | .mapEntry t m k => .h ((oV e m).bind fun m => (oV e k).bind fun k => mapEntryE C t m k H)
  | .entryStore _ m st x => .h (un ((oV e m).bind fun m => (oV e st).bind fun st => (oV e x).bind fun v => entryStoreE m st v H))
  | .range t x => .h ((oV e x).bind fun v => rangeE C t v H)
  | .next it false => .h ((oV e it).bind fun v => nextE v H)
  | .entry it => .v ((oV e it).bind fun v => entryE v H)
  | .extract t k => .v ((oV e t).bind fun v => extractE v k)
  | .call c => match oVs e c.args.toList with
    | none => .v none
    | some args => match c.callee with
      | .builtin b => bltR C b c.argTypes.toList args H
      | .value f => .h ((oV e f).bind fun fv => cl call fv args H)
      | .invoke _ _ => .v none
  | _ => .v none

def wantV (c : Value) (w : Bool) : Bool := match c with
  | .bool b => b == w
  | _ => false
/-- Guarded. -/
def gd (c : Value) (w : Bool) (x : Option Value) : Option Value := bif wantV c w then x else some (.tuple #[])
def gh (c : Value) (w : Bool) (x : O) (H : Hp) : O := bif wantV c w then x else some (.tuple #[], H)

def putK (n : Nat) (d : Option Tmp) (v : Value) (e : FE) (k : FE → O) : O := match d with
  | none => k e
  | some t => bif Nat.blt t n then k (e.set t v) else none

/-- One operation; k is told whether it was wanted, what it gave, the heap, the frame. -/
def stepG (C : Ctx) (call : CallE) (n : Nat) (ops : Array Oper) (o : Oper) (e : FE) (H : Hp) (k : Bool → Value → Hp → FE → O) : O :=
  match o.guard with
  | none => match opR C call o.op e H with
    | .v x => x.bind fun v => putK n o.dst v e fun e' => k true v H e'
    | .h x => x.bind fun p => putK n o.dst p.1 e fun e' => k true p.1 p.2 e'
  | some (j, w) => match (ops[j]?).bind (·.dst) with
    | none => none
    | some t => (e.get t).bind fun c => match opR C call o.op e H with
      | .v x => (gd c w x).bind fun v => putK n o.dst v e fun e' => k (wantV c w) v H e'
      | .h x => (gh c w x H).bind fun p => putK n o.dst p.1 e fun e' => k (wantV c w) p.1 p.2 e'

def opsX (C : Ctx) (call : CallE) (n : Nat) (ops : Array Oper) : List Oper → FE → Hp → (FE → Hp → O) → O
  | [], e, H, k => k e H
  | o :: r, e, H, k => stepG C call n ops o e H fun _ _ H' e' => opsX C call n ops r e' H' k

/-- Operations that only make what is new. -/
def allocOp : Op → Bool
  | .alloc _ | .box _ _ | .buildSlice _ _ _ | .makeSlice _ _ _ => true
  | .makeMap _ none => true
  | _ => false

def kindOk (C : Ctx) (ms : List Nat) (ops : List Oper) (i : Nat) (o : Oper) : Bool := isW C ms ops i o || (pureOp o.op || (readerOp o.op || (allocOp o.op || (pureCall C o.op || mkCall C o.op))))

def kindsOk (C : Ctx) (ms : List Nat) (ops : List Oper) : List Oper → Nat → Bool
  | [], _ => true
  | o :: r, i => kindOk C ms ops i o && kindsOk C ms ops r (i + 1)

/-- A region that draws its order may be walked in the text's. -/
def drawOk (C : Ctx) (ops : List Oper) : Bool := regOk ops (masks ops []) ops 0 && kindsOk C (masks ops []) ops ops 0

/-- What has been read: where, by what, in which frame, what; was it wanted? -/
structure SX where
  at_ : Nat
  op : Oper
  env : FE
  val : Value
  g : Bool

def same (x : Option Value) (v : Value) : Bool := match x with
  | some u => valEq u v
  | none => false
/-- Where both are wanted, it reads the same. -/
def ck (g : Bool) (x : Option Value) (v : Value) (k : O) : O := bif !g || same x v then k else none
def Res.val : Res → Option Value
  | .v x => x
  | .h x => x.map (·.1)

def stillK (C : Ctx) (ms : List Nat) (i : Nat) (g : Bool) (H : Hp) (k : O) : List SX → O
  | [] => k
  | s :: r => match ordB ms i s.at_ with
    | true => stillK C ms i g H k r
    | false => ck (g && s.g) (opR C noCall s.op.op s.env H).val s.val (stillK C ms i g H k r)

def wasK (C : Ctx) (ms : List Nat) (j : Nat) (o : Oper) (e : FE) (v : Value) (g : Bool) (k : O) : List (Nat × Hp × Bool) → O
  | [] => k
  | (i, H, g') :: r => match ordB ms i j with
    | true => wasK C ms j o e v g k r
    | false => ck (g && g') (opR C noCall o.op e H).val v (wasK C ms j o e v g k r)

abbrev KY := FE → Hp → List SX → List (Nat × Hp × Bool) → O

def aftY (C : Ctx) (ops : Array Oper) (ms : List Nat) (i : Nat) (o : Oper) (e : FE) (H : Hp) (seen : List SX) (ws : List (Nat × Hp × Bool)) (k : KY) (g : Bool) (v : Value) (H' : Hp) (e' : FE) : O :=
  match isW C ms ops.toList i o with
  | true => stillK C ms i g H' (k e' H' seen ((i, H, g) :: ws)) seen
  | false => match readerOp o.op with
    | true => wasK C ms i o e v g (k e' H' (⟨i, o, e, v, g⟩ :: seen) ws) ws
    | false => k e' H' seen ws

def opsY (C : Ctx) (call : CallE) (n : Nat) (ops : Array Oper) (ms : List Nat) : List Oper → Nat → FE → Hp → List SX → List (Nat × Hp × Bool) → (FE → Hp → O) → O
  | [], _, e, H, _, _, k => k e H
  | o :: r, i, e, H, seen, ws, k => stepG C call n ops o e H (aftY C ops ms i o e H seen ws fun e' H' seen' ws' => opsY C call n ops ms r (i + 1) e' H' seen' ws' k)

/-- How code is left. -/
inductive RX where
  | nx (e : FE) (H : Hp)
  | ex (id : Nat) (e : FE) (H : Hp)
  | rt (e : FE) (H : Hp)

def lft : Code → Code
  | .seq a _ => a | .cond _ a _ => a | .block _ a => a | .loop a => a | .rangeFunc _ _ a _ => a
  | _ => .skip
def rgt : Code → Code
  | .seq _ b => b | .cond _ _ b => b | .rangeFunc _ _ _ b => b
  | _ => .skip

def Sub (e' : FE) (e : Env) : Prop := ∀ k v, e'.get k = some v → k < e.size ∧ e.t.get k = some v
def SubR (n : Nat) : RX → Rs → Prop
  | .nx e' H', .nx e H => Sub e' e ∧ e.size = n ∧ H' = H
  | .ex j e' H', .ex i e H => j = i ∧ Sub e' e ∧ e.size = n ∧ H' = H
  | .rt e' H', .rt e H => Sub e' e ∧ e.size = n ∧ H' = H
  | _, _ => False

/-- What stands in for a piece of code. -/
def OrOk (C : Ctx) (n : Nat) (c : Code) (F : FE → Hp → (RX → O) → O) : Prop :=
  ∀ e' e H K r, Sub e' e → e.size = n → F e' H K = some r → ∃ d r0 r0', (∀ d', d ≤ d' → evC C (evF C d') c e H = some r0) ∧ SubR n r0' r0 ∧ K r0' = some r

structure Orac (C : Ctx) (n : Nat) (c : Code) where
  F : FE → Hp → (RX → O) → O
  ok : OrOk C n c F

inductive LT (C : Ctx) (n : Nat) : Code → Type where
  | e {c : Code} : LT C n c
  | n {c : Code} (o : Option (Orac C n c)) (l : LT C n (lft c)) (r : LT C n (rgt c)) : LT C n c

def LT.l {C : Ctx} {n : Nat} {c : Code} : LT C n c → LT C n (lft c) | .e => .e | .n _ l _ => l
def LT.r {C : Ctx} {n : Nat} {c : Code} : LT C n c → LT C n (rgt c) | .e => .e | .n _ _ r => r
def LT.o {C : Ctx} {n : Nat} {c : Code} : LT C n c → Option (Orac C n c) | .e => none | .n o _ _ => o

def asB (c : Value) : Option Bool := match c with
  | .bool b => some b
  | _ => none

/-! ### Ranges over functions -/
def gv (xs : List Value) (i : Nat) : Value := xs.getD i (.tuple #[])
/-- Temporaries, put. -/
def mkE (xs : List Value) : List Tmp → Nat → FE → FE
  | [], _, e => e
  | t :: ts, i, e => mkE xs ts (i + 1) (e.set t (gv xs i))
/-- The temporaries' values, one by one. -/
def getsK (e : FE) : List Tmp → (List Value → O) → O
  | [], k => k []
  | t :: ts, k => (e.get t).bind fun v => getsK e ts fun vs => k (v :: vs)
/-- The exits that code leaves by. -/
noncomputable def exs (c : Code) : List Nat :=
  Code.rec (motive := fun _ => List Nat) [] (fun _ _ _ => []) (fun _ _ a b => a ++ b) (fun _ _ _ a b => a ++ b) (fun id _ b => b.filter fun i => !(Nat.beq i id)) (fun _ b => b) (fun _ _ _ _ a b => a ++ b) (fun id => [id]) (fun _ _ => []) (fun _ => []) (fun _ => []) [] (fun _ => []) c
/-- Does it return? -/
noncomputable def hasR (c : Code) : Bool :=
  Code.rec (motive := fun _ => Bool) false (fun _ _ _ => false) (fun _ _ a b => a || b) (fun _ _ _ a b => a || b) (fun _ _ b => b) (fun _ b => b) (fun _ _ _ _ a b => a || b) (fun _ => false) (fun _ _ => false) (fun _ => false) (fun _ => false) true (fun _ => false) c
def kEx (id : Nat) (H : Hp) : List (Nat × (Hp → O)) → O
  | [] => none
  | (i, k) :: r => bif Nat.beq id i then k H else kEx id H r
/-- Behind a range over a function. -/
def aft (l : Nat) (H : Hp) (kn : Hp → O) (ke : List (Nat × (Hp → O))) (kr : Hp → O) : O :=
  match H.get l with
  | some (.loop st pend _ _ _ _) => match st with
    | .busy => none
    | _ => (H.upd l .dead).bind fun H' => match pend with
      | none => kn H'
      | some (.exit id) => kEx id H' ke
      | some .ret => kr H'
      | _ => none
  | _ => none
/-- The range: its function is called. -/
def rfX (C : Ctx) (call : CallE) (fv : Value) (L : LoopState → Option Code → Ob) (H : Hp) (kn : Hp → O) (ke : List (Nat × (Hp → O))) (kr : Hp → O) : O :=
  (calleeE fv [.func (.yield H.next) #[] #[]]).bind fun p => match p.1 with
    | .func g => match C.fn g with
      | some _ => (call (.func g) p.2 (H.new (L .ready none))).bind fun q => aft H.next q.2 kn ke kr
      | none => none
    | _ => none

noncomputable def evX (C : Ctx) (call : CallE) (n : Nat) (c : Code) : LT C n c → FE → Hp → (RX → O) → O :=
  Code.rec (motive := fun c => LT C n c → FE → Hp → (RX → O) → O)
    (fun _ e H K => K (.nx e H))
    (fun _ ops draw _ e H K => match draw with
      | false => opsX C call n ops ops.toList e H fun e' H' => K (.nx e' H')
      | true => bif drawOk C ops.toList then opsY C call n ops (masks ops.toList []) ops.toList 0 e H [] [] fun e' H' => K (.nx e' H') else none)
    (fun _ _ ia ib lt e H K => ia lt.l e H fun r => match r with
      | .nx e' H' => (match lt.r.o with
        | some F => F.F e' H' K
        | none => ib lt.r e' H' K)
      | .ex j e' H' => K (.ex j e' H')
      | .rt e' H' => K (.rt e' H'))
    (fun x _ _ ia ib lt e H K => (oV e x).bind fun c => (asB c).bind fun b => bif b then ia lt.l e H K else ib lt.r e H K)
    (fun id _ ib lt e H K => ib lt.l e H fun r => match r with
      | .nx e' H' => K (.nx e' H')
      | .ex j e' H' => bif Nat.beq j id then K (.nx e' H') else K (.ex j e' H')
      | .rt e' H' => K (.rt e' H'))
    (fun _ _ lt e H K => match lt.o with
      | some F => F.F e H K
      | none => none)
    (fun f ps as b _ _ _ e H K => (oV e f).bind fun fv => getsK e (takes n ps.toList as b) fun xs =>
      rfX C call fv (fun st pend => .loop st pend ⟨n, mkE xs (takes n ps.toList as b) 0 .nl⟩ ps.toList as b) H (fun H' => K (.nx e H')) ((exs b).map fun i => (i, fun H' => K (.ex i e H'))) (fun H' => bif hasR b then K (.rt e H') else none))
    (fun id _ e H K => K (.ex id e H))
    (fun _ _ _ _ _ _ => none)
    (fun _ _ e H K => K (.nx e H))
    (fun _ _ _ _ _ => none)
    (fun _ e H K => K (.rt e H))
    (fun _ _ _ _ _ => none)
    c




/-- Ways out. -/
inductive Tgt where
  | nx
  | rt
  | ex (j : Nat)

def Tgt.mk (e : FE) (H : Hp) : Tgt → RX
  | .nx => .nx e H
  | .rt => .rt e H
  | .ex j => .ex j e H

abbrev Kx := List Value → Hp → O
def nth (X : List Kx) (i : Nat) : Kx := X.getD i fun _ _ => none

def kx (X : List Kx) (i : Nat) : List (Tgt × List Tmp) → RX → O
  | [], _ => none
  | (.nx, ts) :: L, .nx e H => getsK e ts fun vs => nth X i vs H
  | (.rt, ts) :: L, .rt e H => getsK e ts fun vs => nth X i vs H
  | (.ex j, ts) :: L, .ex k e H => bif Nat.beq j k then getsK e ts fun vs => nth X i vs H else kx X (i + 1) L (.ex k e H)
  | _ :: L, r => kx X (i + 1) L r

def kLoop (ks : List Tmp) (L : List (Tgt × List Tmp)) (k : Kx) (X : List Kx) : RX → O
  | .nx e H => getsK e ks fun vs => k vs H
  | .ex j e H => kx X 0 L (.ex j e H)
  | .rt e H => kx X 0 L (.rt e H)

def xsOf (K : RX → O) : List (Tgt × List Tmp) → List Kx
  | [] => []
  | (tg, ts) :: L => (fun vs H => K (tg.mk (mkE vs ts 0 .nl) H)) :: xsOf K L

/-- Rounds. -/
def loopS (B : Kx → List Value → Hp → List Kx → O) : Nat → List Value → Hp → List Kx → O
  | 0, _, _, _ => none
  | m + 1, xs, H, X => B (fun xs H => loopS B m xs H X) xs H X

/-- How many rounds a loop may take; not to be counted. -/
noncomputable def rnd : Nat := Classical.choose (⟨rounds, rfl⟩ : ∃ n, n = rounds)
theorem rnd_eq : rnd = rounds := Classical.choose_spec (⟨rounds, rfl⟩ : ∃ n, n = rounds)

/-- Results. -/
def res1 (C : Ctx) (e : FE) (H : Hp) : ResultVar → Option Value
  | .tmp t => e.get t
  | .cell a t => (e.get a).bind fun a => (C.T t).bind fun ti => loadE ti a H
def resK (C : Ctx) (e : FE) (H : Hp) : List ResultVar → (List Value → O) → O
  | [], k => k []
  | r :: rs, k => (res1 C e H r).bind fun v => resK C e H rs fun vs => k (v :: vs)
def tup : List Value → Value
  | [v] => v
  | vs => .tuple vs.toArray
def kRet (C : Ctx) (rs : List ResultVar) : RX → O
  | .nx e H => resK C e H rs fun vs => some (tup vs, H)
  | .rt e H => resK C e H rs fun vs => some (tup vs, H)
  | .ex _ _ _ => none
end Go.Ahe.X
/-
  X, 3: a region that draws its order, and whose order does not matter by its text, does what its text says from the first line to the last.
-/
namespace Go.Ahe.X
open Go.Ahe

/-- No law stands in for a function that is there. -/
def NoExt (C : Ctx) : Prop := ∀ f a, C.fn f = some a → ∀ args H, C.ext f args H = none

theorem pure_call {C : Ctx} (hx : NoExt C) {d : Nat} {f : FuncId} {a : AF} (ha : C.fn f = some a) (hp : a.pure = true) {args : List Value} {H H' : Hp} {v : Value} (h : evF C d (.func f) args H = some (v, H')) :
    H' = H ∧ evF C d (.func f) args H.raised = some (v, H.raised) := by
  cases d with
  | zero => cases h
  | succ d =>
    simp only [evF, hx f _ ha, ha, hp] at h ⊢
    have hf : H.raised.fresh args = H.fresh args := by
      unfold Hp.fresh
      cases args.all plainV <;> rfl
    rw [hf]
    cases hb : bodyE C (evF C d) a args (H.fresh args) with
    | none => rw [hb] at h; cases h
    | some q =>
      rw [hb] at h
      simp only at h ⊢
      obtain ⟨h1, h2⟩ := bif_some h
      cases h2
      rw [h1]
      exact ⟨rfl, rfl⟩

theorem opE_call {C : Ctx} {call : CallE} {c : Call} {t : TypeId} {e : Env} {H : Hp} : opE C call (.call c) t e H = (opVs e c.args.toList).bind fun args => match c.callee with
    | .builtin b => builtinE C b c.argTypes.toList args H
    | .value f => (opV e f).bind fun fv => (calleeE fv args).bind fun p => call p.1 p.2 H
    | .invoke _ _ => none := rfl

/-- What is done with the floor raised is done without. -/
theorem raise_pure {C : Ctx} {call : CallE} {o : Op} {t : TypeId} {e : Env} {H H' : Hp} {v : Value} (ho : pureOp o = true ∨ readerOp o = true) (h : opE C call o t e H = some (v, H')) :
    H' = H ∧ opE C call o t e H.raised = some (v, H.raised) := by
  have fin : ∀ {x : Option Value}, (match x with | some v => some (v, H) | none => none) = some (v, H') → H' = H ∧ (match x with | some v => some (v, H.raised) | none => none) = some (v, H.raised) := fun {x} hx => by
    cases x with
    | none => cases hx
    | some u => cases hx; exact ⟨rfl, rfl⟩
  cases o
  case call c =>
    obtain ⟨callee, args, ats⟩ := c
    rw [opE_call] at h ⊢
    simp only at h ⊢
    cases hv : opVs e args.toList with
    | none => rw [hv] at h; cases h
    | some vs =>
      rw [hv] at h
      simp only [Option.bind_some] at h ⊢
      cases callee with
      | invoke a b => cases h
      | value f => rcases ho with ho | ho <;> cases ho
      | builtin b =>
        simp only at h ⊢
        have key : ∀ {x : Option Value}, (x.map fun v => (v, H)) = some (v, H') → H' = H ∧ (x.map fun v => (v, H.raised)) = some (v, H.raised) := fun {x} hx => by
          cases x with
          | none => cases hx
          | some u => cases hx; exact ⟨rfl, rfl⟩
        cases b <;> first
          | (rcases ho with ho | ho <;> cases ho; done)
          | (cases hl : ats.toList with
             | nil => first | exact key (by rw [hl] at h; exact h) | (rw [hl] at h; cases h)
             | cons t1 ts => cases ts with
               | nil => cases vs with
                 | nil => first | exact key (by rw [hl] at h; exact h) | (rw [hl] at h; cases h)
                 | cons v1 vs => cases vs with
                   | nil => exact key (by rw [hl] at h; exact h)
                   | cons v2 vs => first | exact key (by rw [hl] at h; exact h) | (rw [hl] at h; cases h)
               | cons t2 ts => first | exact key (by rw [hl] at h; exact h) | (rw [hl] at h; cases h))
  case pick c a b =>
    have he : ∀ H, opE C call (.pick c a b) t e H = match opV e c with
      | some (.bool true) => (match opV e a with | some v => some (v, H) | none => none)
      | some (.bool false) => (match opV e b with | some v => some (v, H) | none => none)
      | _ => none := fun _ => rfl
    rw [he] at h ⊢
    cases hc : opV e c with
    | none => rw [hc] at h; cases h
    | some u =>
      rw [hc] at h
      cases u with
      | bool b => cases b with
        | true => exact fin h
        | false => exact fin h
      | _ => cases h
  all_goals first
    | (rcases ho with ho | ho <;> cases ho; done)
    | exact fin h

theorem raise_alloc {C : Ctx} {call : CallE} {o : Op} {t : TypeId} {e : Env} {H H' : Hp} {v : Value} (ho : allocOp o = true) (h : opE C call o t e H = some (v, H')) :
    ∃ H1, opE C call o t e H.raised = some (v, H1) ∧ H1.lowered H.floor = H' := by
  cases o
  case alloc el =>
    have h : ((C.T el).bind fun ti => some (Value.pointer (some ⟨H.next, 0, none⟩), H.new (.cells ti.zero false))) = some (v, H') := h
    show ∃ H1, ((C.T el).bind fun ti => some (Value.pointer (some ⟨H.next, 0, none⟩), H.raised.new (.cells ti.zero false))) = some (v, H1) ∧ _
    cases hT : C.T el with
    | none => rw [hT] at h; cases h
    | some ti => rw [hT] at h; cases h; exact ⟨_, rfl, rfl⟩
  case box el x =>
    have h : ((opV e x).bind fun u => some (Value.pointer (some ⟨H.next, 0, none⟩), H.new (.cells (cellsOf u) false))) = some (v, H') := h
    show ∃ H1, ((opV e x).bind fun u => some (Value.pointer (some ⟨H.next, 0, none⟩), H.raised.new (.cells (cellsOf u) false))) = some (v, H1) ∧ _
    cases hT : opV e x with
    | none => rw [hT] at h; cases h
    | some ti => rw [hT] at h; cases h; exact ⟨_, rfl, rfl⟩
  case buildSlice ty n ps =>
    have h : ((partsE e ps.toList).bind fun ps => buildSliceE C ty n ps H) = some (v, H') := h
    show ∃ H1, ((partsE e ps.toList).bind fun ps => buildSliceE C ty n ps H.raised) = some (v, H1) ∧ _
    cases hT : partsE e ps.toList with
    | none => rw [hT] at h; cases h
    | some ps =>
      rw [hT] at h
      simp only [Option.bind_some] at h ⊢
      unfold buildSliceE at h ⊢
      cases hC : C.T ty with
      | none => rw [hC] at h; cases h
      | some ti =>
        rw [hC] at h
        simp only at h ⊢
        cases hk : ti.kind <;> rw [hk] at h <;> simp only at h ⊢ <;> first | (cases h; done) | skip
        rename_i el
        rw [Option.bind_eq_some_iff] at h
        obtain ⟨et, h1, h2⟩ := h
        obtain ⟨h3, h4⟩ := bif_some h2
        rw [Option.map_eq_some_iff] at h4
        obtain ⟨cs, h5, h6⟩ := h4
        cases h6
        exact ⟨H.raised.new (.cells cs false), by rw [h1, Option.bind_some, h3, cond_true, h5]; rfl, rfl⟩
  case makeSlice ty l c =>
    have h : ((opV e l).bind fun l => (opV e c).bind fun c => makeSliceE C ty l c H) = some (v, H') := h
    show ∃ H1, ((opV e l).bind fun l => (opV e c).bind fun c => makeSliceE C ty l c H.raised) = some (v, H1) ∧ _
    rw [Option.bind_eq_some_iff] at h
    obtain ⟨lv, hl, h⟩ := h
    rw [Option.bind_eq_some_iff] at h
    obtain ⟨cv, hc, h⟩ := h
    rw [hl, Option.bind_some, hc, Option.bind_some]
    unfold makeSliceE at h ⊢
    cases hC : C.T ty with
    | none => rw [hC] at h; cases h
    | some ti =>
      cases hn : nat? lv with
      | none => rw [hC, hn] at h; cases h
      | some ln =>
        cases hm : nat? cv with
        | none => rw [hC, hn, hm] at h; cases h
        | some cn =>
          rw [hC, hn, hm] at h
          simp only at h ⊢
          cases hk : ti.kind <;> rw [hk] at h <;> simp only at h ⊢ <;> first | (cases h; done) | skip
          rw [Option.bind_eq_some_iff] at h
          obtain ⟨et, h1, h2⟩ := h
          obtain ⟨h3, h4⟩ := bif_some h2
          cases h4
          exact ⟨H.raised.new (.cells (repeatL et.zero cn) false), by rw [h1, Option.bind_some, h3, cond_true]; rfl, rfl⟩
  case makeMap ty r =>
    cases r with
    | some x => cases ho
    | none =>
      have h : (some (Value.map (some H.next), H.new (.map [] 0))) = some (v, H') := h
      cases h
      exact ⟨_, rfl, rfl⟩
  all_goals cases ho

theorem raise_call {C : Ctx} (hx : NoExt C) {d : Nat} {o : Op} {t : TypeId} {e : Env} {H H' : Hp} {v : Value} (ho : pureCall C o = true) (h : opE C (evF C d) o t e H = some (v, H')) :
    H' = H ∧ opE C (evF C d) o t e H.raised = some (v, H.raised) := by
  cases o
  case call c =>
    obtain ⟨callee, args, ats⟩ := c
    cases callee with
    | builtin b => cases ho
    | invoke a b => cases ho
    | value f =>
      cases f with
      | func g =>
        simp only [pureCall] at ho
        cases ha : C.fn g with
        | none => rw [ha] at ho; cases ho
        | some a =>
          rw [ha] at ho
          simp only at ho
          rw [opE_call] at h ⊢
          simp only at h ⊢
          cases hv : opVs e args.toList with
          | none => rw [hv] at h; cases h
          | some vs =>
            rw [hv] at h
            simp only [Option.bind_some, opV, calleeE] at h ⊢
            exact pure_call hx ha ho h
      | _ => cases ho
  all_goals cases ho

theorem mk_call {C : Ctx} (hx : NoExt C) {d : Nat} {o : Op} {t : TypeId} {e : Env} {H H' : Hp} {v : Value} (ho : mkCall C o = true) (h : opE C (evF C d) o t e H = some (v, H')) :
    ∃ H2, opE C (evF C d) o t e H.raised = some (v, H2) ∧ H2.lowered H.floor = H' := by
  cases o
  case call c =>
    obtain ⟨callee, args, ats⟩ := c
    cases callee with
    | builtin b => cases ho
    | invoke a b => cases ho
    | value f =>
      cases f with
      | func g =>
        simp only [mkCall] at ho
        cases ha : C.fn g with
        | none => rw [ha] at ho; cases ho
        | some a =>
          rw [ha] at ho
          simp only [Bool.and_eq_true, Bool.not_eq_true'] at ho
          rw [opE_call] at h ⊢
          simp only at h ⊢
          cases hv : opVs e args.toList with
          | none => rw [hv] at h; cases h
          | some vs =>
            rw [hv] at h
            simp only [Option.bind_some, opV, calleeE] at h ⊢
            cases d with
            | zero => cases h
            | succ d =>
              simp only [evF, hx _ _ ha, ha, ho.1, ho.2, Option.map_eq_some_iff] at h ⊢
              obtain ⟨q, h1, h2⟩ := h
              cases h2
              exact ⟨_, ⟨q, h1, rfl⟩, rfl⟩
      | _ => cases ho
  all_goals cases ho

theorem kindsOk_ok {C : Ctx} {ms : List Nat} {ops : List Oper} : ∀ {l : List Oper} {i0 : Nat}, kindsOk C ms ops l i0 = true → ∀ i o, l[i]? = some o → kindOk C ms ops (i0 + i) o = true
  | [], _, _, i, o, h => by simp at h
  | x :: l, i0, h, i, o, hi => by
    simp only [kindsOk, Bool.and_eq_true] at h
    cases i with
    | zero => simp at hi; subst hi; exact h.1
    | succ i =>
      have := kindsOk_ok h.2 i o (by simpa using hi)
      rwa [show i0 + 1 + i = i0 + (i + 1) by omega] at this

/-- A step in the text's order, where what was read stays as it was. -/
theorem draw_step {C : Ctx} (hx : NoExt C) {d : Nat} {ops : Array Oper} {ms : List Nat} {i : Nat} {o : Oper} (hk : kindOk C ms ops.toList i o = true) {s : DS}
    {w : Bool} {e' : Env} {H' : Hp} (h : opStep C (evF C d) o s.env s.hp w = some (e', H'))
    (hs : w = true → isW C ms ops.toList i o = true → stillSame C (evF C d) ms i H' s.seen = true)
    (hr : w = true → isW C ms ops.toList i o = false → readerOp o.op = true → ∀ v, opE C (evF C d) o.op o.type s.env s.hp = some (v, H') → wasSame C (evF C d) ms i o s.env v s.ws = true) :
    ∃ s', stepW C (evF C d) ops ms i o s w = some s' ∧ s'.env = e' ∧ s'.hp = H' ∧
      (w = false → s'.seen = s.seen ∧ s'.ws = s.ws) ∧
      (w = true → isW C ms ops.toList i o = true → s'.seen = s.seen ∧ s'.ws = (i, s.hp) :: s.ws) ∧
      (w = true → isW C ms ops.toList i o = false → s'.ws = s.ws ∧ (readerOp o.op = false → s'.seen = s.seen) ∧ (readerOp o.op = true → ∀ v, opE C (evF C d) o.op o.type s.env s.hp = some (v, H') → s'.seen = ⟨i, o, s.env, v⟩ :: s.seen)) := by
  cases w with
  | false =>
    simp only [opStep, putE] at h
    simp only [stepW]
    cases hp : s.env.put o.dst (.tuple #[]) with
    | none => rw [hp] at h; cases h
    | some e1 =>
      rw [hp] at h; cases h
      exact ⟨_, rfl, rfl, rfl, fun _ => ⟨rfl, rfl⟩, (fun h => by cases h), (fun h => by cases h)⟩
  | true =>
    simp only [opStep] at h
    rw [Option.bind_eq_some_iff] at h
    obtain ⟨⟨v, H1⟩, ho, h⟩ := h
    simp only [putE] at h
    simp only [stepW]
    cases hw : isW C ms ops.toList i o with
    | true =>
      simp only [ho]
      cases hp : s.env.put o.dst v with
      | none => rw [hp] at h; cases h
      | some e1 =>
        rw [hp] at h; cases h
        rw [hs rfl hw]
        exact ⟨_, rfl, rfl, rfl, (fun h => by cases h), fun _ _ => ⟨rfl, rfl⟩, (fun _ h => by cases h)⟩
    | false =>
      simp only
      have hkind := hk
      unfold kindOk at hkind
      rw [hw, Bool.false_or] at hkind
      have main : ∃ H2, opE C (evF C d) o.op o.type s.env s.hp.raised = some (v, H2) ∧ H2.lowered s.hp.floor = H1 := by
        rcases Bool.or_eq_true_iff.1 hkind with g | g
        · obtain ⟨g1, g2⟩ := raise_pure (.inl g) ho
          exact ⟨_, g2, by rw [g1]; rfl⟩
        · rcases Bool.or_eq_true_iff.1 g with g | g
          · obtain ⟨g1, g2⟩ := raise_pure (.inr g) ho
            exact ⟨_, g2, by rw [g1]; rfl⟩
          · rcases Bool.or_eq_true_iff.1 g with g | g
            · exact raise_alloc g ho
            · rcases Bool.or_eq_true_iff.1 g with g | g
              · obtain ⟨g1, g2⟩ := raise_call hx g ho
                exact ⟨_, g2, by rw [g1]; rfl⟩
              · exact mk_call hx g ho
      obtain ⟨H2, hm, hl⟩ := main
      rw [hm]
      simp only
      cases hp : s.env.put o.dst v with
      | none => rw [hp] at h; cases h
      | some e1 =>
        rw [hp] at h; cases h
        cases hro : readerOp o.op with
        | true =>
          rw [hr rfl hw hro v ho]
          exact ⟨_, rfl, rfl, hl, (fun h => by cases h), (fun _ h => by cases h), fun _ _ => ⟨rfl, (fun h => by cases h), fun _ u hu => by rw [ho] at hu; cases hu; rfl⟩⟩
        | false => exact ⟨_, rfl, rfl, hl, (fun h => by cases h), (fun _ h => by cases h), fun _ _ => ⟨rfl, fun _ => rfl, (fun h => by cases h)⟩⟩
end Go.Ahe.X
/-
  X, 4: what the second evaluator says, the first one says.
-/
namespace Go.Ahe.X
open Go.Ahe

theorem Sub.get {e' : FE} {e : Env} (h : Sub e' e) {k : Nat} {v : Value} (hv : e'.get k = some v) : Nat.blt k e.size = true ∧ e.get k = some v := by
  obtain ⟨h1, h2⟩ := h k v hv
  exact ⟨by simp [Nat.blt]; omega, Env.get_of h1 h2⟩

theorem oV_ok {e' : FE} {e : Env} (h : Sub e' e) {x : Operand} {v : Value} (hv : oV e' x = some v) : opV e x = some v := by
  cases x with
  | tmp t =>
    obtain ⟨h1, h2⟩ := h.get (show e'.get t = some v from hv)
    simp only [opV, h2]
  | const c => exact hv
  | func f => exact hv
  | global g => cases hv

theorem oVs_ok {e' : FE} {e : Env} (h : Sub e' e) : ∀ {xs : List Operand} {vs : List Value}, oVs e' xs = some vs → opVs e xs = some vs
  | [], _, hv => hv
  | x :: xs, vs, hv => by
    simp only [oVs] at hv
    simp only [opVs]
    cases h1 : oV e' x with
    | none => rw [h1] at hv; cases hv
    | some v =>
      cases h2 : oVs e' xs with
      | none => rw [h1, h2] at hv; cases hv
      | some ws => rw [oV_ok h h1, oVs_ok h h2]; rw [h1, h2] at hv; exact hv

theorem oVo_ok {e' : FE} {e : Env} (h : Sub e' e) {x : Option Operand} {v : Option Value} (hv : oVo e' x = some v) : opVo e x = some v := by
  cases x with
  | none => exact hv
  | some x =>
    simp only [oVo, Option.map_eq_some_iff] at hv
    obtain ⟨u, h1, rfl⟩ := hv
    simp only [opVo, oV_ok h h1]; rfl

theorem parts_ok {e' : FE} {e : Env} (h : Sub e' e) : ∀ {xs : List (Nat × Operand)} {vs : List (Nat × Value)}, parts e' xs = some vs → partsE e xs = some vs
  | [], _, hv => hv
  | (i, x) :: xs, vs, hv => by
    simp only [parts] at hv
    simp only [partsE]
    cases h1 : oV e' x with
    | none => rw [h1] at hv; cases hv
    | some v =>
      cases h2 : parts e' xs with
      | none => rw [h1, h2] at hv; cases hv
      | some ws => rw [oV_ok h h1, parts_ok h h2]; rw [h1, h2] at hv; exact hv

/-- What an operation comes to, here and there. -/
def Res.out (H : Hp) : Res → O
  | .v x => match x with | some u => some (u, H) | none => none
  | .h x => x

theorem bind2 {α β : Type} {x : Option α} {f : α → Option β} {r : β} (h : x.bind f = some r) : ∃ a, x = some a ∧ f a = some r := Option.bind_eq_some_iff.1 h

theorem un_eq (x : Option Hp) : un x = match x with | some h => some (.tuple #[], h) | none => none := by cases x <;> rfl

theorem bltR_ok {C : Ctx} {b : Builtin} {ts : List TypeId} {args : List Value} {H : Hp} {p : Value × Hp} (h : (bltR C b ts args H).out H = some p) : builtinE C b ts args H = some p := by
  have key : ∀ {x : Option Value}, Res.out H (.v x) = some p → (x.map fun v => (v, H)) = some p := fun {x} hx => by
    cases x with
    | none => cases hx
    | some u => exact hx
  unfold bltR at h
  split at h
  · exact key h
  · exact key h
  · simp only [builtinE]; exact key h
  · simp only [builtinE]; exact key h
  · exact h

theorem opR_ok {C : Ctx} {call : CallE} {o : Op} {t : TypeId} {e' : FE} {e : Env} {H : Hp} (hs : Sub e' e) {p : Value × Hp} (h : (opR C call o e' H).out H = some p) : opE C call o t e H = some p := by
  have vfin : ∀ {x y : Option Value}, (∀ v, x = some v → y = some v) → (Res.out H (.v x)) = some p → (match y with | some v => some (v, H) | none => none) = some p := fun {x y} hxy hx => by
    cases x with
    | none => cases hx
    | some v => rw [hxy v rfl]; exact hx
  have ufin : ∀ {x y : Option Hp}, (∀ v, x = some v → y = some v) → un x = some p → (match y with | some h => some (Value.tuple #[], h) | none => none) = some p := fun {x y} hxy hx => by
    cases x with
    | none => cases hx
    | some v => rw [hxy v rfl]; exact hx
  cases o
  case move x => exact vfin (fun v => oV_ok hs) h
  case assign x => exact vfin (fun v => oV_ok hs) h
  case pick c a b =>
    have he : opE C call (.pick c a b) t e H = match opV e c with
      | some (.bool true) => (match opV e a with | some v => some (v, H) | none => none)
      | some (.bool false) => (match opV e b with | some v => some (v, H) | none => none)
      | _ => none := rfl
    rw [he]
    simp only [opR] at h
    cases hc : oV e' c with
    | none => rw [hc] at h; cases h
    | some u =>
      rw [hc] at h
      rw [oV_ok hs hc]
      cases u with
      | bool b => cases b with
        | true => exact vfin (fun v => oV_ok hs) h
        | false => exact vfin (fun v => oV_ok hs) h
      | _ => cases h
  case alloc ty => exact h
  case box ty x =>
    obtain ⟨v, h1, h2⟩ := bind2 h
    show (opV e x).bind _ = _
    rw [oV_ok hs h1]; exact h2
  case build ty ps => exact vfin (fun v hv => by obtain ⟨u, h1, h2⟩ := bind2 hv; rw [parts_ok hs h1]; exact h2) h
  case buildSlice ty n ps =>
    obtain ⟨v, h1, h2⟩ := bind2 h
    show (partsE e ps.toList).bind _ = _
    rw [parts_ok hs h1]; exact h2
  case load ty a => exact vfin (fun v hv => by obtain ⟨u, h1, h2⟩ := bind2 hv; rw [oV_ok hs h1]; exact h2) h
  case store ty a x => exact ufin (fun v hv => by
    obtain ⟨u, h1, h2⟩ := bind2 hv
    obtain ⟨w, h3, h4⟩ := bind2 h2
    rw [oV_ok hs h1, Option.bind_some, oV_ok hs h3]; exact h4) h
  case nilCheck x => exact vfin (fun v hv => by obtain ⟨u, h1, h2⟩ := bind2 hv; rw [oV_ok hs h1]; exact h2) h
  case binOp op ty x y ty2 => exact vfin (fun v hv => by
    obtain ⟨u, h1, h2⟩ := bind2 hv
    obtain ⟨w, h3, h4⟩ := bind2 h2
    rw [oV_ok hs h1, Option.bind_some, oV_ok hs h3]; exact h4) h
  case unOp op ty x => exact vfin (fun v hv => by obtain ⟨u, h1, h2⟩ := bind2 hv; rw [oV_ok hs h1]; exact h2) h
  case convert s d x => exact vfin (fun v hv => by obtain ⟨u, h1, h2⟩ := bind2 hv; rw [oV_ok hs h1]; exact h2) h
  case makeFunc fn first cap => exact vfin (fun v hv => by
    obtain ⟨u, h1, h2⟩ := bind2 hv
    obtain ⟨w, h3, h4⟩ := bind2 h2
    rw [oVs_ok hs h1, Option.bind_some, oVs_ok hs h3]; exact h4) h
  case makeMap ty r =>
    obtain ⟨v, h1, h2⟩ := bind2 h
    show (opVo e r).bind _ = _
    rw [oVo_ok hs h1]; exact h2
  case makeSlice ty l c =>
    obtain ⟨v, h1, h2⟩ := bind2 h
    obtain ⟨w, h3, h4⟩ := bind2 h2
    show (opV e l).bind _ = _
    rw [oV_ok hs h1, Option.bind_some, oV_ok hs h3]; exact h4
  case slice ty x lo hi mx => exact vfin (fun v hv => by
    obtain ⟨u, h1, h2⟩ := bind2 hv
    obtain ⟨w, h3, h4⟩ := bind2 h2
    obtain ⟨w2, h5, h6⟩ := bind2 h4
    obtain ⟨w3, h7, h8⟩ := bind2 h6
    rw [oV_ok hs h1, Option.bind_some, oVo_ok hs h3, Option.bind_some, oVo_ok hs h5, Option.bind_some, oVo_ok hs h7]; exact h8) h
  case fieldAddr ty x f => exact vfin (fun v hv => by obtain ⟨u, h1, h2⟩ := bind2 hv; rw [oV_ok hs h1]; exact h2) h
  case field ty x f => exact vfin (fun v hv => by obtain ⟨u, h1, h2⟩ := bind2 hv; rw [oV_ok hs h1]; exact h2) h
  case indexAddr ty x y => exact vfin (fun v hv => by
    obtain ⟨u, h1, h2⟩ := bind2 hv
    obtain ⟨w, h3, h4⟩ := bind2 h2
    rw [oV_ok hs h1, Option.bind_some, oV_ok hs h3]; exact h4) h
  case index ty x y => exact vfin (fun v hv => by
    obtain ⟨u, h1, h2⟩ := bind2 hv
    obtain ⟨w, h3, h4⟩ := bind2 h2
    rw [oV_ok hs h1, Option.bind_some, oV_ok hs h3]; exact h4) h
  case lookup ty x y ok => exact vfin (fun v hv => by
    obtain ⟨u, h1, h2⟩ := bind2 hv
    obtain ⟨w, h3, h4⟩ := bind2 h2
    rw [oV_ok hs h1, Option.bind_some, oV_ok hs h3]; exact h4) h
  case mapUpdate ty m k x => exact ufin (fun v hv => by
    obtain ⟨u, h1, h2⟩ := bind2 hv
    obtain ⟨w, h3, h4⟩ := bind2 h2
    obtain ⟨w2, h5, h6⟩ := bind2 h4
    rw [oV_ok hs h1, Option.bind_some, oV_ok hs h3, Option.bind_some, oV_ok hs h5]; exact h6) h
  case insert ty m k x => exact ufin (fun v hv => by
    obtain ⟨u, h1, h2⟩ := bind2 hv
    obtain ⟨w, h3, h4⟩ := bind2 h2
    obtain ⟨w2, h5, h6⟩ := bind2 h4
    rw [oV_ok hs h1, Option.bind_some, oV_ok hs h3, Option.bind_some, oV_ok hs h5]; exact h6) h
  case mapEntry ty m k =>
    obtain ⟨v, h1, h2⟩ := bind2 h
    obtain ⟨w, h3, h4⟩ := bind2 h2
    show (opV e m).bind _ = _
    rw [oV_ok hs h1, Option.bind_some, oV_ok hs h3]; exact h4
  case entryStore ty m k x => exact ufin (fun v hv => by
    obtain ⟨u, h1, h2⟩ := bind2 hv
    obtain ⟨w, h3, h4⟩ := bind2 h2
    obtain ⟨w2, h5, h6⟩ := bind2 h4
    rw [oV_ok hs h1, Option.bind_some, oV_ok hs h3, Option.bind_some, oV_ok hs h5]; exact h6) h
  case range ty x =>
    obtain ⟨v, h1, h2⟩ := bind2 h
    show (opV e x).bind _ = _
    rw [oV_ok hs h1]; exact h2
  case next it b =>
    cases b with
    | true => cases h
    | false =>
      obtain ⟨v, h1, h2⟩ := bind2 h
      show (opV e it).bind _ = _
      rw [oV_ok hs h1]; exact h2
  case entry x => exact vfin (fun v hv => by obtain ⟨u, h1, h2⟩ := bind2 hv; rw [oV_ok hs h1]; exact h2) h
  case extract x k => exact vfin (fun v hv => by obtain ⟨u, h1, h2⟩ := bind2 hv; rw [oV_ok hs h1]; exact h2) h
  case call c =>
    obtain ⟨callee, args, ats⟩ := c
    rw [opE_call]
    simp only [opR] at h
    cases hv : oVs e' args.toList with
    | none => rw [hv] at h; cases h
    | some vs =>
      rw [hv] at h
      simp only at h ⊢
      rw [oVs_ok hs hv, Option.bind_some]
      cases callee with
      | builtin b => exact bltR_ok h
      | value f =>
        obtain ⟨fv, h1, h2⟩ := bind2 h
        simp only
        rw [oV_ok hs h1]; exact h2
      | invoke a b => cases h
  all_goals cases h

theorem Sub.set {e' : FE} {e : Env} (h : Sub e' e) {t : Nat} (ht : t < e.size) (v : Value) : Sub (e'.set t v) ⟨e.size, e.t.set t v⟩ := fun k u hk => by
  rw [Tr.get_set] at hk
  show k < e.size ∧ (e.t.set t v).get k = some u
  rw [Tr.get_set]
  by_cases hkt : k = t
  · rw [if_pos hkt] at hk; rw [if_pos hkt]; exact ⟨hkt ▸ ht, hk⟩
  · rw [if_neg hkt] at hk; rw [if_neg hkt]; exact h k u hk

theorem putK_ok {n : Nat} {d : Option Tmp} {v : Value} {e' : FE} {e : Env} (hs : Sub e' e) (hn : e.size = n) {k : FE → O} {r : Value × Hp} (h : putK n d v e' k = some r) :
    ∃ e1' e1, e.put d v = some e1 ∧ Sub e1' e1 ∧ e1.size = n ∧ k e1' = some r := by
  cases d with
  | none => exact ⟨e', e, rfl, hs, hn, h⟩
  | some t =>
    simp only [putK] at h
    obtain ⟨h1, h2⟩ := bif_some h
    have hlt := nblt_lt h1
    rw [← hn] at hlt
    exact ⟨_, _, by simp only [Env.put, Env.set]; rw [hn, h1, cond_true, ← hn], hs.set hlt v, hn, h2⟩

theorem wantV_ok {ops : Array Oper} {o : Oper} {j : Nat} {w : Bool} (hg : o.guard = some (j, w)) {t : Tmp} (ht : (ops[j]?).bind (·.dst) = some t) {e' : FE} {e : Env} (hs : Sub e' e) {c : Value} (hc : e'.get t = some c) : wantE ops o e = some (wantV c w) := by
  unfold wantE wantV
  rw [hg]
  simp only
  rw [ht]
  simp only
  obtain ⟨h1, h2⟩ := hs.get hc
  rw [h2]
  cases c <;> rfl

/-- **A STEP.** -/
theorem stepG_ok {C : Ctx} {n : Nat} {ops : Array Oper} {o : Oper} {e' : FE} {e : Env} {H : Hp} (hs : Sub e' e) (hn : e.size = n) {k : Bool → Value → Hp → FE → O} {r : Value × Hp} (h : stepG C (ev C) n ops o e' H k = some r) :
    ∃ d e1' e1 H1 v w, wantE ops o e = some w ∧ opStep C (evF C d) o e H w = some (e1, H1) ∧ Sub e1' e1 ∧ e1.size = n ∧ (w = true → opE C (evF C d) o.op o.type e H = some (v, H1)) ∧ k w v H1 e1' = some r := by
  -- the value, and where it is put
  have fin : ∀ {p : Value × Hp} {w : Bool}, wantE ops o e = some w → (w = true → opE C (ev C) o.op o.type e H = some p) → (w = false → p = (.tuple #[], H)) → (putK n o.dst p.1 e' fun e' => k w p.1 p.2 e') = some r →
      ∃ d e1' e1 H1 v w, wantE ops o e = some w ∧ opStep C (evF C d) o e H w = some (e1, H1) ∧ Sub e1' e1 ∧ e1.size = n ∧ (w = true → opE C (evF C d) o.op o.type e H = some (v, H1)) ∧ k w v H1 e1' = some r := fun {p w} hw ht hf hp => by
    obtain ⟨e1', e1, h1, h2, h3, h4⟩ := putK_ok hs hn hp
    cases w with
    | false =>
      have := hf rfl
      subst this
      exact ⟨0, e1', e1, H, _, false, hw, by simp only [opStep, putE]; rw [h1], h2, h3, (fun h => by cases h), h4⟩
    | true =>
      have ho := ht rfl
      -- some depth will do
      have hd : ∃ d, opE C (evF C d) o.op o.type e H = some p := by
        by_cases hcx : ∃ x, o.op = .call x
        · obtain ⟨x, hcx⟩ := hcx
          rw [hcx, opE_call] at ho
          rw [hcx]
          simp only [opE_call]
          obtain ⟨vs, g1, g2⟩ := bind2 ho
          obtain ⟨callee, args, ats⟩ := x
          simp only at g1 g2 ⊢
          rw [g1]
          simp only [Option.bind_some]
          cases callee with
          | builtin b => exact ⟨0, g2⟩
          | invoke a b => cases g2
          | value f =>
            obtain ⟨fv, g3, g4⟩ := bind2 g2
            obtain ⟨q, g5, g6⟩ := bind2 g4
            obtain ⟨d, g7⟩ := ev_iff.1 g6
            exact ⟨d, by simp only [g3, Option.bind_some, g5]; exact g7⟩
        · exact ⟨0, by rw [← opE_noCall (fun x hx => hcx ⟨x, hx⟩)]; rw [← opE_noCall (fun x hx => hcx ⟨x, hx⟩)] at ho; exact ho⟩
      obtain ⟨d, hd⟩ := hd
      exact ⟨d, e1', e1, p.2, p.1, true, hw, by simp only [opStep]; rw [hd, Option.bind_some]; simp only [putE]; rw [h1], h2, h3, fun _ => hd, h4⟩
  unfold stepG at h
  cases hg : o.guard with
  | none =>
    rw [hg] at h
    simp only at h
    have hw : wantE ops o e = some true := by unfold wantE; rw [hg]
    have hR := fun p => opR_ok (C := C) (call := ev C) (o := o.op) (t := o.type) (H := H) hs (p := p)
    cases hx : opR C (ev C) o.op e' H with
    | v x =>
      rw [hx] at h hR
      obtain ⟨v, h1, h2⟩ := bind2 h
      exact fin (p := (v, H)) hw (fun _ => hR _ (by rw [h1]; rfl)) (fun h => by cases h) h2
    | h x =>
      rw [hx] at h hR
      obtain ⟨p, h1, h2⟩ := bind2 h
      exact fin (p := p) hw (fun _ => hR _ h1) (fun h => by cases h) h2
  | some jw =>
    obtain ⟨j, w⟩ := jw
    rw [hg] at h
    simp only at h
    cases ht : (ops[j]?).bind (·.dst) with
    | none => rw [ht] at h; cases h
    | some t =>
      rw [ht] at h
      simp only at h
      obtain ⟨c, hc, h⟩ := bind2 h
      have hw := wantV_ok hg ht hs hc
      have hR := fun p => opR_ok (C := C) (call := ev C) (o := o.op) (t := o.type) (H := H) hs (p := p)
      cases hx : opR C (ev C) o.op e' H with
      | v x =>
        rw [hx] at h hR
        obtain ⟨v, h1, h2⟩ := bind2 h
        unfold gd at h1
        cases hwv : wantV c w with
        | true => rw [hwv, cond_true] at h1; rw [hwv] at h2; exact fin (p := (v, H)) (by rw [hw, hwv]) (fun _ => hR _ (by rw [h1]; rfl)) (fun h => by cases h) h2
        | false => rw [hwv, cond_false] at h1; cases h1; rw [hwv] at h2; exact fin (p := (.tuple #[], H)) (by rw [hw, hwv]) (fun h => by cases h) (fun _ => rfl) h2
      | h x =>
        rw [hx] at h hR
        obtain ⟨p, h1, h2⟩ := bind2 h
        unfold gh at h1
        cases hwv : wantV c w with
        | true => rw [hwv, cond_true] at h1; rw [hwv] at h2; exact fin (p := p) (by rw [hw, hwv]) (fun _ => hR _ h1) (fun h => by cases h) h2
        | false => rw [hwv, cond_false] at h1; cases h1; rw [hwv] at h2; exact fin (p := (.tuple #[], H)) (by rw [hw, hwv]) (fun h => by cases h) (fun _ => rfl) h2

theorem opStep_more {C : Ctx} {d d' : Nat} (h : d ≤ d') {o : Oper} {e : Env} {H : Hp} {w : Bool} {p : Env × Hp} (hs : opStep C (evF C d) o e H w = some p) : opStep C (evF C d') o e H w = some p := by
  cases w with
  | false => exact hs
  | true =>
    simp only [opStep] at hs ⊢
    obtain ⟨q, h1, h2⟩ := bind2 hs
    rw [opE_mono (evF_more C h) h1]; exact h2

theorem opsX_ok {C : Ctx} {n : Nat} {ops : Array Oper} : ∀ (l : List Oper) {e' : FE} {e : Env} {H : Hp}, Sub e' e → e.size = n → ∀ {k : FE → Hp → O} {r : Value × Hp}, opsX C (ev C) n ops l e' H k = some r →
    ∃ d e1' e1 H1, (∀ d', d ≤ d' → opsE C (evF C d') ops l e H = some (e1, H1)) ∧ Sub e1' e1 ∧ e1.size = n ∧ k e1' H1 = some r
  | [], e', e, H, hs, hn, k, r, h => ⟨0, e', e, H, fun _ _ => rfl, hs, hn, h⟩
  | o :: l, e', e, H, hs, hn, k, r, h => by
    obtain ⟨d1, e1', e1, H1, _, w, h0, h1, h2, h3, _, h4⟩ := stepG_ok hs hn h
    obtain ⟨d2, e2', e2, H2, g1, g2, g3, g4⟩ := opsX_ok l h2 h3 h4
    refine ⟨max d1 d2, e2', e2, H2, fun d' hd => ?_, g2, g3, g4⟩
    rw [opsE_step, h0, Option.bind_some, opStep_more (by omega) h1, Option.bind_some]
    exact g1 d' (by omega)

/-! ### Regions that draw their order -/
inductive SeenR : List SX → List Seen → Prop where
  | nil : SeenR [] []
  | yes {x : SX} {s : Seen} {l : List SX} {m : List Seen} : x.g = true → s.at_ = x.at_ → s.op = x.op → Sub x.env s.env → s.val = x.val → readerOp x.op.op = true → SeenR l m → SeenR (x :: l) (s :: m)
  | no {x : SX} {l : List SX} {m : List Seen} : x.g = false → SeenR l m → SeenR (x :: l) m
inductive WsR : List (Nat × Hp × Bool) → List (Nat × Hp) → Prop where
  | nil : WsR [] []
  | yes {i : Nat} {H : Hp} {l : List (Nat × Hp × Bool)} {m : List (Nat × Hp)} : WsR l m → WsR ((i, H, true) :: l) ((i, H) :: m)
  | no {i : Nat} {H : Hp} {l : List (Nat × Hp × Bool)} {m : List (Nat × Hp)} : WsR l m → WsR ((i, H, false) :: l) m

theorem ck_ok {g : Bool} {x : Option Value} {v : Value} {k : O} {r : Value × Hp} (h : ck g x v k = some r) : k = some r ∧ (g = true → same x v = true) := by
  unfold ck at h
  obtain ⟨h1, h2⟩ := bif_some h
  refine ⟨h2, fun hg => ?_⟩
  rw [hg] at h1
  simpa using h1

theorem res_read {C : Ctx} {call : CallE} {o : Op} {t : TypeId} {e' : FE} {e : Env} {H : Hp} (hs : Sub e' e) {v : Value} (h : (opR C noCall o e' H).val = some v) (hr : readerOp o = true) : ∃ H', opE C call o t e H = some (v, H') := by
  have hn : opE C call o t e H = opE C noCall o t e H ∨ ∃ c, o = .call c := by
    by_cases hc : ∃ c, o = .call c
    · exact .inr hc
    · exact .inl (opE_noCall fun c h => hc ⟨c, h⟩).symm
  have main : ∃ H', opE C noCall o t e H = some (v, H') := by
    cases hx : opR C noCall o e' H with
    | v x =>
      rw [hx] at h
      simp only [Res.val] at h
      subst h
      exact ⟨H, opR_ok hs (by rw [hx]; rfl)⟩
    | h x =>
      rw [hx] at h
      simp only [Res.val] at h
      rw [Option.map_eq_some_iff] at h
      obtain ⟨p, h1, h2⟩ := h
      subst h2
      exact ⟨p.2, opR_ok hs (by rw [hx, h1]; rfl)⟩
  rcases hn with hn | ⟨c, rfl⟩
  · rw [hn]; exact main
  · obtain ⟨callee, args, ats⟩ := c
    cases callee with
    | builtin b =>
      obtain ⟨H', h'⟩ := main
      exact ⟨H', by rw [opE_call] at h' ⊢; exact h'⟩
    | value f => cases hr
    | invoke a b => cases hr

theorem still_ok {C : Ctx} {call : CallE} {ms : List Nat} {i : Nat} {H : Hp} {k : O} {r : Value × Hp} : ∀ {l : List SX} {m : List Seen}, SeenR l m → stillK C ms i true H k l = some r → k = some r ∧ stillSame C call ms i H m = true
  | [], m, hs, h => by cases hs; exact ⟨h, rfl⟩
  | x :: l, m, hs, h => by
    simp only [stillK] at h
    cases hs with
    | yes g1 g2 g3 g4 g5 g6 g7 =>
      rename_i s m
      simp only [stillSame, Bool.and_eq_true, Bool.or_eq_true]
      cases ho : ordB ms i x.at_ with
      | true =>
        rw [ho] at h
        obtain ⟨k1, k2⟩ := still_ok (call := call) g7 h
        exact ⟨k1, .inl (by rw [g2]; exact ho), k2⟩
      | false =>
        rw [ho] at h
        obtain ⟨h1, h2⟩ := ck_ok h
        obtain ⟨k1, k2⟩ := still_ok (call := call) g7 h1
        refine ⟨k1, .inr ?_, k2⟩
        have h3 := h2 (by rw [g1]; rfl)
        cases hv : (opR C noCall x.op.op x.env H).val with
        | none => rw [hv] at h3; cases h3
        | some u =>
          rw [hv] at h3
          obtain ⟨H', h4⟩ := res_read (call := call) (t := x.op.type) g4 hv g6
          rw [g3, h4, g5]
          exact h3
    | no g1 g2 =>
      cases ho : ordB ms i x.at_ with
      | true => rw [ho] at h; exact still_ok g2 h
      | false => rw [ho] at h; exact still_ok g2 (ck_ok h).1
theorem still_k {C : Ctx} {ms : List Nat} {i : Nat} {g : Bool} {H : Hp} {k : O} {r : Value × Hp} : ∀ {l : List SX}, stillK C ms i g H k l = some r → k = some r
  | [], h => h
  | x :: l, h => by
    simp only [stillK] at h
    cases ho : ordB ms i x.at_ with
    | true => rw [ho] at h; exact still_k h
    | false => rw [ho] at h; exact still_k (ck_ok h).1
theorem was_ok {C : Ctx} {call : CallE} {ms : List Nat} {j : Nat} {o : Oper} {e' : FE} {e : Env} (hs : Sub e' e) (hr : readerOp o.op = true) {v : Value} {k : O} {r : Value × Hp} : ∀ {l : List (Nat × Hp × Bool)} {m : List (Nat × Hp)}, WsR l m → wasK C ms j o e' v true k l = some r → k = some r ∧ wasSame C call ms j o e v m = true
  | [], m, hw, h => by cases hw; exact ⟨h, rfl⟩
  | (i, H, g) :: l, m, hw, h => by
    simp only [wasK] at h
    cases hw with
    | yes g1 =>
      rename_i m
      simp only [wasSame, Bool.and_eq_true, Bool.or_eq_true]
      cases ho : ordB ms i j with
      | true =>
        rw [ho] at h
        obtain ⟨k1, k2⟩ := was_ok (call := call) hs hr g1 h
        exact ⟨k1, .inl rfl, k2⟩
      | false =>
        rw [ho] at h
        obtain ⟨h1, h2⟩ := ck_ok h
        obtain ⟨k1, k2⟩ := was_ok (call := call) hs hr g1 h1
        refine ⟨k1, .inr ?_, k2⟩
        have h3 := h2 rfl
        cases hv : (opR C noCall o.op e' H).val with
        | none => rw [hv] at h3; cases h3
        | some u =>
          rw [hv] at h3
          obtain ⟨H', h4⟩ := res_read (call := call) (t := o.type) hs hv hr
          rw [h4]
          exact h3
    | no g1 =>
      cases ho : ordB ms i j with
      | true => rw [ho] at h; exact was_ok hs hr g1 h
      | false => rw [ho] at h; exact was_ok hs hr g1 (ck_ok h).1
theorem was_k {C : Ctx} {ms : List Nat} {j : Nat} {o : Oper} {e' : FE} {v : Value} {g : Bool} {k : O} {r : Value × Hp} : ∀ {l : List (Nat × Hp × Bool)}, wasK C ms j o e' v g k l = some r → k = some r
  | [], h => h
  | (i, H, g) :: l, h => by
    simp only [wasK] at h
    cases ho : ordB ms i j with
    | true => rw [ho] at h; exact was_k h
    | false => rw [ho] at h; exact was_k (ck_ok h).1

theorem opE_more {C : Ctx} {d d' : Nat} (h : d ≤ d') {o : Op} {t : TypeId} {e : Env} {H : Hp} {p : Value × Hp} (hs : opE C (evF C d) o t e H = some p) : opE C (evF C d') o t e H = some p := opE_mono (evF_more C h) hs

theorem opsY_ok {C : Ctx} (hx : NoExt C) {n : Nat} {ops : Array Oper} {ms : List Nat} (hk : kindsOk C ms ops.toList ops.toList 0 = true) : ∀ (l : List Oper) (i : Nat), (∀ j, l[j]? = ops.toList[i + j]?) →
    ∀ {e' : FE} {s : DS} {seen : List SX} {ws : List (Nat × Hp × Bool)}, Sub e' s.env → s.env.size = n → SeenR seen s.seen → WsR ws s.ws → ∀ {k : FE → Hp → O} {r : Value × Hp}, opsY C (ev C) n ops ms l i e' s.hp seen ws k = some r →
    ∃ (d : Nat) (e1' : FE) (s1 : DS), (∀ d', d ≤ d' → runD C (evF C d') ops ms l i s = some s1) ∧ Sub e1' s1.env ∧ s1.env.size = n ∧ k e1' s1.hp = some r
  | [], i, _, e', s, seen, ws, hs, hn, _, _, k, r, h => ⟨0, e', s, fun _ _ => rfl, hs, hn, h⟩
  | o :: l, i, hl, e', s, seen, ws, hs, hn, hse, hws, k, r, h => by
    have hi : ops.toList[i]? = some o := by have := hl 0; simp at this; simp [← this]
    have hl' : ∀ j, l[j]? = ops.toList[i + 1 + j]? := fun j => by
      have := hl (j + 1)
      rw [show i + 1 + j = i + (j + 1) by omega]; simpa using this
    have hko := kindsOk_ok hk i o hi
    rw [Nat.zero_add] at hko
    simp only [opsY] at h
    obtain ⟨d1, e1', e1, H1, v, w, h0, h1, h2, h3, h4, h5⟩ := stepG_ok hs hn h
    -- what the checks say
    have main : ∃ seen' ws', (∀ d', d1 ≤ d' → ∃ s', stepW C (evF C d') ops ms i o s w = some s' ∧ s'.env = e1 ∧ s'.hp = H1 ∧ SeenR seen' s'.seen ∧ WsR ws' s'.ws) ∧ opsY C (ev C) n ops ms l (i + 1) e1' H1 seen' ws' k = some r := by
      cases w with
      | false =>
        have hend : ∀ seen' ws', SeenR seen' s.seen → WsR ws' s.ws → opsY C (ev C) n ops ms l (i + 1) e1' H1 seen' ws' k = some r → ∃ seen' ws', (∀ d', d1 ≤ d' → ∃ s', stepW C (evF C d') ops ms i o s false = some s' ∧ s'.env = e1 ∧ s'.hp = H1 ∧ SeenR seen' s'.seen ∧ WsR ws' s'.ws) ∧ opsY C (ev C) n ops ms l (i + 1) e1' H1 seen' ws' k = some r := fun seen' ws' g1 g2 g3 =>
          ⟨seen', ws', fun d' hd => by
            obtain ⟨s', k1, k2, k3, k4, _⟩ := draw_step hx (d := d') hko (s := s) (w := false) (opStep_more hd h1) (fun h => by cases h) (fun h => by cases h)
            obtain ⟨k5, k6⟩ := k4 rfl
            exact ⟨s', k1, k2, k3, by rw [k5]; exact g1, by rw [k6]; exact g2⟩, g3⟩
        unfold aftY at h5
        cases hW : isW C ms ops.toList i o with
        | true => rw [hW] at h5; exact hend _ _ hse (.no hws) (still_k h5)
        | false =>
          rw [hW] at h5
          simp only at h5
          cases hro : readerOp o.op with
          | true => rw [hro] at h5; exact hend _ _ (.no rfl hse) hws (was_k h5)
          | false => rw [hro] at h5; exact hend _ _ hse hws h5
      | true =>
        have ho := h4 rfl
        unfold aftY at h5
        cases hW : isW C ms ops.toList i o with
        | true =>
          rw [hW] at h5
          have hst := fun d' => still_ok (call := evF C d') hse h5
          refine ⟨_, _, fun d' hd => ?_, (hst d1).1⟩
          obtain ⟨s', k1, k2, k3, _, k4, _⟩ := draw_step hx (d := d') hko (s := s) (w := true) (opStep_more hd h1) (fun _ _ => (hst d').2) (fun _ h => by rw [hW] at h; cases h)
          obtain ⟨k5, k6⟩ := k4 rfl hW
          exact ⟨s', k1, k2, k3, by rw [k5]; exact hse, by rw [k6]; exact .yes hws⟩
        | false =>
          rw [hW] at h5
          simp only at h5
          cases hro : readerOp o.op with
          | true =>
            rw [hro] at h5
            have hwa := fun d' => was_ok (call := evF C d') hs hro hws h5
            refine ⟨_, _, fun d' hd => ?_, (hwa d1).1⟩
            have ho' := opE_more hd ho
            obtain ⟨s', k1, k2, k3, _, _, k4⟩ := draw_step hx (d := d') hko (s := s) (w := true) (opStep_more hd h1) (fun _ h => by rw [hW] at h; cases h) (fun _ _ _ u hu => by rw [ho'] at hu; cases hu; exact (hwa d').2)
            obtain ⟨k5, _, k6⟩ := k4 rfl hW
            exact ⟨s', k1, k2, k3, by rw [k6 hro v ho']; exact .yes rfl rfl rfl hs rfl hro hse, by rw [k5]; exact hws⟩
          | false =>
            rw [hro] at h5
            refine ⟨_, _, fun d' hd => ?_, h5⟩
            obtain ⟨s', k1, k2, k3, _, _, k4⟩ := draw_step hx (d := d') hko (s := s) (w := true) (opStep_more hd h1) (fun _ h => by rw [hW] at h; cases h) (fun _ _ h => by rw [hro] at h; cases h)
            obtain ⟨k5, k6, _⟩ := k4 rfl hW
            exact ⟨s', k1, k2, k3, by rw [k6 hro]; exact hse, by rw [k5]; exact hws⟩
    obtain ⟨seen', ws', m1, m2⟩ := main
    -- one state for all depths will do for the rest
    obtain ⟨s', n1, n2, n3, n4, n5⟩ := m1 d1 (Nat.le_refl _)
    subst n2 n3
    obtain ⟨d2, e2', s2, g1, g2, g3, g4⟩ := opsY_ok hx hk l (i + 1) hl' h2 h3 n4 n5 m2
    refine ⟨max d1 d2, e2', s2, fun d' hd => ?_, g2, g3, g4⟩
    rw [runD_step, h0, Option.bind_some, stepW_mono (evF_more C (show d1 ≤ d' by omega)) n1, Option.bind_some]
    exact g1 d' (by omega)

theorem kEx_ok {K : Nat → Hp → O} {id : Nat} {H : Hp} {r : Value × Hp} : ∀ {l : List Nat}, kEx id H (l.map fun i => (i, K i)) = some r → K id H = some r
  | [], h => by cases h
  | i :: l, h => by
    simp only [List.map_cons, kEx] at h
    cases hb : Nat.beq id i with
    | true => rw [hb, cond_true] at h; rw [Nat.eq_of_beq_eq_true hb]; exact h
    | false => rw [hb, cond_false] at h; exact kEx_ok h
theorem getsK_keep {e' : FE} {e : Env} (hs : Sub e' e) : ∀ {ts : List Tmp} {u : FE} {k : List Value → O} {r : Value × Hp}, getsK e' ts k = some r → ∃ xs, k xs = some r ∧ ∀ {u : FE} {ys : List Value}, keepT e.t ts u = mkE (ys ++ xs) ts ys.length u
  | [], _, k, r, h => ⟨[], h, rfl⟩
  | t :: ts, u, k, r, h => by
    simp only [getsK] at h
    obtain ⟨v, h1, h2⟩ := bind2 h
    obtain ⟨xs, h3, h4⟩ := getsK_keep hs (u := u) h2
    refine ⟨v :: xs, h3, fun {u ys} => ?_⟩
    simp only [keepT, (hs t v h1).2, mkE]
    have := h4 (u := u.set t v) (ys := ys ++ [v])
    rw [List.append_assoc, List.length_append] at this
    rw [show [v].length = 1 from rfl] at this
    rw [show [v] ++ xs = v :: xs from rfl] at this
    rw [this]
    have hg : gv (ys ++ v :: xs) ys.length = v := by simp [gv]
    rw [hg]

/-- **WHAT THE SECOND EVALUATOR SAYS, THE FIRST ONE SAYS.** -/
theorem evX_ok {C : Ctx} (hx : NoExt C) {n : Nat} (c : Code) : ∀ (lt : LT C n c), OrOk C n c (evX C (ev C) n c lt) := by
  induction c with
  | skip => exact fun lt e' e H K r hs hn h => ⟨0, .nx e H, .nx e' H, fun _ _ => rfl, ⟨hs, hn, rfl⟩, h⟩
  | region id ops draw =>
    intro lt e' e H K r hs hn h
    cases draw with
    | false =>
      obtain ⟨d, e1', e1, H1, h1, h2, h3, h4⟩ := opsX_ok ops.toList hs hn (show opsX C (ev C) n ops ops.toList e' H (fun e' H' => K (.nx e' H')) = some r from h)
      refine ⟨d, .nx e1 H1, .nx e1' H1, fun d' hd => ?_, ⟨h2, h3, rfl⟩, h4⟩
      show (match opsE C (evF C d') ops ops.toList e H with
          | some (e', H') => some (Rs.nx e' H')
          | none => none) = _
      rw [h1 d' hd]
    | true =>
      obtain ⟨hd, h⟩ := bif_some (show (bif drawOk C ops.toList then opsY C (ev C) n ops (masks ops.toList []) ops.toList 0 e' H [] [] (fun e' H' => K (.nx e' H')) else none) = some r from h)
      unfold drawOk at hd
      rw [Bool.and_eq_true] at hd
      obtain ⟨d, e1', s1, h1, h2, h3, h4⟩ := opsY_ok hx hd.2 ops.toList 0 (fun j => by rw [Nat.zero_add]) (s := ⟨e, H, [], [], .tuple #[]⟩) hs hn .nil .nil h
      refine ⟨d, .nx s1.env s1.hp, .nx e1' s1.hp, fun d' hd' => ?_, ⟨h2, h3, rfl⟩, h4⟩
      show (match opsD C (evF C d') ops e H with
          | some (e', H') => some (Rs.nx e' H')
          | none => none) = _
      unfold opsD
      rw [hd.1]
      simp only [h1 d' hd']
  | seq a b ha hb =>
    intro lt e' e H K r hs hn h
    have h : evX C (ev C) n a lt.l e' H (fun r => match r with
      | .nx e' H' => (match lt.r.o with
        | some F => F.F e' H' K
        | none => evX C (ev C) n b lt.r e' H' K)
      | .ex j e' H' => K (.ex j e' H')
      | .rt e' H' => K (.rt e' H')) = some r := h
    obtain ⟨d, r0, r0', h1, h2, h3⟩ := ha lt.l e' e H _ r hs hn h
    have hse : ∀ d', evC C (evF C d') (.seq a b) e H = Rs.then (evC C (evF C d') b) (evC C (evF C d') a e H) := fun _ => rfl
    cases r0' with
    | nx e1' H1' =>
      cases r0 with
      | nx e1 H1 =>
        obtain ⟨g1, g2, rfl⟩ := h2
        have hb' : ∃ d r0 r0', (∀ d', d ≤ d' → evC C (evF C d') b e1 H1' = some r0) ∧ SubR n r0' r0 ∧ K r0' = some r := by
          cases ho : lt.r.o with
          | none =>
            simp only [ho] at h3
            exact hb lt.r e1' e1 H1' K r g1 g2 h3
          | some F =>
            simp only [ho] at h3
            exact F.ok e1' e1 H1' K r g1 g2 h3
        obtain ⟨d2, r2, r2', k1, k2, k3⟩ := hb'
        refine ⟨max d d2, r2, r2', fun d' hd => ?_, k2, k3⟩
        rw [hse, h1 d' (by omega)]
        exact k1 d' (by omega)
      | ex => exact h2.elim
      | rt => exact h2.elim
    | ex j e1' H1' =>
      cases r0 with
      | ex i e1 H1 => exact ⟨d, _, _, fun d' hd => by rw [hse, h1 d' hd]; rfl, h2, h3⟩
      | nx => exact h2.elim
      | rt => exact h2.elim
    | rt e1' H1' =>
      cases r0 with
      | rt e1 H1 => exact ⟨d, _, _, fun d' hd => by rw [hse, h1 d' hd]; rfl, h2, h3⟩
      | nx => exact h2.elim
      | ex => exact h2.elim
  | cond x a b ha hb =>
    intro lt e' e H K r hs hn h
    have h : ((oV e' x).bind fun c => (asB c).bind fun t => bif t then evX C (ev C) n a lt.l e' H K else evX C (ev C) n b lt.r e' H K) = some r := h
    obtain ⟨c, h1, h⟩ := bind2 h
    obtain ⟨t, h2, h⟩ := bind2 h
    have hc : c = .bool t := by
      cases c <;> simp [asB] at h2
      rw [h2]
    subst hc
    have hse : ∀ d', evC C (evF C d') (.cond x a b) e H = match opV e x with
      | some (.bool true) => evC C (evF C d') a e H
      | some (.bool false) => evC C (evF C d') b e H
      | _ => none := fun _ => rfl
    cases t with
    | true =>
      obtain ⟨d, r0, r0', k1, k2, k3⟩ := ha lt.l e' e H K r hs hn h
      exact ⟨d, r0, r0', fun d' hd => by rw [hse, oV_ok hs h1]; exact k1 d' hd, k2, k3⟩
    | false =>
      obtain ⟨d, r0, r0', k1, k2, k3⟩ := hb lt.r e' e H K r hs hn h
      exact ⟨d, r0, r0', fun d' hd => by rw [hse, oV_ok hs h1]; exact k1 d' hd, k2, k3⟩
  | block id b hb =>
    intro lt e' e H K r hs hn h
    have h : evX C (ev C) n b lt.l e' H (fun r => match r with
      | .nx e' H' => K (.nx e' H')
      | .ex j e' H' => bif Nat.beq j id then K (.nx e' H') else K (.ex j e' H')
      | .rt e' H' => K (.rt e' H')) = some r := h
    obtain ⟨d, r0, r0', h1, h2, h3⟩ := hb lt.l e' e H _ r hs hn h
    have hse : ∀ d', evC C (evF C d') (.block id b) e H = Rs.block id (evC C (evF C d') b e H) := fun _ => rfl
    cases r0' with
    | nx e1' H1' =>
      cases r0 with
      | nx e1 H1 => exact ⟨d, _, _, fun d' hd => by rw [hse, h1 d' hd]; rfl, h2, h3⟩
      | ex => exact h2.elim
      | rt => exact h2.elim
    | ex j e1' H1' =>
      cases r0 with
      | ex i e1 H1 =>
        obtain ⟨rfl, g1, g2, g3⟩ := h2
        simp only at h3
        cases hj : Nat.beq j id with
        | true =>
          rw [hj] at h3
          exact ⟨d, .nx e1 H1, .nx e1' H1', fun d' hd => by rw [hse, h1 d' hd]; simp only [Rs.block]; rw [hj, cond_true], ⟨g1, g2, g3⟩, h3⟩
        | false =>
          rw [hj] at h3
          exact ⟨d, .ex j e1 H1, .ex j e1' H1', fun d' hd => by rw [hse, h1 d' hd]; simp only [Rs.block]; rw [hj, cond_false], ⟨rfl, g1, g2, g3⟩, h3⟩
      | nx => exact h2.elim
      | rt => exact h2.elim
    | rt e1' H1' =>
      cases r0 with
      | rt e1 H1 => exact ⟨d, _, _, fun d' hd => by rw [hse, h1 d' hd]; rfl, h2, h3⟩
      | nx => exact h2.elim
      | ex => exact h2.elim
  | loop b hb =>
    intro lt e' e H K r hs hn h
    have h : (match lt.o with
      | some F => F.F e' H K
      | none => none) = some r := h
    cases ho : lt.o with
    | none => rw [ho] at h; cases h
    | some F => rw [ho] at h; exact F.ok e' e H K r hs hn h
  | rangeFunc f ps as b _ _ =>
    intro lt e' e H K r hs hn h
    have h : ((oV e' f).bind fun fv => getsK e' (takes n ps.toList as b) fun xs =>
      rfX C (ev C) fv (fun st pend => .loop st pend ⟨n, mkE xs (takes n ps.toList as b) 0 .nl⟩ ps.toList as b) H (fun H' => K (.nx e' H')) ((exs b).map fun i => (i, fun H' => K (.ex i e' H'))) (fun H' => bif hasR b then K (.rt e' H') else none)) = some r := h
    obtain ⟨fv, h1, h⟩ := bind2 h
    obtain ⟨xs, h, hxs⟩ := getsK_keep (u := .nl) hs h
    have hxs : keepT e.t (takes n ps.toList as b) .nl = mkE xs (takes n ps.toList as b) 0 .nl := hxs (ys := [])
    rw [← hxs] at h
    unfold rfX at h
    obtain ⟨p, h2, h⟩ := bind2 h
    have hkeep : (⟨n, keepT e.t (takes n ps.toList as b) .nl⟩ : Env) = e.keep (takes e.size ps.toList as b) := by rw [← hn]; rfl
    rw [hkeep] at h
    have hse : ∀ d', evC C (evF C d') (.rangeFunc f ps as b) e H = ((opV e f).bind fun fv => (calleeE fv [.func (.yield H.next) #[] #[]]).bind fun p =>
      match p.1 with
      | .func g => match C.fn g, evF C d' (.func g) p.2 (H.new (.loop .ready none (e.keep (takes e.size ps.toList as b)) ps.toList as b)) with
        | some _, some (_, H') => afterLoop H.next e H'
        | _, _ => none
      | _ => none) := fun _ => rfl
    split at h
    · rename_i g hg
      split at h
      · rename_i a ha
        obtain ⟨q, h3, h⟩ := bind2 h
        obtain ⟨d, h3⟩ := ev_iff.1 h3
        have key : ∀ r0, afterLoop H.next e q.2 = some r0 → ∀ d', d ≤ d' → evC C (evF C d') (.rangeFunc f ps as b) e H = some r0 := fun r0 hr0 d' hd => by
          rw [hse, oV_ok hs h1, Option.bind_some, h2, Option.bind_some]
          simp only [hg, ha, evF_more C hd _ _ _ _ h3]
          exact hr0
        unfold aft at h
        unfold afterLoop at key
        split at h
        · rename_i st pend env1 ps1 as1 b1 hl
          rw [hl] at key
          split at h
          · cases h
          · rename_i hnb
            obtain ⟨H2, h4, h⟩ := bind2 h
            have key2 : ∀ r0, (match pend with
                | none => some (Rs.nx e H2)
                | some (.exit id) => some (.ex id e H2)
                | some .ret => some (.rt e H2)
                | _ => none) = some r0 → ∀ d', d ≤ d' → evC C (evF C d') (.rangeFunc f ps as b) e H = some r0 := fun r0 hr0 => key r0 (by
              simp only [h4, Option.bind_some]
              cases st <;> first | exact hr0 | exact absurd rfl hnb)
            split at h
            · exact ⟨d, .nx e H2, .nx e' H2, key2 _ rfl, ⟨hs, hn, rfl⟩, h⟩
            · exact ⟨d, .ex _ e H2, .ex _ e' H2, key2 _ rfl, ⟨rfl, hs, hn, rfl⟩, kEx_ok (K := fun i H' => K (.ex i e' H')) h⟩
            · exact ⟨d, .rt e H2, .rt e' H2, key2 _ rfl, ⟨hs, hn, rfl⟩, (bif_some h).2⟩
            · cases h
        · cases h
      · cases h
    · cases h
  | exit id => exact fun lt e' e H K r hs hn h => ⟨0, .ex id e H, .ex id e' H, fun _ _ => rfl, ⟨rfl, hs, hn, rfl⟩, h⟩
  | scope x _ => exact fun lt e' e H K r hs hn h => by cases h
  | label l => exact fun lt e' e H K r hs hn h => ⟨0, .nx e H, .nx e' H, fun _ _ => rfl, ⟨hs, hn, rfl⟩, h⟩
  | goto l => exact fun lt e' e H K r hs hn h => by cases h
  | ret => exact fun lt e' e H K r hs hn h => ⟨0, .rt e H, .rt e' H, fun _ _ => rfl, ⟨hs, hn, rfl⟩, h⟩
  | refuse s => exact fun lt e' e H K r hs hn h => by cases h
end Go.Ahe.X
