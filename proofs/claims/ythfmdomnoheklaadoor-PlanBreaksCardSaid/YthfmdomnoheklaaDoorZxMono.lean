/-
  X, 1: more depth, the same answer; calls at any depth.
-/
import Derived.Test.YthfmdomnoheklaaDoorZaheTree
namespace Go.Ahe

def CallLe (c c' : CallE) : Prop := ∀ fn args H r, c fn args H = some r → c' fn args H = some r

theorem opE_mono {C : Ctx} {c c' : CallE} (h : CallLe c c') {o : Op} {t : TypeId} {e : Env} {H : Hp} {r : Value × Hp} (hr : opE C c o t e H = some r) : opE C c' o t e H = some r := by
  by_cases hc : ∃ x, o = .call x
  · obtain ⟨x, rfl⟩ := hc
    obtain ⟨callee, args, ats⟩ := x
    simp only [opE] at hr ⊢
    rw [Option.bind_eq_some_iff] at hr ⊢
    obtain ⟨vs, h1, h2⟩ := hr
    refine ⟨vs, h1, ?_⟩
    cases callee with
    | builtin b => exact h2
    | value f =>
      simp only at h2 ⊢
      rw [Option.bind_eq_some_iff] at h2 ⊢
      obtain ⟨fv, h3, h4⟩ := h2
      rw [Option.bind_eq_some_iff] at h4
      obtain ⟨p, h5, h6⟩ := h4
      refine ⟨fv, h3, ?_⟩
      rw [Option.bind_eq_some_iff]
      exact ⟨p, h5, h _ _ _ _ h6⟩
    | invoke a b => cases h2
  · rw [← opE_noCall (call := c) (fun x hx => hc ⟨x, hx⟩)] at hr
    rw [← opE_noCall (call := c') (fun x hx => hc ⟨x, hx⟩)]
    exact hr

theorem opsE_mono {C : Ctx} {c c' : CallE} (h : CallLe c c') {ops : Array Oper} : ∀ (l : List Oper) {e : Env} {H : Hp} {r : Env × Hp}, opsE C c ops l e H = some r → opsE C c' ops l e H = some r
  | [], e, H, r, hr => hr
  | o :: l, e, H, r, hr => by
    rw [opsE_step] at hr ⊢
    rw [Option.bind_eq_some_iff] at hr ⊢
    obtain ⟨p, h1, h2⟩ := hr
    refine ⟨p, ?_, opsE_mono h l h2⟩
    cases hw : wantE ops o e with
    | false => rw [hw] at h1; exact h1
    | true =>
      rw [hw] at h1
      simp only [opStep] at h1 ⊢
      rw [Option.bind_eq_some_iff] at h1 ⊢
      obtain ⟨q, h3, h4⟩ := h1
      exact ⟨q, opE_mono h h3, h4⟩

theorem stillSame_mono {C : Ctx} {c c' : CallE} (h : CallLe c c') {ms : List Nat} {i : Nat} {H : Hp} : ∀ (l : List Seen), stillSame C c ms i H l = true → stillSame C c' ms i H l = true
  | [], _ => rfl
  | s :: l, hs => by
    simp only [stillSame, Bool.and_eq_true, Bool.or_eq_true] at hs ⊢
    refine ⟨hs.1.imp id fun h1 => ?_, stillSame_mono h l hs.2⟩
    cases ho : opE C c s.op.op s.op.type s.env H with
    | none => rw [ho] at h1; cases h1
    | some r => rw [opE_mono h ho]; rw [ho] at h1; exact h1

theorem wasSame_mono {C : Ctx} {c c' : CallE} (h : CallLe c c') {ms : List Nat} {j : Nat} {o : Oper} {e : Env} {v : Value} : ∀ (l : List (Nat × Hp)), wasSame C c ms j o e v l = true → wasSame C c' ms j o e v l = true
  | [], _ => rfl
  | (i, H) :: l, hs => by
    simp only [wasSame, Bool.and_eq_true, Bool.or_eq_true] at hs ⊢
    refine ⟨hs.1.imp id fun h1 => ?_, wasSame_mono h l hs.2⟩
    cases ho : opE C c o.op o.type e H with
    | none => rw [ho] at h1; cases h1
    | some r => rw [opE_mono h ho]; rw [ho] at h1; exact h1

theorem stepW_mono {C : Ctx} {c c' : CallE} (h : CallLe c c') {ops : Array Oper} {ms : List Nat} {i : Nat} {o : Oper} {s s' : DS} {w : Bool} (hs : stepW C c ops ms i o s w = some s') : stepW C c' ops ms i o s w = some s' := by
  cases w with
  | false => exact hs
  | true =>
    simp only [stepW] at hs ⊢
    cases hw : isW C ms ops.toList i o with
    | true =>
      rw [hw] at hs
      simp only at hs ⊢
      cases ho : opE C c o.op o.type s.env s.hp with
      | none => rw [ho] at hs; cases hs
      | some r =>
        rw [ho] at hs; rw [opE_mono h ho]
        simp only at hs ⊢
        cases h1 : stillSame C c ms i r.2 s.seen with
        | false => rw [h1] at hs; simp at hs
        | true => rw [h1] at hs; rw [stillSame_mono h _ h1]; exact hs
    | false =>
      rw [hw] at hs
      simp only at hs ⊢
      cases ho : opE C c o.op o.type s.env s.hp.raised with
      | none => rw [ho] at hs; cases hs
      | some r =>
        rw [ho] at hs; rw [opE_mono h ho]
        simp only at hs ⊢
        cases hro : readerOp o.op with
        | false => rw [hro] at hs; exact hs
        | true =>
          rw [hro] at hs
          simp only at hs ⊢
          cases h1 : wasSame C c ms i o s.env r.1 s.ws with
          | false => rw [h1] at hs; simp at hs
          | true => rw [h1] at hs; rw [wasSame_mono h _ h1]; exact hs

theorem runD_step {C : Ctx} {call : CallE} {ops : Array Oper} {ms : List Nat} {o : Oper} {r : List Oper} {i : Nat} {s : DS} : runD C call ops ms (o :: r) i s = (stepW C call ops ms i o s (wantE ops o s.env)).bind fun s' => runD C call ops ms r (i + 1) s' := by
  simp only [runD, stepW_eq]
  cases stepW C call ops ms i o s (wantE ops o s.env) <;> rfl

theorem runD_mono {C : Ctx} {c c' : CallE} (h : CallLe c c') {ops : Array Oper} {ms : List Nat} : ∀ (l : List Oper) {i : Nat} {s s' : DS}, runD C c ops ms l i s = some s' → runD C c' ops ms l i s = some s'
  | [], _, _, _, hs => hs
  | o :: l, i, s, s', hs => by
    rw [runD_step] at hs ⊢
    rw [Option.bind_eq_some_iff] at hs ⊢
    obtain ⟨p, h1, h2⟩ := hs
    exact ⟨p, stepW_mono h h1, runD_mono h l h2⟩

theorem opsD_mono {C : Ctx} {c c' : CallE} (h : CallLe c c') {ops : Array Oper} {e : Env} {H : Hp} {r : Env × Hp} (hr : opsD C c ops e H = some r) : opsD C c' ops e H = some r := by
  unfold opsD at hr ⊢
  cases hk : regOk ops.toList (masks ops.toList []) ops.toList 0 with
  | false => rw [hk] at hr; cases hr
  | true =>
    rw [hk] at hr
    simp only at hr ⊢
    split at hr
    · rename_i s hs
      rw [runD_mono h _ hs]
      exact hr
    · cases hr

theorem loopE_mono {f g : Env → Hp → Option Rs} (h : ∀ e H r, f e H = some r → g e H = some r) : ∀ (n : Nat) {e : Env} {H : Hp} {r : Rs}, loopE f n e H = some r → loopE g n e H = some r
  | 0, _, _, _, hr => by cases hr
  | n + 1, e, H, r, hr => by
    simp only [loopE] at hr ⊢
    cases hf : f e H with
    | none => rw [hf] at hr; cases hr
    | some q =>
      rw [hf] at hr; rw [h _ _ _ hf]
      cases q with
      | nx e1 H1 => exact loopE_mono h n hr
      | ex id e1 H1 => exact hr
      | rt e1 H1 => exact hr

theorem evC_mono {C : Ctx} {c c' : CallE} (h : CallLe c c') (x : Code) : ∀ {e : Env} {H : Hp} {r : Rs}, evC C c x e H = some r → evC C c' x e H = some r := by
  induction x with
  | skip => exact fun hr => hr
  | region id ops draw =>
    intro e H r hr
    cases draw with
    | false =>
      have hr : (match opsE C c ops ops.toList e H with
          | some (e', H') => some (Rs.nx e' H')
          | none => none) = some r := hr
      show (match opsE C c' ops ops.toList e H with
          | some (e', H') => some (Rs.nx e' H')
          | none => none) = some r
      cases ho : opsE C c ops ops.toList e H with
      | none => rw [ho] at hr; cases hr
      | some q => rw [ho] at hr; rw [opsE_mono h _ ho]; exact hr
    | true =>
      have hr : (match opsD C c ops e H with
          | some (e', H') => some (Rs.nx e' H')
          | none => none) = some r := hr
      show (match opsD C c' ops e H with
          | some (e', H') => some (Rs.nx e' H')
          | none => none) = some r
      cases ho : opsD C c ops e H with
      | none => rw [ho] at hr; cases hr
      | some q => rw [ho] at hr; rw [opsD_mono h ho]; exact hr
  | seq a b ha hb =>
    intro e H r hr
    have hr : Rs.then (evC C c b) (evC C c a e H) = some r := hr
    show Rs.then (evC C c' b) (evC C c' a e H) = some r
    cases ho : evC C c a e H with
    | none => rw [ho] at hr; cases hr
    | some q =>
      rw [ho] at hr; rw [ha ho]
      cases q with
      | nx e1 H1 => exact hb hr
      | ex id e1 H1 => exact hr
      | rt e1 H1 => exact hr
  | cond t a b ha hb =>
    intro e H r hr
    have hr : (match opV e t with
      | some (.bool true) => evC C c a e H
      | some (.bool false) => evC C c b e H
      | _ => none) = some r := hr
    show (match opV e t with
      | some (.bool true) => evC C c' a e H
      | some (.bool false) => evC C c' b e H
      | _ => none) = some r
    split at hr
    · exact ha hr
    · exact hb hr
    · cases hr
  | block id b hb =>
    intro e H r hr
    have hr : Rs.block id (evC C c b e H) = some r := hr
    show Rs.block id (evC C c' b e H) = some r
    cases ho : evC C c b e H with
    | none => rw [ho] at hr; cases hr
    | some q => rw [ho] at hr; rw [hb ho]; exact hr
  | loop b hb =>
    intro e H r hr
    exact loopE_mono (f := fun e H => evC C c b e H) (g := fun e H => evC C c' b e H) (fun _ _ _ => hb) rounds hr
  | rangeFunc f ps as b _ _ =>
    intro e H r hr
    have hr : ((opV e f).bind fun fv => (calleeE fv [.func (.yield H.next) #[] #[]]).bind fun p =>
        match p.1 with
        | .func g => match C.fn g, c (.func g) p.2 (H.new (.loop .ready none e ps.toList as b)) with
          | some _, some (_, H') => afterLoop H.next e H'
          | _, _ => none
        | _ => none) = some r := hr
    show ((opV e f).bind fun fv => (calleeE fv [.func (.yield H.next) #[] #[]]).bind fun p =>
        match p.1 with
        | .func g => match C.fn g, c' (.func g) p.2 (H.new (.loop .ready none e ps.toList as b)) with
          | some _, some (_, H') => afterLoop H.next e H'
          | _, _ => none
        | _ => none) = some r
    rw [Option.bind_eq_some_iff] at hr ⊢
    obtain ⟨fv, h1, hr⟩ := hr
    rw [Option.bind_eq_some_iff] at hr
    obtain ⟨p, h2, hr⟩ := hr
    refine ⟨fv, h1, ?_⟩
    rw [Option.bind_eq_some_iff]
    refine ⟨p, h2, ?_⟩
    split at hr
    · split at hr
      · rename_i h3 h4
        simp only [h3, h _ _ _ _ h4]
        exact hr
      · cases hr
    · cases hr
  | exit id => exact fun hr => hr
  | scope x _ => exact fun hr => by cases hr
  | label l => exact fun hr => hr
  | goto l => exact fun hr => by cases hr
  | ret => exact fun hr => hr
  | refuse s => exact fun hr => by cases hr

theorem bodyE_mono {C : Ctx} {c c' : CallE} (h : CallLe c c') {a : AF} {args : List Value} {H : Hp} {r : Value × Hp} (hr : bodyE C c a args H = some r) : bodyE C c' a args H = some r := by
  unfold bodyE at hr ⊢
  cases hle : Nat.ble args.length a.ntmps with
  | false => rw [hle] at hr; cases hr
  | true =>
    rw [hle, cond_true] at hr; rw [cond_true]
    cases ho : evC C c a.code (Env.ofArgs a.ntmps args) H with
    | none => rw [ho] at hr; cases hr
    | some q => rw [ho] at hr; rw [evC_mono h _ ho]; exact hr

theorem roundE_eq {C : Ctx} {call : CallE} {l : Nat} {args : List Value} {H : Hp} : roundE C call l args H = match H.get l with
    | some (.loop _ _ env ps a b) => bif Nat.beq args.length ps.length then (zipSet (ps.zip args) env).bind fun e0 => (evC C call a e0 H).bind fun r => (beginE l r).bind fun p => (evC C call b p.1 p.2).bind fun r => leaveR l r else none
    | _ => none := by
  unfold roundE
  cases H.get l with
  | none => rfl
  | some o =>
    cases o with
    | loop st pend env ps a b =>
      simp only
      congr 1
      congr 1
      funext e0
      cases evC C call a e0 H with
      | none => rfl
      | some r =>
        cases r with
        | nx e1 H1 =>
          simp only [Option.bind_some, beginE]
          split
          · rename_i pend1 env1 ps1 a1 b1 hg
            simp only [hg]
            cases H1.upd l (.loop .busy pend1 env1 ps1 a1 b1) with
            | none => rfl
            | some H2 =>
              simp only [Option.bind_some, Option.map_some]
              cases evC C call b e1 H2 with
              | none => rfl
              | some r => cases r <;> rfl
          · rename_i hn
            cases hg : H1.get l with
            | none => rfl
            | some o =>
              cases o with
              | loop st1 pend1 env1 ps1 a1 b1 =>
                cases st1 with
                | ready => exact absurd hg (hn _ _ _ _ _)
                | _ => rfl
              | _ => rfl
        | ex id e1 H1 => rfl
        | rt e1 H1 => rfl
    | _ => rfl

theorem roundE_mono {C : Ctx} {c c' : CallE} (h : CallLe c c') {l : Nat} {args : List Value} {H : Hp} {r : Value × Hp} (hr : roundE C c l args H = some r) : roundE C c' l args H = some r := by
  rw [roundE_eq] at hr ⊢
  split at hr
  · obtain ⟨hb, hr⟩ := bif_some hr
    rw [hb, cond_true]
    rw [Option.bind_eq_some_iff] at hr ⊢
    obtain ⟨e0, h1, hr⟩ := hr
    rw [Option.bind_eq_some_iff] at hr
    obtain ⟨q, h2, hr⟩ := hr
    rw [Option.bind_eq_some_iff] at hr
    obtain ⟨p, h3, hr⟩ := hr
    rw [Option.bind_eq_some_iff] at hr
    obtain ⟨q2, h4, hr⟩ := hr
    refine ⟨e0, h1, ?_⟩
    rw [evC_mono h _ h2, Option.bind_some, h3, Option.bind_some, evC_mono h _ h4]
    exact hr
  · cases hr

theorem evF_le (C : Ctx) : ∀ d, CallLe (evF C d) (evF C (d + 1))
  | 0 => fun _ _ _ _ hr => by cases hr
  | d + 1 => fun fn args H r hr => by
    have ih := evF_le C d
    cases fn with
    | func f =>
      simp only [evF] at hr
      have goal : evF C (d + 1 + 1) (.func f) args H = match C.ext f args H with
        | some r => some r
        | none => match C.fn f with
          | none => none
          | some a => match a.pure with
            | false => bodyE C (evF C (d + 1)) a args H
            | true => match bodyE C (evF C (d + 1)) a args (H.fresh args) with
              | some (v, _) => bif plainV v then some (v, H) else none
              | none => none := rfl
      rw [goal]
      cases he : C.ext f args H with
      | some q => rw [he] at hr; exact hr
      | none =>
        rw [he] at hr
        simp only at hr ⊢
        cases ha : C.fn f with
        | none => rw [ha] at hr; cases hr
        | some a =>
          rw [ha] at hr
          simp only at hr ⊢
          cases hp : a.pure with
          | false => rw [hp] at hr; exact bodyE_mono ih hr
          | true =>
            rw [hp] at hr
            simp only at hr ⊢
            cases hb : bodyE C (evF C d) a args (H.fresh args) with
            | none => rw [hb] at hr; cases hr
            | some q => rw [hb] at hr; rw [bodyE_mono ih hb]; exact hr
    | yield l => exact roundE_mono ih (show roundE C (evF C d) l args H = some r from hr)
    | _ => cases hr

theorem evF_more (C : Ctx) {d d' : Nat} (h : d ≤ d') : CallLe (evF C d) (evF C d') := by
  induction h with
  | refl => exact fun _ _ _ _ hr => hr
  | step _ ih => exact fun fn args H r hr => evF_le C _ _ _ _ _ (ih _ _ _ _ hr)

open Classical in
/-- Calls, to any depth. -/
noncomputable def ev (C : Ctx) : CallE := fun fn args H => if h : ∃ d r, evF C d fn args H = some r then some (Classical.choose (Classical.choose_spec h)) else none

theorem ev_iff {C : Ctx} {fn : Fn} {args : List Value} {H : Hp} {r : Value × Hp} : ev C fn args H = some r ↔ ∃ d, evF C d fn args H = some r := by
  unfold ev
  constructor
  · intro h
    split at h
    · rename_i hx
      cases h
      exact ⟨_, Classical.choose_spec (Classical.choose_spec hx)⟩
    · cases h
  · rintro ⟨d, h⟩
    have hx : ∃ d r, evF C d fn args H = some r := ⟨d, r, h⟩
    rw [dif_pos hx]
    have h2 := Classical.choose_spec (Classical.choose_spec hx)
    have h3 := evF_more C (Nat.le_max_left d (Classical.choose hx)) _ _ _ _ h
    have h4 := evF_more C (Nat.le_max_right d (Classical.choose hx)) _ _ _ _ h2
    rw [h3] at h4
    exact h4.symm

theorem evF_ev (C : Ctx) (d : Nat) : CallLe (evF C d) (ev C) := fun _ _ _ _ h => ev_iff.2 ⟨d, h⟩
end Go.Ahe
