/-
  X, 3: a region that draws its order, and whose order does not matter by its text, does what its text says from the first line to the last.
-/
import Derived.Test.YthfmdomnoheklaaDoorZxEv
namespace Go.Ahe.X
open Go.Ahe

/-- No calls are given from outside. -/
def NoExt (C : Ctx) : Prop := ∀ f args H, C.ext f args H = none

theorem pure_call {C : Ctx} (hx : NoExt C) {d : Nat} {f : FuncId} {a : AF} (ha : C.fn f = some a) (hp : a.pure = true) {args : List Value} {H H' : Hp} {v : Value} (h : evF C d (.func f) args H = some (v, H')) :
    H' = H ∧ evF C d (.func f) args H.raised = some (v, H.raised) := by
  cases d with
  | zero => cases h
  | succ d =>
    simp only [evF, hx f, ha, hp] at h ⊢
    have hf : H.raised.fresh args = H.fresh args := by
      unfold Hp.fresh
      cases args.all plainV <;> rfl
    rw [hf]
    cases hb : bodyE C (evF C d) a args (H.fresh args) with
    | none => rw [hb] at h; cases h
    | some q =>
      rw [hb] at h
      simp only at h ⊢
      obtain ⟨h1, h2⟩ := bif_some h
      cases h2
      rw [h1]
      exact ⟨rfl, rfl⟩

theorem opE_call {C : Ctx} {call : CallE} {c : Call} {t : TypeId} {e : Env} {H : Hp} : opE C call (.call c) t e H = (opVs e c.args.toList).bind fun args => match c.callee with
    | .builtin b => builtinE C b c.argTypes.toList args H
    | .value f => (opV e f).bind fun fv => (calleeE fv args).bind fun p => call p.1 p.2 H
    | .invoke _ _ => none := rfl

/-- What is done with the floor raised is done without. -/
theorem raise_pure {C : Ctx} {call : CallE} {o : Op} {t : TypeId} {e : Env} {H H' : Hp} {v : Value} (ho : pureOp o = true ∨ readerOp o = true) (h : opE C call o t e H = some (v, H')) :
    H' = H ∧ opE C call o t e H.raised = some (v, H.raised) := by
  have fin : ∀ {x : Option Value}, (match x with | some v => some (v, H) | none => none) = some (v, H') → H' = H ∧ (match x with | some v => some (v, H.raised) | none => none) = some (v, H.raised) := fun {x} hx => by
    cases x with
    | none => cases hx
    | some u => cases hx; exact ⟨rfl, rfl⟩
  cases o
  case call c =>
    obtain ⟨callee, args, ats⟩ := c
    rw [opE_call] at h ⊢
    simp only at h ⊢
    cases hv : opVs e args.toList with
    | none => rw [hv] at h; cases h
    | some vs =>
      rw [hv] at h
      simp only [Option.bind_some] at h ⊢
      cases callee with
      | invoke a b => cases h
      | value f => rcases ho with ho | ho <;> cases ho
      | builtin b =>
        simp only at h ⊢
        have key : ∀ {x : Option Value}, (x.map fun v => (v, H)) = some (v, H') → H' = H ∧ (x.map fun v => (v, H.raised)) = some (v, H.raised) := fun {x} hx => by
          cases x with
          | none => cases hx
          | some u => cases hx; exact ⟨rfl, rfl⟩
        cases b <;> first
          | (rcases ho with ho | ho <;> cases ho; done)
          | (cases hl : ats.toList with
             | nil => first | exact key (by rw [hl] at h; exact h) | (rw [hl] at h; cases h)
             | cons t1 ts => cases ts with
               | nil => cases vs with
                 | nil => first | exact key (by rw [hl] at h; exact h) | (rw [hl] at h; cases h)
                 | cons v1 vs => cases vs with
                   | nil => exact key (by rw [hl] at h; exact h)
                   | cons v2 vs => first | exact key (by rw [hl] at h; exact h) | (rw [hl] at h; cases h)
               | cons t2 ts => first | exact key (by rw [hl] at h; exact h) | (rw [hl] at h; cases h))
  case pick c a b =>
    have he : ∀ H, opE C call (.pick c a b) t e H = match opV e c with
      | some (.bool true) => (match opV e a with | some v => some (v, H) | none => none)
      | some (.bool false) => (match opV e b with | some v => some (v, H) | none => none)
      | _ => none := fun _ => rfl
    rw [he] at h ⊢
    cases hc : opV e c with
    | none => rw [hc] at h; cases h
    | some u =>
      rw [hc] at h
      cases u with
      | bool b => cases b with
        | true => exact fin h
        | false => exact fin h
      | _ => cases h
  all_goals first
    | (rcases ho with ho | ho <;> cases ho; done)
    | exact fin h

theorem raise_alloc {C : Ctx} {call : CallE} {o : Op} {t : TypeId} {e : Env} {H H' : Hp} {v : Value} (ho : allocOp o = true) (h : opE C call o t e H = some (v, H')) :
    ∃ H1, opE C call o t e H.raised = some (v, H1) ∧ H1.lowered H.floor = H' := by
  cases o
  case alloc el =>
    have h : ((C.T el).bind fun ti => some (Value.pointer (some ⟨H.next, 0, none⟩), H.new (.cells ti.zero false))) = some (v, H') := h
    show ∃ H1, ((C.T el).bind fun ti => some (Value.pointer (some ⟨H.next, 0, none⟩), H.raised.new (.cells ti.zero false))) = some (v, H1) ∧ _
    cases hT : C.T el with
    | none => rw [hT] at h; cases h
    | some ti => rw [hT] at h; cases h; exact ⟨_, rfl, rfl⟩
  case box el x =>
    have h : ((opV e x).bind fun u => some (Value.pointer (some ⟨H.next, 0, none⟩), H.new (.cells (cellsOf u) false))) = some (v, H') := h
    show ∃ H1, ((opV e x).bind fun u => some (Value.pointer (some ⟨H.next, 0, none⟩), H.raised.new (.cells (cellsOf u) false))) = some (v, H1) ∧ _
    cases hT : opV e x with
    | none => rw [hT] at h; cases h
    | some ti => rw [hT] at h; cases h; exact ⟨_, rfl, rfl⟩
  case buildSlice ty n ps =>
    have h : ((partsE e ps.toList).bind fun ps => buildSliceE C ty n ps H) = some (v, H') := h
    show ∃ H1, ((partsE e ps.toList).bind fun ps => buildSliceE C ty n ps H.raised) = some (v, H1) ∧ _
    cases hT : partsE e ps.toList with
    | none => rw [hT] at h; cases h
    | some ps =>
      rw [hT] at h
      simp only [Option.bind_some] at h ⊢
      unfold buildSliceE at h ⊢
      cases hC : C.T ty with
      | none => rw [hC] at h; cases h
      | some ti =>
        rw [hC] at h
        simp only at h ⊢
        cases hk : ti.kind <;> rw [hk] at h <;> simp only at h ⊢ <;> first | (cases h; done) | skip
        rename_i el
        rw [Option.bind_eq_some_iff] at h
        obtain ⟨et, h1, h2⟩ := h
        obtain ⟨h3, h4⟩ := bif_some h2
        rw [Option.map_eq_some_iff] at h4
        obtain ⟨cs, h5, h6⟩ := h4
        cases h6
        exact ⟨H.raised.new (.cells cs false), by rw [h1, Option.bind_some, h3, cond_true, h5]; rfl, rfl⟩
  case makeSlice ty l c =>
    have h : ((opV e l).bind fun l => (opV e c).bind fun c => makeSliceE C ty l c H) = some (v, H') := h
    show ∃ H1, ((opV e l).bind fun l => (opV e c).bind fun c => makeSliceE C ty l c H.raised) = some (v, H1) ∧ _
    rw [Option.bind_eq_some_iff] at h
    obtain ⟨lv, hl, h⟩ := h
    rw [Option.bind_eq_some_iff] at h
    obtain ⟨cv, hc, h⟩ := h
    rw [hl, Option.bind_some, hc, Option.bind_some]
    unfold makeSliceE at h ⊢
    cases hC : C.T ty with
    | none => rw [hC] at h; cases h
    | some ti =>
      cases hn : nat? lv with
      | none => rw [hC, hn] at h; cases h
      | some ln =>
        cases hm : nat? cv with
        | none => rw [hC, hn, hm] at h; cases h
        | some cn =>
          rw [hC, hn, hm] at h
          simp only at h ⊢
          cases hk : ti.kind <;> rw [hk] at h <;> simp only at h ⊢ <;> first | (cases h; done) | skip
          rw [Option.bind_eq_some_iff] at h
          obtain ⟨et, h1, h2⟩ := h
          obtain ⟨h3, h4⟩ := bif_some h2
          cases h4
          exact ⟨H.raised.new (.cells (repeatL et.zero cn) false), by rw [h1, Option.bind_some, h3, cond_true]; rfl, rfl⟩
  case makeMap ty r =>
    cases r with
    | some x => cases ho
    | none =>
      have h : (some (Value.map (some H.next), H.new (.map [] 0))) = some (v, H') := h
      cases h
      exact ⟨_, rfl, rfl⟩
  all_goals cases ho

theorem raise_call {C : Ctx} (hx : NoExt C) {d : Nat} {o : Op} {t : TypeId} {e : Env} {H H' : Hp} {v : Value} (ho : pureCall C o = true) (h : opE C (evF C d) o t e H = some (v, H')) :
    H' = H ∧ opE C (evF C d) o t e H.raised = some (v, H.raised) := by
  cases o
  case call c =>
    obtain ⟨callee, args, ats⟩ := c
    cases callee with
    | builtin b => cases ho
    | invoke a b => cases ho
    | value f =>
      cases f with
      | func g =>
        simp only [pureCall] at ho
        cases ha : C.fn g with
        | none => rw [ha] at ho; cases ho
        | some a =>
          rw [ha] at ho
          simp only at ho
          rw [opE_call] at h ⊢
          simp only at h ⊢
          cases hv : opVs e args.toList with
          | none => rw [hv] at h; cases h
          | some vs =>
            rw [hv] at h
            simp only [Option.bind_some, opV, calleeE] at h ⊢
            exact pure_call hx ha ho h
      | _ => cases ho
  all_goals cases ho

theorem kindsOk_ok {C : Ctx} {ms : List Nat} {ops : List Oper} : ∀ {l : List Oper} {i0 : Nat}, kindsOk C ms ops l i0 = true → ∀ i o, l[i]? = some o → kindOk C ms ops (i0 + i) o = true
  | [], _, _, i, o, h => by simp at h
  | x :: l, i0, h, i, o, hi => by
    simp only [kindsOk, Bool.and_eq_true] at h
    cases i with
    | zero => simp at hi; subst hi; exact h.1
    | succ i =>
      have := kindsOk_ok h.2 i o (by simpa using hi)
      rwa [show i0 + 1 + i = i0 + (i + 1) by omega] at this

/-- A step in the text's order, where what was read stays as it was. -/
theorem draw_step {C : Ctx} (hx : NoExt C) {d : Nat} {ops : Array Oper} {ms : List Nat} {i : Nat} {o : Oper} (hk : kindOk C ms ops.toList i o = true) {s : DS}
    {w : Bool} {e' : Env} {H' : Hp} (h : opStep C (evF C d) o s.env s.hp w = some (e', H'))
    (hs : w = true → isW C ms ops.toList i o = true → stillSame C (evF C d) ms i H' s.seen = true)
    (hr : w = true → isW C ms ops.toList i o = false → readerOp o.op = true → ∀ v, opE C (evF C d) o.op o.type s.env s.hp = some (v, H') → wasSame C (evF C d) ms i o s.env v s.ws = true) :
    ∃ s', stepW C (evF C d) ops ms i o s w = some s' ∧ s'.env = e' ∧ s'.hp = H' ∧
      (w = false → s'.seen = s.seen ∧ s'.ws = s.ws) ∧
      (w = true → isW C ms ops.toList i o = true → s'.seen = s.seen ∧ s'.ws = (i, s.hp) :: s.ws) ∧
      (w = true → isW C ms ops.toList i o = false → s'.ws = s.ws ∧ (readerOp o.op = false → s'.seen = s.seen) ∧ (readerOp o.op = true → ∀ v, opE C (evF C d) o.op o.type s.env s.hp = some (v, H') → s'.seen = ⟨i, o, s.env, v⟩ :: s.seen)) := by
  cases w with
  | false =>
    simp only [opStep, putE] at h
    simp only [stepW]
    cases hp : s.env.put o.dst (.tuple #[]) with
    | none => rw [hp] at h; cases h
    | some e1 =>
      rw [hp] at h; cases h
      exact ⟨_, rfl, rfl, rfl, fun _ => ⟨rfl, rfl⟩, (fun h => by cases h), (fun h => by cases h)⟩
  | true =>
    simp only [opStep] at h
    rw [Option.bind_eq_some_iff] at h
    obtain ⟨⟨v, H1⟩, ho, h⟩ := h
    simp only [putE] at h
    simp only [stepW]
    cases hw : isW C ms ops.toList i o with
    | true =>
      simp only [ho]
      cases hp : s.env.put o.dst v with
      | none => rw [hp] at h; cases h
      | some e1 =>
        rw [hp] at h; cases h
        rw [hs rfl hw]
        exact ⟨_, rfl, rfl, rfl, (fun h => by cases h), fun _ _ => ⟨rfl, rfl⟩, (fun _ h => by cases h)⟩
    | false =>
      simp only
      have hkind := hk
      unfold kindOk at hkind
      rw [hw, Bool.false_or] at hkind
      have main : ∃ H2, opE C (evF C d) o.op o.type s.env s.hp.raised = some (v, H2) ∧ H2.lowered s.hp.floor = H1 := by
        rcases Bool.or_eq_true_iff.1 hkind with g | g
        · obtain ⟨g1, g2⟩ := raise_pure (.inl g) ho
          exact ⟨_, g2, by rw [g1]; rfl⟩
        · rcases Bool.or_eq_true_iff.1 g with g | g
          · obtain ⟨g1, g2⟩ := raise_pure (.inr g) ho
            exact ⟨_, g2, by rw [g1]; rfl⟩
          · rcases Bool.or_eq_true_iff.1 g with g | g
            · exact raise_alloc g ho
            · obtain ⟨g1, g2⟩ := raise_call hx g ho
              exact ⟨_, g2, by rw [g1]; rfl⟩
      obtain ⟨H2, hm, hl⟩ := main
      rw [hm]
      simp only
      cases hp : s.env.put o.dst v with
      | none => rw [hp] at h; cases h
      | some e1 =>
        rw [hp] at h; cases h
        cases hro : readerOp o.op with
        | true =>
          rw [hr rfl hw hro v ho]
          exact ⟨_, rfl, rfl, hl, (fun h => by cases h), (fun _ h => by cases h), fun _ _ => ⟨rfl, (fun h => by cases h), fun _ u hu => by rw [ho] at hu; cases hu; rfl⟩⟩
        | false => exact ⟨_, rfl, rfl, hl, (fun h => by cases h), (fun _ h => by cases h), fun _ _ => ⟨rfl, fun _ => rfl, (fun h => by cases h)⟩⟩
end Go.Ahe.X
