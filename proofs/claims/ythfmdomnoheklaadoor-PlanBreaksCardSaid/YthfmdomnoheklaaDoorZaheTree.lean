/-
  AHE, 24: the evaluator with branches left open: what it computes of numbers that are not known, as a tree.
-/
import Derived.Test.YthfmdomnoheklaaDoorZaheLaw
namespace Go.Ahe
open Go.RowKit

/-- A tree of outcomes. -/
inductive Tree (α : Type) where
  | leaf (x : Option α)
  | node (b : Bool) (t f : Tree α)

def Tree.val {α : Type} : Tree α → Option α
  | .leaf x => x
  | .node b t f => match b with | true => t.val | false => f.val

def Tree.bind {α β : Type} (k : α → Tree β) : Tree α → Tree β
  | .leaf none => .leaf none
  | .leaf (some a) => k a
  | .node b t f => .node b (t.bind k) (f.bind k)

/-- Which branches are left open: 'lits' none any more; 'lit' not this one; 'fork' this one; 'cut' nothing is said from here on; 'all' all. -/
inductive Orc where
  | lits
  | lit (o : Orc)
  | fork (t f : Orc)
  | cut
  | all

abbrev TM (α : Type) := Orc → Tree (α × Orc)
def TM.ret {α : Type} (a : α) : TM α := fun o => .leaf (some (a, o))
def TM.lift {α : Type} (x : Option α) : TM α := fun o => .leaf (match x with | some a => some (a, o) | none => none)
def TM.bind {α β : Type} (m : TM α) (k : α → TM β) : TM β := fun o => (m o).bind fun p => k p.1 p.2

def TM.fork {α : Type} (b : Bool) (t f : TM α) : TM α
  | .lits => match b with | true => t .lits | false => f .lits
  | .lit o => match b with | true => t o | false => f o
  | .fork o1 o2 => .node b (t o1) (f o2)
  | .cut => .leaf none
  | .all => .node b (t .all) (f .all)

/-- An operation's guard. -/
def guardB (ops : Array Oper) (o : Oper) (e : Env) : Option Bool :=
  match o.guard with
  | none => none
  | some _ => some (wantE ops o e)

abbrev CallT := Fn → List Value → Hp → TM (Value × Hp)
def noCall : CallE := fun _ _ _ => none
def TM.fail {α : Type} : TM α := fun _ => .leaf none

/-- One operation. -/
def opT (C : Ctx) (callT : CallT) (o : Op) (type : TypeId) (e : Env) (H : Hp) : TM (Value × Hp) :=
  match o with
  | .call c => match opVs e c.args.toList with
    | none => TM.fail
    | some args => match c.callee with
      | .builtin b => TM.lift (builtinE C b c.argTypes.toList args H)
      | .value f => match (opV e f).bind fun fv => calleeE fv args with
        | none => TM.fail
        | some p => callT p.1 p.2 H
      | .invoke _ _ => TM.fail
  | .pick c x y => match opV e c with
    | some (.bool b) => TM.fork b (TM.lift (opE C noCall (.move x) type e H)) (TM.lift (opE C noCall (.move y) type e H))
    | _ => TM.fail
  | o => TM.lift (opE C noCall o type e H)

def putT (o : Oper) (e : Env) (p : Value × Hp) : TM (Env × Hp) := match e.put o.dst p.1 with
  | some e' => TM.ret (e', p.2)
  | none => TM.fail
def putE (o : Oper) (e : Env) (p : Value × Hp) : Option (Env × Hp) := match e.put o.dst p.1 with
  | some e' => some (e', p.2)
  | none => none

def opStep (C : Ctx) (call : CallE) (o : Oper) (e : Env) (H : Hp) : Bool → Option (Env × Hp)
  | true => (opE C call o.op o.type e H).bind (putE o e)
  | false => putE o e (.tuple #[], H)
def opStepT (C : Ctx) (callT : CallT) (o : Oper) (e : Env) (H : Hp) : Bool → TM (Env × Hp)
  | true => TM.bind (opT C callT o.op o.type e H) (putT o e)
  | false => putT o e (.tuple #[], H)

def opsT (C : Ctx) (callT : CallT) (ops : Array Oper) : List Oper → Env → Hp → TM (Env × Hp)
  | [], e, H => TM.ret (e, H)
  | o :: r, e, H => match guardB ops o e with
    | none => TM.bind (opStepT C callT o e H true) fun p => opsT C callT ops r p.1 p.2
    | some b => TM.fork b
        (TM.bind (opStepT C callT o e H true) fun p => opsT C callT ops r p.1 p.2)
        (TM.bind (opStepT C callT o e H false) fun p => opsT C callT ops r p.1 p.2)

/-- A step of a region that draws, the guard being known. -/
def stepW (C : Ctx) (call : CallE) (ops : Array Oper) (ms : List Nat) (i : Nat) (o : Oper) (s : DS) (w : Bool) : Option DS :=
  match w with
  | false => match s.env.put o.dst (.tuple #[]) with
    | some e => some ⟨e, s.hp, s.seen, s.ws, .tuple #[]⟩
    | none => none
  | true => match isW C ms ops.toList i o with
    | true => match opE C call o.op o.type s.env s.hp with
      | some (v, H') => match stillSame C call ms i H' s.seen, s.env.put o.dst v with
        | true, some e => some ⟨e, H', s.seen, (i, s.hp) :: s.ws, v⟩
        | _, _ => none
      | none => none
    | false => match opE C call o.op o.type s.env s.hp.raised with
      | some (v, H') => match readerOp o.op with
        | true => match wasSame C call ms i o s.env v s.ws, s.env.put o.dst v with
          | true, some e => some ⟨e, H'.lowered s.hp.floor, ⟨i, o, s.env, v⟩ :: s.seen, s.ws, v⟩
          | _, _ => none
        | false => match s.env.put o.dst v with
          | some e => some ⟨e, H'.lowered s.hp.floor, s.seen, s.ws, v⟩
          | none => none
      | none => none

theorem stepW_eq {C : Ctx} {call : CallE} {ops : Array Oper} {ms : List Nat} {i : Nat} {o : Oper} {s : DS} : stepD C call ops ms i o s = stepW C call ops ms i o s (wantE ops o s.env) := by
  unfold stepD stepW
  cases wantE ops o s.env <;> rfl

def putD (o : Oper) (s : DS) (H : Hp) (seen : List Seen) (ws : List (Nat × Hp)) (v : Value) : TM DS := match s.env.put o.dst v with
  | some e => TM.ret ⟨e, H, seen, ws, v⟩
  | none => TM.fail

def stepT (C : Ctx) (call : CallE) (callT : CallT) (ops : Array Oper) (ms : List Nat) (i : Nat) (o : Oper) (s : DS) (w : Bool) : TM DS :=
  match w with
  | false => putD o s s.hp s.seen s.ws (.tuple #[])
  | true => match isW C ms ops.toList i o with
    | true => TM.bind (opT C callT o.op o.type s.env s.hp) fun p =>
      TM.fork (stillSame C call ms i p.2 s.seen) (putD o s p.2 s.seen ((i, s.hp) :: s.ws) p.1) TM.fail
    | false => TM.bind (opT C callT o.op o.type s.env s.hp.raised) fun p => match readerOp o.op with
      | true => TM.fork (wasSame C call ms i o s.env p.1 s.ws) (putD o s (p.2.lowered s.hp.floor) (⟨i, o, s.env, p.1⟩ :: s.seen) s.ws p.1) TM.fail
      | false => putD o s (p.2.lowered s.hp.floor) s.seen s.ws p.1

def runT (C : Ctx) (call : CallE) (callT : CallT) (ops : Array Oper) (ms : List Nat) : List Oper → Nat → DS → TM DS
  | [], _, s => TM.ret s
  | o :: r, i, s => match guardB ops o s.env with
    | none => TM.bind (stepT C call callT ops ms i o s true) fun s' => runT C call callT ops ms r (i + 1) s'
    | some b => TM.fork b
        (TM.bind (stepT C call callT ops ms i o s true) fun s' => runT C call callT ops ms r (i + 1) s')
        (TM.bind (stepT C call callT ops ms i o s false) fun s' => runT C call callT ops ms r (i + 1) s')

def thenR (ib : Env → Hp → TM Rs) : Rs → TM Rs
  | .nx e H => ib e H
  | .ex id e H => TM.ret (.ex id e H)
  | .rt e H => TM.ret (.rt e H)

def loopT (f : Env → Hp → TM Rs) : Nat → Env → Hp → TM Rs
  | 0, _, _ => fun _ => .leaf none
  | n + 1, e, H => TM.bind (f e H) (thenR (loopT f n))

def thenE (ib : Env → Hp → Option Rs) : Rs → Option Rs
  | .nx e H => ib e H
  | .ex id e H => some (.ex id e H)
  | .rt e H => some (.rt e H)
def blockT (id : Nat) : Rs → TM Rs
  | .nx e H => TM.ret (.nx e H)
  | .ex j e H => bif Nat.beq j id then TM.ret (.nx e H) else TM.ret (.ex j e H)
  | .rt e H => TM.ret (.rt e H)
def blockE (id : Nat) : Rs → Option Rs
  | .nx e H => some (.nx e H)
  | .ex j e H => bif Nat.beq j id then some (.nx e H) else some (.ex j e H)
  | .rt e H => some (.rt e H)
def nxT (p : Env × Hp) : TM Rs := TM.ret (.nx p.1 p.2)
def nxD (s : DS) : TM Rs := TM.ret (.nx s.env s.hp)
def resT (C : Ctx) (a : AF) : Rs → TM (Value × Hp)
  | .nx e H' => TM.lift ((resultE C e H' a.results).map fun v => (v, H'))
  | .rt e H' => TM.lift ((resultE C e H' a.results).map fun v => (v, H'))
  | .ex _ _ _ => fun _ => .leaf none
def resO (C : Ctx) (a : AF) : Rs → Option (Value × Hp)
  | .nx e H' => (resultE C e H' a.results).map fun v => (v, H')
  | .rt e H' => (resultE C e H' a.results).map fun v => (v, H')
  | .ex _ _ _ => none

noncomputable def evT (C : Ctx) (call : CallE) (callT : CallT) (c : Code) : Env → Hp → TM Rs :=
  Code.rec (motive := fun _ => Env → Hp → TM Rs)
    (fun e H => TM.ret (.nx e H))
    (fun _ ops draw e H => match draw with
      | false => TM.bind (opsT C callT ops ops.toList e H) nxT
      | true => match regOk ops.toList (masks ops.toList []) ops.toList 0 with
        | true => TM.bind (runT C call callT ops (masks ops.toList []) ops.toList 0 ⟨e, H, [], [], .tuple #[]⟩) nxD
        | false => fun _ => .leaf none)
    (fun _ _ ia ib e H => TM.bind (ia e H) (thenR ib))
    (fun x _ _ ia ib e H => match opV e x with
      | some (.bool b) => TM.fork b (ia e H) (ib e H)
      | _ => fun _ => .leaf none)
    (fun id _ ib e H => TM.bind (ib e H) (blockT id))
    (fun _ ib e H => loopT ib rounds e H)
    (fun f ps assign body _ _ e H => match (opV e f).bind fun fv => calleeE fv [.func (.yield H.next) #[] #[]] with
      | none => TM.fail
      | some p => match p.1 with
        | .func g => match C.fn g with
          | some _ => TM.bind (callT (.func g) p.2 (H.new (.loop .ready none e ps.toList assign body))) fun q => TM.lift (afterLoop H.next e q.2)
          | none => TM.fail
        | _ => TM.fail)
    (fun id e H => TM.ret (.ex id e H))
    (fun _ _ _ _ => fun _ => .leaf none)
    (fun _ e H => TM.ret (.nx e H))
    (fun _ _ _ => fun _ => .leaf none)
    (fun e H => TM.ret (.rt e H))
    (fun _ _ _ => fun _ => .leaf none)
    c

/-- A body, as a tree. -/
noncomputable def bodyT (C : Ctx) (call : CallE) (callT : CallT) (a : AF) (args : List Value) (H : Hp) : TM (Value × Hp) :=
  bif Nat.ble args.length a.ntmps then TM.bind (evT C call callT a.code (Env.ofArgs a.ntmps args) H) (resT C a) else TM.fail

def leaveE (l : Nat) (H3 : Hp) (j : Option Code) : Option (Value × Hp) := match H3.get l with
  | some (.loop _ _ env3 ps3 a3 b3) =>
    (H3.upd l (.loop (match j with | none => .ready | some _ => .done) j env3 ps3 a3 b3)).map fun H4 => (.bool (match j with | none => true | some _ => false), H4)
  | _ => none
def leaveR (l : Nat) : Rs → Option (Value × Hp)
  | .nx _ H3 => leaveE l H3 none
  | .ex id _ H3 => leaveE l H3 (some (.exit id))
  | .rt _ H3 => leaveE l H3 (some .ret)
def beginE (l : Nat) : Rs → Option (Env × Hp)
  | .nx e1 H1 => match H1.get l with
    | some (.loop .ready pend env1 ps1 a1 b1) => (H1.upd l (.loop .busy pend env1 ps1 a1 b1)).map fun H2 => (e1, H2)
    | _ => none
  | _ => none

noncomputable def roundT (C : Ctx) (call : CallE) (callT : CallT) (l : Nat) (args : List Value) (H : Hp) : TM (Value × Hp) :=
  match H.get l with
  | some (.loop _ _ env ps a b) => bif Nat.beq args.length ps.length then (match zipSet (ps.zip args) env with
    | some e0 => TM.bind (evT C call callT a e0 H) fun r => TM.bind (TM.lift (beginE l r)) fun p => TM.bind (evT C call callT b p.1 p.2) fun r => TM.lift (leaveR l r)
    | none => TM.fail) else TM.fail
  | _ => TM.fail

/-- Calls, to a depth. -/
noncomputable def evFT (C : Ctx) : Nat → Fn → List Value → Hp → TM (Value × Hp)
  | 0, _, _, _ => TM.fail
  | d + 1, fn, args, H => match fn with
    | .func f => match C.ext f args H with
      | some r => TM.ret r
      | none => match C.fn f with
        | none => TM.fail
        | some a => match a.pure with
          | false => bodyT C (evF C d) (evFT C d) a args H
          | true => TM.bind (bodyT C (evF C d) (evFT C d) a args (H.fresh args)) fun p => bif plainV p.1 then TM.ret (p.1, H) else TM.fail
    | .yield l => roundT C (evF C d) (evFT C d) l args H
    | _ => TM.fail

/-! ### What a tree says, the evaluator says -/
theorem Tree.val_bind {α β : Type} (k : α → Tree β) : ∀ t : Tree α, (t.bind k).val = t.val.bind fun a => (k a).val
  | .leaf none => rfl
  | .leaf (some a) => rfl
  | .node b t f => by
    cases b with
    | true => exact Tree.val_bind k t
    | false => exact Tree.val_bind k f

/-- All that a tree says holds of x. -/
def Tells {α : Type} (m : TM α) (x : Option α) : Prop := ∀ o r o', (m o).val = some (r, o') → x = some r

theorem Tells.ret {α : Type} (a : α) : Tells (TM.ret a) (some a) := fun o r o' h => by cases h; rfl
theorem Tells.fail {α : Type} (x : Option α) : Tells (fun _ => .leaf none : TM α) x := fun o r o' h => by cases h
theorem Tells.lift {α : Type} (x : Option α) : Tells (TM.lift x) x := fun o r o' h => by
  cases x with
  | none => cases h
  | some a => cases h; rfl
theorem Tells.bind {α β : Type} {m : TM α} {x : Option α} {k : α → TM β} {y : α → Option β} (h : Tells m x) (hk : ∀ a, Tells (k a) (y a)) : Tells (TM.bind m k) (x.bind y) := fun o r o' hv => by
  unfold TM.bind at hv
  rw [Tree.val_bind, Option.bind_eq_some_iff] at hv
  obtain ⟨p, h1, h2⟩ := hv
  rw [h o p.1 p.2 h1]
  exact hk p.1 p.2 r o' h2
theorem Tells.fork {α : Type} {b : Bool} {t f : TM α} {x : Option α} (ht : b = true → Tells t x) (hf : b = false → Tells f x) : Tells (TM.fork b t f) x := fun o r o' hv => by
  cases o with
  | lits => cases b with
    | true => exact ht rfl _ r o' hv
    | false => exact hf rfl _ r o' hv
  | lit o => cases b with
    | true => exact ht rfl _ r o' hv
    | false => exact hf rfl _ r o' hv
  | fork o1 o2 => cases b with
    | true => exact ht rfl _ r o' hv
    | false => exact hf rfl _ r o' hv
  | cut => cases hv
  | all => cases b with
    | true => exact ht rfl _ r o' hv
    | false => exact hf rfl _ r o' hv

theorem guardB_none {ops : Array Oper} {o : Oper} {e : Env} (h : guardB ops o e = none) : wantE ops o e = true := by
  unfold guardB at h
  unfold wantE
  cases hg : o.guard with
  | none => rfl
  | some g => rw [hg] at h; cases h
theorem guardB_some {ops : Array Oper} {o : Oper} {e : Env} {b : Bool} (h : guardB ops o e = some b) : wantE ops o e = b := by
  unfold guardB at h
  cases hg : o.guard with
  | none => rw [hg] at h; cases h
  | some g => rw [hg] at h; exact Option.some.inj h

theorem opE_noCall {C : Ctx} {call : CallE} {o : Op} {t : TypeId} {e : Env} {H : Hp} (h : ∀ c, o ≠ .call c) : opE C noCall o t e H = opE C call o t e H := by
  cases o <;> first | rfl | exact absurd rfl (h _) | (rename_i b; cases b <;> rfl)

/-- Calls as trees tell what the calls come to. -/
def CallTells (callT : CallT) (call : CallE) : Prop := ∀ fn args H, Tells (callT fn args H) (call fn args H)

theorem opT_ok {C : Ctx} {call : CallE} {callT : CallT} (hc : CallTells callT call) (o : Op) (t : TypeId) (e : Env) (H : Hp) : Tells (opT C callT o t e H) (opE C call o t e H) := by
  cases o
  case call c =>
    obtain ⟨callee, args, ats⟩ := c
    simp only [opT, opE]
    cases opVs e args.toList with
    | none => exact Tells.fail _
    | some vs =>
      simp only [Option.bind_some]
      cases callee with
      | builtin b => exact Tells.lift _
      | value f =>
        simp only
        cases opV e f with
        | none => exact Tells.fail _
        | some fv =>
          simp only [Option.bind_some]
          cases calleeE fv vs with
          | none => exact Tells.fail _
          | some p => exact hc p.1 p.2 H
      | invoke r n => exact Tells.fail _
  case pick c x y =>
    simp only [opT, opE]
    split
    · rename_i b hb
      refine Tells.fork (fun h => ?_) (fun h => ?_)
      · subst h; rw [hb]; exact Tells.lift _
      · subst h; rw [hb]; exact Tells.lift _
    · exact Tells.fail _
  all_goals
    simp only [opT]
    rw [opE_noCall (call := call) (by intro c h; cases h)]
    exact Tells.lift _

theorem opsE_step {C : Ctx} {call : CallE} {ops : Array Oper} {o : Oper} {r : List Oper} {e : Env} {H : Hp} : opsE C call ops (o :: r) e H = (opStep C call o e H (wantE ops o e)).bind fun p => opsE C call ops r p.1 p.2 := by
  simp only [opsE]
  cases wantE ops o e with
  | true =>
    simp only [opStep]
    cases opE C call o.op o.type e H with
    | none => rfl
    | some p =>
      simp only [Option.bind_some, putE]
      cases e.put o.dst p.1 <;> rfl
  | false =>
    simp only [opStep, putE]
    cases e.put o.dst (.tuple #[]) <;> rfl

theorem putT_ok (o : Oper) (e : Env) (p : Value × Hp) : Tells (putT o e p) (putE o e p) := by
  unfold putT putE
  cases e.put o.dst p.1 with
  | none => exact Tells.fail _
  | some e' => exact Tells.ret _

theorem opStepT_ok {C : Ctx} {call : CallE} {callT : CallT} (hc : CallTells callT call) (o : Oper) (e : Env) (H : Hp) (b : Bool) : Tells (opStepT C callT o e H b) (opStep C call o e H b) := by
  cases b with
  | true => exact Tells.bind (opT_ok hc _ _ _ _) fun p => putT_ok o e p
  | false => exact putT_ok o e _

theorem opsT_ok {C : Ctx} {call : CallE} {callT : CallT} (hc : CallTells callT call) {ops : Array Oper} : ∀ (l : List Oper) (e : Env) (H : Hp), Tells (opsT C callT ops l e H) (opsE C call ops l e H)
  | [], e, H => Tells.ret (e, H)
  | o :: r, e, H => by
    rw [opsE_step]
    have key : ∀ b, Tells (TM.bind (opStepT C callT o e H b) fun p => opsT C callT ops r p.1 p.2) ((opStep C call o e H b).bind fun p => opsE C call ops r p.1 p.2) := fun b =>
      Tells.bind (opStepT_ok hc o e H b) fun p => opsT_ok hc r p.1 p.2
    simp only [opsT]
    split
    · rename_i hg; rw [guardB_none hg]; exact key true
    · rename_i b hg
      rw [guardB_some hg]
      exact Tells.fork (fun h => by rw [h]; exact key true) (fun h => by rw [h]; exact key false)

theorem stepT_ok {C : Ctx} {call : CallE} {callT : CallT} (hc : CallTells callT call) {ops : Array Oper} {ms : List Nat} (i : Nat) (o : Oper) (s : DS) (w : Bool) : Tells (stepT C call callT ops ms i o s w) (stepW C call ops ms i o s w) := by
  unfold stepT stepW
  cases w with
  | false =>
    simp only [putD]
    cases s.env.put o.dst (.tuple #[]) with
    | none => exact Tells.fail _
    | some e => exact Tells.ret _
  | true =>
    simp only
    cases isW C ms ops.toList i o with
    | true =>
      simp only
      have he : (match opE C call o.op o.type s.env s.hp with
          | some (v, H') => match stillSame C call ms i H' s.seen, s.env.put o.dst v with
            | true, some e => some (⟨e, H', s.seen, (i, s.hp) :: s.ws, v⟩ : DS)
            | _, _ => none
          | none => none) = (opE C call o.op o.type s.env s.hp).bind fun p => match stillSame C call ms i p.2 s.seen, s.env.put o.dst p.1 with
            | true, some e => some (⟨e, p.2, s.seen, (i, s.hp) :: s.ws, p.1⟩ : DS)
            | _, _ => none := by
        cases opE C call o.op o.type s.env s.hp <;> rfl
      rw [he]
      refine Tells.bind (opT_ok hc _ _ _ _) fun p => ?_
      refine Tells.fork (fun h => ?_) (fun h => Tells.fail _)
      rw [h]
      simp only [putD]
      cases s.env.put o.dst p.1 with
      | none => exact Tells.fail _
      | some e => exact Tells.ret _
    | false =>
      simp only
      have he : (match opE C call o.op o.type s.env s.hp.raised with
          | some (v, H') => match readerOp o.op with
            | true => match wasSame C call ms i o s.env v s.ws, s.env.put o.dst v with
              | true, some e => some (⟨e, H'.lowered s.hp.floor, ⟨i, o, s.env, v⟩ :: s.seen, s.ws, v⟩ : DS)
              | _, _ => none
            | false => match s.env.put o.dst v with
              | some e => some ⟨e, H'.lowered s.hp.floor, s.seen, s.ws, v⟩
              | none => none
          | none => none) = (opE C call o.op o.type s.env s.hp.raised).bind fun p => match readerOp o.op with
            | true => match wasSame C call ms i o s.env p.1 s.ws, s.env.put o.dst p.1 with
              | true, some e => some (⟨e, p.2.lowered s.hp.floor, ⟨i, o, s.env, p.1⟩ :: s.seen, s.ws, p.1⟩ : DS)
              | _, _ => none
            | false => match s.env.put o.dst p.1 with
              | some e => some ⟨e, p.2.lowered s.hp.floor, s.seen, s.ws, p.1⟩
              | none => none := by
        cases opE C call o.op o.type s.env s.hp.raised <;> rfl
      rw [he]
      refine Tells.bind (opT_ok hc _ _ _ _) fun p => ?_
      cases readerOp o.op with
      | true =>
        refine Tells.fork (fun h => ?_) (fun h => Tells.fail _)
        rw [h]
        simp only [putD]
        cases s.env.put o.dst p.1 with
        | none => exact Tells.fail _
        | some e => exact Tells.ret _
      | false =>
        simp only [putD]
        cases s.env.put o.dst p.1 with
        | none => exact Tells.fail _
        | some e => exact Tells.ret _

theorem runT_ok {C : Ctx} {call : CallE} {callT : CallT} (hc : CallTells callT call) {ops : Array Oper} {ms : List Nat} : ∀ (l : List Oper) (i : Nat) (s : DS), Tells (runT C call callT ops ms l i s) (runD C call ops ms l i s)
  | [], i, s => Tells.ret s
  | o :: r, i, s => by
    have key : ∀ b, Tells (TM.bind (stepT C call callT ops ms i o s b) fun s' => runT C call callT ops ms r (i + 1) s') ((stepW C call ops ms i o s b).bind fun s' => runD C call ops ms r (i + 1) s') := fun b =>
      Tells.bind (stepT_ok hc i o s b) fun s' => runT_ok hc r (i + 1) s'
    have he : runD C call ops ms (o :: r) i s = (stepW C call ops ms i o s (wantE ops o s.env)).bind fun s' => runD C call ops ms r (i + 1) s' := by
      simp only [runD, stepW_eq]
      cases stepW C call ops ms i o s (wantE ops o s.env) <;> rfl
    rw [he]
    simp only [runT]
    split
    · rename_i hg; rw [guardB_none hg]; exact key true
    · rename_i b hg
      rw [guardB_some hg]
      exact Tells.fork (fun h => by rw [h]; exact key true) (fun h => by rw [h]; exact key false)

theorem loopT_ok {f : Env → Hp → TM Rs} {g : Env → Hp → Option Rs} (h : ∀ e H, Tells (f e H) (g e H)) : ∀ (n : Nat) (e : Env) (H : Hp), Tells (loopT f n e H) (loopE g n e H)
  | 0, e, H => Tells.fail _
  | n + 1, e, H => by
    have he : loopE g (n + 1) e H = (g e H).bind fun r => match r with
        | .nx e H => loopE g n e H
        | .ex id e H => some (.ex id e H)
        | .rt e H => some (.rt e H) := by
      simp only [loopE]
      cases g e H with
      | none => rfl
      | some r => cases r <;> rfl
    rw [he]
    simp only [loopT]
    refine Tells.bind (h e H) fun r => ?_
    cases r with
    | nx e H => exact loopT_ok h n e H
    | ex id e H => exact Tells.ret _
    | rt e H => exact Tells.ret _

theorem evT_ok {C : Ctx} {call : CallE} {callT : CallT} (hc : CallTells callT call) (c : Code) : ∀ (e : Env) (H : Hp), Tells (evT C call callT c e H) (evC C call c e H) := by
  induction c with
  | skip => exact fun e H => Tells.ret _
  | region id ops draw =>
    intro e H
    cases draw with
    | false =>
      have he : evC C call (.region id ops false) e H = (opsE C call ops ops.toList e H).bind fun p => some (.nx p.1 p.2) := by
        show (match opsE C call ops ops.toList e H with
          | some (e', H') => some (Rs.nx e' H')
          | none => none) = _
        cases opsE C call ops ops.toList e H <;> rfl
      rw [he]
      show Tells (TM.bind (opsT C callT ops ops.toList e H) nxT) _
      exact Tells.bind (opsT_ok hc _ e H) fun p => Tells.ret _
    | true =>
      have he : evC C call (.region id ops true) e H = (match regOk ops.toList (masks ops.toList []) ops.toList 0 with
          | true => (runD C call ops (masks ops.toList []) ops.toList 0 ⟨e, H, [], [], .tuple #[]⟩).bind fun s => some (.nx s.env s.hp)
          | false => none) := by
        show (match opsD C call ops e H with
          | some (e', H') => some (Rs.nx e' H')
          | none => none) = _
        unfold opsD
        cases regOk ops.toList (masks ops.toList []) ops.toList 0 with
        | false => rfl
        | true =>
          simp only
          cases runD C call ops (masks ops.toList []) ops.toList 0 ⟨e, H, [], [], .tuple #[]⟩ <;> rfl
      rw [he]
      show Tells (match regOk ops.toList (masks ops.toList []) ops.toList 0 with
        | true => TM.bind (runT C call callT ops (masks ops.toList []) ops.toList 0 ⟨e, H, [], [], .tuple #[]⟩) nxD
        | false => fun _ => .leaf none) _
      cases regOk ops.toList (masks ops.toList []) ops.toList 0 with
      | false => exact Tells.fail _
      | true => exact Tells.bind (runT_ok hc _ _ _) fun s => Tells.ret _
  | seq x y hx hy =>
    intro e H
    have he : evC C call (.seq x y) e H = (evC C call x e H).bind (thenE (evC C call y)) := by
      show Rs.then (evC C call y) (evC C call x e H) = _
      cases evC C call x e H with
      | none => rfl
      | some r => cases r <;> rfl
    rw [he]
    show Tells (TM.bind (evT C call callT x e H) (thenR (evT C call callT y))) _
    refine Tells.bind (hx e H) fun r => ?_
    cases r with
    | nx e H => exact hy e H
    | ex id e H => exact Tells.ret _
    | rt e H => exact Tells.ret _
  | cond c x y hx hy =>
    intro e H
    have he : evC C call (.cond c x y) e H = (match opV e c with
      | some (.bool true) => evC C call x e H
      | some (.bool false) => evC C call y e H
      | _ => none) := rfl
    rw [he]
    show Tells (match opV e c with
      | some (.bool b) => TM.fork b (evT C call callT x e H) (evT C call callT y e H)
      | _ => fun _ => .leaf none) _
    split
    · rename_i b hb
      refine Tells.fork (fun h => ?_) (fun h => ?_)
      · subst h; rw [hb]; exact hx e H
      · subst h; rw [hb]; exact hy e H
    · exact Tells.fail _
  | block id x hx =>
    intro e H
    have he : evC C call (.block id x) e H = (evC C call x e H).bind (blockE id) := by
      show Rs.block id (evC C call x e H) = _
      cases evC C call x e H with
      | none => rfl
      | some r => cases r <;> rfl
    rw [he]
    show Tells (TM.bind (evT C call callT x e H) (blockT id)) _
    refine Tells.bind (hx e H) fun r => ?_
    cases r with
    | nx e H => exact Tells.ret _
    | ex j e H =>
      simp only [blockT, blockE]
      cases Nat.beq j id with
      | true => exact Tells.ret _
      | false => exact Tells.ret _
    | rt e H => exact Tells.ret _
  | loop x hx => exact fun e H => loopT_ok hx rounds e H
  | rangeFunc f ps as b _ _ =>
    intro e H
    have he : evC C call (.rangeFunc f ps as b) e H = (opV e f).bind fun fv => (calleeE fv [.func (.yield H.next) #[] #[]]).bind fun p =>
        match p.1 with
        | .func g => match C.fn g, call (.func g) p.2 (H.new (.loop .ready none e ps.toList as b)) with
          | some _, some (_, H') => afterLoop H.next e H'
          | _, _ => none
        | _ => none := rfl
    rw [he]
    show Tells (match (opV e f).bind fun fv => calleeE fv [.func (.yield H.next) #[] #[]] with
      | none => TM.fail
      | some p => match p.1 with
        | .func g => match C.fn g with
          | some _ => TM.bind (callT (.func g) p.2 (H.new (.loop .ready none e ps.toList as b))) fun q => TM.lift (afterLoop H.next e q.2)
          | none => TM.fail
        | _ => TM.fail) _
    cases opV e f with
    | none => exact Tells.fail _
    | some fv =>
      simp only [Option.bind_some]
      cases calleeE fv [.func (.yield H.next) #[] #[]] with
      | none => exact Tells.fail _
      | some p =>
        obtain ⟨fn, ps'⟩ := p
        simp only [Option.bind_some]
        cases fn with
        | func g =>
          simp only
          cases C.fn g with
          | none => exact Tells.fail _
          | some ga =>
            have he2 : (match some ga, call (.func g) ps' (H.new (.loop .ready none e ps.toList as b)) with
                | some _, some (_, H') => afterLoop H.next e H'
                | _, _ => none) = (call (.func g) ps' (H.new (.loop .ready none e ps.toList as b))).bind fun q => afterLoop H.next e q.2 := by
              cases call (.func g) ps' (H.new (.loop .ready none e ps.toList as b)) <;> rfl
            rw [he2]
            exact Tells.bind (hc _ _ _) fun q => Tells.lift _
        | _ => exact Tells.fail _
  | exit id => exact fun e H => Tells.ret _
  | scope x _ => exact fun e H => Tells.fail _
  | label l => exact fun e H => Tells.ret _
  | goto l => exact fun e H => Tells.fail _
  | ret => exact fun e H => Tells.ret _
  | refuse s => exact fun e H => Tells.fail _

theorem bodyT_ok {C : Ctx} {call : CallE} {callT : CallT} (hc : CallTells callT call) {a : AF} {args : List Value} {H : Hp} : Tells (bodyT C call callT a args H) (bodyE C call a args H) := by
  unfold bodyT
  cases hle : Nat.ble args.length a.ntmps with
  | false => exact Tells.fail _
  | true =>
    simp only [cond_true]
    have he : bodyE C call a args H = (evC C call a.code (Env.ofArgs a.ntmps args) H).bind (resO C a) := by
      unfold bodyE
      rw [hle, cond_true]
      cases evC C call a.code (Env.ofArgs a.ntmps args) H with
      | none => rfl
      | some r => cases r <;> rfl
    rw [he]
    refine Tells.bind (evT_ok hc _ _ _) fun r => ?_
    cases r with
    | nx e H => exact Tells.lift _
    | ex j e H => exact Tells.fail _
    | rt e H => exact Tells.lift _

theorem roundT_ok {C : Ctx} {call : CallE} {callT : CallT} (hc : CallTells callT call) (l : Nat) (args : List Value) (H : Hp) : Tells (roundT C call callT l args H) (roundE C call l args H) := by
  unfold roundT roundE
  cases H.get l with
  | none => exact Tells.fail _
  | some o =>
    cases o with
    | loop st pend env ps a b =>
      simp only
      cases Nat.beq args.length ps.length with
      | false => exact Tells.fail _
      | true =>
        simp only [cond_true]
        cases zipSet (ps.zip args) env with
        | none => exact Tells.fail _
        | some e0 =>
          simp only [Option.bind_some]
          have he : (match evC C call a e0 H with
              | some (.nx e1 H1) => match H1.get l with
                | some (.loop .ready pend env1 ps1 a1 b1) => (H1.upd l (.loop .busy pend env1 ps1 a1 b1)).bind fun H2 =>
                  match evC C call b e1 H2 with
                  | some (.nx _ H3) => leaveE l H3 none
                  | some (.ex id _ H3) => leaveE l H3 (some (.exit id))
                  | some (.rt _ H3) => leaveE l H3 (some .ret)
                  | none => none
                | _ => none
              | _ => none) = (evC C call a e0 H).bind fun r => (beginE l r).bind fun p => (evC C call b p.1 p.2).bind fun r => leaveR l r := by
            cases evC C call a e0 H with
            | none => rfl
            | some r =>
              cases r with
              | nx e1 H1 =>
                simp only [Option.bind_some, beginE]
                split
                · rename_i pend1 env1 ps1 a1 b1 hg
                  cases H1.upd l (.loop .busy pend1 env1 ps1 a1 b1) with
                  | none => rfl
                  | some H2 =>
                    simp only [Option.bind_some, Option.map_some]
                    cases evC C call b e1 H2 with
                    | none => rfl
                    | some r => cases r <;> rfl
                · rfl
              | ex id e1 H1 => rfl
              | rt e1 H1 => rfl
          refine (show Tells _ _ from ?_)
          intro o r o' hv
          refine Eq.trans (show _ = _ from he) ?_
          refine Tells.bind (x := evC C call a e0 H) (y := fun r => (beginE l r).bind fun p => (evC C call b p.1 p.2).bind fun r => leaveR l r) (evT_ok hc a e0 H) (fun r => ?_) o r o' hv
          exact Tells.bind (Tells.lift _) fun p => Tells.bind (evT_ok hc b p.1 p.2) fun r => Tells.lift _
    | _ => exact Tells.fail _

/-- **WHAT THE TREE SAYS, THE EVALUATOR SAYS.** -/
theorem evFT_ok (C : Ctx) : ∀ d, CallTells (evFT C d) (evF C d)
  | 0 => fun fn args H => Tells.fail _
  | d + 1 => fun fn args H => by
    have ih := evFT_ok C d
    cases fn with
    | func f =>
      simp only [evFT, evF]
      cases C.ext f args H with
      | some r => exact Tells.ret _
      | none =>
        simp only
        cases C.fn f with
        | none => exact Tells.fail _
        | some a =>
          simp only
          cases a.pure with
          | false => exact bodyT_ok ih
          | true =>
            simp only
            have he : (match bodyE C (evF C d) a args (H.fresh args) with
                | some (v, _) => bif plainV v then some (v, H) else none
                | none => none) = (bodyE C (evF C d) a args (H.fresh args)).bind fun p => bif plainV p.1 then some (p.1, H) else none := by
              cases bodyE C (evF C d) a args (H.fresh args) <;> rfl
            intro o r o' hv
            refine Eq.trans (show _ = _ from he) ?_
            refine Tells.bind (x := bodyE C (evF C d) a args (H.fresh args)) (y := fun p => bif plainV p.1 then some (p.1, H) else none) (bodyT_ok ih) (fun p => ?_) o r o' hv
            cases plainV p.1 with
            | true => exact Tells.ret _
            | false => exact Tells.fail _
    | yield l => exact roundT_ok ih l args H
    | _ => exact Tells.fail _

/-! ### Functions' laws, given to later runs -/
/-- A context in which function f is known by a law. -/
noncomputable def Ctx.withLaw (C : Ctx) (f : FuncId) (s : List Value → Option Value) : Ctx :=
  ⟨C.lt, C.eqi, C.T, C.fn, fun g args H => bif Nat.beq g f then (match s args with
    | some v => bif args.all plainV && plainV v then some (v, H) else none
    | none => none) else C.ext g args H⟩

theorem withLaw_fits {P : Program} {C : Ctx} (hC : Fits C P) (f : FuncId) (s : List Value → Option Value) : Fits (C.withLaw f s) P := ⟨hC.lt, hC.eqi, hC.types, hC.funcs, hC.mixed⟩

theorem PostOf.drop {base : Nat} {ι : Emb} {H H1 : Hp} {w : World} {v : Value} (hr : Rel base ι H w) (hp : plainV v = true) {base0 : Nat} : ∀ e w1, PostOf base0 ⟨fun _ => none, fun _ => 0⟩ ⟨.nl, 0, 0⟩ H1 w v e w1 → PostOf base ι H H w v e w1 := fun e w1 hq => by
  cases e with
  | returned v' =>
    obtain ⟨ι', g1, g2, g3⟩ := hq
    have hsame : ∀ b, b < w.heap.size → w1.heap[b]? = w.heap[b]? := fun b hb => g3.same b hb fun ⟨i, o, p, _, _, _, h4⟩ => by cases h4
    have := VR.plainV_eq hp g1
    subst this
    exact ⟨ι, VR.plainV hp, hr.later g3.size hsame, Step.later hr g3.size hsame ⟨g3.os, g3.tape, g3.output⟩⟩
  | panicked c => exact hq.elim
  | outgrown => exact hq.elim

theorem RunsAs.mono {P : Program} {base base' : Nat} {ι ι' : Emb} {H H1 H' H1' : Hp} {w : World} {v : Value} {s : Sem Next} (h : RunsAs P base ι H H1 w v s) (hp : ∀ e w1, PostOf base ι H H1 w v e w1 → PostOf base' ι' H' H1' w v e w1) : RunsAs P base' ι' H' H1' w v s := by
  obtain ⟨nx, w1, h1, h2⟩ := h
  refine ⟨nx, w1, h1, ?_⟩
  cases nx with
  | value v' => exact hp _ _ h2
  | skip => exact hp _ _ h2
  | enter f args => exact h2.mono hp
  | round l f tmps as body => exact h2.mono hp
  | _ => exact h2.elim

/-- **A LAW OF A FUNCTION**, out of its tree. -/
theorem withLaw_ok {P : Program} {C : Ctx} (hC : Fits C P) (hE : CallOk P (extCall C)) {f : FuncId} {s : List Value → Option Value} (d : Nat)
    (hs : ∀ args v, s args = some v → ∃ o H' o', (evFT C d (.func f) args ⟨.nl, 0, 0⟩ o).val = some ((v, H'), o')) : CallOk P (extCall (C.withLaw f s)) := by
  refine ⟨fun {g args H H' v} h {base ι w args'} hr ha => ?_, fun {l args H H' v} h => by cases h⟩
  replace h : (bif Nat.beq g f then (match s args with
    | some v => bif args.all plainV && plainV v then some (v, H) else none
    | none => none) else C.ext g args H) = some (v, H') := h
  cases hg : Nat.beq g f with
  | false => rw [hg, cond_false] at h; exact hE.func h hr ha
  | true =>
    rw [hg, cond_true] at h
    have := nbeq_eq hg; subst this
    clear hg
    split at h
    · rename_i u hu
      obtain ⟨hp, h⟩ := bif_some h
      cases h
      rw [Bool.and_eq_true] at hp
      obtain ⟨o, H1, o', hv⟩ := hs args _ hu
      have hev := evFT_ok C d _ _ _ _ _ _ hv
      have heq := VRs.plain_eq (fun _ _ => VR.plainV_eq) hp.1 ha
      exact ((evF_ok hC hE d).func hev (emptyRel w) (by rw [heq]; exact VRs.plain (fun _ => VR.plainV) hp.1)).mono (PostOf.drop hr hp.2)
    · cases h

/-- No given calls. -/
def noExt : FuncId → List Value → Hp → Option (Value × Hp) := fun _ _ _ => none
theorem noExt_ok {P : Program} {pure : FuncId → Bool} : CallOk P (extCall (mkCtx P pure noExt)) := ⟨(fun h => by cases h), (fun h => by cases h)⟩

/-- **A LAW's CALL, OUT OF ITS TREE.** -/
theorem law_tree {P : Program} {C : Ctx} (hC : Fits C P) (hE : CallOk P (extCall C)) {f : FuncId} {args : List Value} {v : Value} (d : Nat) (w : World) (ha : args.all plainV = true) (hp : plainV v = true) {a : AF} (haf : C.fn f = some a)
    (h : ∃ o H' o', (evFT C d (.func f) args ⟨.nl, 0, 0⟩ o).val = some ((v, H'), o')) : Calls P f args.toArray w fun e w' => e = .returned v ∧ Below w.heap.size w w' := by
  obtain ⟨o, H', o', h⟩ := h
  exact law_flat hC (evF_ok hC hE d) w ha hp haf (evFT_ok C d _ _ _ _ _ _ h)

/-- A tree's values, the heaps dropped. -/
def Tree.vals : Tree ((Value × Hp) × Orc) → Tree Value
  | .leaf (some p) => .leaf (some p.1.1)
  | .leaf none => .leaf none
  | .node b t f => .node b t.vals f.vals

theorem Tree.vals_some : ∀ (t : Tree ((Value × Hp) × Orc)) {v : Value}, t.vals.val = some v → ∃ H' o', t.val = some ((v, H'), o')
  | .leaf (some ((u, H), o)), v, h => by cases h; exact ⟨H, o, rfl⟩
  | .leaf none, v, h => by cases h
  | .node b t f, v, h => by
    cases b with
    | true => exact Tree.vals_some t h
    | false => exact Tree.vals_some f h

/-- The form in which 'withLaw_ok' and 'law_tree' want it. -/
theorem tree_says {C : Ctx} {d : Nat} {f : FuncId} {args : List Value} {H : Hp} {o : Orc} {t : Tree Value} {v : Value} (h : (evFT C d (.func f) args H o).vals = t) (hv : t.val = some v) : ∃ o H' o', (evFT C d (.func f) args H o).val = some ((v, H'), o') := by
  subst h
  obtain ⟨H', o', h⟩ := Tree.vals_some _ hv
  exact ⟨o, H', o', h⟩
end Go.Ahe
