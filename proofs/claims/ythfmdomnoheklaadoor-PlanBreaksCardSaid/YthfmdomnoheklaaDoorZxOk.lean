/-
  X, 4: what the second evaluator says, the first one says.
-/
import Derived.Test.YthfmdomnoheklaaDoorZxDraw
namespace Go.Ahe.X
open Go.Ahe

theorem Sub.get {e' : FE} {e : Env} (h : Sub e' e) {k : Nat} {v : Value} (hv : e'.get k = some v) : Nat.blt k e.size = true ∧ e.get k = v := by
  obtain ⟨h1, h2⟩ := h k v hv
  refine ⟨by simp [Nat.blt]; omega, ?_⟩
  unfold Env.get
  rw [h2]; rfl

theorem oV_ok {e' : FE} {e : Env} (h : Sub e' e) {x : Operand} {v : Value} (hv : oV e' x = some v) : opV e x = some v := by
  cases x with
  | tmp t =>
    obtain ⟨h1, h2⟩ := h.get (show e'.get t = some v from hv)
    simp only [opV, h1, cond_true, h2]
  | const c => exact hv
  | func f => exact hv
  | global g => cases hv

theorem oVs_ok {e' : FE} {e : Env} (h : Sub e' e) : ∀ {xs : List Operand} {vs : List Value}, oVs e' xs = some vs → opVs e xs = some vs
  | [], _, hv => hv
  | x :: xs, vs, hv => by
    simp only [oVs] at hv
    simp only [opVs]
    cases h1 : oV e' x with
    | none => rw [h1] at hv; cases hv
    | some v =>
      cases h2 : oVs e' xs with
      | none => rw [h1, h2] at hv; cases hv
      | some ws => rw [oV_ok h h1, oVs_ok h h2]; rw [h1, h2] at hv; exact hv

theorem oVo_ok {e' : FE} {e : Env} (h : Sub e' e) {x : Option Operand} {v : Option Value} (hv : oVo e' x = some v) : opVo e x = some v := by
  cases x with
  | none => exact hv
  | some x =>
    simp only [oVo, Option.map_eq_some_iff] at hv
    obtain ⟨u, h1, rfl⟩ := hv
    simp only [opVo, oV_ok h h1]; rfl

theorem parts_ok {e' : FE} {e : Env} (h : Sub e' e) : ∀ {xs : List (Nat × Operand)} {vs : List (Nat × Value)}, parts e' xs = some vs → partsE e xs = some vs
  | [], _, hv => hv
  | (i, x) :: xs, vs, hv => by
    simp only [parts] at hv
    simp only [partsE]
    cases h1 : oV e' x with
    | none => rw [h1] at hv; cases hv
    | some v =>
      cases h2 : parts e' xs with
      | none => rw [h1, h2] at hv; cases hv
      | some ws => rw [oV_ok h h1, parts_ok h h2]; rw [h1, h2] at hv; exact hv

/-- What an operation comes to, here and there. -/
def Res.out (H : Hp) : Res → O
  | .v x => match x with | some u => some (u, H) | none => none
  | .h x => x

theorem bind2 {α β : Type} {x : Option α} {f : α → Option β} {r : β} (h : x.bind f = some r) : ∃ a, x = some a ∧ f a = some r := Option.bind_eq_some_iff.1 h

theorem un_eq (x : Option Hp) : un x = match x with | some h => some (.tuple #[], h) | none => none := by cases x <;> rfl

theorem bltR_ok {C : Ctx} {b : Builtin} {ts : List TypeId} {args : List Value} {H : Hp} {p : Value × Hp} (h : (bltR C b ts args H).out H = some p) : builtinE C b ts args H = some p := by
  have key : ∀ {x : Option Value}, Res.out H (.v x) = some p → (x.map fun v => (v, H)) = some p := fun {x} hx => by
    cases x with
    | none => cases hx
    | some u => exact hx
  unfold bltR at h
  split at h
  · exact key h
  · exact key h
  · simp only [builtinE]; exact key h
  · simp only [builtinE]; exact key h
  · exact h

theorem opR_ok {C : Ctx} {call : CallE} {o : Op} {t : TypeId} {e' : FE} {e : Env} {H : Hp} (hs : Sub e' e) {p : Value × Hp} (h : (opR C call o e' H).out H = some p) : opE C call o t e H = some p := by
  have vfin : ∀ {x y : Option Value}, (∀ v, x = some v → y = some v) → (Res.out H (.v x)) = some p → (match y with | some v => some (v, H) | none => none) = some p := fun {x y} hxy hx => by
    cases x with
    | none => cases hx
    | some v => rw [hxy v rfl]; exact hx
  have ufin : ∀ {x y : Option Hp}, (∀ v, x = some v → y = some v) → un x = some p → (match y with | some h => some (Value.tuple #[], h) | none => none) = some p := fun {x y} hxy hx => by
    cases x with
    | none => cases hx
    | some v => rw [hxy v rfl]; exact hx
  cases o
  case move x => exact vfin (fun v => oV_ok hs) h
  case assign x => exact vfin (fun v => oV_ok hs) h
  case pick c a b =>
    have he : opE C call (.pick c a b) t e H = match opV e c with
      | some (.bool true) => (match opV e a with | some v => some (v, H) | none => none)
      | some (.bool false) => (match opV e b with | some v => some (v, H) | none => none)
      | _ => none := rfl
    rw [he]
    simp only [opR] at h
    cases hc : oV e' c with
    | none => rw [hc] at h; cases h
    | some u =>
      rw [hc] at h
      rw [oV_ok hs hc]
      cases u with
      | bool b => cases b with
        | true => exact vfin (fun v => oV_ok hs) h
        | false => exact vfin (fun v => oV_ok hs) h
      | _ => cases h
  case alloc ty => exact h
  case box ty x =>
    obtain ⟨v, h1, h2⟩ := bind2 h
    show (opV e x).bind _ = _
    rw [oV_ok hs h1]; exact h2
  case build ty ps => exact vfin (fun v hv => by obtain ⟨u, h1, h2⟩ := bind2 hv; rw [parts_ok hs h1]; exact h2) h
  case buildSlice ty n ps =>
    obtain ⟨v, h1, h2⟩ := bind2 h
    show (partsE e ps.toList).bind _ = _
    rw [parts_ok hs h1]; exact h2
  case load ty a => exact vfin (fun v hv => by obtain ⟨u, h1, h2⟩ := bind2 hv; rw [oV_ok hs h1]; exact h2) h
  case store ty a x => exact ufin (fun v hv => by
    obtain ⟨u, h1, h2⟩ := bind2 hv
    obtain ⟨w, h3, h4⟩ := bind2 h2
    rw [oV_ok hs h1, Option.bind_some, oV_ok hs h3]; exact h4) h
  case nilCheck x => exact vfin (fun v hv => by obtain ⟨u, h1, h2⟩ := bind2 hv; rw [oV_ok hs h1]; exact h2) h
  case binOp op ty x y ty2 => exact vfin (fun v hv => by
    obtain ⟨u, h1, h2⟩ := bind2 hv
    obtain ⟨w, h3, h4⟩ := bind2 h2
    rw [oV_ok hs h1, Option.bind_some, oV_ok hs h3]; exact h4) h
  case unOp op ty x => exact vfin (fun v hv => by obtain ⟨u, h1, h2⟩ := bind2 hv; rw [oV_ok hs h1]; exact h2) h
  case convert s d x => exact vfin (fun v hv => by obtain ⟨u, h1, h2⟩ := bind2 hv; rw [oV_ok hs h1]; exact h2) h
  case makeFunc fn first cap => exact vfin (fun v hv => by
    obtain ⟨u, h1, h2⟩ := bind2 hv
    obtain ⟨w, h3, h4⟩ := bind2 h2
    rw [oVs_ok hs h1, Option.bind_some, oVs_ok hs h3]; exact h4) h
  case makeMap ty r =>
    obtain ⟨v, h1, h2⟩ := bind2 h
    show (opVo e r).bind _ = _
    rw [oVo_ok hs h1]; exact h2
  case makeSlice ty l c =>
    obtain ⟨v, h1, h2⟩ := bind2 h
    obtain ⟨w, h3, h4⟩ := bind2 h2
    show (opV e l).bind _ = _
    rw [oV_ok hs h1, Option.bind_some, oV_ok hs h3]; exact h4
  case slice ty x lo hi mx => exact vfin (fun v hv => by
    obtain ⟨u, h1, h2⟩ := bind2 hv
    obtain ⟨w, h3, h4⟩ := bind2 h2
    obtain ⟨w2, h5, h6⟩ := bind2 h4
    obtain ⟨w3, h7, h8⟩ := bind2 h6
    rw [oV_ok hs h1, Option.bind_some, oVo_ok hs h3, Option.bind_some, oVo_ok hs h5, Option.bind_some, oVo_ok hs h7]; exact h8) h
  case fieldAddr ty x f => exact vfin (fun v hv => by obtain ⟨u, h1, h2⟩ := bind2 hv; rw [oV_ok hs h1]; exact h2) h
  case field ty x f => exact vfin (fun v hv => by obtain ⟨u, h1, h2⟩ := bind2 hv; rw [oV_ok hs h1]; exact h2) h
  case indexAddr ty x y => exact vfin (fun v hv => by
    obtain ⟨u, h1, h2⟩ := bind2 hv
    obtain ⟨w, h3, h4⟩ := bind2 h2
    rw [oV_ok hs h1, Option.bind_some, oV_ok hs h3]; exact h4) h
  case index ty x y => exact vfin (fun v hv => by
    obtain ⟨u, h1, h2⟩ := bind2 hv
    obtain ⟨w, h3, h4⟩ := bind2 h2
    rw [oV_ok hs h1, Option.bind_some, oV_ok hs h3]; exact h4) h
  case lookup ty x y ok => exact vfin (fun v hv => by
    obtain ⟨u, h1, h2⟩ := bind2 hv
    obtain ⟨w, h3, h4⟩ := bind2 h2
    rw [oV_ok hs h1, Option.bind_some, oV_ok hs h3]; exact h4) h
  case mapUpdate ty m k x => exact ufin (fun v hv => by
    obtain ⟨u, h1, h2⟩ := bind2 hv
    obtain ⟨w, h3, h4⟩ := bind2 h2
    obtain ⟨w2, h5, h6⟩ := bind2 h4
    rw [oV_ok hs h1, Option.bind_some, oV_ok hs h3, Option.bind_some, oV_ok hs h5]; exact h6) h
  case insert ty m k x => exact ufin (fun v hv => by
    obtain ⟨u, h1, h2⟩ := bind2 hv
    obtain ⟨w, h3, h4⟩ := bind2 h2
    obtain ⟨w2, h5, h6⟩ := bind2 h4
    rw [oV_ok hs h1, Option.bind_some, oV_ok hs h3, Option.bind_some, oV_ok hs h5]; exact h6) h
  case mapEntry ty m k =>
    obtain ⟨v, h1, h2⟩ := bind2 h
    obtain ⟨w, h3, h4⟩ := bind2 h2
    show (opV e m).bind _ = _
    rw [oV_ok hs h1, Option.bind_some, oV_ok hs h3]; exact h4
  case entryStore ty m k x => exact ufin (fun v hv => by
    obtain ⟨u, h1, h2⟩ := bind2 hv
    obtain ⟨w, h3, h4⟩ := bind2 h2
    obtain ⟨w2, h5, h6⟩ := bind2 h4
    rw [oV_ok hs h1, Option.bind_some, oV_ok hs h3, Option.bind_some, oV_ok hs h5]; exact h6) h
  case range ty x =>
    obtain ⟨v, h1, h2⟩ := bind2 h
    show (opV e x).bind _ = _
    rw [oV_ok hs h1]; exact h2
  case next it b =>
    cases b with
    | true => cases h
    | false =>
      obtain ⟨v, h1, h2⟩ := bind2 h
      show (opV e it).bind _ = _
      rw [oV_ok hs h1]; exact h2
  case entry x => exact vfin (fun v hv => by obtain ⟨u, h1, h2⟩ := bind2 hv; rw [oV_ok hs h1]; exact h2) h
  case extract x k => exact vfin (fun v hv => by obtain ⟨u, h1, h2⟩ := bind2 hv; rw [oV_ok hs h1]; exact h2) h
  case call c =>
    obtain ⟨callee, args, ats⟩ := c
    rw [opE_call]
    simp only [opR] at h
    cases hv : oVs e' args.toList with
    | none => rw [hv] at h; cases h
    | some vs =>
      rw [hv] at h
      simp only at h ⊢
      rw [oVs_ok hs hv, Option.bind_some]
      cases callee with
      | builtin b => exact bltR_ok h
      | value f =>
        obtain ⟨fv, h1, h2⟩ := bind2 h
        simp only
        rw [oV_ok hs h1]; exact h2
      | invoke a b => cases h
  all_goals cases h

theorem Sub.set {e' : FE} {e : Env} (h : Sub e' e) {t : Nat} (ht : t < e.size) (v : Value) : Sub (e'.set t v) ⟨e.size, e.t.set t v⟩ := fun k u hk => by
  rw [Tr.get_set] at hk
  show k < e.size ∧ (e.t.set t v).get k = some u
  rw [Tr.get_set]
  by_cases hkt : k = t
  · rw [if_pos hkt] at hk; rw [if_pos hkt]; exact ⟨hkt ▸ ht, hk⟩
  · rw [if_neg hkt] at hk; rw [if_neg hkt]; exact h k u hk

theorem putK_ok {n : Nat} {d : Option Tmp} {v : Value} {e' : FE} {e : Env} (hs : Sub e' e) (hn : e.size = n) {k : FE → O} {r : Value × Hp} (h : putK n d v e' k = some r) :
    ∃ e1' e1, e.put d v = some e1 ∧ Sub e1' e1 ∧ e1.size = n ∧ k e1' = some r := by
  cases d with
  | none => exact ⟨e', e, rfl, hs, hn, h⟩
  | some t =>
    simp only [putK] at h
    obtain ⟨h1, h2⟩ := bif_some h
    have hlt := nblt_lt h1
    rw [← hn] at hlt
    exact ⟨_, _, by simp only [Env.put, Env.set]; rw [hn, h1, cond_true, ← hn], hs.set hlt v, hn, h2⟩

theorem wantV_ok {ops : Array Oper} {o : Oper} {j : Nat} {w : Bool} (hg : o.guard = some (j, w)) {t : Tmp} (ht : (ops[j]?).bind (·.dst) = some t) {e' : FE} {e : Env} (hs : Sub e' e) {c : Value} (hc : e'.get t = some c) : wantE ops o e = wantV c w := by
  unfold wantE wantV
  rw [hg]
  simp only
  rw [ht]
  simp only
  obtain ⟨h1, h2⟩ := hs.get hc
  rw [h1, cond_true, h2]
  cases c <;> rfl

/-- **A STEP.** -/
theorem stepG_ok {C : Ctx} {n : Nat} {ops : Array Oper} {o : Oper} {e' : FE} {e : Env} {H : Hp} (hs : Sub e' e) (hn : e.size = n) {k : Bool → Value → Hp → FE → O} {r : Value × Hp} (h : stepG C (ev C) n ops o e' H k = some r) :
    ∃ d e1' e1 H1 v, opStep C (evF C d) o e H (wantE ops o e) = some (e1, H1) ∧ Sub e1' e1 ∧ e1.size = n ∧ (wantE ops o e = true → opE C (evF C d) o.op o.type e H = some (v, H1)) ∧ k (wantE ops o e) v H1 e1' = some r := by
  -- the value, and where it is put
  have fin : ∀ {p : Value × Hp} {w : Bool}, wantE ops o e = w → (w = true → opE C (ev C) o.op o.type e H = some p) → (w = false → p = (.tuple #[], H)) → (putK n o.dst p.1 e' fun e' => k w p.1 p.2 e') = some r →
      ∃ d e1' e1 H1 v, opStep C (evF C d) o e H (wantE ops o e) = some (e1, H1) ∧ Sub e1' e1 ∧ e1.size = n ∧ (wantE ops o e = true → opE C (evF C d) o.op o.type e H = some (v, H1)) ∧ k (wantE ops o e) v H1 e1' = some r := fun {p w} hw ht hf hp => by
    obtain ⟨e1', e1, h1, h2, h3, h4⟩ := putK_ok hs hn hp
    rw [hw]
    cases w with
    | false =>
      have := hf rfl
      subst this
      exact ⟨0, e1', e1, H, _, by simp only [opStep, putE]; rw [h1], h2, h3, (fun h => by cases h), h4⟩
    | true =>
      have ho := ht rfl
      -- some depth will do
      have hd : ∃ d, opE C (evF C d) o.op o.type e H = some p := by
        by_cases hcx : ∃ x, o.op = .call x
        · obtain ⟨x, hcx⟩ := hcx
          rw [hcx, opE_call] at ho
          rw [hcx]
          simp only [opE_call]
          obtain ⟨vs, g1, g2⟩ := bind2 ho
          obtain ⟨callee, args, ats⟩ := x
          simp only at g1 g2 ⊢
          rw [g1]
          simp only [Option.bind_some]
          cases callee with
          | builtin b => exact ⟨0, g2⟩
          | invoke a b => cases g2
          | value f =>
            obtain ⟨fv, g3, g4⟩ := bind2 g2
            obtain ⟨q, g5, g6⟩ := bind2 g4
            obtain ⟨d, g7⟩ := ev_iff.1 g6
            exact ⟨d, by simp only [g3, Option.bind_some, g5]; exact g7⟩
        · exact ⟨0, by rw [← opE_noCall (fun x hx => hcx ⟨x, hx⟩)]; rw [← opE_noCall (fun x hx => hcx ⟨x, hx⟩)] at ho; exact ho⟩
      obtain ⟨d, hd⟩ := hd
      exact ⟨d, e1', e1, p.2, p.1, by simp only [opStep]; rw [hd, Option.bind_some]; simp only [putE]; rw [h1], h2, h3, fun _ => hd, h4⟩
  unfold stepG at h
  cases hg : o.guard with
  | none =>
    rw [hg] at h
    simp only at h
    have hw : wantE ops o e = true := by unfold wantE; rw [hg]
    have hR := fun p => opR_ok (C := C) (call := ev C) (o := o.op) (t := o.type) (H := H) hs (p := p)
    cases hx : opR C (ev C) o.op e' H with
    | v x =>
      rw [hx] at h hR
      obtain ⟨v, h1, h2⟩ := bind2 h
      exact fin (p := (v, H)) hw (fun _ => hR _ (by rw [h1]; rfl)) (fun h => by cases h) h2
    | h x =>
      rw [hx] at h hR
      obtain ⟨p, h1, h2⟩ := bind2 h
      exact fin (p := p) hw (fun _ => hR _ h1) (fun h => by cases h) h2
  | some jw =>
    obtain ⟨j, w⟩ := jw
    rw [hg] at h
    simp only at h
    cases ht : (ops[j]?).bind (·.dst) with
    | none => rw [ht] at h; cases h
    | some t =>
      rw [ht] at h
      simp only at h
      obtain ⟨c, hc, h⟩ := bind2 h
      have hw := wantV_ok hg ht hs hc
      have hR := fun p => opR_ok (C := C) (call := ev C) (o := o.op) (t := o.type) (H := H) hs (p := p)
      cases hx : opR C (ev C) o.op e' H with
      | v x =>
        rw [hx] at h hR
        obtain ⟨v, h1, h2⟩ := bind2 h
        unfold gd at h1
        cases hwv : wantV c w with
        | true => rw [hwv, cond_true] at h1; rw [hwv] at h2; exact fin (p := (v, H)) (hw.trans hwv) (fun _ => hR _ (by rw [h1]; rfl)) (fun h => by cases h) h2
        | false => rw [hwv, cond_false] at h1; cases h1; rw [hwv] at h2; exact fin (p := (.tuple #[], H)) (hw.trans hwv) (fun h => by cases h) (fun _ => rfl) h2
      | h x =>
        rw [hx] at h hR
        obtain ⟨p, h1, h2⟩ := bind2 h
        unfold gh at h1
        cases hwv : wantV c w with
        | true => rw [hwv, cond_true] at h1; rw [hwv] at h2; exact fin (p := p) (hw.trans hwv) (fun _ => hR _ h1) (fun h => by cases h) h2
        | false => rw [hwv, cond_false] at h1; cases h1; rw [hwv] at h2; exact fin (p := (.tuple #[], H)) (hw.trans hwv) (fun h => by cases h) (fun _ => rfl) h2

theorem opStep_more {C : Ctx} {d d' : Nat} (h : d ≤ d') {o : Oper} {e : Env} {H : Hp} {w : Bool} {p : Env × Hp} (hs : opStep C (evF C d) o e H w = some p) : opStep C (evF C d') o e H w = some p := by
  cases w with
  | false => exact hs
  | true =>
    simp only [opStep] at hs ⊢
    obtain ⟨q, h1, h2⟩ := bind2 hs
    rw [opE_mono (evF_more C h) h1]; exact h2

theorem opsX_ok {C : Ctx} {n : Nat} {ops : Array Oper} : ∀ (l : List Oper) {e' : FE} {e : Env} {H : Hp}, Sub e' e → e.size = n → ∀ {k : FE → Hp → O} {r : Value × Hp}, opsX C (ev C) n ops l e' H k = some r →
    ∃ d e1' e1 H1, (∀ d', d ≤ d' → opsE C (evF C d') ops l e H = some (e1, H1)) ∧ Sub e1' e1 ∧ e1.size = n ∧ k e1' H1 = some r
  | [], e', e, H, hs, hn, k, r, h => ⟨0, e', e, H, fun _ _ => rfl, hs, hn, h⟩
  | o :: l, e', e, H, hs, hn, k, r, h => by
    obtain ⟨d1, e1', e1, H1, _, h1, h2, h3, _, h4⟩ := stepG_ok hs hn h
    obtain ⟨d2, e2', e2, H2, g1, g2, g3, g4⟩ := opsX_ok l h2 h3 h4
    refine ⟨max d1 d2, e2', e2, H2, fun d' hd => ?_, g2, g3, g4⟩
    rw [opsE_step, opStep_more (by omega) h1, Option.bind_some]
    exact g1 d' (by omega)

/-! ### Regions that draw their order -/
inductive SeenR : List SX → List Seen → Prop where
  | nil : SeenR [] []
  | yes {x : SX} {s : Seen} {l : List SX} {m : List Seen} : x.g = true → s.at_ = x.at_ → s.op = x.op → Sub x.env s.env → s.val = x.val → readerOp x.op.op = true → SeenR l m → SeenR (x :: l) (s :: m)
  | no {x : SX} {l : List SX} {m : List Seen} : x.g = false → SeenR l m → SeenR (x :: l) m
inductive WsR : List (Nat × Hp × Bool) → List (Nat × Hp) → Prop where
  | nil : WsR [] []
  | yes {i : Nat} {H : Hp} {l : List (Nat × Hp × Bool)} {m : List (Nat × Hp)} : WsR l m → WsR ((i, H, true) :: l) ((i, H) :: m)
  | no {i : Nat} {H : Hp} {l : List (Nat × Hp × Bool)} {m : List (Nat × Hp)} : WsR l m → WsR ((i, H, false) :: l) m

theorem ck_ok {g : Bool} {x : Option Value} {v : Value} {k : O} {r : Value × Hp} (h : ck g x v k = some r) : k = some r ∧ (g = true → same x v = true) := by
  unfold ck at h
  obtain ⟨h1, h2⟩ := bif_some h
  refine ⟨h2, fun hg => ?_⟩
  rw [hg] at h1
  simpa using h1

theorem res_read {C : Ctx} {call : CallE} {o : Op} {t : TypeId} {e' : FE} {e : Env} {H : Hp} (hs : Sub e' e) {v : Value} (h : (opR C noCall o e' H).val = some v) (hr : readerOp o = true) : ∃ H', opE C call o t e H = some (v, H') := by
  have hn : opE C call o t e H = opE C noCall o t e H ∨ ∃ c, o = .call c := by
    by_cases hc : ∃ c, o = .call c
    · exact .inr hc
    · exact .inl (opE_noCall fun c h => hc ⟨c, h⟩).symm
  have main : ∃ H', opE C noCall o t e H = some (v, H') := by
    cases hx : opR C noCall o e' H with
    | v x =>
      rw [hx] at h
      simp only [Res.val] at h
      subst h
      exact ⟨H, opR_ok hs (by rw [hx]; rfl)⟩
    | h x =>
      rw [hx] at h
      simp only [Res.val] at h
      rw [Option.map_eq_some_iff] at h
      obtain ⟨p, h1, h2⟩ := h
      subst h2
      exact ⟨p.2, opR_ok hs (by rw [hx, h1]; rfl)⟩
  rcases hn with hn | ⟨c, rfl⟩
  · rw [hn]; exact main
  · obtain ⟨callee, args, ats⟩ := c
    cases callee with
    | builtin b =>
      obtain ⟨H', h'⟩ := main
      exact ⟨H', by rw [opE_call] at h' ⊢; exact h'⟩
    | value f => cases hr
    | invoke a b => cases hr

theorem still_ok {C : Ctx} {call : CallE} {ms : List Nat} {i : Nat} {H : Hp} {k : O} {r : Value × Hp} : ∀ {l : List SX} {m : List Seen}, SeenR l m → stillK C ms i true H k l = some r → k = some r ∧ stillSame C call ms i H m = true
  | [], m, hs, h => by cases hs; exact ⟨h, rfl⟩
  | x :: l, m, hs, h => by
    simp only [stillK] at h
    cases hs with
    | yes g1 g2 g3 g4 g5 g6 g7 =>
      rename_i s m
      simp only [stillSame, Bool.and_eq_true, Bool.or_eq_true]
      cases ho : ordB ms i x.at_ with
      | true =>
        rw [ho] at h
        obtain ⟨k1, k2⟩ := still_ok (call := call) g7 h
        exact ⟨k1, .inl (by rw [g2]; exact ho), k2⟩
      | false =>
        rw [ho] at h
        obtain ⟨h1, h2⟩ := ck_ok h
        obtain ⟨k1, k2⟩ := still_ok (call := call) g7 h1
        refine ⟨k1, .inr ?_, k2⟩
        have h3 := h2 (by rw [g1]; rfl)
        cases hv : (opR C noCall x.op.op x.env H).val with
        | none => rw [hv] at h3; cases h3
        | some u =>
          rw [hv] at h3
          obtain ⟨H', h4⟩ := res_read (call := call) (t := x.op.type) g4 hv g6
          rw [g3, h4, g5]
          exact h3
    | no g1 g2 =>
      cases ho : ordB ms i x.at_ with
      | true => rw [ho] at h; exact still_ok g2 h
      | false => rw [ho] at h; exact still_ok g2 (ck_ok h).1
theorem still_k {C : Ctx} {ms : List Nat} {i : Nat} {g : Bool} {H : Hp} {k : O} {r : Value × Hp} : ∀ {l : List SX}, stillK C ms i g H k l = some r → k = some r
  | [], h => h
  | x :: l, h => by
    simp only [stillK] at h
    cases ho : ordB ms i x.at_ with
    | true => rw [ho] at h; exact still_k h
    | false => rw [ho] at h; exact still_k (ck_ok h).1
theorem was_ok {C : Ctx} {call : CallE} {ms : List Nat} {j : Nat} {o : Oper} {e' : FE} {e : Env} (hs : Sub e' e) (hr : readerOp o.op = true) {v : Value} {k : O} {r : Value × Hp} : ∀ {l : List (Nat × Hp × Bool)} {m : List (Nat × Hp)}, WsR l m → wasK C ms j o e' v true k l = some r → k = some r ∧ wasSame C call ms j o e v m = true
  | [], m, hw, h => by cases hw; exact ⟨h, rfl⟩
  | (i, H, g) :: l, m, hw, h => by
    simp only [wasK] at h
    cases hw with
    | yes g1 =>
      rename_i m
      simp only [wasSame, Bool.and_eq_true, Bool.or_eq_true]
      cases ho : ordB ms i j with
      | true =>
        rw [ho] at h
        obtain ⟨k1, k2⟩ := was_ok (call := call) hs hr g1 h
        exact ⟨k1, .inl rfl, k2⟩
      | false =>
        rw [ho] at h
        obtain ⟨h1, h2⟩ := ck_ok h
        obtain ⟨k1, k2⟩ := was_ok (call := call) hs hr g1 h1
        refine ⟨k1, .inr ?_, k2⟩
        have h3 := h2 rfl
        cases hv : (opR C noCall o.op e' H).val with
        | none => rw [hv] at h3; cases h3
        | some u =>
          rw [hv] at h3
          obtain ⟨H', h4⟩ := res_read (call := call) (t := o.type) hs hv hr
          rw [h4]
          exact h3
    | no g1 =>
      cases ho : ordB ms i j with
      | true => rw [ho] at h; exact was_ok hs hr g1 h
      | false => rw [ho] at h; exact was_ok hs hr g1 (ck_ok h).1
theorem was_k {C : Ctx} {ms : List Nat} {j : Nat} {o : Oper} {e' : FE} {v : Value} {g : Bool} {k : O} {r : Value × Hp} : ∀ {l : List (Nat × Hp × Bool)}, wasK C ms j o e' v g k l = some r → k = some r
  | [], h => h
  | (i, H, g) :: l, h => by
    simp only [wasK] at h
    cases ho : ordB ms i j with
    | true => rw [ho] at h; exact was_k h
    | false => rw [ho] at h; exact was_k (ck_ok h).1

theorem opE_more {C : Ctx} {d d' : Nat} (h : d ≤ d') {o : Op} {t : TypeId} {e : Env} {H : Hp} {p : Value × Hp} (hs : opE C (evF C d) o t e H = some p) : opE C (evF C d') o t e H = some p := opE_mono (evF_more C h) hs

theorem opsY_ok {C : Ctx} (hx : NoExt C) {n : Nat} {ops : Array Oper} {ms : List Nat} (hk : kindsOk C ms ops.toList ops.toList 0 = true) : ∀ (l : List Oper) (i : Nat), (∀ j, l[j]? = ops.toList[i + j]?) →
    ∀ {e' : FE} {s : DS} {seen : List SX} {ws : List (Nat × Hp × Bool)}, Sub e' s.env → s.env.size = n → SeenR seen s.seen → WsR ws s.ws → ∀ {k : FE → Hp → O} {r : Value × Hp}, opsY C (ev C) n ops ms l i e' s.hp seen ws k = some r →
    ∃ (d : Nat) (e1' : FE) (s1 : DS), (∀ d', d ≤ d' → runD C (evF C d') ops ms l i s = some s1) ∧ Sub e1' s1.env ∧ s1.env.size = n ∧ k e1' s1.hp = some r
  | [], i, _, e', s, seen, ws, hs, hn, _, _, k, r, h => ⟨0, e', s, fun _ _ => rfl, hs, hn, h⟩
  | o :: l, i, hl, e', s, seen, ws, hs, hn, hse, hws, k, r, h => by
    have hi : ops.toList[i]? = some o := by have := hl 0; simp at this; simp [← this]
    have hl' : ∀ j, l[j]? = ops.toList[i + 1 + j]? := fun j => by
      have := hl (j + 1)
      rw [show i + 1 + j = i + (j + 1) by omega]; simpa using this
    have hko := kindsOk_ok hk i o hi
    rw [Nat.zero_add] at hko
    simp only [opsY] at h
    obtain ⟨d1, e1', e1, H1, v, h1, h2, h3, h4, h5⟩ := stepG_ok hs hn h
    -- what the checks say
    have main : ∃ seen' ws', (∀ d', d1 ≤ d' → ∃ s', stepW C (evF C d') ops ms i o s (wantE ops o s.env) = some s' ∧ s'.env = e1 ∧ s'.hp = H1 ∧ SeenR seen' s'.seen ∧ WsR ws' s'.ws) ∧ opsY C (ev C) n ops ms l (i + 1) e1' H1 seen' ws' k = some r := by
      cases hw : wantE ops o s.env with
      | false =>
        rw [hw] at h1 h5
        have hend : ∀ seen' ws', SeenR seen' s.seen → WsR ws' s.ws → opsY C (ev C) n ops ms l (i + 1) e1' H1 seen' ws' k = some r → ∃ seen' ws', (∀ d', d1 ≤ d' → ∃ s', stepW C (evF C d') ops ms i o s false = some s' ∧ s'.env = e1 ∧ s'.hp = H1 ∧ SeenR seen' s'.seen ∧ WsR ws' s'.ws) ∧ opsY C (ev C) n ops ms l (i + 1) e1' H1 seen' ws' k = some r := fun seen' ws' g1 g2 g3 =>
          ⟨seen', ws', fun d' hd => by
            obtain ⟨s', k1, k2, k3, k4, _⟩ := draw_step hx (d := d') hko (s := s) (w := false) (opStep_more hd h1) (fun h => by cases h) (fun h => by cases h)
            obtain ⟨k5, k6⟩ := k4 rfl
            exact ⟨s', k1, k2, k3, by rw [k5]; exact g1, by rw [k6]; exact g2⟩, g3⟩
        unfold aftY at h5
        cases hW : isW C ms ops.toList i o with
        | true => rw [hW] at h5; exact hend _ _ hse (.no hws) (still_k h5)
        | false =>
          rw [hW] at h5
          simp only at h5
          cases hro : readerOp o.op with
          | true => rw [hro] at h5; exact hend _ _ (.no rfl hse) hws (was_k h5)
          | false => rw [hro] at h5; exact hend _ _ hse hws h5
      | true =>
        rw [hw] at h1 h5
        have ho := h4 hw
        unfold aftY at h5
        cases hW : isW C ms ops.toList i o with
        | true =>
          rw [hW] at h5
          have hst := fun d' => still_ok (call := evF C d') hse h5
          refine ⟨_, _, fun d' hd => ?_, (hst d1).1⟩
          obtain ⟨s', k1, k2, k3, _, k4, _⟩ := draw_step hx (d := d') hko (s := s) (w := true) (opStep_more hd h1) (fun _ _ => (hst d').2) (fun _ h => by rw [hW] at h; cases h)
          obtain ⟨k5, k6⟩ := k4 rfl hW
          exact ⟨s', k1, k2, k3, by rw [k5]; exact hse, by rw [k6]; exact .yes hws⟩
        | false =>
          rw [hW] at h5
          simp only at h5
          cases hro : readerOp o.op with
          | true =>
            rw [hro] at h5
            have hwa := fun d' => was_ok (call := evF C d') hs hro hws h5
            refine ⟨_, _, fun d' hd => ?_, (hwa d1).1⟩
            have ho' := opE_more hd ho
            obtain ⟨s', k1, k2, k3, _, _, k4⟩ := draw_step hx (d := d') hko (s := s) (w := true) (opStep_more hd h1) (fun _ h => by rw [hW] at h; cases h) (fun _ _ _ u hu => by rw [ho'] at hu; cases hu; exact (hwa d').2)
            obtain ⟨k5, _, k6⟩ := k4 rfl hW
            exact ⟨s', k1, k2, k3, by rw [k6 hro v ho']; exact .yes rfl rfl rfl hs rfl hro hse, by rw [k5]; exact hws⟩
          | false =>
            rw [hro] at h5
            refine ⟨_, _, fun d' hd => ?_, h5⟩
            obtain ⟨s', k1, k2, k3, _, _, k4⟩ := draw_step hx (d := d') hko (s := s) (w := true) (opStep_more hd h1) (fun _ h => by rw [hW] at h; cases h) (fun _ _ h => by rw [hro] at h; cases h)
            obtain ⟨k5, k6, _⟩ := k4 rfl hW
            exact ⟨s', k1, k2, k3, by rw [k6 hro]; exact hse, by rw [k5]; exact hws⟩
    obtain ⟨seen', ws', m1, m2⟩ := main
    -- one state for all depths will do for the rest
    obtain ⟨s', n1, n2, n3, n4, n5⟩ := m1 d1 (Nat.le_refl _)
    subst n2 n3
    obtain ⟨d2, e2', s2, g1, g2, g3, g4⟩ := opsY_ok hx hk l (i + 1) hl' h2 h3 n4 n5 m2
    refine ⟨max d1 d2, e2', s2, fun d' hd => ?_, g2, g3, g4⟩
    rw [runD_step, stepW_mono (evF_more C (show d1 ≤ d' by omega)) n1, Option.bind_some]
    exact g1 d' (by omega)

/-- **WHAT THE SECOND EVALUATOR SAYS, THE FIRST ONE SAYS.** -/
theorem evX_ok {C : Ctx} (hx : NoExt C) {n : Nat} (c : Code) : ∀ (lt : LT C n c), OrOk C n c (evX C (ev C) n c lt) := by
  induction c with
  | skip => exact fun lt e' e H K r hs hn h => ⟨0, .nx e H, .nx e' H, fun _ _ => rfl, ⟨hs, hn, rfl⟩, h⟩
  | region id ops draw =>
    intro lt e' e H K r hs hn h
    cases draw with
    | false =>
      obtain ⟨d, e1', e1, H1, h1, h2, h3, h4⟩ := opsX_ok ops.toList hs hn (show opsX C (ev C) n ops ops.toList e' H (fun e' H' => K (.nx e' H')) = some r from h)
      refine ⟨d, .nx e1 H1, .nx e1' H1, fun d' hd => ?_, ⟨h2, h3, rfl⟩, h4⟩
      show (match opsE C (evF C d') ops ops.toList e H with
          | some (e', H') => some (Rs.nx e' H')
          | none => none) = _
      rw [h1 d' hd]
    | true =>
      obtain ⟨hd, h⟩ := bif_some (show (bif drawOk C ops.toList then opsY C (ev C) n ops (masks ops.toList []) ops.toList 0 e' H [] [] (fun e' H' => K (.nx e' H')) else none) = some r from h)
      unfold drawOk at hd
      rw [Bool.and_eq_true] at hd
      obtain ⟨d, e1', s1, h1, h2, h3, h4⟩ := opsY_ok hx hd.2 ops.toList 0 (fun j => by rw [Nat.zero_add]) (s := ⟨e, H, [], [], .tuple #[]⟩) hs hn .nil .nil h
      refine ⟨d, .nx s1.env s1.hp, .nx e1' s1.hp, fun d' hd' => ?_, ⟨h2, h3, rfl⟩, h4⟩
      show (match opsD C (evF C d') ops e H with
          | some (e', H') => some (Rs.nx e' H')
          | none => none) = _
      unfold opsD
      rw [hd.1]
      simp only [h1 d' hd']
  | seq a b ha hb =>
    intro lt e' e H K r hs hn h
    have h : evX C (ev C) n a lt.l e' H (fun r => match r with
      | .nx e' H' => (match lt.r.o with
        | some F => F.F e' H' K
        | none => evX C (ev C) n b lt.r e' H' K)
      | .ex j e' H' => K (.ex j e' H')
      | .rt e' H' => K (.rt e' H')) = some r := h
    obtain ⟨d, r0, r0', h1, h2, h3⟩ := ha lt.l e' e H _ r hs hn h
    have hse : ∀ d', evC C (evF C d') (.seq a b) e H = Rs.then (evC C (evF C d') b) (evC C (evF C d') a e H) := fun _ => rfl
    cases r0' with
    | nx e1' H1' =>
      cases r0 with
      | nx e1 H1 =>
        obtain ⟨g1, g2, rfl⟩ := h2
        have hb' : ∃ d r0 r0', (∀ d', d ≤ d' → evC C (evF C d') b e1 H1' = some r0) ∧ SubR n r0' r0 ∧ K r0' = some r := by
          cases ho : lt.r.o with
          | none =>
            simp only [ho] at h3
            exact hb lt.r e1' e1 H1' K r g1 g2 h3
          | some F =>
            simp only [ho] at h3
            exact F.ok e1' e1 H1' K r g1 g2 h3
        obtain ⟨d2, r2, r2', k1, k2, k3⟩ := hb'
        refine ⟨max d d2, r2, r2', fun d' hd => ?_, k2, k3⟩
        rw [hse, h1 d' (by omega)]
        exact k1 d' (by omega)
      | ex => exact h2.elim
      | rt => exact h2.elim
    | ex j e1' H1' =>
      cases r0 with
      | ex i e1 H1 => exact ⟨d, _, _, fun d' hd => by rw [hse, h1 d' hd]; rfl, h2, h3⟩
      | nx => exact h2.elim
      | rt => exact h2.elim
    | rt e1' H1' =>
      cases r0 with
      | rt e1 H1 => exact ⟨d, _, _, fun d' hd => by rw [hse, h1 d' hd]; rfl, h2, h3⟩
      | nx => exact h2.elim
      | ex => exact h2.elim
  | cond x a b ha hb =>
    intro lt e' e H K r hs hn h
    have h : ((oV e' x).bind fun c => (asB c).bind fun t => bif t then evX C (ev C) n a lt.l e' H K else evX C (ev C) n b lt.r e' H K) = some r := h
    obtain ⟨c, h1, h⟩ := bind2 h
    obtain ⟨t, h2, h⟩ := bind2 h
    have hc : c = .bool t := by
      cases c <;> simp [asB] at h2
      rw [h2]
    subst hc
    have hse : ∀ d', evC C (evF C d') (.cond x a b) e H = match opV e x with
      | some (.bool true) => evC C (evF C d') a e H
      | some (.bool false) => evC C (evF C d') b e H
      | _ => none := fun _ => rfl
    cases t with
    | true =>
      obtain ⟨d, r0, r0', k1, k2, k3⟩ := ha lt.l e' e H K r hs hn h
      exact ⟨d, r0, r0', fun d' hd => by rw [hse, oV_ok hs h1]; exact k1 d' hd, k2, k3⟩
    | false =>
      obtain ⟨d, r0, r0', k1, k2, k3⟩ := hb lt.r e' e H K r hs hn h
      exact ⟨d, r0, r0', fun d' hd => by rw [hse, oV_ok hs h1]; exact k1 d' hd, k2, k3⟩
  | block id b hb =>
    intro lt e' e H K r hs hn h
    have h : evX C (ev C) n b lt.l e' H (fun r => match r with
      | .nx e' H' => K (.nx e' H')
      | .ex j e' H' => bif Nat.beq j id then K (.nx e' H') else K (.ex j e' H')
      | .rt e' H' => K (.rt e' H')) = some r := h
    obtain ⟨d, r0, r0', h1, h2, h3⟩ := hb lt.l e' e H _ r hs hn h
    have hse : ∀ d', evC C (evF C d') (.block id b) e H = Rs.block id (evC C (evF C d') b e H) := fun _ => rfl
    cases r0' with
    | nx e1' H1' =>
      cases r0 with
      | nx e1 H1 => exact ⟨d, _, _, fun d' hd => by rw [hse, h1 d' hd]; rfl, h2, h3⟩
      | ex => exact h2.elim
      | rt => exact h2.elim
    | ex j e1' H1' =>
      cases r0 with
      | ex i e1 H1 =>
        obtain ⟨rfl, g1, g2, g3⟩ := h2
        simp only at h3
        cases hj : Nat.beq j id with
        | true =>
          rw [hj] at h3
          exact ⟨d, .nx e1 H1, .nx e1' H1', fun d' hd => by rw [hse, h1 d' hd]; simp only [Rs.block]; rw [hj, cond_true], ⟨g1, g2, g3⟩, h3⟩
        | false =>
          rw [hj] at h3
          exact ⟨d, .ex j e1 H1, .ex j e1' H1', fun d' hd => by rw [hse, h1 d' hd]; simp only [Rs.block]; rw [hj, cond_false], ⟨rfl, g1, g2, g3⟩, h3⟩
      | nx => exact h2.elim
      | rt => exact h2.elim
    | rt e1' H1' =>
      cases r0 with
      | rt e1 H1 => exact ⟨d, _, _, fun d' hd => by rw [hse, h1 d' hd]; rfl, h2, h3⟩
      | nx => exact h2.elim
      | ex => exact h2.elim
  | loop b hb =>
    intro lt e' e H K r hs hn h
    have h : (match lt.o with
      | some F => F.F e' H K
      | none => none) = some r := h
    cases ho : lt.o with
    | none => rw [ho] at h; cases h
    | some F => rw [ho] at h; exact F.ok e' e H K r hs hn h
  | rangeFunc f ps as b _ _ =>
    intro lt e' e H K r hs hn h
    have h : (match lt.o with
      | some F => F.F e' H K
      | none => none) = some r := h
    cases ho : lt.o with
    | none => rw [ho] at h; cases h
    | some F => rw [ho] at h; exact F.ok e' e H K r hs hn h
  | exit id => exact fun lt e' e H K r hs hn h => ⟨0, .ex id e H, .ex id e' H, fun _ _ => rfl, ⟨rfl, hs, hn, rfl⟩, h⟩
  | scope x _ => exact fun lt e' e H K r hs hn h => by cases h
  | label l => exact fun lt e' e H K r hs hn h => ⟨0, .nx e H, .nx e' H, fun _ _ => rfl, ⟨hs, hn, rfl⟩, h⟩
  | goto l => exact fun lt e' e H K r hs hn h => by cases h
  | ret => exact fun lt e' e H K r hs hn h => ⟨0, .rt e H, .rt e' H, fun _ _ => rfl, ⟨hs, hn, rfl⟩, h⟩
  | refuse s => exact fun lt e' e H K r hs hn h => by cases h
end Go.Ahe.X
