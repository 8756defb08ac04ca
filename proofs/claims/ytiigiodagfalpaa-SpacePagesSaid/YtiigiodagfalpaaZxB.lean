/-
  X, 5: loops, joins and functions.
-/
import Derived.Test.YtiigiodagfalpaaZxA
namespace Go.Ahe.X
open Go.Ahe

theorem getsK_ok {e : FE} : ∀ {ks : List Tmp} {k : List Value → O} {r : Value × Hp}, getsK e ks k = some r → ∃ xs, k xs = some r ∧ xs.length = ks.length ∧ ∀ i t, ks[i]? = some t → e.get t = some (gv xs i)
  | [], k, r, h => ⟨[], h, rfl, fun i t hi => by simp at hi⟩
  | t :: ts, k, r, h => by
    simp only [getsK] at h
    obtain ⟨v, h1, h2⟩ := bind2 h
    obtain ⟨xs, h3, h4, h5⟩ := getsK_ok h2
    refine ⟨v :: xs, h3, by simp [h4], fun i u hi => ?_⟩
    cases i with
    | zero => simp at hi; subst hi; exact h1
    | succ i =>
      have := h5 i u (by simpa using hi)
      rw [this]; simp [gv]

theorem mkE_ok {xs : List Value} : ∀ {ts : List Tmp} {i0 : Nat} {e : FE} {t : Tmp} {v : Value}, (mkE xs ts i0 e).get t = some v → (∃ i, ts[i]? = some t ∧ v = gv xs (i0 + i)) ∨ e.get t = some v
  | [], i0, e, t, v, h => .inr h
  | s :: ts, i0, e, t, v, h => by
    simp only [mkE] at h
    rcases mkE_ok h with ⟨i, h1, h2⟩ | h1
    · exact .inl ⟨i + 1, by simpa using h1, by rw [h2, show i0 + 1 + i = i0 + (i + 1) by omega]⟩
    · rw [Tr.get_set] at h1
      by_cases hts : t = s
      · rw [if_pos hts] at h1
        cases h1
        exact .inl ⟨0, by simp [hts], by rw [Nat.add_zero]⟩
      · rw [if_neg hts] at h1; exact .inr h1

/-- What a frame's values are, told again. -/
theorem Sub.again {e' : FE} {e : Env} (h : Sub e' e) {ks : List Tmp} {xs : List Value} (hx : ∀ i t, ks[i]? = some t → e'.get t = some (gv xs i)) : Sub (mkE xs ks 0 .nl) e := fun k v hk => by
  rcases mkE_ok hk with ⟨i, h1, h2⟩ | h1
  · rw [Nat.zero_add] at h2
    subst h2
    exact h k _ (hx i k h1)
  · cases h1

theorem nth_xsOf {K : RX → O} : ∀ {L : List (Tgt × List Tmp)} {i : Nat} {tg : Tgt} {ts : List Tmp}, L[i]? = some (tg, ts) → ∀ vs H, nth (xsOf K L) i vs H = K (tg.mk (mkE vs ts 0 .nl) H)
  | [], i, tg, ts, h, vs, H => by simp at h
  | (a, b) :: L, 0, tg, ts, h, vs, H => by simp at h; obtain ⟨rfl, rfl⟩ := h; rfl
  | (a, b) :: L, i + 1, tg, ts, h, vs, H => by
    have := nth_xsOf (K := K) (L := L) (i := i) (by simpa using h) vs H
    simpa [nth, xsOf] using this

/-- An exit, told to who waits for it. -/
theorem kx_ok {n : Nat} {K : RX → O} {L0 : List (Tgt × List Tmp)} {r' : RX} {r0 : Rs} (hs : SubR n r' r0) : ∀ {L : List (Tgt × List Tmp)} {i : Nat} {r : Value × Hp}, (∀ j, L[j]? = L0[i + j]?) → kx (xsOf K L0) i L r' = some r → ∃ r1', SubR n r1' r0 ∧ K r1' = some r
  | [], i, r, hL, h => by cases r' <;> cases h
  | (tg, ts) :: L, i, r, hL, h => by
    have hi : L0[i]? = some (tg, ts) := by have := hL 0; simpa using this.symm
    have hL' : ∀ j, L[j]? = L0[i + 1 + j]? := fun j => by
      have := hL (j + 1)
      rw [show i + 1 + j = i + (j + 1) by omega]; simpa using this
    cases tg with
    | nx =>
      cases r' with
      | nx e' H' =>
        cases r0 with
        | nx e H =>
          simp only [kx] at h
          obtain ⟨xs, h1, _, h3⟩ := getsK_ok h
          rw [nth_xsOf hi] at h1
          exact ⟨.nx _ _, ⟨hs.1.again h3, hs.2⟩, h1⟩
        | ex => exact hs.elim
        | rt => exact hs.elim
      | ex j e' H' => exact kx_ok hs hL' (show kx (xsOf K L0) (i + 1) L (.ex j e' H') = some r from h)
      | rt e' H' => exact kx_ok hs hL' (show kx (xsOf K L0) (i + 1) L (.rt e' H') = some r from h)
    | rt =>
      cases r' with
      | rt e' H' =>
        cases r0 with
        | rt e H =>
          simp only [kx] at h
          obtain ⟨xs, h1, _, h3⟩ := getsK_ok h
          rw [nth_xsOf hi] at h1
          exact ⟨.rt _ _, ⟨hs.1.again h3, hs.2⟩, h1⟩
        | ex => exact hs.elim
        | nx => exact hs.elim
      | ex j e' H' => exact kx_ok hs hL' (show kx (xsOf K L0) (i + 1) L (.ex j e' H') = some r from h)
      | nx e' H' => exact kx_ok hs hL' (show kx (xsOf K L0) (i + 1) L (.nx e' H') = some r from h)
    | ex j =>
      cases r' with
      | ex k e' H' =>
        cases r0 with
        | ex m e H =>
          simp only [kx] at h
          cases hj : Nat.beq j k with
          | true =>
            rw [hj, cond_true] at h
            have := nbeq_eq hj; subst this
            obtain ⟨xs, h1, _, h3⟩ := getsK_ok h
            rw [nth_xsOf hi] at h1
            exact ⟨.ex _ _ _, ⟨hs.1, hs.2.1.again h3, hs.2.2⟩, h1⟩
          | false =>
            rw [hj, cond_false] at h
            exact kx_ok hs hL' h
        | rt => exact hs.elim
        | nx => exact hs.elim
      | rt e' H' => exact kx_ok hs hL' (show kx (xsOf K L0) (i + 1) L (.rt e' H') = some r from h)
      | nx e' H' => exact kx_ok hs hL' (show kx (xsOf K L0) (i + 1) L (.nx e' H') = some r from h)

section
variable {C : Ctx} (hx : NoExt C) {n : Nat}
include hx

/-- **WHERE WAYS MEET.** -/
theorem join_ok {c : Code} (lt : LT C n c) (ks : List Tmp) (L : List (Tgt × List Tmp)) (J : List Value → Hp → List Kx → O) (hJ : ∀ xs H X, evX C (ev C) n c lt (mkE xs ks 0 .nl) H (kx X 0 L) = J xs H X) :
    OrOk C n c fun e H K => getsK e ks fun xs => J xs H (xsOf K L) := fun e' e H K r hs hn h => by
  obtain ⟨xs, h1, _, h3⟩ := getsK_ok h
  rw [← hJ] at h1
  obtain ⟨d, r0, r0', g1, g2, g3⟩ := evX_ok hx c lt (mkE xs ks 0 .nl) e H _ r (hs.again h3) hn h1
  obtain ⟨r1', k1, k2⟩ := kx_ok (L0 := L) g2 (L := L) (i := 0) (fun j => by rw [Nat.zero_add]) g3
  exact ⟨d, r0, r1', g1, k1, k2⟩

/-- **LOOPS.** -/
theorem loop_ok {b : Code} (lt : LT C n b) (ks : List Tmp) (L : List (Tgt × List Tmp)) (B : Kx → List Value → Hp → List Kx → O) (hB : ∀ k xs H X, evX C (ev C) n b lt (mkE xs ks 0 .nl) H (kLoop ks L k X) = B k xs H X) :
    OrOk C n (.loop b) fun e H K => getsK e ks fun xs => loopS B rnd xs H (xsOf K L) := fun e' e H K r hs hn h => by
  obtain ⟨xs, h1, _, h3⟩ := getsK_ok h
  have main : ∀ (m : Nat) (xs : List Value) (e : Env) (H : Hp), Sub (mkE xs ks 0 .nl) e → e.size = n → loopS B m xs H (xsOf K L) = some r →
      ∃ d r0 r0', (∀ d', d ≤ d' → loopE (fun e H => evC C (evF C d') b e H) m e H = some r0) ∧ SubR n r0' r0 ∧ K r0' = some r := by
    intro m
    induction m with
    | zero => intro xs e H _ _ h; cases h
    | succ m ih =>
      intro xs e H hs hn h
      simp only [loopS] at h
      rw [← hB] at h
      obtain ⟨d, r0, r0', g1, g2, g3⟩ := evX_ok hx b lt (mkE xs ks 0 .nl) e H _ r hs hn h
      have hse : ∀ d', d ≤ d' → loopE (fun e H => evC C (evF C d') b e H) (m + 1) e H = match r0 with
          | .nx e H => loopE (fun e H => evC C (evF C d') b e H) m e H
          | r => some r := fun d' hd => by
        simp only [loopE]
        rw [g1 d' hd]
        cases r0 <;> rfl
      cases r0' with
      | nx e1' H1' =>
        cases r0 with
        | nx e1 H1 =>
          obtain ⟨k1, k2, rfl⟩ := g2
          simp only [kLoop] at g3
          obtain ⟨ys, y1, _, y3⟩ := getsK_ok g3
          obtain ⟨d2, r2, r2', l1, l2, l3⟩ := ih ys e1 H1' (k1.again y3) k2 y1
          exact ⟨max d d2, r2, r2', fun d' hd => by rw [hse d' (by omega)]; exact l1 d' (by omega), l2, l3⟩
        | ex => exact g2.elim
        | rt => exact g2.elim
      | ex j e1' H1' =>
        cases r0 with
        | ex i e1 H1 =>
          simp only [kLoop] at g3
          obtain ⟨r1', k1, k2⟩ := kx_ok (L0 := L) g2 (L := L) (i := 0) (fun j => by rw [Nat.zero_add]) g3
          exact ⟨d, _, r1', fun d' hd => hse d' hd, k1, k2⟩
        | nx => exact g2.elim
        | rt => exact g2.elim
      | rt e1' H1' =>
        cases r0 with
        | rt e1 H1 =>
          simp only [kLoop] at g3
          obtain ⟨r1', k1, k2⟩ := kx_ok (L0 := L) g2 (L := L) (i := 0) (fun j => by rw [Nat.zero_add]) g3
          exact ⟨d, _, r1', fun d' hd => hse d' hd, k1, k2⟩
        | nx => exact g2.elim
        | ex => exact g2.elim
  rw [rnd_eq] at h1
  exact main rounds xs e H (hs.again h3) hn h1

end

/-- The stand-in of a loop, of a join. -/
noncomputable def loopO {C : Ctx} (hx : NoExt C) {n : Nat} {c : Code} (hc : c = .loop (lft c)) (lt : LT C n (lft c)) (ks : List Tmp) (L : List (Tgt × List Tmp)) (B : Kx → List Value → Hp → List Kx → O) (hB : ∀ k xs H X, evX C (ev C) n (lft c) lt (mkE xs ks 0 .nl) H (kLoop ks L k X) = B k xs H X) : Orac C n c :=
  ⟨fun e H K => getsK e ks fun xs => loopS B rnd xs H (xsOf K L), by rw [hc]; exact loop_ok hx lt ks L B hB⟩
def joinO {C : Ctx} (hx : NoExt C) {n : Nat} {c : Code} (lt : LT C n c) (ks : List Tmp) (L : List (Tgt × List Tmp)) (J : List Value → Hp → List Kx → O) (hJ : ∀ xs H X, evX C (ev C) n c lt (mkE xs ks 0 .nl) H (kx X 0 L) = J xs H X) : Orac C n c :=
  ⟨fun e H K => getsK e ks fun xs => J xs H (xsOf K L), join_ok hx lt ks L J hJ⟩

theorem res1_ok {C : Ctx} {e' : FE} {e : Env} {H : Hp} (h : Sub e' e) {r : ResultVar} {v : Value} (hv : res1 C e' H r = some v) : resE C e H r = some v := by
  cases r with
  | tmp t =>
    obtain ⟨h1, h2⟩ := h.get (show e'.get t = some v from hv)
    simp only [resE, h1, cond_true, h2]
  | cell a t =>
    obtain ⟨u, h1, h2⟩ := bind2 hv
    obtain ⟨h3, h4⟩ := h.get h1
    simp only [resE, h3, cond_true, h4]
    exact h2

theorem resK_ok {C : Ctx} {e' : FE} {e : Env} {H : Hp} (h : Sub e' e) : ∀ {rs : List ResultVar} {k : List Value → O} {r : Value × Hp}, resK C e' H rs k = some r → ∃ vs, resEs C e H rs = some vs ∧ k vs = some r
  | [], k, r, hr => ⟨[], rfl, hr⟩
  | x :: xs, k, r, hr => by
    obtain ⟨v, h1, h2⟩ := bind2 hr
    obtain ⟨vs, h3, h4⟩ := resK_ok h h2
    exact ⟨v :: vs, by simp only [resEs, res1_ok h h1, h3], h4⟩

theorem kRet_ok {C : Ctx} {a : AF} {n : Nat} {r' : RX} {r0 : Rs} (hs : SubR n r' r0) {r : Value × Hp} (h : kRet C a.results r' = some r) : resO C a r0 = some r := by
  have key : ∀ {e' : FE} {e : Env} {H : Hp}, Sub e' e → (resK C e' H a.results fun vs => some (tup vs, H)) = some r → (resultE C e H a.results).map (fun v => (v, H)) = some r := fun {e' e H} hs h => by
    obtain ⟨vs, h1, h2⟩ := resK_ok hs h
    unfold resultE
    rw [h1]
    cases h2
    cases vs with
    | nil => rfl
    | cons v vs => cases vs with
      | nil => rfl
      | cons w vs => rfl
  cases r' with
  | nx e' H' => cases r0 with
    | nx e H => obtain ⟨h1, _, rfl⟩ := hs; exact key h1 h
    | ex => exact hs.elim
    | rt => exact hs.elim
  | rt e' H' => cases r0 with
    | rt e H => obtain ⟨h1, _, rfl⟩ := hs; exact key h1 h
    | ex => exact hs.elim
    | nx => exact hs.elim
  | ex j e' H' => cases h

theorem argsK {l : List Value} : ∀ (k : Nat) (t : Tr Value) {j : Nat} {v : Value}, ((l.foldl (fun (p : Nat × Tr Value) v => (p.1 + 1, p.2.set p.1 v)) (k, t)).2).get j = some v → j < k + l.length ∨ t.get j = some v := by
  induction l with
  | nil => exact fun k t j v h => .inr h
  | cons x l ih =>
    intro k t j v h
    rw [List.foldl_cons] at h
    rcases ih (k + 1) (t.set k x) h with h1 | h1
    · left; simp only [List.length_cons]; omega
    · rw [Tr.get_set] at h1
      by_cases hj : j = k
      · left; simp only [List.length_cons]; omega
      · rw [if_neg hj] at h1; exact .inr h1

/-- The frame of arguments. -/
def args0 (n : Nat) (args : List Value) : FE := (Env.ofArgs n args).t

theorem args0_sub {n : Nat} {args : List Value} (h : Nat.ble args.length n = true) : Sub (args0 n args) (Env.ofArgs n args) := fun k v hk => by
  refine ⟨?_, hk⟩
  have h := nble_le h
  rcases argsK 0 .nl hk with h1 | h1
  · show k < n; omega
  · cases h1

/-- **A FUNCTION.** -/
theorem body_ok {C : Ctx} (hx : NoExt C) {a : AF} {args : List Value} {H : Hp} {r : Value × Hp} (hl : Nat.ble args.length a.ntmps = true) (lt : LT C a.ntmps a.code) (h : evX C (ev C) a.ntmps a.code lt (args0 a.ntmps args) H (kRet C a.results) = some r) : ∃ d, bodyE C (evF C d) a args H = some r := by
  obtain ⟨d, r0, r0', h1, h2, h3⟩ := evX_ok hx a.code lt _ _ _ _ _ (args0_sub hl) rfl h
  refine ⟨d, ?_⟩
  have he : bodyE C (evF C d) a args H = (evC C (evF C d) a.code (Env.ofArgs a.ntmps args) H).bind (resO C a) := by
    unfold bodyE
    rw [hl, cond_true]
    cases evC C (evF C d) a.code (Env.ofArgs a.ntmps args) H with
    | none => rfl
    | some r => cases r <;> rfl
  rw [he, h1 d (Nat.le_refl _), Option.bind_some]
  exact kRet_ok h2 h3

theorem call_ok {C : Ctx} (hx : NoExt C) {f : FuncId} {a : AF} (hf : C.fn f = some a) (hp : a.pure = false) (hm : a.fr = false) {args : List Value} {H : Hp} {r : Value × Hp} (h : ∃ d, bodyE C (evF C d) a args H = some r) : ev C (.func f) args H = some r := by
  obtain ⟨d, h⟩ := h
  refine ev_iff.2 ⟨d + 1, ?_⟩
  simp only [evF, hx f _ hf, hf, hp, hm]
  exact h

theorem mk_ok {C : Ctx} (hx : NoExt C) {f : FuncId} {a : AF} (hf : C.fn f = some a) (hp : a.pure = false) (hm : a.fr = true) {args : List Value} {H H' : Hp} {v : Value} (h : ∃ d, bodyE C (evF C d) a args H.raised = some (v, H')) : ev C (.func f) args H = some (v, H'.lowered H.floor) := by
  obtain ⟨d, h⟩ := h
  refine ev_iff.2 ⟨d + 1, ?_⟩
  simp only [evF, hx f _ hf, hf, hp, hm, h, Option.map_some]

theorem pure_ok {C : Ctx} (hx : NoExt C) {f : FuncId} {a : AF} (hf : C.fn f = some a) (hp : a.pure = true) {args : List Value} {H H1 : Hp} {v : Value} (hv : plainV v = true) (h : ∃ d, bodyE C (evF C d) a args (H.fresh args) = some (v, H1)) : ev C (.func f) args H = some (v, H) := by
  obtain ⟨d, h⟩ := h
  refine ev_iff.2 ⟨d + 1, ?_⟩
  simp only [evF, hx f _ hf, hf, hp, h, hv, cond_true]
end Go.Ahe.X

namespace Go.Ahe.X
open Go.Ahe
/-- A pure call without addresses: one run will do for all heaps. -/
theorem pure_any {C : Ctx} (hx : NoExt C) {f : FuncId} {a : AF} (hf : C.fn f = some a) (hp : a.pure = true) {args : List Value} (ha : args.all plainV = true) {d : Nat} {H0 H1 : Hp} {v : Value} (h : evF C d (.func f) args H0 = some (v, H1)) (H : Hp) : ev C (.func f) args H = some (v, H) := by
  refine ev_iff.2 ⟨d, ?_⟩
  cases d with
  | zero => cases h
  | succ d =>
    simp only [evF, hx f _ hf, hf, hp, Hp.fresh, ha, cond_true] at h ⊢
    cases hb : bodyE C (evF C d) a args ⟨.nl, 0, 0⟩ with
    | none => rw [hb] at h; cases h
    | some q =>
      rw [hb] at h
      simp only at h ⊢
      obtain ⟨h1, h2⟩ := bif_some h
      cases h2
      rw [h1]; rfl
theorem pure_map {C : Ctx} (hx : NoExt C) {f : FuncId} {a : AF} (hf : C.fn f = some a) (hp : a.pure = true) {args : List Value} {H : Hp} {v : Value} (hv : plainV v = true) {F : O} (h : F.map (·.1) = some v) (hb : ∀ {r : Value × Hp}, F = some r → ∃ d, bodyE C (evF C d) a args (H.fresh args) = some r) : ev C (.func f) args H = some (v, H) := by
  cases hF : F with
  | none => rw [hF] at h; cases h
  | some r =>
    rw [hF] at h
    cases h
    exact pure_ok hx hf hp hv (H1 := r.2) (hb hF)
/-- A law's call. -/
theorem ext_call {C : Ctx} {f : FuncId} {args : List Value} {H : Hp} {r : Value × Hp} (h : C.ext f args H = some r) : ev C (.func f) args H = some r := ev_iff.2 ⟨1, by simp only [evF, h]⟩
end Go.Ahe.X
/-
  X, 5b: rounds of a range over a function.
-/
namespace Go.Ahe.X
open Go.Ahe

def busyE (l : Nat) (H : Hp) : Option Hp := match H.get l with
  | some (.loop .ready pend e ps a b) => H.upd l (.loop .busy pend e ps a b)
  | _ => none
def kRound (l : Nat) : RX → O
  | .nx _ H => leaveE l H none
  | .ex id _ H => leaveE l H (some (.exit id))
  | .rt _ H => leaveE l H (some .ret)
/-- A round: the assignment, the body. -/
noncomputable def roundX (C : Ctx) (n : Nat) (a b : Code) (lta : LT C n a) (ltb : LT C n b) (l : Nat) (e : FE) (H : Hp) : O :=
  evX C (ev C) n a lta e H fun r => match r with
    | .nx e1 H1 => (busyE l H1).bind fun H2 => evX C (ev C) n b ltb e1 H2 (kRound l)
    | _ => none

theorem zipSet_mkE {n : Nat} : ∀ {ps : List Tmp} {args : List Value} {t : FE} {pre : List Value}, args.length = ps.length → ps.all (fun p => Nat.blt p n) = true → zipSet (ps.zip args) ⟨n, t⟩ = some ⟨n, mkE (pre ++ args) ps pre.length t⟩
  | [], [], t, pre, _, _ => rfl
  | [], _ :: _, _, _, h, _ => by simp at h
  | _ :: _, [], _, _, h, _ => by simp at h
  | p :: ps, v :: args, t, pre, h, hp => by
    simp only [List.all_cons, Bool.and_eq_true] at hp
    simp only [List.zip_cons_cons, zipSet, Env.set, hp.1, cond_true, Option.bind_some, mkE]
    have := zipSet_mkE (n := n) (ps := ps) (args := args) (t := t.set p v) (pre := pre ++ [v]) (by simpa using h) hp.2
    rw [List.append_assoc, List.length_append] at this
    rw [show [v].length = 1 from rfl, show [v] ++ args = v :: args from rfl] at this
    rw [this]
    have hg : gv (pre ++ v :: args) pre.length = v := by simp [gv]
    rw [hg]
theorem mkE_key {xs : List Value} {ts : List Tmp} {i0 : Nat} {e : FE} {k : Nat} {v : Value} (h : (mkE xs ts i0 e).get k = some v) : k ∈ ts ∨ e.get k = some v := by
  rcases mkE_ok h with ⟨i, h1, _⟩ | h1
  · exact .inl (List.mem_of_getElem? h1)
  · exact .inr h1

theorem yield_ok {C : Ctx} (hx : NoExt C) {n : Nat} {a b : Code} (lta : LT C n a) (ltb : LT C n b) {l : Nat} {ts ps : List Tmp} {xs args : List Value} {st : LoopState} {pend : Option Code} {H : Hp} {q : Value × Hp}
    (hg : H.get l = some (.loop st pend ⟨n, mkE xs ts 0 .nl⟩ ps a b)) (hts : ts.all (fun p => Nat.blt p n) = true) (hps : ps.all (fun p => Nat.blt p n) = true) (hl : Nat.beq args.length ps.length = true)
    (h : roundX C n a b lta ltb l (mkE args ps 0 (mkE xs ts 0 .nl)) H = some q) : ev C (.yield l) args H = some q := by
  unfold roundX at h
  have hsub : Sub (mkE args ps 0 (mkE xs ts 0 .nl)) ⟨n, mkE args ps 0 (mkE xs ts 0 .nl)⟩ := fun k v hk => by
    refine ⟨?_, hk⟩
    rcases mkE_key hk with h1 | h1
    · exact nblt_lt (List.all_eq_true.1 hps k h1)
    · rcases mkE_key h1 with h2 | h2
      · exact nblt_lt (List.all_eq_true.1 hts k h2)
      · cases h2
  obtain ⟨d, r0, r0', h1, h2, h3⟩ := evX_ok hx a lta _ _ H _ q hsub rfl h
  cases r0' with
  | ex j e1' H1' => cases h3
  | rt e1' H1' => cases h3
  | nx e1' H1' =>
    cases r0 with
    | ex => exact h2.elim
    | rt => exact h2.elim
    | nx e1 H1 =>
      obtain ⟨g1, g2, rfl⟩ := h2
      simp only at h3
      rw [Option.bind_eq_some_iff] at h3
      obtain ⟨H2, h4, h5⟩ := h3
      obtain ⟨d2, r2, r2', k1, k2, k3⟩ := evX_ok hx b ltb e1' e1 H2 (kRound l) q g1 g2 h5
      have hbeg : beginE l (.nx e1 H1') = some (e1, H2) := by
        unfold busyE at h4
        unfold beginE
        split at h4
        · rename_i pend1 env1 ps1 a1 b1 hgl
          simp only [hgl, h4, Option.map_some]
        · cases h4
      have hlv : leaveR l r2 = some q := by
        cases r2' with
        | nx e2' H2' => cases r2 with
          | nx e2 H3 => obtain ⟨_, _, rfl⟩ := k2; exact k3
          | ex => exact k2.elim
          | rt => exact k2.elim
        | ex j e2' H2' => cases r2 with
          | ex i e2 H3 => obtain ⟨rfl, _, _, rfl⟩ := k2; exact k3
          | nx => exact k2.elim
          | rt => exact k2.elim
        | rt e2' H2' => cases r2 with
          | rt e2 H3 => obtain ⟨_, _, rfl⟩ := k2; exact k3
          | ex => exact k2.elim
          | nx => exact k2.elim
      refine ev_iff.2 ⟨max d d2 + 1, ?_⟩
      show roundE C (evF C (max d d2)) l args H = some q
      rw [roundE_eq, hg]
      simp only [hl, cond_true]
      have hz := zipSet_mkE (n := n) (ps := ps) (args := args) (t := mkE xs ts 0 .nl) (pre := []) (nbeq_eq hl) hps
      rw [List.nil_append] at hz
      rw [hz]
      simp only [Option.bind_some, List.length_nil]
      rw [h1 _ (Nat.le_max_left ..), Option.bind_some, hbeg, Option.bind_some, k1 _ (Nat.le_max_right ..), Option.bind_some]
      exact hlv

/-! ### What they come to -/
theorem busyE_eq {l : Nat} {H : Hp} {pend : Option Code} {e : Env} {ps : List Tmp} {a b : Code} (h : H.get l = some (.loop .ready pend e ps a b)) : busyE l H = H.upd l (.loop .busy pend e ps a b) := by
  simp only [busyE, h]
theorem leaveE_none {l : Nat} {H : Hp} {st : LoopState} {pend : Option Code} {e : Env} {ps : List Tmp} {a b : Code} (h : H.get l = some (.loop st pend e ps a b)) (hf : H.floor ≤ l) :
    leaveE l H none = some (.bool true, ⟨H.objs.set l (.loop .ready none e ps a b), H.next, H.floor⟩) := by
  simp only [leaveE, h, Hp.upd, Nat.ble_eq_true_of_le hf, cond_true, Option.map_some]
theorem leaveE_some {l : Nat} {H : Hp} {st : LoopState} {pend : Option Code} {j : Code} {e : Env} {ps : List Tmp} {a b : Code} (h : H.get l = some (.loop st pend e ps a b)) (hf : H.floor ≤ l) :
    leaveE l H (some j) = some (.bool false, ⟨H.objs.set l (.loop .done (some j) e ps a b), H.next, H.floor⟩) := by
  simp only [leaveE, h, Hp.upd, Nat.ble_eq_true_of_le hf, cond_true, Option.map_some]
end Go.Ahe.X
/-
  X, 6: the words of printed functions.
-/
namespace Go.Ahe.X
open Go.Ahe

abbrev I (n : Int) : Value := .int .i64 n
abbrev U (n : Int) : Value := .int .u64 n
abbrev P (i o : Nat) : Value := .pointer (some ⟨i, o, none⟩)
abbrev fnv (f : Nat) : Value := .func (.func f) #[] #[]

/-- One thing behind the other. -/
def B {α β : Type} (x : Option α) (f : α → Option β) : Option β := x.bind f

/-- A branch. -/
def br (c : Value) (a b : O) : O := (asB c).bind fun x => bif x then a else b

def ld1 (a : Value) (H : Hp) : Option Value := match a with
  | .pointer (some ⟨i, o, none⟩) => (readCells H i o 1).bind one?
  | _ => none
def ldA (n : Nat) (a : Value) (H : Hp) : Option Value := match a with
  | .pointer (some ⟨i, o, none⟩) => (readCells H i o n).map fun cs => .agg cs.toArray
  | _ => none
def st (n : Nat) (a v : Value) (H : Hp) : O := un (match a with
  | .pointer (some ⟨i, o, none⟩) => bif Nat.beq (cellsOf v).length n then writeCells H i o (cellsOf v) else none
  | _ => none)
def bd (pl : List (Nat × Nat)) (zs : List Value) (ps : List (Nat × Value)) : Option Value := (fillE (fun i => pl[i]?) zs ps).map fun cs => .agg cs.toArray
def bdA (n : Nat) (zs : List Value) (ps : List (Nat × Value)) : Option Value := (fillE (fun i => some (i * n, n)) zs ps).map fun cs => .agg cs.toArray
def bsl (n : Nat) (z : List Value) (len : Nat) (ps : List (Nat × Value)) (H : Hp) : O := (fillE (fun i => some (i * n, n)) (repeatL z len) ps).map fun cs =>
  (.slice (some ⟨H.next, 0, none⟩) len len, H.new (.cells cs false))
def cvI (k : IntKind) (x : Value) : Option Value := match x with
  | .int _ n => some (.int k (k.wrap n))
  | _ => none
def mm (H : Hp) : O := some (.map (some H.next), H.new (.map [] 0))
def fa (off : Nat) (x : Value) : Option Value := match x with
  | .pointer (some ⟨i, o, none⟩) => some (.pointer (some ⟨i, o + off, none⟩))
  | _ => none
def fl (off : Nat) (x : Value) : Option Value := match x with
  | .agg cs => cs.toList[off]?
  | _ => none
def flA (off n : Nat) (x : Value) : Option Value := match x with
  | .agg cs => (lrange cs.toList off n).map fun xs => .agg xs.toArray
  | _ => none
def ixS (size : Nat) (x i : Value) : Option Value := match nat? i with
  | some k => match x with
    | .slice (some ⟨i, o, _⟩) len _ => bif Nat.blt k len then some (.pointer (some ⟨i, o + k * size, none⟩)) else none
    | _ => none
  | _ => none
def ixP (n size : Nat) (x i : Value) : Option Value := match nat? i with
  | some k => match x with
    | .pointer (some ⟨i, o, none⟩) => bif Nat.blt k n then some (.pointer (some ⟨i, o + k * size, none⟩)) else none
    | _ => none
  | _ => none
def lnS (x : Value) : Option Value := match x with
  | .slice _ n _ => some (.int .i64 n)
  | _ => none
def slc (C : Ctx) (t : TypeId) (v : Value) (lo hi mx : Option Value) : Option Value := (nato? lo).bind fun lo => (nato? hi).bind fun hi => (nato? mx).bind fun mx => sliceE C t v lo hi mx
end Go.Ahe.X
/-
  X, 7: the words of printed functions, simplified.
-/
namespace Go.Ahe
theorem Tr.put_n {α : Type} (x : α) (f : Nat) (t : Tr α) (k : Nat) : Tr.put x (f + 1) t k = if k = 0 then .n t.left (some x) t.right else if k % 2 = 1 then .n (Tr.put x f t.left (k / 2)) t.here t.right else .n t.left t.here (Tr.put x f t.right (k / 2 - 1)) := by
  rw [Tr.put]
  by_cases h0 : k = 0
  · subst h0; rfl
  · rw [nbeq_f h0, cond_false, if_neg h0]
    by_cases h1 : k % 2 = 1
    · rw [nbeq_t h1, cond_true, if_pos h1]
    · rw [nbeq_f h1, cond_false, if_neg h1]

theorem Tr.put_put {α : Type} (x y : α) : ∀ (f g : Nat) (t : Tr α) (k : Nat), k < f → k < g → Tr.put y g (Tr.put x f t k) k = Tr.put y g t k
  | 0, _, _, _, h, _ => absurd h (Nat.not_lt_zero _)
  | _, 0, _, _, _, h => absurd h (Nat.not_lt_zero _)
  | f + 1, g + 1, t, k, hf, hg => by
    rw [Tr.put_n, Tr.put_n, Tr.put_n]
    by_cases h0 : k = 0
    · simp [h0, Tr.left, Tr.right]
    · by_cases h1 : k % 2 = 1
      · simp only [h0, h1, if_false, if_true, Tr.left, Tr.right, Tr.here]
        rw [Tr.put_put x y f g _ _ (by omega) (by omega)]
      · simp only [h0, h1, if_false, Tr.left, Tr.right, Tr.here]
        rw [Tr.put_put x y f g _ _ (by omega) (by omega)]

theorem Tr.put_comm {α : Type} (x y : α) : ∀ (f g : Nat) (t : Tr α) (j k : Nat), j < f → k < g → j ≠ k → Tr.put y g (Tr.put x f t j) k = Tr.put x f (Tr.put y g t k) j
  | 0, _, _, _, _, h, _, _ => absurd h (Nat.not_lt_zero _)
  | _, 0, _, _, _, _, h, _ => absurd h (Nat.not_lt_zero _)
  | f + 1, g + 1, t, j, k, hf, hg, hne => by
    rw [Tr.put_n, Tr.put_n, Tr.put_n, Tr.put_n]
    by_cases j0 : j = 0
    · have k0 : ¬ k = 0 := by omega
      by_cases k1 : k % 2 = 1 <;> simp [j0, k0, k1, Tr.left, Tr.right, Tr.here]
    · by_cases k0 : k = 0
      · by_cases j1 : j % 2 = 1 <;> simp [j0, k0, j1, Tr.left, Tr.right, Tr.here]
      · by_cases j1 : j % 2 = 1
        · by_cases k1 : k % 2 = 1
          · simp only [j0, k0, j1, k1, if_false, if_true, Tr.left, Tr.right, Tr.here]
            rw [Tr.put_comm x y f g _ _ _ (by omega) (by omega) (by omega)]
          · simp only [j0, k0, j1, k1, if_false, if_true, Tr.left, Tr.right, Tr.here]
        · by_cases k1 : k % 2 = 1
          · simp only [j0, k0, j1, k1, if_false, if_true, Tr.left, Tr.right, Tr.here]
          · simp only [j0, k0, j1, k1, if_false, Tr.left, Tr.right, Tr.here]
            rw [Tr.put_comm x y f g _ _ _ (by omega) (by omega) (by omega)]

theorem Tr.set_set {α : Type} (t : Tr α) (k : Nat) (x y : α) : (t.set k x).set k y = t.set k y := Tr.put_put x y _ _ _ _ (by omega) (by omega)
theorem Tr.set_comm {α : Type} (t : Tr α) {j k : Nat} (h : j ≠ k) (x y : α) : (t.set j x).set k y = (t.set k y).set j x := Tr.put_comm x y _ _ _ _ _ (by omega) (by omega) h

/-- An object anew. -/
def Hp.setO (H : Hp) (i : Nat) (o : Ob) : Hp := ⟨H.objs.set i o, H.next, H.floor⟩
@[simp] theorem Hp.next_setO (H : Hp) (i : Nat) (o : Ob) : (H.setO i o).next = H.next := id rfl
@[simp] theorem Hp.floor_setO (H : Hp) (i : Nat) (o : Ob) : (H.setO i o).floor = H.floor := id rfl
theorem Hp.get_setO (H : Hp) (i : Nat) (o : Ob) (j : Nat) : (H.setO i o).get j = if j = i then some o else H.get j := Tr.get_set _ _ _ _
theorem Hp.upd_eq {H : Hp} {i : Nat} (h : H.floor ≤ i) (o : Ob) : H.upd i o = some (H.setO i o) := by
  unfold Hp.upd
  rw [Nat.ble_eq_true_of_le h]; rfl
theorem Hp.setO_new {H : Hp} {i : Nat} (o o' : Ob) : (H.new o).setO i o' = if i = H.next then H.new o' else (H.setO i o').new o := by
  by_cases h : i = H.next
  · subst h
    rw [if_pos rfl]
    show Hp.mk _ _ _ = _
    simp only [Hp.new]
    rw [Tr.set_set]
  · rw [if_neg h]
    show Hp.mk _ _ _ = _
    simp only [Hp.new, Hp.setO]
    rw [Tr.set_comm _ (Ne.symm h)]
theorem Hp.setO_setO {H : Hp} {i : Nat} (o o' : Ob) : (H.setO i o).setO i o' = H.setO i o' := by
  show Hp.mk _ _ _ = _
  simp only [Hp.setO]
  rw [Tr.set_set]
end Go.Ahe

namespace Go.Ahe.X
open Go.Ahe

/-! What is to come is not looked at before its time. -/
@[congr] theorem bind_first {α β : Type} {x x' : Option α} {f : α → Option β} (h : x = x') : B x f = B x' f := by rw [h]
@[simp] theorem B_some {α β : Type} {a : α} {f : α → Option β} : B (some a) f = f a := id rfl
@[simp] theorem B_none {α β : Type} {f : α → Option β} : B none f = none := id rfl
theorem B_bind {α β : Type} {x : Option α} {f : α → Option β} : B x f = x.bind f := id rfl
@[simp] theorem B_B {α β γ : Type} {x : Option α} {f : α → Option β} {g : β → Option γ} : B (B x f) g = B x fun a => B (f a) g := by cases x <;> rfl
@[congr] theorem br_first {c c' : Value} {a b : O} (h : c = c') : br c a b = br c' a b := by rw [h]
@[congr] theorem gd_first {c c' : Value} {w : Bool} {x : Option Value} (h : c = c') : gd c w x = gd c' w x := by rw [h]
@[congr] theorem gh_first {c c' : Value} {w : Bool} {x : O} {H : Hp} (h : c = c') : gh c w x H = gh c' w x H := by rw [h]
@[simp] theorem bind_if {α β : Type} {p : Prop} [Decidable p] {x y : Option α} {f : α → Option β} : B (if p then x else y) f = if p then B x f else B y f := by
  by_cases h : p
  · rw [if_pos h, if_pos h]
  · rw [if_neg h, if_neg h]
@[simp] theorem map_if {α β : Type} {p : Prop} [Decidable p] {x y : Option α} {f : α → β} : (if p then x else y).map f = if p then x.map f else y.map f := by
  by_cases h : p
  · rw [if_pos h, if_pos h]
  · rw [if_neg h, if_neg h]

/-- A context that tells numbers apart as they are. -/
class Std (C : Ctx) : Prop where
  lt : C.lt = fun x y => decide (x < y)
  eqi : C.eqi = fun x y => decide (x = y)

section
variable {C : Ctx} {t : TypeId} {k k' : IntKind} {a b : Int}
theorem bin_int {op : BinOp} (h1 : op ≠ .shl) (h2 : op ≠ .shr) : binE C op t (.int k a) (.int k b) = intBin C.lt C.eqi op k a b := by
  cases op <;> first | rfl | exact absurd rfl h1 | exact absurd rfl h2 | (simp only [binE, if_true])
@[simp] theorem bin_add : binE C .add t (.int k a) (.int k b) = some (.int k (k.wrap (a + b))) := by rw [bin_int (by decide) (by decide)]; rfl
@[simp] theorem bin_sub : binE C .sub t (.int k a) (.int k b) = some (.int k (k.wrap (a - b))) := by rw [bin_int (by decide) (by decide)]; rfl
@[simp] theorem bin_mul : binE C .mul t (.int k a) (.int k b) = some (.int k (k.wrap (a * b))) := by rw [bin_int (by decide) (by decide)]; rfl
@[simp] theorem bin_quo : binE C .quo t (.int k a) (.int k b) = if b = 0 then none else some (.int k (k.wrap (a.tdiv b))) := by rw [bin_int (by decide) (by decide)]; rfl
@[simp] theorem bin_rem : binE C .rem t (.int k a) (.int k b) = if b = 0 then none else some (.int k (a.tmod b)) := by rw [bin_int (by decide) (by decide)]; rfl
@[simp] theorem bin_eql [hC : Std C] : binE C .eql t (.int k a) (.int k b) = some (.bool (decide (a = b))) := by rw [bin_int (by decide) (by decide)]; simp only [intBin, hC.eqi]
@[simp] theorem bin_neq [hC : Std C] : binE C .neq t (.int k a) (.int k b) = some (.bool (decide (a ≠ b))) := by rw [bin_int (by decide) (by decide)]; simp only [intBin, hC.eqi]; by_cases h : a = b <;> simp [h]
@[simp] theorem bin_lss [hC : Std C] : binE C .lss t (.int k a) (.int k b) = some (.bool (decide (a < b))) := by rw [bin_int (by decide) (by decide)]; simp only [intBin, hC.lt]
@[simp] theorem bin_gtr [hC : Std C] : binE C .gtr t (.int k a) (.int k b) = some (.bool (decide (b < a))) := by rw [bin_int (by decide) (by decide)]; simp only [intBin, hC.lt]
@[simp] theorem bin_leq [hC : Std C] : binE C .leq t (.int k a) (.int k b) = some (.bool (decide (a ≤ b))) := by
  rw [bin_int (by decide) (by decide)]; simp only [intBin, hC.lt]
  by_cases h : b < a
  · simp [h]
  · simp [h, Int.not_lt.1 h]
@[simp] theorem bin_geq [hC : Std C] : binE C .geq t (.int k a) (.int k b) = some (.bool (decide (b ≤ a))) := by
  rw [bin_int (by decide) (by decide)]; simp only [intBin, hC.lt]
  by_cases h : a < b
  · simp [h]
  · simp [h, Int.not_lt.1 h]
@[simp] theorem bin_and : binE C .and t (.int k a) (.int k b) = bitsE .and k a b := by rw [bin_int (by decide) (by decide)]; rfl
@[simp] theorem bin_or : binE C .or t (.int k a) (.int k b) = bitsE .or k a b := by rw [bin_int (by decide) (by decide)]; rfl
@[simp] theorem bin_xor : binE C .xor t (.int k a) (.int k b) = bitsE .xor k a b := by rw [bin_int (by decide) (by decide)]; rfl
@[simp] theorem bin_andNot : binE C .andNot t (.int k a) (.int k b) = bitsE .andNot k a b := by rw [bin_int (by decide) (by decide)]; rfl
@[simp] theorem bin_shl : binE C .shl t (.int k a) (.int k' b) = shiftE .shl k a b := id rfl
@[simp] theorem bin_shr : binE C .shr t (.int k a) (.int k' b) = shiftE .shr k a b := id rfl
end

@[simp] theorem un_not (b : Bool) : unE .not (.bool b) = some (.bool !b) := id rfl
@[simp] theorem un_neg (k : IntKind) (n : Int) : unE .neg (.int k n) = some (.int k (k.wrap (0 - n))) := id rfl
@[simp] theorem asB_bool (b : Bool) : asB (.bool b) = some b := id rfl
@[simp] theorem br_bool (c : Bool) (a b : O) : br (.bool c) a b = if c = true then a else b := by cases c <;> rfl
@[simp] theorem gd_bool (b w : Bool) (x : Option Value) : gd (.bool b) w x = if b = w then x else some (.tuple #[]) := by cases b <;> cases w <;> rfl
@[simp] theorem gd_tuple (w : Bool) (x : Option Value) {vs : Array Value} : gd (.tuple vs) w x = some (.tuple #[]) := id rfl
@[simp] theorem gh_bool (b w : Bool) (x : O) (H : Hp) : gh (.bool b) w x H = if b = w then x else some (.tuple #[], H) := by cases b <;> cases w <;> rfl
@[simp] theorem gh_tuple (w : Bool) (x : O) (H : Hp) {vs : Array Value} : gh (.tuple vs) w x H = some (.tuple #[], H) := id rfl
@[simp] theorem pk_bool (c : Bool) (a b : Option Value) : pk (.bool c) a b = if c = true then a else b := by cases c <;> rfl
@[simp] theorem wantV_bool (b w : Bool) : wantV (.bool b) w = (b == w) := id rfl
@[simp] theorem wantV_tuple (w : Bool) {vs : Array Value} : wantV (.tuple vs) w = false := id rfl
@[simp] theorem ck_false (x : Option Value) (v : Value) (k : O) : ck false x v k = k := id rfl
@[simp] theorem ck_true (x : Option Value) (v : Value) (k : O) : ck true x v k = if same x v = true then k else none := by unfold ck; cases same x v <;> rfl
@[simp] theorem cvI_int (k k' : IntKind) (n : Int) : cvI k (.int k' n) = some (.int k (k.wrap n)) := id rfl
@[simp] theorem fa_ptr (off i o : Nat) : fa off (P i o) = some (P i (o + off)) := id rfl
@[simp] theorem al_eq (zs : List Value) (H : Hp) : al zs H = some (P H.next 0, H.new (.cells zs false)) := id rfl
@[simp] theorem mm_eq (H : Hp) : mm H = some (.map (some H.next), H.new (.map [] 0)) := id rfl
@[simp] theorem un_some (H : Hp) : un (some H) = some (.tuple #[], H) := id rfl
@[simp] theorem extract_tuple (vs : Array Value) (k : Nat) : extractE (.tuple vs) k = vs.toList[k]? := id rfl
@[simp] theorem nilc_ptr (i o : Nat) : nilc (P i o) = some (P i o) := id rfl
@[simp] theorem lnS_slice (a : Option Addr) (n c : Nat) : lnS (.slice a n c) = some (I n) := id rfl
@[simp] theorem cellsOf_agg (cs : Array Value) : cellsOf (.agg cs) = cs.toList := id rfl
@[simp] theorem cellsOf_int (k : IntKind) (n : Int) : cellsOf (.int k n) = [.int k n] := id rfl
@[simp] theorem cellsOf_bool (b : Bool) : cellsOf (.bool b) = [.bool b] := id rfl
@[simp] theorem cellsOf_ptr (a : Option Addr) : cellsOf (.pointer a) = [.pointer a] := id rfl
@[simp] theorem cellsOf_slice (a : Option Addr) (n c : Nat) : cellsOf (.slice a n c) = [.slice a n c] := id rfl
@[simp] theorem cellsOf_func (f : Fn) (x y : Array Value) : cellsOf (.func f x y) = [.func f x y] := id rfl
@[simp] theorem cellsOf_string (s : ByteArray) : cellsOf (.string s) = [.string s] := id rfl
@[simp] theorem cellsOf_map (s : Option Nat) : cellsOf (.map s) = [.map s] := id rfl
theorem nat?_nonneg (k : IntKind) {n : Int} (h : 0 ≤ n) : nat? (.int k n) = some n.toNat := by simp [nat?, h]
@[simp] theorem nat?_ofNat (k : IntKind) (n : Nat) : nat? (.int k (n : Int)) = some n := by simp [nat?]
@[simp] theorem nat?_lit (k : IntKind) (n : Nat) : nat? (.int k (OfNat.ofNat n)) = some n := by
  show nat? (.int k (n : Int)) = some n
  simp
@[simp] theorem nato?_none : nato? none = some none := id rfl
@[simp] theorem nato?_some (v : Value) : nato? (some v) = (nat? v).map some := id rfl

theorem lrange_eq (cs : List Value) (off n : Nat) : lrange cs off n = if off + n ≤ cs.length then some ((cs.drop off).take n) else none := by
  unfold lrange
  by_cases h : off + n ≤ cs.length
  · rw [if_pos h, Nat.ble_eq_true_of_le h]; rfl
  · rw [if_neg h, show Nat.ble (off + n) cs.length = false from Bool.eq_false_iff.2 fun h2 => h (Nat.le_of_ble_eq_true h2)]; rfl
theorem lput_eq (cs : List Value) (off : Nat) (vs : List Value) : lput cs off vs = if off + vs.length ≤ cs.length then some (cs.take off ++ vs ++ cs.drop (off + vs.length)) else none := by
  unfold lput
  by_cases h : off + vs.length ≤ cs.length
  · rw [if_pos h, Nat.ble_eq_true_of_le h]; rfl
  · rw [if_neg h, show Nat.ble (off + vs.length) cs.length = false from Bool.eq_false_iff.2 fun h2 => h (Nat.le_of_ble_eq_true h2)]; rfl

/-! reading and writing objects that are known -/
theorem read_eq {H : Hp} {i : Nat} {cs : List Value} {ro : Bool} (h : H.get i = some (.cells cs ro)) (off n : Nat) : readCells H i off n = lrange cs off n := by
  unfold readCells; rw [h]
theorem write_eq {H : Hp} {i : Nat} {cs : List Value} (h : H.get i = some (.cells cs false)) (hf : H.floor ≤ i) (off : Nat) {vs : List Value} (hv : vs.all oneCell = true) : writeCells H i off vs = (lput cs off vs).map fun cs' => H.setO i (.cells cs' false) := by
  unfold writeCells; rw [h]
  simp only [hv, cond_true]
  cases lput cs off vs with
  | none => rfl
  | some cs' => exact Hp.upd_eq hf _

theorem ld1_eq {H : Hp} {i off : Nat} {cs : List Value} {ro : Bool} (h : H.get i = some (.cells cs ro)) {v : Value} (hv : cs[off]? = some v) : ld1 (P i off) H = some v := by
  simp only [ld1, read_eq h, lrange_eq]
  obtain ⟨hl, hv⟩ := List.getElem?_eq_some_iff.1 hv
  rw [if_pos (by omega), Option.bind_some, List.drop_eq_getElem_cons hl, hv]
  rfl
theorem ldA_eq {H : Hp} {i off n : Nat} {cs : List Value} {ro : Bool} (h : H.get i = some (.cells cs ro)) (hl : off + n ≤ cs.length) : ldA n (P i off) H = some (.agg ((cs.drop off).take n).toArray) := by
  simp only [ldA, read_eq h, lrange_eq]
  rw [if_pos hl]; rfl
theorem st_eq {H : Hp} {i off n : Nat} {cs : List Value} {v : Value} (h : H.get i = some (.cells cs false)) (hf : H.floor ≤ i) (hn : (cellsOf v).length = n) (ho : (cellsOf v).all oneCell = true) (hl : off + n ≤ cs.length) :
    st n (P i off) v H = some (.tuple #[], H.setO i (.cells (cs.take off ++ cellsOf v ++ cs.drop (off + n)) false)) := by
  simp only [st, hn, Nat.beq_refl, cond_true, write_eq h hf off ho, lput_eq]
  rw [if_pos hl]; rfl

/-! what is new, what lies deeper -/
@[simp] theorem add_lit1 (a : Nat) : a + 1 + 1 = a + 2 := id rfl
@[simp] theorem add_lit2 (a : Nat) : a + 2 + 1 = a + 3 := id rfl
@[simp] theorem add_lit3 (a : Nat) : a + 3 + 1 = a + 4 := id rfl
@[simp] theorem add_lit4 (a : Nat) : a + 4 + 1 = a + 5 := id rfl
@[simp] theorem add_lit5 (a : Nat) : a + 5 + 1 = a + 6 := id rfl
@[simp] theorem add_lit6 (a : Nat) : a + 6 + 1 = a + 7 := id rfl
@[simp] theorem add_lit7 (a : Nat) : a + 7 + 1 = a + 8 := id rfl
@[simp] theorem add_lit8 (a : Nat) : a + 8 + 1 = a + 9 := id rfl
@[simp] theorem add_lit9 (a : Nat) : a + 9 + 1 = a + 10 := id rfl
@[simp] theorem add_lit10 (a : Nat) : a + 10 + 1 = a + 11 := id rfl
@[simp] theorem add_lit11 (a : Nat) : a + 11 + 1 = a + 12 := id rfl
@[simp] theorem add_lit12 (a : Nat) : a + 12 + 1 = a + 13 := id rfl
@[simp] theorem add_lit13 (a : Nat) : a + 13 + 1 = a + 14 := id rfl
@[simp] theorem add_lit14 (a : Nat) : a + 14 + 1 = a + 15 := id rfl
@[simp] theorem add_lit15 (a : Nat) : a + 15 + 1 = a + 16 := id rfl
@[simp] theorem add_lit16 (a : Nat) : a + 16 + 1 = a + 17 := id rfl
@[simp] theorem add_lit17 (a : Nat) : a + 17 + 1 = a + 18 := id rfl
@[simp] theorem add_lit18 (a : Nat) : a + 18 + 1 = a + 19 := id rfl
@[simp] theorem add_lit19 (a : Nat) : a + 19 + 1 = a + 20 := id rfl
@[simp] theorem add_lit20 (a : Nat) : a + 20 + 1 = a + 21 := id rfl
@[simp] theorem add_lit21 (a : Nat) : a + 21 + 1 = a + 22 := id rfl
@[simp] theorem add_lit22 (a : Nat) : a + 22 + 1 = a + 23 := id rfl
@[simp] theorem add_lit23 (a : Nat) : a + 23 + 1 = a + 24 := id rfl
@[simp] theorem add_lit24 (a : Nat) : a + 24 + 1 = a + 25 := id rfl
@[simp] theorem add_lit25 (a : Nat) : a + 25 + 1 = a + 26 := id rfl
@[simp] theorem add_lit26 (a : Nat) : a + 26 + 1 = a + 27 := id rfl
@[simp] theorem add_lit27 (a : Nat) : a + 27 + 1 = a + 28 := id rfl
@[simp] theorem add_lit28 (a : Nat) : a + 28 + 1 = a + 29 := id rfl
@[simp] theorem add_lit29 (a : Nat) : a + 29 + 1 = a + 30 := id rfl
@[simp] theorem add_lit30 (a : Nat) : a + 30 + 1 = a + 31 := id rfl
@[simp] theorem add_lit31 (a : Nat) : a + 31 + 1 = a + 32 := id rfl
@[simp] theorem add_lit32 (a : Nat) : a + 32 + 1 = a + 33 := id rfl
@[simp] theorem add_lit33 (a : Nat) : a + 33 + 1 = a + 34 := id rfl
@[simp] theorem add_lit34 (a : Nat) : a + 34 + 1 = a + 35 := id rfl
@[simp] theorem add_lit35 (a : Nat) : a + 35 + 1 = a + 36 := id rfl
@[simp] theorem add_lit36 (a : Nat) : a + 36 + 1 = a + 37 := id rfl
@[simp] theorem add_lit37 (a : Nat) : a + 37 + 1 = a + 38 := id rfl
@[simp] theorem add_lit38 (a : Nat) : a + 38 + 1 = a + 39 := id rfl
@[simp] theorem add_lit39 (a : Nat) : a + 39 + 1 = a + 40 := id rfl
@[simp] theorem add_lit40 (a : Nat) : a + 40 + 1 = a + 41 := id rfl
theorem le_more {a b k : Nat} (h : a ≤ b) : a ≤ b + k := Nat.le_trans h (Nat.le_add_right _ _)
theorem lt_more {a b k : Nat} (h : a < b) : a < b + k := Nat.lt_of_lt_of_le h (Nat.le_add_right _ _)
@[simp] theorem le_more2 {a b k0 k1 : Nat} (h : a ≤ b) : a ≤ b + k0 + k1 := by omega
@[simp] theorem lt_more2 {a b k0 k1 : Nat} (h : a < b) : a < b + k0 + k1 := by omega
@[simp] theorem le_more3 {a b k0 k1 k2 : Nat} (h : a ≤ b) : a ≤ b + k0 + k1 + k2 := by omega
@[simp] theorem lt_more3 {a b k0 k1 k2 : Nat} (h : a < b) : a < b + k0 + k1 + k2 := by omega
@[simp] theorem le_more4 {a b k0 k1 k2 k3 : Nat} (h : a ≤ b) : a ≤ b + k0 + k1 + k2 + k3 := by omega
@[simp] theorem lt_more4 {a b k0 k1 k2 k3 : Nat} (h : a < b) : a < b + k0 + k1 + k2 + k3 := by omega
@[simp] theorem le_more5 {a b k0 k1 k2 k3 k4 : Nat} (h : a ≤ b) : a ≤ b + k0 + k1 + k2 + k3 + k4 := by omega
@[simp] theorem lt_more5 {a b k0 k1 k2 k3 k4 : Nat} (h : a < b) : a < b + k0 + k1 + k2 + k3 + k4 := by omega
@[simp] theorem le_more6 {a b k0 k1 k2 k3 k4 k5 : Nat} (h : a ≤ b) : a ≤ b + k0 + k1 + k2 + k3 + k4 + k5 := by omega
@[simp] theorem lt_more6 {a b k0 k1 k2 k3 k4 k5 : Nat} (h : a < b) : a < b + k0 + k1 + k2 + k3 + k4 + k5 := by omega
@[simp] theorem le_more7 {a b k0 k1 k2 k3 k4 k5 k6 : Nat} (h : a ≤ b) : a ≤ b + k0 + k1 + k2 + k3 + k4 + k5 + k6 := by omega
@[simp] theorem lt_more7 {a b k0 k1 k2 k3 k4 k5 k6 : Nat} (h : a < b) : a < b + k0 + k1 + k2 + k3 + k4 + k5 + k6 := by omega
@[simp] theorem le_more8 {a b k0 k1 k2 k3 k4 k5 k6 k7 : Nat} (h : a ≤ b) : a ≤ b + k0 + k1 + k2 + k3 + k4 + k5 + k6 + k7 := by omega
@[simp] theorem lt_more8 {a b k0 k1 k2 k3 k4 k5 k6 k7 : Nat} (h : a < b) : a < b + k0 + k1 + k2 + k3 + k4 + k5 + k6 + k7 := by omega
theorem ne_of_lt' {a b : Nat} (h : a < b) : a ≠ b := Nat.ne_of_lt h
theorem fresh_ok (H : Hp) (args : List Value) : (H.fresh args).floor ≤ (H.fresh args).next := by
  unfold Hp.fresh
  cases args.all plainV
  · exact Nat.le_refl _
  · exact Nat.le_refl _

theorem ld1_get {H : Hp} {i : Nat} {cs : List Value} {ro : Bool} (h : H.get i = some (.cells cs ro)) (off : Nat) : ld1 (P i off) H = cs[off]? := by
  simp only [ld1, read_eq h, lrange_eq]
  by_cases hl : off + 1 ≤ cs.length
  · rw [if_pos hl, Option.bind_some, List.drop_eq_getElem_cons (by omega), List.getElem?_eq_getElem (by omega)]; rfl
  · rw [if_neg hl, List.getElem?_eq_none (by omega)]; rfl
theorem ldA_get {H : Hp} {i : Nat} {cs : List Value} {ro : Bool} (h : H.get i = some (.cells cs ro)) (n off : Nat) : ldA n (P i off) H = if off + n ≤ cs.length then some (.agg ((cs.drop off).take n).toArray) else none := by
  simp only [ldA, read_eq h, lrange_eq]
  by_cases hl : off + n ≤ cs.length
  · rw [if_pos hl, if_pos hl]; rfl
  · rw [if_neg hl, if_neg hl]; rfl
theorem st_get {H : Hp} {i : Nat} {cs : List Value} (h : H.get i = some (.cells cs false)) (hf : H.floor ≤ i) (n off : Nat) {v : Value} (ho : (cellsOf v).all oneCell = true) :
    st n (P i off) v H = if (cellsOf v).length = n ∧ off + n ≤ cs.length then some (.tuple #[], H.setO i (.cells (cs.take off ++ cellsOf v ++ cs.drop (off + n)) false)) else none := by
  by_cases hn : (cellsOf v).length = n
  · by_cases hl : off + n ≤ cs.length
    · rw [if_pos ⟨hn, hl⟩, st_eq h hf hn ho hl]
    · rw [if_neg (fun h => hl h.2)]
      simp only [st, hn, Nat.beq_refl, cond_true, write_eq h hf off ho, lput_eq]
      rw [if_neg hl]; rfl
  · rw [if_neg (fun h => hn h.1)]
    simp only [st, nbeq_f hn, cond_false]; rfl

section
variable (H : Hp) (cs : List Value) (o : Ob)
@[simp] theorem ld1_new (ro : Bool) {i off : Nat} (hi : i = H.next) : ld1 (P i off) (H.new (.cells cs ro)) = cs[off]? := ld1_get (by rw [Hp.get_new, if_pos hi]) off
@[simp] theorem ld1_skip {i off : Nat} (h : i ≠ H.next) : ld1 (P i off) (H.new o) = ld1 (P i off) H := by
  simp only [ld1, readCells, Hp.get_new, if_neg h]
@[simp] theorem ldA_new (ro : Bool) {n i off : Nat} (hi : i = H.next) : ldA n (P i off) (H.new (.cells cs ro)) = if off + n ≤ cs.length then some (.agg ((cs.drop off).take n).toArray) else none := ldA_get (by rw [Hp.get_new, if_pos hi]) n off
@[simp] theorem ldA_skip {n i off : Nat} (h : i ≠ H.next) : ldA n (P i off) (H.new o) = ldA n (P i off) H := by
  simp only [ldA, readCells, Hp.get_new, if_neg h]
@[simp] theorem st_new {n i off : Nat} {v : Value} (hi : i = H.next) (hf : H.floor ≤ H.next) (ho : (cellsOf v).all oneCell = true) :
    st n (P i off) v (H.new (.cells cs false)) = if (cellsOf v).length = n ∧ off + n ≤ cs.length then some (.tuple #[], H.new (.cells (cs.take off ++ cellsOf v ++ cs.drop (off + n)) false)) else none := by
  rw [st_get (by rw [Hp.get_new, if_pos hi]) (by rw [hi]; simpa using hf) n off ho, Hp.setO_new, if_pos hi]
@[simp] theorem st_skip {n i off : Nat} {v : Value} (h : i ≠ H.next) : st n (P i off) v (H.new o) = B (st n (P i off) v H) fun p => some (p.1, p.2.new o) := by
  simp only [B_bind, st, writeCells, Hp.get_new, if_neg h]
  cases Nat.beq (cellsOf v).length n with
  | false => rfl
  | true =>
    simp only [cond_true]
    cases hg : H.get i with
    | none => rfl
    | some ob =>
      cases ob with
      | cells c ro =>
        cases ro with
        | true => rfl
        | false =>
          simp only
          cases (cellsOf v).all oneCell with
          | false => rfl
          | true =>
            simp only [cond_true]
            cases lput c off (cellsOf v) with
            | none => rfl
            | some c' =>
              simp only [Option.bind_some]
              unfold Hp.upd
              show un (bif Nat.ble H.floor i then some ((H.new o).setO i (.cells c' false)) else none) = _
              rw [Hp.setO_new, if_neg h]
              cases Nat.ble H.floor i <;> rfl
      | _ => rfl
end

@[simp] theorem gv_eq (xs : List Value) (i : Nat) : gv xs i = xs[i]?.getD (.tuple #[]) := by simp [gv]
@[simp] theorem nth_eq (X : List Kx) (i : Nat) : nth X i = X[i]?.getD fun _ _ => none := by simp [nth]
@[simp] theorem fillE_nil (pl : Nat → Option (Nat × Nat)) (cs : List Value) : fillE pl cs [] = some cs := id rfl
@[simp] theorem fillE_cons (pl : Nat → Option (Nat × Nat)) (cs : List Value) (i : Nat) (v : Value) (r : List (Nat × Value)) : fillE pl cs ((i, v) :: r) = B (pl i) fun p => if (cellsOf v).length = p.2 ∧ p.1 + (cellsOf v).length ≤ cs.length then fillE pl (cs.take p.1 ++ cellsOf v ++ cs.drop (p.1 + (cellsOf v).length)) r else none := by
  simp only [fillE, B_bind]
  cases pl i with
  | none => rfl
  | some p =>
    obtain ⟨off, size⟩ := p
    simp only [Option.bind_some, lput_eq]
    by_cases h1 : (cellsOf v).length = size
    · rw [nbeq_t h1, cond_true]
      by_cases h2 : off + (cellsOf v).length ≤ cs.length
      · rw [if_pos h2, if_pos ⟨h1, h2⟩]; rfl
      · rw [if_neg h2, if_neg (fun h => h2 h.2)]; rfl
    · rw [nbeq_f h1, cond_false, if_neg (fun h => h1 h.1)]
@[simp] theorem bd_eq (pl : List (Nat × Nat)) (zs : List Value) (ps : List (Nat × Value)) : bd pl zs ps = B (fillE (fun i => pl[i]?) zs ps) fun cs => some (.agg cs.toArray) := by unfold bd; cases fillE (fun i => pl[i]?) zs ps <;> rfl
@[simp] theorem bdA_eq (n : Nat) (zs : List Value) (ps : List (Nat × Value)) : bdA n zs ps = B (fillE (fun i => some (i * n, n)) zs ps) fun cs => some (.agg cs.toArray) := by unfold bdA; cases fillE (fun i => some (i * n, n)) zs ps <;> rfl
@[simp] theorem fl_agg (off : Nat) (cs : Array Value) : fl off (.agg cs) = cs.toList[off]? := id rfl
@[simp] theorem flA_agg (off n : Nat) (cs : Array Value) : flA off n (.agg cs) = if off + n ≤ cs.toList.length then some (.agg ((cs.toList.drop off).take n).toArray) else none := by
  simp only [flA, lrange_eq]
  by_cases h : off + n ≤ cs.toList.length
  · rw [if_pos h, if_pos h]; rfl
  · rw [if_neg h, if_neg h]; rfl
@[simp] theorem oneCell_int (k : IntKind) (n : Int) : oneCell (.int k n) = true := id rfl
@[simp] theorem oneCell_bool (b : Bool) : oneCell (.bool b) = true := id rfl
@[simp] theorem oneCell_ptr (a : Option Addr) : oneCell (.pointer a) = true := id rfl
@[simp] theorem oneCell_slice (a : Option Addr) (n c : Nat) : oneCell (.slice a n c) = true := id rfl
@[simp] theorem oneCell_string (s : ByteArray) : oneCell (.string s) = true := id rfl
@[simp] theorem oneCell_map (s : Option Nat) : oneCell (.map s) = true := id rfl
@[simp] theorem oneCell_func (f : Fn) (x y : Array Value) : oneCell (.func f x y) = true := id rfl
@[simp] theorem oneCell_nilf : oneCell .nilFunc = true := id rfl
@[simp] theorem cellsOf_nilf : cellsOf .nilFunc = [.nilFunc] := id rfl
@[simp] theorem cl_func (call : CallE) (f : FuncId) (x y : Array Value) (args : List Value) (H : Hp) : cl call (.func (.func f) x y) args H = call (.func f) (x.toList ++ args ++ y.toList) H := id rfl
@[simp] theorem cl_yield (call : CallE) (l : Nat) (args : List Value) (H : Hp) : cl call (.func (.yield l) #[] #[]) args H = call (.yield l) args H := id rfl
end Go.Ahe.X
/-
  X, 8: words.
-/
namespace Go.Ahe.X
open Go.Ahe

theorem wr_u64 {n : Int} (h0 : 0 ≤ n) (h : n < 18446744073709551616) : IntKind.u64.wrap n = n := by
  simp only [IntKind.wrap, IntKind.bits, IntKind.signed, Bool.false_and, if_false]
  exact Int.emod_eq_of_lt h0 (by simpa using h)
theorem wr_i64 {n : Int} (h0 : -9223372036854775808 ≤ n) (h : n < 9223372036854775808) : IntKind.i64.wrap n = n := by
  have hd : IntKind.i64.wrap n = if (true && decide (n % (18446744073709551616 : Int) ≥ (9223372036854775808 : Int))) = true then n % (18446744073709551616 : Int) - 18446744073709551616 else n % (18446744073709551616 : Int) := rfl
  rw [hd, Bool.true_and]
  by_cases hn : 0 ≤ n
  · rw [Int.emod_eq_of_lt hn (by omega)]
    rw [if_neg (by simp; omega)]
  · have h1 : n % 18446744073709551616 = n + 18446744073709551616 := by omega
    rw [h1, if_pos (by simp; omega)]
    omega
theorem wr_u64_nat {n : Nat} (h : n < 18446744073709551616) : IntKind.u64.wrap (n : Int) = n := wr_u64 (by omega) (by omega)
theorem wr_i64_nat {n : Nat} (h : n < 9223372036854775808) : IntKind.i64.wrap (n : Int) = n := wr_i64 (by omega) (by omega)

theorem ofInt_nat (w : Nat) : BitVec.ofInt 64 (w : Int) = BitVec.ofNat 64 w := by
  apply BitVec.eq_of_toNat_eq
  simp

theorem and_u64 {w m : Nat} (hw : w < 18446744073709551616) (hm : m < 18446744073709551616) : bitsE .and .u64 (w : Int) (m : Int) = some (U (w &&& m : Nat)) := by
  show some (Value.int .u64 (IntKind.u64.wrap ((BitVec.ofInt 64 (w : Int) &&& BitVec.ofInt 64 (m : Int)).toNat : Int))) = _
  rw [ofInt_nat, ofInt_nat, BitVec.toNat_and, BitVec.toNat_ofNat, BitVec.toNat_ofNat, Nat.mod_eq_of_lt (by simpa using hw), Nat.mod_eq_of_lt (by simpa using hm), wr_u64_nat (Nat.lt_of_le_of_lt Nat.and_le_left hw)]
theorem or_u64 {w m : Nat} (hw : w < 18446744073709551616) (hm : m < 18446744073709551616) : bitsE .or .u64 (w : Int) (m : Int) = some (U (w ||| m : Nat)) := by
  show some (Value.int .u64 (IntKind.u64.wrap ((BitVec.ofInt 64 (w : Int) ||| BitVec.ofInt 64 (m : Int)).toNat : Int))) = _
  rw [ofInt_nat, ofInt_nat, BitVec.toNat_or, BitVec.toNat_ofNat, BitVec.toNat_ofNat, Nat.mod_eq_of_lt (by simpa using hw), Nat.mod_eq_of_lt (by simpa using hm), wr_u64_nat (Nat.or_lt_two_pow (n := 64) hw hm)]
theorem xor_u64 {w m : Nat} (hw : w < 18446744073709551616) (hm : m < 18446744073709551616) : bitsE .xor .u64 (w : Int) (m : Int) = some (U (w ^^^ m : Nat)) := by
  show some (Value.int .u64 (IntKind.u64.wrap ((BitVec.ofInt 64 (w : Int) ^^^ BitVec.ofInt 64 (m : Int)).toNat : Int))) = _
  rw [ofInt_nat, ofInt_nat, BitVec.toNat_xor, BitVec.toNat_ofNat, BitVec.toNat_ofNat, Nat.mod_eq_of_lt (by simpa using hw), Nat.mod_eq_of_lt (by simpa using hm), wr_u64_nat (Nat.xor_lt_two_pow (n := 64) hw hm)]

/-- What of w is not in m. -/
def dif (w m : Nat) : Nat := (BitVec.ofNat 64 w &&& ~~~BitVec.ofNat 64 m).toNat
theorem andNot_u64 (w m : Nat) : bitsE .andNot .u64 (w : Int) (m : Int) = some (U (dif w m : Nat)) := by
  show some (Value.int .u64 (IntKind.u64.wrap ((BitVec.ofInt 64 (w : Int) &&& ~~~BitVec.ofInt 64 (m : Int)).toNat : Int))) = _
  rw [ofInt_nat, ofInt_nat, show (BitVec.ofNat 64 w &&& ~~~BitVec.ofNat 64 m).toNat = dif w m from rfl, wr_u64_nat (BitVec.isLt _)]
theorem dif_zero {w m : Nat} (hw : w < 18446744073709551616) (hm : m < 18446744073709551616) : dif w m = 0 ↔ w &&& m = w := by
  unfold dif
  have hw' : (BitVec.ofNat 64 w).toNat = w := by simp; omega
  have hm' : (BitVec.ofNat 64 m).toNat = m := by simp; omega
  constructor
  · intro h
    have h1 : BitVec.ofNat 64 w &&& ~~~BitVec.ofNat 64 m = 0#64 := BitVec.eq_of_toNat_eq (by simpa using h)
    have h2 : BitVec.ofNat 64 w &&& BitVec.ofNat 64 m = BitVec.ofNat 64 w := by
      ext i hi
      have := congrArg (fun b => b.getLsbD i) h1
      simp [hi] at this ⊢
      intro hwi
      have h3 := this hwi
      simpa using h3
    have := congrArg BitVec.toNat h2
    rw [BitVec.toNat_and, hw', hm'] at this
    exact this
  · intro h
    have h2 : BitVec.ofNat 64 w &&& BitVec.ofNat 64 m = BitVec.ofNat 64 w := BitVec.eq_of_toNat_eq (by rw [BitVec.toNat_and, hw', hm', h])
    have h1 : BitVec.ofNat 64 w &&& ~~~BitVec.ofNat 64 m = 0#64 := by
      ext i hi
      have := congrArg (fun b => b.getLsbD i) h2
      simp [hi] at this ⊢
      exact this
    rw [h1]; rfl

theorem shr_nat (w n : Nat) (hn : n ≤ 64) (k : IntKind) (hk : k.bits = 64) : shiftE .shr k (w : Int) (n : Int) = some (.int k (w / 2 ^ n : Nat)) := by
  unfold shiftE
  rw [if_neg (by omega)]
  simp only [Int.toNat_natCast, hk, Nat.min_eq_left hn]
  congr 2
  rw [Int.fdiv_eq_ediv_of_nonneg _ (Int.le_of_lt (Int.pow_pos (by decide)))]
  simp
theorem shl_u64 (w n : Nat) (hn : n ≤ 64) (h : w * 2 ^ n < 18446744073709551616) : shiftE .shl .u64 (w : Int) (n : Int) = some (U (w * 2 ^ n : Nat)) := by
  unfold shiftE
  rw [if_neg (by omega)]
  simp only [Int.toNat_natCast, show IntKind.u64.bits = 64 from rfl, Nat.min_eq_left hn]
  rw [show (w : Int) * 2 ^ n = ((w * 2 ^ n : Nat) : Int) by simp, wr_u64_nat h]

theorem and_mod (w : Nat) (k m : Nat) (h : m + 1 = 2 ^ k) : w &&& m = w % 2 ^ k := by
  rw [show m = 2 ^ k - 1 by omega, Nat.and_two_pow_sub_one_eq_mod]
theorem and_field (w : Nat) (a b m : Nat) (h : m = (2 ^ a - 1) * 2 ^ b) : w &&& m = (w / 2 ^ b % 2 ^ a) * 2 ^ b := by
  subst h
  apply Nat.eq_of_testBit_eq
  intro i
  rw [Nat.testBit_and, Nat.testBit_mul_two_pow, Nat.testBit_mul_two_pow, Nat.testBit_two_pow_sub_one, Nat.testBit_mod_two_pow, Nat.testBit_div_two_pow]
  by_cases hb : b ≤ i
  · simp only [hb, decide_true, Bool.true_and]
    by_cases ha : i - b < a
    · simp [ha, show i - b + b = i by omega]
    · simp [ha]
  · simp [hb]
/-- Fields that do not meet are added. -/
theorem or_add {a b n : Nat} (hb : b < 2 ^ n) : a * 2 ^ n ||| b = a * 2 ^ n + b := by
  rw [Nat.mul_comm, Nat.two_pow_add_eq_or_of_lt hb]
theorem add_or {a b n : Nat} (hb : b < 2 ^ n) : b ||| a * 2 ^ n = a * 2 ^ n + b := by
  rw [Nat.or_comm, or_add hb]
end Go.Ahe.X
