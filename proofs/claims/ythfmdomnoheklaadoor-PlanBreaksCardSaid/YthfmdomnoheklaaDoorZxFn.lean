/-
  X, 5: loops, joins and functions.
-/
import Derived.Test.YthfmdomnoheklaaDoorZxOk
namespace Go.Ahe.X
open Go.Ahe

theorem getsK_ok {e : FE} : ∀ {ks : List Tmp} {k : List Value → O} {r : Value × Hp}, getsK e ks k = some r → ∃ xs, k xs = some r ∧ xs.length = ks.length ∧ ∀ i t, ks[i]? = some t → e.get t = some (gv xs i)
  | [], k, r, h => ⟨[], h, rfl, fun i t hi => by simp at hi⟩
  | t :: ts, k, r, h => by
    simp only [getsK] at h
    obtain ⟨v, h1, h2⟩ := bind2 h
    obtain ⟨xs, h3, h4, h5⟩ := getsK_ok h2
    refine ⟨v :: xs, h3, by simp [h4], fun i u hi => ?_⟩
    cases i with
    | zero => simp at hi; subst hi; exact h1
    | succ i =>
      have := h5 i u (by simpa using hi)
      rw [this]; simp [gv]

theorem mkE_ok {xs : List Value} : ∀ {ts : List Tmp} {i0 : Nat} {e : FE} {t : Tmp} {v : Value}, (mkE xs ts i0 e).get t = some v → (∃ i, ts[i]? = some t ∧ v = gv xs (i0 + i)) ∨ e.get t = some v
  | [], i0, e, t, v, h => .inr h
  | s :: ts, i0, e, t, v, h => by
    simp only [mkE] at h
    rcases mkE_ok h with ⟨i, h1, h2⟩ | h1
    · exact .inl ⟨i + 1, by simpa using h1, by rw [h2, show i0 + 1 + i = i0 + (i + 1) by omega]⟩
    · rw [Tr.get_set] at h1
      by_cases hts : t = s
      · rw [if_pos hts] at h1
        cases h1
        exact .inl ⟨0, by simp [hts], by rw [Nat.add_zero]⟩
      · rw [if_neg hts] at h1; exact .inr h1

/-- What a frame's values are, told again. -/
theorem Sub.again {e' : FE} {e : Env} (h : Sub e' e) {ks : List Tmp} {xs : List Value} (hx : ∀ i t, ks[i]? = some t → e'.get t = some (gv xs i)) : Sub (mkE xs ks 0 .nl) e := fun k v hk => by
  rcases mkE_ok hk with ⟨i, h1, h2⟩ | h1
  · rw [Nat.zero_add] at h2
    subst h2
    exact h k _ (hx i k h1)
  · cases h1

theorem nth_xsOf {K : RX → O} : ∀ {L : List (Tgt × List Tmp)} {i : Nat} {tg : Tgt} {ts : List Tmp}, L[i]? = some (tg, ts) → ∀ vs H, nth (xsOf K L) i vs H = K (tg.mk (mkE vs ts 0 .nl) H)
  | [], i, tg, ts, h, vs, H => by simp at h
  | (a, b) :: L, 0, tg, ts, h, vs, H => by simp at h; obtain ⟨rfl, rfl⟩ := h; rfl
  | (a, b) :: L, i + 1, tg, ts, h, vs, H => by
    have := nth_xsOf (K := K) (L := L) (i := i) (by simpa using h) vs H
    simpa [nth, xsOf] using this

/-- An exit, told to who waits for it. -/
theorem kx_ok {n : Nat} {K : RX → O} {L0 : List (Tgt × List Tmp)} {r' : RX} {r0 : Rs} (hs : SubR n r' r0) : ∀ {L : List (Tgt × List Tmp)} {i : Nat} {r : Value × Hp}, (∀ j, L[j]? = L0[i + j]?) → kx (xsOf K L0) i L r' = some r → ∃ r1', SubR n r1' r0 ∧ K r1' = some r
  | [], i, r, hL, h => by cases r' <;> cases h
  | (tg, ts) :: L, i, r, hL, h => by
    have hi : L0[i]? = some (tg, ts) := by have := hL 0; simpa using this.symm
    have hL' : ∀ j, L[j]? = L0[i + 1 + j]? := fun j => by
      have := hL (j + 1)
      rw [show i + 1 + j = i + (j + 1) by omega]; simpa using this
    cases tg with
    | nx =>
      cases r' with
      | nx e' H' =>
        cases r0 with
        | nx e H =>
          simp only [kx] at h
          obtain ⟨xs, h1, _, h3⟩ := getsK_ok h
          rw [nth_xsOf hi] at h1
          exact ⟨.nx _ _, ⟨hs.1.again h3, hs.2⟩, h1⟩
        | ex => exact hs.elim
        | rt => exact hs.elim
      | ex j e' H' => exact kx_ok hs hL' (show kx (xsOf K L0) (i + 1) L (.ex j e' H') = some r from h)
      | rt e' H' => exact kx_ok hs hL' (show kx (xsOf K L0) (i + 1) L (.rt e' H') = some r from h)
    | rt =>
      cases r' with
      | rt e' H' =>
        cases r0 with
        | rt e H =>
          simp only [kx] at h
          obtain ⟨xs, h1, _, h3⟩ := getsK_ok h
          rw [nth_xsOf hi] at h1
          exact ⟨.rt _ _, ⟨hs.1.again h3, hs.2⟩, h1⟩
        | ex => exact hs.elim
        | nx => exact hs.elim
      | ex j e' H' => exact kx_ok hs hL' (show kx (xsOf K L0) (i + 1) L (.ex j e' H') = some r from h)
      | nx e' H' => exact kx_ok hs hL' (show kx (xsOf K L0) (i + 1) L (.nx e' H') = some r from h)
    | ex j =>
      cases r' with
      | ex k e' H' =>
        cases r0 with
        | ex m e H =>
          simp only [kx] at h
          cases hj : Nat.beq j k with
          | true =>
            rw [hj, cond_true] at h
            have := nbeq_eq hj; subst this
            obtain ⟨xs, h1, _, h3⟩ := getsK_ok h
            rw [nth_xsOf hi] at h1
            exact ⟨.ex _ _ _, ⟨hs.1, hs.2.1.again h3, hs.2.2⟩, h1⟩
          | false =>
            rw [hj, cond_false] at h
            exact kx_ok hs hL' h
        | rt => exact hs.elim
        | nx => exact hs.elim
      | rt e' H' => exact kx_ok hs hL' (show kx (xsOf K L0) (i + 1) L (.rt e' H') = some r from h)
      | nx e' H' => exact kx_ok hs hL' (show kx (xsOf K L0) (i + 1) L (.nx e' H') = some r from h)

section
variable {C : Ctx} (hx : NoExt C) {n : Nat}
include hx

/-- **WHERE WAYS MEET.** -/
theorem join_ok {c : Code} (lt : LT C n c) (ks : List Tmp) (L : List (Tgt × List Tmp)) (J : List Value → Hp → List Kx → O) (hJ : ∀ xs H X, evX C (ev C) n c lt (mkE xs ks 0 .nl) H (kx X 0 L) = J xs H X) :
    OrOk C n c fun e H K => getsK e ks fun xs => J xs H (xsOf K L) := fun e' e H K r hs hn h => by
  obtain ⟨xs, h1, _, h3⟩ := getsK_ok h
  rw [← hJ] at h1
  obtain ⟨d, r0, r0', g1, g2, g3⟩ := evX_ok hx c lt (mkE xs ks 0 .nl) e H _ r (hs.again h3) hn h1
  obtain ⟨r1', k1, k2⟩ := kx_ok (L0 := L) g2 (L := L) (i := 0) (fun j => by rw [Nat.zero_add]) g3
  exact ⟨d, r0, r1', g1, k1, k2⟩

/-- **LOOPS.** -/
theorem loop_ok {b : Code} (lt : LT C n b) (ks : List Tmp) (L : List (Tgt × List Tmp)) (B : Kx → List Value → Hp → List Kx → O) (hB : ∀ k xs H X, evX C (ev C) n b lt (mkE xs ks 0 .nl) H (kLoop ks L k X) = B k xs H X) :
    OrOk C n (.loop b) fun e H K => getsK e ks fun xs => loopS B rnd xs H (xsOf K L) := fun e' e H K r hs hn h => by
  obtain ⟨xs, h1, _, h3⟩ := getsK_ok h
  have main : ∀ (m : Nat) (xs : List Value) (e : Env) (H : Hp), Sub (mkE xs ks 0 .nl) e → e.size = n → loopS B m xs H (xsOf K L) = some r →
      ∃ d r0 r0', (∀ d', d ≤ d' → loopE (fun e H => evC C (evF C d') b e H) m e H = some r0) ∧ SubR n r0' r0 ∧ K r0' = some r := by
    intro m
    induction m with
    | zero => intro xs e H _ _ h; cases h
    | succ m ih =>
      intro xs e H hs hn h
      simp only [loopS] at h
      rw [← hB] at h
      obtain ⟨d, r0, r0', g1, g2, g3⟩ := evX_ok hx b lt (mkE xs ks 0 .nl) e H _ r hs hn h
      have hse : ∀ d', d ≤ d' → loopE (fun e H => evC C (evF C d') b e H) (m + 1) e H = match r0 with
          | .nx e H => loopE (fun e H => evC C (evF C d') b e H) m e H
          | r => some r := fun d' hd => by
        simp only [loopE]
        rw [g1 d' hd]
        cases r0 <;> rfl
      cases r0' with
      | nx e1' H1' =>
        cases r0 with
        | nx e1 H1 =>
          obtain ⟨k1, k2, rfl⟩ := g2
          simp only [kLoop] at g3
          obtain ⟨ys, y1, _, y3⟩ := getsK_ok g3
          obtain ⟨d2, r2, r2', l1, l2, l3⟩ := ih ys e1 H1' (k1.again y3) k2 y1
          exact ⟨max d d2, r2, r2', fun d' hd => by rw [hse d' (by omega)]; exact l1 d' (by omega), l2, l3⟩
        | ex => exact g2.elim
        | rt => exact g2.elim
      | ex j e1' H1' =>
        cases r0 with
        | ex i e1 H1 =>
          simp only [kLoop] at g3
          obtain ⟨r1', k1, k2⟩ := kx_ok (L0 := L) g2 (L := L) (i := 0) (fun j => by rw [Nat.zero_add]) g3
          exact ⟨d, _, r1', fun d' hd => hse d' hd, k1, k2⟩
        | nx => exact g2.elim
        | rt => exact g2.elim
      | rt e1' H1' =>
        cases r0 with
        | rt e1 H1 =>
          simp only [kLoop] at g3
          obtain ⟨r1', k1, k2⟩ := kx_ok (L0 := L) g2 (L := L) (i := 0) (fun j => by rw [Nat.zero_add]) g3
          exact ⟨d, _, r1', fun d' hd => hse d' hd, k1, k2⟩
        | nx => exact g2.elim
        | ex => exact g2.elim
  rw [rnd_eq] at h1
  exact main rounds xs e H (hs.again h3) hn h1

end

/-- The stand-in of a loop, of a join. -/
noncomputable def loopO {C : Ctx} (hx : NoExt C) {n : Nat} {c : Code} (hc : c = .loop (lft c)) (lt : LT C n (lft c)) (ks : List Tmp) (L : List (Tgt × List Tmp)) (B : Kx → List Value → Hp → List Kx → O) (hB : ∀ k xs H X, evX C (ev C) n (lft c) lt (mkE xs ks 0 .nl) H (kLoop ks L k X) = B k xs H X) : Orac C n c :=
  ⟨fun e H K => getsK e ks fun xs => loopS B rnd xs H (xsOf K L), by rw [hc]; exact loop_ok hx lt ks L B hB⟩
def joinO {C : Ctx} (hx : NoExt C) {n : Nat} {c : Code} (lt : LT C n c) (ks : List Tmp) (L : List (Tgt × List Tmp)) (J : List Value → Hp → List Kx → O) (hJ : ∀ xs H X, evX C (ev C) n c lt (mkE xs ks 0 .nl) H (kx X 0 L) = J xs H X) : Orac C n c :=
  ⟨fun e H K => getsK e ks fun xs => J xs H (xsOf K L), join_ok hx lt ks L J hJ⟩

theorem res1_ok {C : Ctx} {e' : FE} {e : Env} {H : Hp} (h : Sub e' e) {r : ResultVar} {v : Value} (hv : res1 C e' H r = some v) : resE C e H r = some v := by
  cases r with
  | tmp t =>
    obtain ⟨h1, h2⟩ := h.get (show e'.get t = some v from hv)
    simp only [resE, h1, cond_true, h2]
  | cell a t =>
    obtain ⟨u, h1, h2⟩ := bind2 hv
    obtain ⟨h3, h4⟩ := h.get h1
    simp only [resE, h3, cond_true, h4]
    exact h2

theorem resK_ok {C : Ctx} {e' : FE} {e : Env} {H : Hp} (h : Sub e' e) : ∀ {rs : List ResultVar} {k : List Value → O} {r : Value × Hp}, resK C e' H rs k = some r → ∃ vs, resEs C e H rs = some vs ∧ k vs = some r
  | [], k, r, hr => ⟨[], rfl, hr⟩
  | x :: xs, k, r, hr => by
    obtain ⟨v, h1, h2⟩ := bind2 hr
    obtain ⟨vs, h3, h4⟩ := resK_ok h h2
    exact ⟨v :: vs, by simp only [resEs, res1_ok h h1, h3], h4⟩

theorem kRet_ok {C : Ctx} {a : AF} {n : Nat} {r' : RX} {r0 : Rs} (hs : SubR n r' r0) {r : Value × Hp} (h : kRet C a.results r' = some r) : resO C a r0 = some r := by
  have key : ∀ {e' : FE} {e : Env} {H : Hp}, Sub e' e → (resK C e' H a.results fun vs => some (tup vs, H)) = some r → (resultE C e H a.results).map (fun v => (v, H)) = some r := fun {e' e H} hs h => by
    obtain ⟨vs, h1, h2⟩ := resK_ok hs h
    unfold resultE
    rw [h1]
    cases h2
    cases vs with
    | nil => rfl
    | cons v vs => cases vs with
      | nil => rfl
      | cons w vs => rfl
  cases r' with
  | nx e' H' => cases r0 with
    | nx e H => obtain ⟨h1, _, rfl⟩ := hs; exact key h1 h
    | ex => exact hs.elim
    | rt => exact hs.elim
  | rt e' H' => cases r0 with
    | rt e H => obtain ⟨h1, _, rfl⟩ := hs; exact key h1 h
    | ex => exact hs.elim
    | nx => exact hs.elim
  | ex j e' H' => cases h

theorem argsK {l : List Value} : ∀ (k : Nat) (t : Tr Value) {j : Nat} {v : Value}, ((l.foldl (fun (p : Nat × Tr Value) v => (p.1 + 1, p.2.set p.1 v)) (k, t)).2).get j = some v → j < k + l.length ∨ t.get j = some v := by
  induction l with
  | nil => exact fun k t j v h => .inr h
  | cons x l ih =>
    intro k t j v h
    rw [List.foldl_cons] at h
    rcases ih (k + 1) (t.set k x) h with h1 | h1
    · left; simp only [List.length_cons]; omega
    · rw [Tr.get_set] at h1
      by_cases hj : j = k
      · left; simp only [List.length_cons]; omega
      · rw [if_neg hj] at h1; exact .inr h1

/-- The frame of arguments. -/
def args0 (n : Nat) (args : List Value) : FE := (Env.ofArgs n args).t

theorem args0_sub {n : Nat} {args : List Value} (h : Nat.ble args.length n = true) : Sub (args0 n args) (Env.ofArgs n args) := fun k v hk => by
  refine ⟨?_, hk⟩
  have h := nble_le h
  rcases argsK 0 .nl hk with h1 | h1
  · show k < n; omega
  · cases h1

/-- **A FUNCTION.** -/
theorem body_ok {C : Ctx} (hx : NoExt C) {a : AF} {args : List Value} {H : Hp} {r : Value × Hp} (hl : Nat.ble args.length a.ntmps = true) (lt : LT C a.ntmps a.code) (h : evX C (ev C) a.ntmps a.code lt (args0 a.ntmps args) H (kRet C a.results) = some r) : ∃ d, bodyE C (evF C d) a args H = some r := by
  obtain ⟨d, r0, r0', h1, h2, h3⟩ := evX_ok hx a.code lt _ _ _ _ _ (args0_sub hl) rfl h
  refine ⟨d, ?_⟩
  have he : bodyE C (evF C d) a args H = (evC C (evF C d) a.code (Env.ofArgs a.ntmps args) H).bind (resO C a) := by
    unfold bodyE
    rw [hl, cond_true]
    cases evC C (evF C d) a.code (Env.ofArgs a.ntmps args) H with
    | none => rfl
    | some r => cases r <;> rfl
  rw [he, h1 d (Nat.le_refl _), Option.bind_some]
  exact kRet_ok h2 h3

theorem call_ok {C : Ctx} (hx : NoExt C) {f : FuncId} {a : AF} (hf : C.fn f = some a) (hp : a.pure = false) {args : List Value} {H : Hp} {r : Value × Hp} (h : ∃ d, bodyE C (evF C d) a args H = some r) : ev C (.func f) args H = some r := by
  obtain ⟨d, h⟩ := h
  refine ev_iff.2 ⟨d + 1, ?_⟩
  simp only [evF, hx f, hf, hp]
  exact h

theorem pure_ok {C : Ctx} (hx : NoExt C) {f : FuncId} {a : AF} (hf : C.fn f = some a) (hp : a.pure = true) {args : List Value} {H H1 : Hp} {v : Value} (hv : plainV v = true) (h : ∃ d, bodyE C (evF C d) a args (H.fresh args) = some (v, H1)) : ev C (.func f) args H = some (v, H) := by
  obtain ⟨d, h⟩ := h
  refine ev_iff.2 ⟨d + 1, ?_⟩
  simp only [evF, hx f, hf, hp, h, hv, cond_true]
end Go.Ahe.X

namespace Go.Ahe.X
open Go.Ahe
/-- A pure call without addresses: one run will do for all heaps. -/
theorem pure_any {C : Ctx} (hx : NoExt C) {f : FuncId} {a : AF} (hf : C.fn f = some a) (hp : a.pure = true) {args : List Value} (ha : args.all plainV = true) {d : Nat} {H0 H1 : Hp} {v : Value} (h : evF C d (.func f) args H0 = some (v, H1)) (H : Hp) : ev C (.func f) args H = some (v, H) := by
  refine ev_iff.2 ⟨d, ?_⟩
  cases d with
  | zero => cases h
  | succ d =>
    simp only [evF, hx f, hf, hp, Hp.fresh, ha, cond_true] at h ⊢
    cases hb : bodyE C (evF C d) a args ⟨.nl, 0, 0⟩ with
    | none => rw [hb] at h; cases h
    | some q =>
      rw [hb] at h
      simp only at h ⊢
      obtain ⟨h1, h2⟩ := bif_some h
      cases h2
      rw [h1]; rfl
theorem pure_map {C : Ctx} (hx : NoExt C) {f : FuncId} {a : AF} (hf : C.fn f = some a) (hp : a.pure = true) {args : List Value} {H : Hp} {v : Value} (hv : plainV v = true) {F : O} (h : F.map (·.1) = some v) (hb : ∀ {r : Value × Hp}, F = some r → ∃ d, bodyE C (evF C d) a args (H.fresh args) = some r) : ev C (.func f) args H = some (v, H) := by
  cases hF : F with
  | none => rw [hF] at h; cases h
  | some r =>
    rw [hF] at h
    cases h
    exact pure_ok hx hf hp hv (H1 := r.2) (hb hF)
end Go.Ahe.X
