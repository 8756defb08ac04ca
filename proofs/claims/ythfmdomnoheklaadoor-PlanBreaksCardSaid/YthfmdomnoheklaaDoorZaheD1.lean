/-
  AHE, 20a: regions that draw their order: what stands ahead of what; the walk in the text's order, step by step.
-/
import Derived.Test.YthfmdomnoheklaaDoorZaheCode
namespace Go.Ahe
open Go.RowKit

theorem masks_pre : ∀ (l : List Oper) (acc : List Nat), ∃ t, masks l acc = acc ++ t
  | [], acc => ⟨[], by simp [masks]⟩
  | o :: l, acc => by
    obtain ⟨t, ht⟩ := masks_pre l (acc ++ [maskE acc o.after.toList])
    exact ⟨maskE acc o.after.toList :: t, by rw [masks, ht]; simp⟩

theorem masks_spec : ∀ (l : List Oper) (acc : List Nat) (k : Nat) (o : Oper), l[k]? = some o →
    (masks l acc)[acc.length + k]? = some (maskE ((masks l acc).take (acc.length + k)) o.after.toList)
  | [], acc, k, o, h => by simp at h
  | x :: l, acc, 0, o, h => by
    simp at h; subst h
    obtain ⟨t, ht⟩ := masks_pre l (acc ++ [maskE acc x.after.toList])
    rw [masks, ht, Nat.add_zero, List.append_assoc, List.getElem?_append_right (Nat.le_refl _), List.take_append_of_le_length (Nat.le_refl _), List.take_length]
    simp
  | x :: l, acc, k + 1, o, h => by
    have := masks_spec l (acc ++ [maskE acc x.after.toList]) k o (by simpa using h)
    rw [List.length_append, List.length_singleton] at this
    rw [masks, show acc.length + (k + 1) = acc.length + 1 + k by omega]
    exact this

theorem maskE_bit {acc : List Nat} {j : Nat} : ∀ {es : List Edge}, (maskE acc es).testBit j = true → ∃ e ∈ es, Region.binds .any e = true ∧ (e.on = j ∨ ((acc[e.on]?).getD 0).testBit j = true)
  | [], h => by simp [maskE] at h
  | e :: es, h => by
    rw [maskE] at h
    cases hb : Region.binds .any e with
    | false =>
      rw [hb, cond_false] at h
      obtain ⟨e', h1, h2⟩ := maskE_bit h
      exact ⟨e', List.mem_cons_of_mem _ h1, h2⟩
    | true =>
      rw [hb, cond_true, Nat.testBit_or, Nat.testBit_or] at h
      simp only [Bool.or_eq_true] at h
      rcases h with h | h | h
      · rw [Nat.testBit_two_pow] at h
        exact ⟨e, List.mem_cons_self .., hb, .inl (by simpa using h)⟩
      · exact ⟨e, List.mem_cons_self .., hb, .inr h⟩
      · obtain ⟨e', h1, h2⟩ := maskE_bit h
        exact ⟨e', List.mem_cons_of_mem _ h1, h2⟩

/-- What a region's check says. -/
structure RegOk (ops : Array Oper) (ms : List Nat) : Prop where
  back : ∀ (i : Nat) (o : Oper), ops[i]? = some o → ∀ e ∈ o.after, Region.binds .any e = true → e.on < i
  mask : ∀ (i : Nat) (o : Oper), ops[i]? = some o → ms[i]? = some (maskE (ms.take i) o.after.toList)
  alone : ∀ (i j : Nat) (x o : Oper) (t : Tmp), ops[i]? = some x → ops[j]? = some o → i ≠ j → x.dst = some t → o.dst ≠ some t
  uses : ∀ (i j : Nat) (x o : Oper) (t : Tmp), ops[i]? = some x → ops[j]? = some o → i ≠ j → x.dst = some t → usesT ops.toList o t = true → ordB ms i j = true

theorem regOk1_spec {ops : List Oper} {ms : List Nat} {j : Nat} {o : Oper} : ∀ {l : List Oper} {p : Nat}, regOk1 ops ms j o l p = true → ∀ (k : Nat) (x : Oper), l[k]? = some x → p + k ≠ j → ∀ t, x.dst = some t → o.dst ≠ some t ∧ (usesT ops o t = true → ordB ms (p + k) j = true)
  | [], p, h, k, x, hk, _, _, _ => by simp at hk
  | y :: l, p, h, k, x, hk, hne, t, ht => by
    rw [regOk1, Bool.and_eq_true] at h
    cases k with
    | zero =>
      simp at hk; subst hk
      have h1 := h.1
      rw [Nat.add_zero] at hne ⊢
      rw [nbeq_f hne, Bool.false_or, ht] at h1
      simp only [Bool.and_eq_true] at h1
      refine ⟨fun hd => ?_, fun hu => ?_⟩
      · rw [hd] at h1
        simp only [nbeq_t] at h1
        exact absurd h1.1 (by decide)
      · have h2 := h1.2
        rw [hu] at h2
        simpa using h2
    | succ k =>
      have := regOk1_spec h.2 k x (by simpa using hk) (by omega) t ht
      rwa [show p + 1 + k = p + (k + 1) by omega] at this

theorem regOk_spec {ops : List Oper} {ms : List Nat} : ∀ {l : List Oper} {p : Nat}, regOk ops ms l p = true → ∀ (k : Nat) (o : Oper), l[k]? = some o →
    (∀ e ∈ o.after, Region.binds .any e = true → e.on < p + k) ∧ regOk1 ops ms (p + k) o ops 0 = true
  | [], p, h, k, o, hk => by simp at hk
  | y :: l, p, h, k, o, hk => by
    rw [regOk, Bool.and_eq_true, Bool.and_eq_true] at h
    cases k with
    | zero =>
      simp at hk; subst hk
      refine ⟨fun e he hb => ?_, h.1.2⟩
      have := List.all_eq_true.1 h.1.1 e (by simpa using he)
      rw [hb] at this
      simpa using this
    | succ k =>
      have := regOk_spec h.2 k o (by simpa using hk)
      rwa [show p + 1 + k = p + (k + 1) by omega] at this

theorem RegOk.of {ops : Array Oper} (h : regOk ops.toList (masks ops.toList []) ops.toList 0 = true) : RegOk ops (masks ops.toList []) where
  back i o hi e he hb := by
    have := (regOk_spec h i o (by simpa using hi)).1 e he hb
    omega
  mask i o hi := by
    have := masks_spec ops.toList [] i o (by simpa using hi)
    simpa using this
  alone i j x o t hi hj hne ht := by
    have h1 := (regOk_spec h j o (by simpa using hj)).2
    rw [Nat.zero_add] at h1
    exact (regOk1_spec h1 i x (by simpa using hi) (by omega) t ht).1
  uses i j x o t hi hj hne ht hu := by
    have h1 := (regOk_spec h j o (by simpa using hj)).2
    rw [Nat.zero_add] at h1
    have := (regOk1_spec h1 i x (by simpa using hi) (by omega) t ht).2 hu
    rwa [Nat.zero_add] at this

/-- What stands ahead of an operation that may come next has been done. -/
theorem RegOk.closed {ops : Array Oper} {ms : List Nat} (h : RegOk ops ms) {L : Nat → Prop} (hL : ∀ (i : Nat) (o : Oper), ops[i]? = some o → L i → ∀ e ∈ o.after, Region.binds .any e = true → L e.on) :
    ∀ (i : Nat) (o : Oper), ops[i]? = some o → (∀ e ∈ o.after, Region.binds .any e = true → L e.on) → ∀ j, ((ms[i]?).getD 0).testBit j = true → L j := by
  intro i
  induction i using Nat.strongRecOn with
  | _ i ih =>
    intro o hi hall j hj
    rw [h.mask i o hi, Option.getD_some] at hj
    obtain ⟨e, he, hb, h1⟩ := maskE_bit hj
    have he : e ∈ o.after := by simpa using he
    rcases h1 with h1 | h1
    · subst h1; exact hall e he hb
    · have hlt := h.back i o hi e he hb
      rw [List.getElem?_take, if_pos hlt] at h1
      have hi' : i < ops.size := (Array.getElem?_eq_some_iff.1 hi).1
      have hon : ops[e.on]? = some ops[e.on] := Array.getElem?_eq_getElem (by omega)
      exact ih e.on hlt _ hon (hL e.on _ hon (hall e he hb)) j h1

theorem mayWrite_spec {ms : List Nat} {i : Nat} : ∀ {l : List Oper} {p : Nat}, mayWrite ms i l p = true → ∀ (k : Nat) (x : Oper), l[k]? = some x → p + k ≠ i → pureOp x.op = true ∨ readerOp x.op = true ∨ ordB ms i (p + k) = true
  | [], p, h, k, x, hk, _ => by simp at hk
  | y :: l, p, h, k, x, hk, hne => by
    rw [mayWrite, Bool.and_eq_true] at h
    cases k with
    | zero =>
      simp at hk; subst hk
      have h1 := h.1
      rw [Nat.add_zero] at hne ⊢
      rw [nbeq_f (Ne.symm hne), Bool.false_or] at h1
      simpa using h1
    | succ k =>
      have := mayWrite_spec h.2 k x (by simpa using hk) (by omega)
      rwa [show p + 1 + k = p + (k + 1) by omega] at this

/-! ### The walk, step by step -/
theorem runD_trace {C : Ctx} {call : CallE} {ops : Array Oper} {ms : List Nat} : ∀ {l : List Oper} {p : Nat} {s s' : DS}, runD C call ops ms l p s = some s' →
    ∃ S : Nat → DS, S p = s ∧ S (p + l.length) = s' ∧ ∀ (k : Nat) (o : Oper), l[k]? = some o → stepD C call ops ms (p + k) o (S (p + k)) = some (S (p + k + 1))
  | [], p, s, s', h => by
    simp only [runD] at h; cases h
    exact ⟨fun _ => s, rfl, rfl, fun k o hk => by simp at hk⟩
  | x :: l, p, s, s', h => by
    simp only [runD] at h
    split at h
    · rename_i s1 h1
      obtain ⟨S, e1, e2, e3⟩ := runD_trace h
      refine ⟨fun k => if k = p then s else S k, if_pos rfl, ?_, fun k o hk => ?_⟩
      · simp only [List.length_cons]
        rw [if_neg (by omega), show p + (l.length + 1) = p + 1 + l.length by omega]; exact e2
      · cases k with
        | zero =>
          simp at hk; subst hk
          show stepD C call ops ms (p + 0) x (if p + 0 = p then s else S (p + 0)) = some (if p + 0 + 1 = p then s else S (p + 0 + 1))
          rw [if_pos (by omega), if_neg (by omega)]
          simp only [Nat.add_zero, e1]; exact h1
        | succ k =>
          have := e3 k o (by simpa using hk)
          show stepD C call ops ms (p + (k + 1)) o (if p + (k + 1) = p then s else S (p + (k + 1))) = some (if p + (k + 1) + 1 = p then s else S (p + (k + 1) + 1))
          rw [if_neg (by omega), if_neg (by omega), show p + (k + 1) = p + 1 + k by omega]
          exact this
    · cases h

theorem writer_not {o : Op} (h : writerOp o = true) : pureOp o = false ∧ readerOp o = false := by
  cases o <;> first | (cases h; done) | exact ⟨rfl, rfl⟩ | skip
  rename_i c
  obtain ⟨callee, args, ats⟩ := c
  cases callee with
  | builtin b => cases b <;> first | (cases h; done) | exact ⟨rfl, rfl⟩
  | value f => exact ⟨rfl, rfl⟩
  | invoke r n => cases h

/-- The walk's facts: 'E' frames, 'K' heaps, 'V' values, 'EW' the operations that wrote. -/
structure Tc (C : Ctx) (call : CallE) (ops : Array Oper) (ms : List Nat) (E : Nat → Env) (K : Nat → Hp) (V : Nat → Value) (EW : Nat → Prop) : Prop where
  put : ∀ (k : Nat) (o : Oper), ops[k]? = some o → (E k).put o.dst (V k) = some (E (k + 1))
  lt : ∀ k, EW k → k < ops.size
  skip : ∀ (k : Nat) (o : Oper), ops[k]? = some o → wantE ops o (E k) = false → V k = .tuple #[] ∧ K (k + 1) = K k ∧ ¬ EW k
  wr : ∀ (k : Nat) (o : Oper), ops[k]? = some o → EW k → wantE ops o (E k) = true ∧ opE C call o.op o.type (E k) (K k) = some (V k, K (k + 1)) ∧ writerOp o.op = true ∧
    ∀ (j : Nat) (x : Oper), ops[j]? = some x → j ≠ k → pureOp x.op = true ∨ readerOp x.op = true ∨ ordB ms k j = true
  md : ∀ (k : Nat) (o : Oper), ops[k]? = some o → wantE ops o (E k) = true → ¬ EW k → ∃ H1, opE C call o.op o.type (E k) (K k).raised = some (V k, H1) ∧ K (k + 1) = H1.lowered (K k).floor
  was : ∀ (i k : Nat) (o : Oper), ops[k]? = some o → wantE ops o (E k) = true → readerOp o.op = true → EW i → i < k → ordB ms i k = true ∨ ∃ u H1, opE C call o.op o.type (E k) (K i) = some (u, H1) ∧ valEq u (V k) = true
  still : ∀ (i k : Nat) (o : Oper), ops[k]? = some o → wantE ops o (E k) = true → readerOp o.op = true → EW i → k < i → ordB ms i k = true ∨ ∃ u H1, opE C call o.op o.type (E k) (K (i + 1)) = some (u, H1) ∧ valEq u (V k) = true

theorem stillSame_spec {C : Ctx} {call : CallE} {ms : List Nat} {i : Nat} {H : Hp} : ∀ {l : List Seen}, stillSame C call ms i H l = true → ∀ s ∈ l, ordB ms i s.at_ = true ∨ ∃ u H1, opE C call s.op.op s.op.type s.env H = some (u, H1) ∧ valEq u s.val = true
  | [], _, s, hs => by cases hs
  | x :: l, h, s, hs => by
    rw [stillSame, Bool.and_eq_true, Bool.or_eq_true] at h
    rcases List.mem_cons.1 hs with rfl | hs
    · rcases h.1 with h1 | h1
      · exact .inl h1
      · split at h1
        · rename_i v H1 hop; exact .inr ⟨v, H1, hop, h1⟩
        · cases h1
    · exact stillSame_spec h.2 s hs

theorem wasSame_spec {C : Ctx} {call : CallE} {ms : List Nat} {j : Nat} {o : Oper} {e : Env} {v : Value} : ∀ {l : List (Nat × Hp)}, wasSame C call ms j o e v l = true → ∀ s ∈ l, ordB ms s.1 j = true ∨ ∃ u H1, opE C call o.op o.type e s.2 = some (u, H1) ∧ valEq u v = true
  | [], _, s, hs => by cases hs
  | (i, H) :: l, h, s, hs => by
    rw [wasSame, Bool.and_eq_true, Bool.or_eq_true] at h
    rcases List.mem_cons.1 hs with rfl | hs
    · rcases h.1 with h1 | h1
      · exact .inl h1
      · split at h1
        · rename_i v H1 hop; exact .inr ⟨v, H1, hop, h1⟩
        · cases h1
    · exact wasSame_spec h.2 s hs

theorem runD_tc {C : Ctx} {call : CallE} {ops : Array Oper} {ms : List Nat} {e : Env} {H : Hp} {s' : DS} (h : runD C call ops ms ops.toList 0 ⟨e, H, [], [], .tuple #[]⟩ = some s') :
    ∃ E K V EW, E 0 = e ∧ K 0 = H ∧ E ops.size = s'.env ∧ K ops.size = s'.hp ∧ Tc C call ops ms E K V EW := by
  obtain ⟨S, h0, hn, hst⟩ := runD_trace h
  simp only [Nat.zero_add, Array.length_toList] at hn hst
  have hst : ∀ (k : Nat) (o : Oper), ops[k]? = some o → stepD C call ops ms k o (S k) = some (S (k + 1)) := fun k o hk => hst k o (by simpa using hk)
  let EW : Nat → Prop := fun k => ∃ o, ops[k]? = some o ∧ wantE ops o (S k).env = true ∧ isW C ms ops.toList k o = true
  -- what one step says
  have step : ∀ (k : Nat) (o : Oper), ops[k]? = some o →
      ((S k).env.put o.dst (S (k + 1)).val = some (S (k + 1)).env) ∧
      (wantE ops o (S k).env = false → (S (k + 1)).val = .tuple #[] ∧ (S (k + 1)).hp = (S k).hp ∧ (S (k + 1)).seen = (S k).seen ∧ (S (k + 1)).ws = (S k).ws) ∧
      (wantE ops o (S k).env = true → isW C ms ops.toList k o = true → opE C call o.op o.type (S k).env (S k).hp = some ((S (k + 1)).val, (S (k + 1)).hp) ∧ stillSame C call ms k (S (k + 1)).hp (S k).seen = true ∧ (S (k + 1)).seen = (S k).seen ∧ (S (k + 1)).ws = (k, (S k).hp) :: (S k).ws) ∧
      (wantE ops o (S k).env = true → isW C ms ops.toList k o = false → (∃ H1, opE C call o.op o.type (S k).env (S k).hp.raised = some ((S (k + 1)).val, H1) ∧ (S (k + 1)).hp = H1.lowered (S k).hp.floor) ∧ (S (k + 1)).ws = (S k).ws ∧
        (readerOp o.op = true → wasSame C call ms k o (S k).env (S (k + 1)).val (S k).ws = true ∧ (S (k + 1)).seen = ⟨k, o, (S k).env, (S (k + 1)).val⟩ :: (S k).seen) ∧
        (readerOp o.op = false → (S (k + 1)).seen = (S k).seen)) := fun k o hk => by
    have h1 := hst k o hk
    generalize S (k + 1) = s1 at h1 ⊢
    generalize S k = s0 at h1 ⊢
    unfold stepD at h1
    split at h1
    · rename_i hw
      split at h1
      · rename_i e1 hput
        cases h1
        exact ⟨hput, fun _ => ⟨rfl, rfl, rfl, rfl⟩, fun h => by rw [hw] at h; (cases h), fun h => by rw [hw] at h; (cases h)⟩
      · cases h1
    · rename_i hw
      split at h1
      · rename_i hiw
        split at h1
        · rename_i v H1 hop
          split at h1
          · rename_i e1 hss hput
            cases h1
            exact ⟨hput, fun h => by rw [hw] at h; (cases h), fun _ _ => ⟨hop, hss, rfl, rfl⟩, fun _ h => by rw [hiw] at h; (cases h)⟩
          · cases h1
        · cases h1
      · rename_i hiw
        split at h1
        · rename_i v H1 hop
          split at h1
          · rename_i hrd
            split at h1
            · rename_i e1 hss hput
              cases h1
              exact ⟨hput, fun h => by rw [hw] at h; (cases h), fun _ h => by rw [hiw] at h; (cases h), fun _ _ => ⟨⟨H1, hop, rfl⟩, rfl, fun _ => ⟨hss, rfl⟩, fun h => by rw [hrd] at h; (cases h)⟩⟩
            · cases h1
          · rename_i hrd
            split at h1
            · rename_i e1 hput
              cases h1
              exact ⟨hput, fun h => by rw [hw] at h; (cases h), fun _ h => by rw [hiw] at h; (cases h), fun _ _ => ⟨⟨H1, hop, rfl⟩, rfl, fun h => by rw [hrd] at h; (cases h), fun _ => rfl⟩⟩
            · cases h1
        · cases h1
  -- the lists grow
  have seenMono : ∀ (k : Nat) (o : Oper), ops[k]? = some o → ∀ s ∈ (S k).seen, s ∈ (S (k + 1)).seen := fun k o hk s hs => by
    obtain ⟨_, h1, h2, h3⟩ := step k o hk
    cases hw : wantE ops o (S k).env with
    | false => rw [(h1 hw).2.2.1]; exact hs
    | true =>
      cases hi : isW C ms ops.toList k o with
      | true => rw [(h2 hw hi).2.2.1]; exact hs
      | false =>
        cases hrd : readerOp o.op with
        | true => rw [((h3 hw hi).2.2.1 hrd).2]; exact List.mem_cons_of_mem _ hs
        | false => rw [(h3 hw hi).2.2.2 hrd]; exact hs
  have wsMono : ∀ (k : Nat) (o : Oper), ops[k]? = some o → ∀ s ∈ (S k).ws, s ∈ (S (k + 1)).ws := fun k o hk s hs => by
    obtain ⟨_, h1, h2, h3⟩ := step k o hk
    cases hw : wantE ops o (S k).env with
    | false => rw [(h1 hw).2.2.2]; exact hs
    | true =>
      cases hi : isW C ms ops.toList k o with
      | true => rw [(h2 hw hi).2.2.2]; exact List.mem_cons_of_mem _ hs
      | false => rw [(h3 hw hi).2.1]; exact hs
  have ge : ∀ m, m < ops.size → ∃ o, ops[m]? = some o := fun m hm => ⟨_, Array.getElem?_eq_getElem hm⟩
  have seenAll : ∀ (j : Nat) (o : Oper), ops[j]? = some o → wantE ops o (S j).env = true → isW C ms ops.toList j o = false → readerOp o.op = true → ∀ d, j + 1 + d ≤ ops.size → ⟨j, o, (S j).env, (S (j + 1)).val⟩ ∈ (S (j + 1 + d)).seen := fun j o hj hw hi hrd d => by
    induction d with
    | zero => intro _; rw [Nat.add_zero, (((step j o hj).2.2.2 hw hi).2.2.1 hrd).2]; exact List.mem_cons_self ..
    | succ d ih =>
      intro hd
      obtain ⟨o', ho'⟩ := ge (j + 1 + d) (by omega)
      exact seenMono _ o' ho' _ (ih (by omega))
  have wsAll : ∀ (j : Nat) (o : Oper), ops[j]? = some o → wantE ops o (S j).env = true → isW C ms ops.toList j o = true → ∀ d, j + 1 + d ≤ ops.size → (j, (S j).hp) ∈ (S (j + 1 + d)).ws := fun j o hj hw hi d => by
    induction d with
    | zero => intro _; rw [Nat.add_zero, ((step j o hj).2.2.1 hw hi).2.2.2]; exact List.mem_cons_self ..
    | succ d ih =>
      intro hd
      obtain ⟨o', ho'⟩ := ge (j + 1 + d) (by omega)
      exact wsMono _ o' ho' _ (ih (by omega))
  have notW : ∀ (k : Nat) (o : Oper), ops[k]? = some o → wantE ops o (S k).env = true → ¬ EW k → isW C ms ops.toList k o = false := fun k o hk hw hne => by
    cases hi : isW C ms ops.toList k o with
    | false => rfl
    | true => exact absurd ⟨o, hk, hw, hi⟩ hne
  have rdNotW : ∀ (k : Nat) (o : Oper), readerOp o.op = true → isW C ms ops.toList k o = false := fun k o hrd => by
    unfold isW
    cases hwo : writerOp o.op with
    | false => rfl
    | true => rw [(writer_not hwo).2] at hrd; cases hrd
  refine ⟨fun k => (S k).env, fun k => (S k).hp, fun k => (S (k + 1)).val, EW, by simp only [h0], by simp only [h0], by simp only [hn], by simp only [hn], ?_, ?_, ?_, ?_, ?_, ?_, ?_⟩
  · exact fun k o hk => (step k o hk).1
  · rintro k ⟨o, hk, _⟩; exact (Array.getElem?_eq_some_iff.1 hk).1
  · intro k o hk hw
    obtain ⟨h1, h2, _⟩ := (step k o hk).2.1 hw
    exact ⟨h1, h2, fun ⟨o', h3, h4, _⟩ => by rw [hk] at h3; cases h3; rw [hw] at h4; cases h4⟩
  · rintro k o hk ⟨o', h3, hw, hi⟩
    rw [hk] at h3; cases h3
    have hi' := hi
    unfold isW at hi'
    rw [Bool.and_eq_true, Bool.and_eq_true] at hi'
    refine ⟨hw, ((step k o hk).2.2.1 hw hi).1, hi'.1, fun j x hj hne => ?_⟩
    have := mayWrite_spec hi'.2.2 j x (by simpa using hj) (by omega)
    rwa [Nat.zero_add] at this
  · intro k o hk hw hne
    exact ((step k o hk).2.2.2 hw (notW k o hk hw hne)).1
  · rintro i k o hk hw hrd ⟨x, hi, hwx, hix⟩ hlt
    have hks : k < ops.size := (Array.getElem?_eq_some_iff.1 hk).1
    have hm := wsAll i x hi hwx hix (k - (i + 1)) (by omega)
    rw [show i + 1 + (k - (i + 1)) = k by omega] at hm
    exact wasSame_spec (((step k o hk).2.2.2 hw (rdNotW k o hrd)).2.2.1 hrd).1 _ hm
  · rintro i k o hk hw hrd ⟨x, hi, hwx, hix⟩ hlt
    have his : i < ops.size := (Array.getElem?_eq_some_iff.1 hi).1
    have hm := seenAll k o hk hw (rdNotW k o hrd) hrd (i - (k + 1)) (by omega)
    rw [show k + 1 + (i - (k + 1)) = i by omega] at hm
    exact stillSame_spec ((step i x hi).2.2.1 hwx hix).2.1 _ hm
end Go.Ahe
