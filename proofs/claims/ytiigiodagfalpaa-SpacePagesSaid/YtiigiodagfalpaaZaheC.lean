/-
  AHE, 20a: regions that draw their order: what stands ahead of what; the walk in the text's order, step by step.
-/
import Derived.Test.YtiigiodagfalpaaZaheB
import Derived.ChangeShapes
import Derived.WideShapes
namespace Go.Ahe
open Go.RowKit

theorem masks_pre : ∀ (l : List Oper) (acc : List Nat), ∃ t, masks l acc = acc ++ t
  | [], acc => ⟨[], by simp [masks]⟩
  | o :: l, acc => by
    obtain ⟨t, ht⟩ := masks_pre l (acc ++ [maskE acc o.after.toList])
    exact ⟨maskE acc o.after.toList :: t, by rw [masks, ht]; simp⟩

theorem masks_spec : ∀ (l : List Oper) (acc : List Nat) (k : Nat) (o : Oper), l[k]? = some o →
    (masks l acc)[acc.length + k]? = some (maskE ((masks l acc).take (acc.length + k)) o.after.toList)
  | [], acc, k, o, h => by simp at h
  | x :: l, acc, 0, o, h => by
    simp at h; subst h
    obtain ⟨t, ht⟩ := masks_pre l (acc ++ [maskE acc x.after.toList])
    rw [masks, ht, Nat.add_zero, List.append_assoc, List.getElem?_append_right (Nat.le_refl _), List.take_append_of_le_length (Nat.le_refl _), List.take_length]
    simp
  | x :: l, acc, k + 1, o, h => by
    have := masks_spec l (acc ++ [maskE acc x.after.toList]) k o (by simpa using h)
    rw [List.length_append, List.length_singleton] at this
    rw [masks, show acc.length + (k + 1) = acc.length + 1 + k by omega]
    exact this

theorem maskE_bit {acc : List Nat} {j : Nat} : ∀ {es : List Edge}, (maskE acc es).testBit j = true → ∃ e ∈ es, Region.binds .any e = true ∧ (e.on = j ∨ ((acc[e.on]?).getD 0).testBit j = true)
  | [], h => by simp [maskE] at h
  | e :: es, h => by
    rw [maskE] at h
    cases hb : Region.binds .any e with
    | false =>
      rw [hb, cond_false] at h
      obtain ⟨e', h1, h2⟩ := maskE_bit h
      exact ⟨e', List.mem_cons_of_mem _ h1, h2⟩
    | true =>
      rw [hb, cond_true, Nat.testBit_or, Nat.testBit_or] at h
      simp only [Bool.or_eq_true] at h
      rcases h with h | h | h
      · rw [Nat.testBit_two_pow] at h
        exact ⟨e, List.mem_cons_self .., hb, .inl (by simpa using h)⟩
      · exact ⟨e, List.mem_cons_self .., hb, .inr h⟩
      · obtain ⟨e', h1, h2⟩ := maskE_bit h
        exact ⟨e', List.mem_cons_of_mem _ h1, h2⟩

/-- What a region's check says. -/
structure RegOk (ops : Array Oper) (ms : List Nat) : Prop where
  back : ∀ (i : Nat) (o : Oper), ops[i]? = some o → ∀ e ∈ o.after, Region.binds .any e = true → e.on < i
  mask : ∀ (i : Nat) (o : Oper), ops[i]? = some o → ms[i]? = some (maskE (ms.take i) o.after.toList)
  alone : ∀ (i j : Nat) (x o : Oper) (t : Tmp), ops[i]? = some x → ops[j]? = some o → i ≠ j → x.dst = some t → o.dst ≠ some t
  uses : ∀ (i j : Nat) (x o : Oper) (t : Tmp), ops[i]? = some x → ops[j]? = some o → i ≠ j → x.dst = some t → usesT ops.toList o t = true → ordB ms i j = true

theorem regOk1_spec {ops : List Oper} {ms : List Nat} {j : Nat} {o : Oper} : ∀ {l : List Oper} {p : Nat}, regOk1 ops ms j o l p = true → ∀ (k : Nat) (x : Oper), l[k]? = some x → p + k ≠ j → ∀ t, x.dst = some t → o.dst ≠ some t ∧ (usesT ops o t = true → ordB ms (p + k) j = true)
  | [], p, h, k, x, hk, _, _, _ => by simp at hk
  | y :: l, p, h, k, x, hk, hne, t, ht => by
    rw [regOk1, Bool.and_eq_true] at h
    cases k with
    | zero =>
      simp at hk; subst hk
      have h1 := h.1
      rw [Nat.add_zero] at hne ⊢
      rw [nbeq_f hne, Bool.false_or, ht] at h1
      simp only [Bool.and_eq_true] at h1
      refine ⟨fun hd => ?_, fun hu => ?_⟩
      · rw [hd] at h1
        simp only [nbeq_t] at h1
        exact absurd h1.1 (by decide)
      · have h2 := h1.2
        rw [hu] at h2
        simpa using h2
    | succ k =>
      have := regOk1_spec h.2 k x (by simpa using hk) (by omega) t ht
      rwa [show p + 1 + k = p + (k + 1) by omega] at this

theorem regOk_spec {ops : List Oper} {ms : List Nat} : ∀ {l : List Oper} {p : Nat}, regOk ops ms l p = true → ∀ (k : Nat) (o : Oper), l[k]? = some o →
    (∀ e ∈ o.after, Region.binds .any e = true → e.on < p + k) ∧ regOk1 ops ms (p + k) o ops 0 = true
  | [], p, h, k, o, hk => by simp at hk
  | y :: l, p, h, k, o, hk => by
    rw [regOk, Bool.and_eq_true, Bool.and_eq_true] at h
    cases k with
    | zero =>
      simp at hk; subst hk
      refine ⟨fun e he hb => ?_, h.1.2⟩
      have := List.all_eq_true.1 h.1.1 e (by simpa using he)
      rw [hb] at this
      simpa using this
    | succ k =>
      have := regOk_spec h.2 k o (by simpa using hk)
      rwa [show p + 1 + k = p + (k + 1) by omega] at this

theorem RegOk.of {ops : Array Oper} (h : regOk ops.toList (masks ops.toList []) ops.toList 0 = true) : RegOk ops (masks ops.toList []) where
  back i o hi e he hb := by
    have := (regOk_spec h i o (by simpa using hi)).1 e he hb
    omega
  mask i o hi := by
    have := masks_spec ops.toList [] i o (by simpa using hi)
    simpa using this
  alone i j x o t hi hj hne ht := by
    have h1 := (regOk_spec h j o (by simpa using hj)).2
    rw [Nat.zero_add] at h1
    exact (regOk1_spec h1 i x (by simpa using hi) (by omega) t ht).1
  uses i j x o t hi hj hne ht hu := by
    have h1 := (regOk_spec h j o (by simpa using hj)).2
    rw [Nat.zero_add] at h1
    have := (regOk1_spec h1 i x (by simpa using hi) (by omega) t ht).2 hu
    rwa [Nat.zero_add] at this

/-- What stands ahead of an operation that may come next has been done. -/
theorem RegOk.closed {ops : Array Oper} {ms : List Nat} (h : RegOk ops ms) {L : Nat → Prop} (hL : ∀ (i : Nat) (o : Oper), ops[i]? = some o → L i → ∀ e ∈ o.after, Region.binds .any e = true → L e.on) :
    ∀ (i : Nat) (o : Oper), ops[i]? = some o → (∀ e ∈ o.after, Region.binds .any e = true → L e.on) → ∀ j, ((ms[i]?).getD 0).testBit j = true → L j := by
  intro i
  induction i using Nat.strongRecOn with
  | _ i ih =>
    intro o hi hall j hj
    rw [h.mask i o hi, Option.getD_some] at hj
    obtain ⟨e, he, hb, h1⟩ := maskE_bit hj
    have he : e ∈ o.after := by simpa using he
    rcases h1 with h1 | h1
    · subst h1; exact hall e he hb
    · have hlt := h.back i o hi e he hb
      rw [List.getElem?_take, if_pos hlt] at h1
      have hi' : i < ops.size := (Array.getElem?_eq_some_iff.1 hi).1
      have hon : ops[e.on]? = some ops[e.on] := Array.getElem?_eq_getElem (by omega)
      exact ih e.on hlt _ hon (hL e.on _ hon (hall e he hb)) j h1

theorem mayWrite_spec {ms : List Nat} {i : Nat} : ∀ {l : List Oper} {p : Nat}, mayWrite ms i l p = true → ∀ (k : Nat) (x : Oper), l[k]? = some x → p + k ≠ i → pureOp x.op = true ∨ readerOp x.op = true ∨ ordB ms i (p + k) = true
  | [], p, h, k, x, hk, _ => by simp at hk
  | y :: l, p, h, k, x, hk, hne => by
    rw [mayWrite, Bool.and_eq_true] at h
    cases k with
    | zero =>
      simp at hk; subst hk
      have h1 := h.1
      rw [Nat.add_zero] at hne ⊢
      rw [nbeq_f (Ne.symm hne), Bool.false_or] at h1
      simpa using h1
    | succ k =>
      have := mayWrite_spec h.2 k x (by simpa using hk) (by omega)
      rwa [show p + 1 + k = p + (k + 1) by omega] at this

/-! ### The walk, step by step -/
theorem runD_trace {C : Ctx} {call : CallE} {ops : Array Oper} {ms : List Nat} : ∀ {l : List Oper} {p : Nat} {s s' : DS}, runD C call ops ms l p s = some s' →
    ∃ S : Nat → DS, S p = s ∧ S (p + l.length) = s' ∧ ∀ (k : Nat) (o : Oper), l[k]? = some o → stepD C call ops ms (p + k) o (S (p + k)) = some (S (p + k + 1))
  | [], p, s, s', h => by
    simp only [runD] at h; cases h
    exact ⟨fun _ => s, rfl, rfl, fun k o hk => by simp at hk⟩
  | x :: l, p, s, s', h => by
    simp only [runD] at h
    split at h
    · rename_i s1 h1
      obtain ⟨S, e1, e2, e3⟩ := runD_trace h
      refine ⟨fun k => if k = p then s else S k, if_pos rfl, ?_, fun k o hk => ?_⟩
      · simp only [List.length_cons]
        rw [if_neg (by omega), show p + (l.length + 1) = p + 1 + l.length by omega]; exact e2
      · cases k with
        | zero =>
          simp at hk; subst hk
          show stepD C call ops ms (p + 0) x (if p + 0 = p then s else S (p + 0)) = some (if p + 0 + 1 = p then s else S (p + 0 + 1))
          rw [if_pos (by omega), if_neg (by omega)]
          simp only [Nat.add_zero, e1]; exact h1
        | succ k =>
          have := e3 k o (by simpa using hk)
          show stepD C call ops ms (p + (k + 1)) o (if p + (k + 1) = p then s else S (p + (k + 1))) = some (if p + (k + 1) + 1 = p then s else S (p + (k + 1) + 1))
          rw [if_neg (by omega), if_neg (by omega), show p + (k + 1) = p + 1 + k by omega]
          exact this
    · cases h

theorem writer_not {o : Op} (h : writerOp o = true) : pureOp o = false ∧ readerOp o = false := by
  cases o <;> first | (cases h; done) | exact ⟨rfl, rfl⟩ | skip
  rename_i c
  obtain ⟨callee, args, ats⟩ := c
  cases callee with
  | builtin b => cases b <;> first | (cases h; done) | exact ⟨rfl, rfl⟩
  | value f => exact ⟨rfl, rfl⟩
  | invoke r n => cases h

/-- The walk's facts: 'E' frames, 'K' heaps, 'V' values, 'EW' the operations that wrote. -/
structure Tc (C : Ctx) (call : CallE) (ops : Array Oper) (ms : List Nat) (E : Nat → Env) (K : Nat → Hp) (V : Nat → Value) (EW : Nat → Prop) : Prop where
  put : ∀ (k : Nat) (o : Oper), ops[k]? = some o → (E k).put o.dst (V k) = some (E (k + 1))
  lt : ∀ k, EW k → k < ops.size
  told : ∀ (k : Nat) (o : Oper), ops[k]? = some o → ∃ b : Bool, wantE ops o (E k) = some b
  skip : ∀ (k : Nat) (o : Oper), ops[k]? = some o → wantE ops o (E k) = false → V k = .tuple #[] ∧ K (k + 1) = K k ∧ ¬ EW k
  wr : ∀ (k : Nat) (o : Oper), ops[k]? = some o → EW k → wantE ops o (E k) = true ∧ opE C call o.op o.type (E k) (K k) = some (V k, K (k + 1)) ∧ writerOp o.op = true ∧
    ∀ (j : Nat) (x : Oper), ops[j]? = some x → j ≠ k → pureOp x.op = true ∨ readerOp x.op = true ∨ ordB ms k j = true
  md : ∀ (k : Nat) (o : Oper), ops[k]? = some o → wantE ops o (E k) = true → ¬ EW k → ∃ H1, opE C call o.op o.type (E k) (K k).raised = some (V k, H1) ∧ K (k + 1) = H1.lowered (K k).floor
  was : ∀ (i k : Nat) (o : Oper), ops[k]? = some o → wantE ops o (E k) = true → readerOp o.op = true → EW i → i < k → ordB ms i k = true ∨ ∃ u H1, opE C call o.op o.type (E k) (K i) = some (u, H1) ∧ valEq u (V k) = true
  still : ∀ (i k : Nat) (o : Oper), ops[k]? = some o → wantE ops o (E k) = true → readerOp o.op = true → EW i → k < i → ordB ms i k = true ∨ ∃ u H1, opE C call o.op o.type (E k) (K (i + 1)) = some (u, H1) ∧ valEq u (V k) = true

theorem stillSame_spec {C : Ctx} {call : CallE} {ms : List Nat} {i : Nat} {H : Hp} : ∀ {l : List Seen}, stillSame C call ms i H l = true → ∀ s ∈ l, ordB ms i s.at_ = true ∨ ∃ u H1, opE C call s.op.op s.op.type s.env H = some (u, H1) ∧ valEq u s.val = true
  | [], _, s, hs => by cases hs
  | x :: l, h, s, hs => by
    rw [stillSame, Bool.and_eq_true, Bool.or_eq_true] at h
    rcases List.mem_cons.1 hs with rfl | hs
    · rcases h.1 with h1 | h1
      · exact .inl h1
      · split at h1
        · rename_i v H1 hop; exact .inr ⟨v, H1, hop, h1⟩
        · cases h1
    · exact stillSame_spec h.2 s hs

theorem wasSame_spec {C : Ctx} {call : CallE} {ms : List Nat} {j : Nat} {o : Oper} {e : Env} {v : Value} : ∀ {l : List (Nat × Hp)}, wasSame C call ms j o e v l = true → ∀ s ∈ l, ordB ms s.1 j = true ∨ ∃ u H1, opE C call o.op o.type e s.2 = some (u, H1) ∧ valEq u v = true
  | [], _, s, hs => by cases hs
  | (i, H) :: l, h, s, hs => by
    rw [wasSame, Bool.and_eq_true, Bool.or_eq_true] at h
    rcases List.mem_cons.1 hs with rfl | hs
    · rcases h.1 with h1 | h1
      · exact .inl h1
      · split at h1
        · rename_i v H1 hop; exact .inr ⟨v, H1, hop, h1⟩
        · cases h1
    · exact wasSame_spec h.2 s hs

theorem runD_tc {C : Ctx} {call : CallE} {ops : Array Oper} {ms : List Nat} {e : Env} {H : Hp} {s' : DS} (h : runD C call ops ms ops.toList 0 ⟨e, H, [], [], .tuple #[]⟩ = some s') :
    ∃ E K V EW, E 0 = e ∧ K 0 = H ∧ E ops.size = s'.env ∧ K ops.size = s'.hp ∧ Tc C call ops ms E K V EW := by
  obtain ⟨S, h0, hn, hst⟩ := runD_trace h
  simp only [Nat.zero_add, Array.length_toList] at hn hst
  have hst : ∀ (k : Nat) (o : Oper), ops[k]? = some o → stepD C call ops ms k o (S k) = some (S (k + 1)) := fun k o hk => hst k o (by simpa using hk)
  let EW : Nat → Prop := fun k => ∃ o, ops[k]? = some o ∧ wantE ops o (S k).env = true ∧ isW C ms ops.toList k o = true
  -- what one step says
  have step : ∀ (k : Nat) (o : Oper), ops[k]? = some o →
      ((S k).env.put o.dst (S (k + 1)).val = some (S (k + 1)).env) ∧
      (wantE ops o (S k).env = false → (S (k + 1)).val = .tuple #[] ∧ (S (k + 1)).hp = (S k).hp ∧ (S (k + 1)).seen = (S k).seen ∧ (S (k + 1)).ws = (S k).ws) ∧
      (wantE ops o (S k).env = true → isW C ms ops.toList k o = true → opE C call o.op o.type (S k).env (S k).hp = some ((S (k + 1)).val, (S (k + 1)).hp) ∧ stillSame C call ms k (S (k + 1)).hp (S k).seen = true ∧ (S (k + 1)).seen = (S k).seen ∧ (S (k + 1)).ws = (k, (S k).hp) :: (S k).ws) ∧
      (wantE ops o (S k).env = true → isW C ms ops.toList k o = false → (∃ H1, opE C call o.op o.type (S k).env (S k).hp.raised = some ((S (k + 1)).val, H1) ∧ (S (k + 1)).hp = H1.lowered (S k).hp.floor) ∧ (S (k + 1)).ws = (S k).ws ∧
        (readerOp o.op = true → wasSame C call ms k o (S k).env (S (k + 1)).val (S k).ws = true ∧ (S (k + 1)).seen = ⟨k, o, (S k).env, (S (k + 1)).val⟩ :: (S k).seen) ∧
        (readerOp o.op = false → (S (k + 1)).seen = (S k).seen)) := fun k o hk => by
    have h1 := hst k o hk
    generalize S (k + 1) = s1 at h1 ⊢
    generalize S k = s0 at h1 ⊢
    unfold stepD at h1
    split at h1
    · cases h1
    · rename_i hw
      split at h1
      · rename_i e1 hput
        cases h1
        exact ⟨hput, fun _ => ⟨rfl, rfl, rfl, rfl⟩, fun h => by rw [hw] at h; (cases h), fun h => by rw [hw] at h; (cases h)⟩
      · cases h1
    · rename_i hw
      split at h1
      · rename_i hiw
        split at h1
        · rename_i v H1 hop
          split at h1
          · rename_i e1 hss hput
            cases h1
            exact ⟨hput, fun h => by rw [hw] at h; (cases h), fun _ _ => ⟨hop, hss, rfl, rfl⟩, fun _ h => by rw [hiw] at h; (cases h)⟩
          · cases h1
        · cases h1
      · rename_i hiw
        split at h1
        · rename_i v H1 hop
          split at h1
          · rename_i hrd
            split at h1
            · rename_i e1 hss hput
              cases h1
              exact ⟨hput, fun h => by rw [hw] at h; (cases h), fun _ h => by rw [hiw] at h; (cases h), fun _ _ => ⟨⟨H1, hop, rfl⟩, rfl, fun _ => ⟨hss, rfl⟩, fun h => by rw [hrd] at h; (cases h)⟩⟩
            · cases h1
          · rename_i hrd
            split at h1
            · rename_i e1 hput
              cases h1
              exact ⟨hput, fun h => by rw [hw] at h; (cases h), fun _ h => by rw [hiw] at h; (cases h), fun _ _ => ⟨⟨H1, hop, rfl⟩, rfl, fun h => by rw [hrd] at h; (cases h), fun _ => rfl⟩⟩
            · cases h1
        · cases h1
  have told : ∀ (k : Nat) (o : Oper), ops[k]? = some o → ∃ b : Bool, wantE ops o (S k).env = some b := fun k o hk => by
    have h1 := hst k o hk
    unfold stepD at h1
    cases hw : wantE ops o (S k).env with
    | none => rw [hw] at h1; cases h1
    | some b => exact ⟨b, rfl⟩
  -- the lists grow
  have seenMono : ∀ (k : Nat) (o : Oper), ops[k]? = some o → ∀ s ∈ (S k).seen, s ∈ (S (k + 1)).seen := fun k o hk s hs => by
    obtain ⟨_, h1, h2, h3⟩ := step k o hk
    obtain ⟨bb, hw⟩ := told k o hk
    cases bb with
    | false => rw [(h1 hw).2.2.1]; exact hs
    | true =>
      cases hi : isW C ms ops.toList k o with
      | true => rw [(h2 hw hi).2.2.1]; exact hs
      | false =>
        cases hrd : readerOp o.op with
        | true => rw [((h3 hw hi).2.2.1 hrd).2]; exact List.mem_cons_of_mem _ hs
        | false => rw [(h3 hw hi).2.2.2 hrd]; exact hs
  have wsMono : ∀ (k : Nat) (o : Oper), ops[k]? = some o → ∀ s ∈ (S k).ws, s ∈ (S (k + 1)).ws := fun k o hk s hs => by
    obtain ⟨_, h1, h2, h3⟩ := step k o hk
    obtain ⟨bb, hw⟩ := told k o hk
    cases bb with
    | false => rw [(h1 hw).2.2.2]; exact hs
    | true =>
      cases hi : isW C ms ops.toList k o with
      | true => rw [(h2 hw hi).2.2.2]; exact List.mem_cons_of_mem _ hs
      | false => rw [(h3 hw hi).2.1]; exact hs
  have ge : ∀ m, m < ops.size → ∃ o, ops[m]? = some o := fun m hm => ⟨_, Array.getElem?_eq_getElem hm⟩
  have seenAll : ∀ (j : Nat) (o : Oper), ops[j]? = some o → wantE ops o (S j).env = true → isW C ms ops.toList j o = false → readerOp o.op = true → ∀ d, j + 1 + d ≤ ops.size → ⟨j, o, (S j).env, (S (j + 1)).val⟩ ∈ (S (j + 1 + d)).seen := fun j o hj hw hi hrd d => by
    induction d with
    | zero => intro _; rw [Nat.add_zero, (((step j o hj).2.2.2 hw hi).2.2.1 hrd).2]; exact List.mem_cons_self ..
    | succ d ih =>
      intro hd
      obtain ⟨o', ho'⟩ := ge (j + 1 + d) (by omega)
      exact seenMono _ o' ho' _ (ih (by omega))
  have wsAll : ∀ (j : Nat) (o : Oper), ops[j]? = some o → wantE ops o (S j).env = true → isW C ms ops.toList j o = true → ∀ d, j + 1 + d ≤ ops.size → (j, (S j).hp) ∈ (S (j + 1 + d)).ws := fun j o hj hw hi d => by
    induction d with
    | zero => intro _; rw [Nat.add_zero, ((step j o hj).2.2.1 hw hi).2.2.2]; exact List.mem_cons_self ..
    | succ d ih =>
      intro hd
      obtain ⟨o', ho'⟩ := ge (j + 1 + d) (by omega)
      exact wsMono _ o' ho' _ (ih (by omega))
  have notW : ∀ (k : Nat) (o : Oper), ops[k]? = some o → wantE ops o (S k).env = true → ¬ EW k → isW C ms ops.toList k o = false := fun k o hk hw hne => by
    cases hi : isW C ms ops.toList k o with
    | false => rfl
    | true => exact absurd ⟨o, hk, hw, hi⟩ hne
  have rdNotW : ∀ (k : Nat) (o : Oper), readerOp o.op = true → isW C ms ops.toList k o = false := fun k o hrd => by
    unfold isW
    cases hwo : writerOp o.op with
    | false => rfl
    | true => rw [(writer_not hwo).2] at hrd; cases hrd
  refine ⟨fun k => (S k).env, fun k => (S k).hp, fun k => (S (k + 1)).val, EW, by simp only [h0], by simp only [h0], by simp only [hn], by simp only [hn], ?_, ?_, told, ?_, ?_, ?_, ?_, ?_⟩
  · exact fun k o hk => (step k o hk).1
  · rintro k ⟨o, hk, _⟩; exact (Array.getElem?_eq_some_iff.1 hk).1
  · intro k o hk hw
    obtain ⟨h1, h2, _⟩ := (step k o hk).2.1 hw
    exact ⟨h1, h2, fun ⟨o', h3, h4, _⟩ => by rw [hk] at h3; cases h3; rw [hw] at h4; cases h4⟩
  · rintro k o hk ⟨o', h3, hw, hi⟩
    rw [hk] at h3; cases h3
    have hi' := hi
    unfold isW at hi'
    rw [Bool.and_eq_true, Bool.and_eq_true] at hi'
    refine ⟨hw, ((step k o hk).2.2.1 hw hi).1, hi'.1, fun j x hj hne => ?_⟩
    have := mayWrite_spec hi'.2.2 j x (by simpa using hj) (by omega)
    rwa [Nat.zero_add] at this
  · intro k o hk hw hne
    exact ((step k o hk).2.2.2 hw (notW k o hk hw hne)).1
  · rintro i k o hk hw hrd ⟨x, hi, hwx, hix⟩ hlt
    have hks : k < ops.size := (Array.getElem?_eq_some_iff.1 hk).1
    have hm := wsAll i x hi hwx hix (k - (i + 1)) (by omega)
    rw [show i + 1 + (k - (i + 1)) = k by omega] at hm
    exact wasSame_spec (((step k o hk).2.2.2 hw (rdNotW k o hrd)).2.2.1 hrd).1 _ hm
  · rintro i k o hk hw hrd ⟨x, hi, hwx, hix⟩ hlt
    have his : i < ops.size := (Array.getElem?_eq_some_iff.1 hi).1
    have hm := seenAll k o hk hw (rdNotW k o hrd) hrd (i - (k + 1)) (by omega)
    rw [show k + 1 + (i - (k + 1)) = i by omega] at hm
    exact stillSame_spec ((step i x hi).2.2.1 hwx hix).2.1 _ hm
end Go.Ahe
/-
  AHE, 20b: regions that draw their order: a ghost's walk in the text's order; embeddings cut and laid over.
-/
namespace Go.Ahe
open Go.RowKit

theorem RunsAs.ghost {P : Program} {base : Nat} {ι : Emb} {H H' : Hp} {w : World} {v : Value} {s : Sem Next} (h : RunsAs P base ι H H' w v s) : ∃ v' w' ι', VR ι' v v' ∧ Rel base ι' H' w' ∧ Step ι ι' H H' w w' := by
  obtain ⟨nx, w1, _, h2⟩ := h
  have key : ∀ e w', PostOf base ι H H' w v e w' → ∃ v' w' ι', VR ι' v v' ∧ Rel base ι' H' w' ∧ Step ι ι' H H' w w' := fun e w' h => by
    cases e with
    | returned v' => obtain ⟨ι', g⟩ := h; exact ⟨v', w', ι', g⟩
    | panicked c => exact h.elim
    | outgrown => exact h.elim
  cases nx with
  | value v' => exact key (.returned v') w1 h2
  | skip => exact key (.returned undef) w1 h2
  | enter f args => obtain ⟨e, w', fr, hR, _⟩ := h2.2 [] (room_wide _); exact key e w' hR
  | round l f tmps as body => obtain ⟨e, w', hR, _⟩ := h2.2 default [] (room_wide _); exact key e w' hR
  | _ => exact h2.elim

/-- What the walk's heaps keep. -/
structure HF (n : Nat) (K : Nat → Hp) (EW : Nat → Prop) : Prop where
  flo : ∀ k, k ≤ n → (K k).floor ≤ (K k).next
  next : ∀ k, k < n → (K k).next ≤ (K (k + 1)).next
  floor : ∀ k, k < n → (K (k + 1)).floor = (K k).floor
  low : ∀ k, k < n → ∀ i, i < (K k).floor → (K (k + 1)).get i = (K k).get i
  keep : ∀ k, k < n → ¬ EW k → ∀ i, i < (K k).next → (K (k + 1)).get i = (K k).get i

/-- Values whose ids are below a bound. -/
def Bd (n : Nat) (v : Value) : Prop := ∃ (ι : Emb) (v' : Value), VR ι v v' ∧ ∀ i, n ≤ i → ι i = none

theorem Rel.raised {base : Nat} {ι : Emb} {H : Hp} {w : World} (hr : Rel base ι H w) : Rel base ι H.raised w :=
  ⟨Nat.le_refl _, hr.dom, hr.bnd, hr.ob, hr.inj, hr.bas, hr.bs⟩

theorem Rel.lowered {base : Nat} {ι : Emb} {H : Hp} {w : World} (hr : Rel base ι H w) {f : Nat} (hf : f ≤ H.next) : Rel base ι (H.lowered f) w :=
  ⟨hf, hr.dom, hr.bnd, hr.ob, hr.inj, hr.bas, hr.bs⟩

section
variable {P : Program} {C : Ctx} (hC : Fits C P) {base : Nat} {call : CallE} (hcall : CallOk P call) {ops : Array Oper} {ms : List Nat} {E : Nat → Env} {K : Nat → Hp} {V : Nat → Value} {EW : Nat → Prop} (T : Tc C call ops ms E K V EW)
include hC hcall T

theorem tc_heaps {ι : Emb} {a : Act} {w : World} (hr : Rel base ι (K 0) w) (he : EnvR ι (E 0) a.tmps) : HF ops.size K EW ∧ (∀ k, k ≤ ops.size → ∀ t v, (E k).get t = some v → Bd (K k).next v) ∧ ∀ k, k ≤ ops.size → (E k).size = (E 0).size := by
  have key : ∀ k, k ≤ ops.size → (∃ (ι : Emb) (a : Act) (w : World), EnvR ι (E k) a.tmps ∧ Rel base ι (K k) w) ∧ (∀ j, j < k → ((K j).next ≤ (K (j + 1)).next ∧ (K (j + 1)).floor = (K j).floor ∧ (∀ i, i < (K j).floor → (K (j + 1)).get i = (K j).get i) ∧ (¬ EW j → ∀ i, i < (K j).next → (K (j + 1)).get i = (K j).get i) ∧ (E (j + 1)).size = (E j).size)) ∧
      (∀ j, j ≤ k → (K j).floor ≤ (K j).next ∧ ∀ t v, (E j).get t = some v → Bd (K j).next v) := by
    intro k
    induction k with
    | zero =>
      intro _
      refine ⟨⟨ι, a, w, he, hr⟩, fun j hj => by omega, fun j hj => ?_⟩
      have : j = 0 := by omega
      subst this
      exact ⟨hr.flo, fun t v ht => ⟨ι, _, he.2 t v ht, hr.dom⟩⟩
    | succ k ih =>
      intro hk
      obtain ⟨⟨ι, a, w, he, hr⟩, h2, h3⟩ := ih (by omega)
      have ho : ops[k]? = some ops[k] := Array.getElem?_eq_getElem (by omega)
      generalize ops[k] = o at ho
      have hput := T.put k o ho
      have hsz : (E (k + 1)).size = (E k).size := by
        cases hd : o.dst with
        | none => rw [hd] at hput; simp only [Env.put, Option.some.injEq] at hput; rw [hput]
        | some t => rw [hd] at hput; exact (Env.set_some hput).2.1
      suffices fin : ∃ (ι' : Emb) (v' : Value) (w' : World), VR ι' (V k) v' ∧ Rel base ι' (K (k + 1)) w' ∧ EnvR ι' (E k) a.tmps ∧
          ((K k).next ≤ (K (k + 1)).next ∧ (K (k + 1)).floor = (K k).floor ∧ (∀ i, i < (K k).floor → (K (k + 1)).get i = (K k).get i) ∧ (¬ EW k → ∀ i, i < (K k).next → (K (k + 1)).get i = (K k).get i)) by
        obtain ⟨ι', v', w', g1, g2, g3, g4⟩ := fin
        have hen : EnvR ι' (E (k + 1)) (a.put o.dst v').tmps := g3.put hput g1
        refine ⟨⟨ι', a.put o.dst v', w', hen, g2⟩, fun j hj => ?_, fun j hj => ?_⟩
        · rcases Nat.lt_or_ge j k with hlt | hge
          · exact h2 j hlt
          · have : j = k := by omega
            subst this
            exact ⟨g4.1, g4.2.1, g4.2.2.1, g4.2.2.2, hsz⟩
        · rcases Nat.lt_or_ge j (k + 1) with hlt | hge
          · exact h3 j (by omega)
          · have : j = k + 1 := by omega
            subst this
            exact ⟨g2.flo, fun t v ht => ⟨ι', _, hen.2 t v ht, g2.dom⟩⟩
      obtain ⟨bb, hw⟩ := T.told k o ho
      cases bb with
      | false =>
        obtain ⟨e1, e2, e3⟩ := T.skip k o ho hw
        refine ⟨ι, .tuple #[], w, by rw [e1]; exact .undef, by rw [e2]; exact hr, he, ?_⟩
        rw [e2]
        exact ⟨Nat.le_refl _, rfl, fun _ _ => rfl, fun _ _ _ => rfl⟩
      | true =>
        by_cases hew : EW k
        · obtain ⟨_, e2, _⟩ := T.wr k o ho hew
          obtain ⟨v', w', ι', g1, g2, g3⟩ := (opE_run hC hr hcall he e2).ghost
          exact ⟨ι', v', w', g1, g2, he.mono (g3.le hr), g3.next, g3.floor, g3.low, fun h => absurd hew h⟩
        · obtain ⟨H1, e2, e3⟩ := T.md k o ho hw hew
          obtain ⟨v', w', ι', g1, g2, g3⟩ := (opE_run hC hr.raised hcall he e2).ghost
          have hn : (K k).next ≤ H1.next := g3.next
          have hl : ∀ i, i < (K k).next → H1.get i = (K k).get i := g3.low
          refine ⟨ι', v', w', g1, ?_, he.mono (g3.le hr.raised), ?_⟩
          · rw [e3]; exact g2.lowered (Nat.le_trans hr.flo hn)
          · rw [e3]
            exact ⟨hn, rfl, fun i hi => hl i (Nat.lt_of_lt_of_le hi hr.flo), fun _ => hl⟩
  obtain ⟨_, h2, h3⟩ := key ops.size (Nat.le_refl _)
  refine ⟨⟨fun k hk => (h3 k hk).1, fun k hk => (h2 k hk).1, fun k hk => (h2 k hk).2.1, fun k hk => (h2 k hk).2.2.1, fun k hk => (h2 k hk).2.2.2.1⟩, fun k hk => (h3 k hk).2, fun k hk => ?_⟩
  induction k with
  | zero => rfl
  | succ k ih => rw [(h2 k (by omega)).2.2.2.2]; exact ih (by omega)
end

section
variable {n : Nat} {K : Nat → Hp} {EW : Nat → Prop} (hf : HF n K EW)
include hf
theorem HF.mono (k : Nat) : ∀ d, k + d ≤ n → (K k).next ≤ (K (k + d)).next ∧ (K (k + d)).floor = (K k).floor ∧ (∀ i, i < (K k).floor → (K (k + d)).get i = (K k).get i) ∧ ((∀ j, k ≤ j → j < k + d → ¬ EW j) → ∀ i, i < (K k).next → (K (k + d)).get i = (K k).get i)
  | 0, _ => ⟨Nat.le_refl _, rfl, fun _ _ => rfl, fun _ _ _ => rfl⟩
  | d + 1, h => by
    obtain ⟨h1, h2, h3, h4⟩ := HF.mono k d (by omega)
    refine ⟨Nat.le_trans h1 (hf.next (k + d) (by omega)), (hf.floor (k + d) (by omega)).trans h2, fun i hi => (hf.low (k + d) (by omega) i (by rw [h2]; exact hi)).trans (h3 i hi), fun hno i hi => ?_⟩
    exact (hf.keep (k + d) (by omega) (hno (k + d) (by omega) (by omega)) i (Nat.lt_of_lt_of_le hi h1)).trans (h4 (fun j a b => hno j a (by omega)) i hi)

theorem HF.nextle {k m : Nat} (h : k ≤ m) (hm : m ≤ n) : (K k).next ≤ (K m).next := by
  have := (HF.mono hf k (m - k) (by omega)).1
  rwa [show k + (m - k) = m by omega] at this
theorem HF.flooreq {k m : Nat} (h : k ≤ m) (hm : m ≤ n) : (K m).floor = (K k).floor := by
  have := (HF.mono hf k (m - k) (by omega)).2.1
  rwa [show k + (m - k) = m by omega] at this
theorem HF.lowall {k m : Nat} (h : k ≤ m) (hm : m ≤ n) : ∀ i, i < (K k).floor → (K m).get i = (K k).get i := by
  have := (HF.mono hf k (m - k) (by omega)).2.2.1
  rwa [show k + (m - k) = m by omega] at this
theorem HF.agree {k m : Nat} (h : k ≤ m) (hm : m ≤ n) (hno : ∀ j, k ≤ j → j < m → ¬ EW j) : ∀ i, i < (K k).next → (K m).get i = (K k).get i := by
  have := (HF.mono hf k (m - k) (by omega)).2.2.2 (fun j a b => hno j a (by omega))
  rwa [show k + (m - k) = m by omega] at this
end

/-! ### Embeddings cut -/
def Emb.cut (ι : Emb) (n : Nat) : Emb := ⟨fun i => if i < n then ι i else none, ι.sz⟩
theorem Emb.cut_some {ι : Emb} {n i : Nat} {x : Nat × Nat} (h : ι.cut n i = some x) : i < n ∧ ι i = some x := by
  by_cases hi : i < n
  · exact ⟨hi, (if_pos hi).symm.trans h⟩
  · have h : (if i < n then ι i else none) = some x := h
    rw [if_neg hi] at h; cases h
theorem Emb.cut_lt {ι : Emb} {n i : Nat} (h : i < n) : ι.cut n i = ι i := if_pos h
theorem Emb.cut_ge {ι : Emb} {n i : Nat} (h : n ≤ i) : ι.cut n i = none := if_neg (by omega)
theorem Emb.cut_le_self (ι : Emb) (n : Nat) : (ι.cut n).le ι := fun _ _ _ h => ⟨(Emb.cut_some h).2, rfl⟩
theorem Emb.cut_le (ι : Emb) {n m : Nat} (h : n ≤ m) : (ι.cut n).le (ι.cut m) := fun i b p hx => by
  obtain ⟨h1, h2⟩ := Emb.cut_some hx
  exact ⟨by rw [Emb.cut_lt (by omega)]; exact h2, rfl⟩
theorem Emb.cut_all {ι : Emb} {n : Nat} (h : ∀ i, n ≤ i → ι i = none) : ι.cut n = ι := by
  obtain ⟨f, s⟩ := ι
  unfold Emb.cut
  congr 1
  funext i
  by_cases hi : i < n
  · rw [if_pos hi]
  · rw [if_neg hi]; exact (h i (by omega)).symm

mutual
theorem VR.cutBd {ι ι0 : Emb} {n : Nat} (h0 : ∀ i, n ≤ i → ι0 i = none) {v v' v0 : Value} : VR ι v v' → VR ι0 v v0 → VR (ι.cut n) v v'
  | .bool b, _ => .bool b
  | .int k m, _ => .int k m
  | .string s, _ => .string s
  | .nilp, _ => .nilp
  | .ptr h, .ptr g => .ptr (by rw [Emb.cut_lt (Nat.lt_of_not_le fun hle => by rw [h0 _ hle] at g; cases g)]; exact h)
  | .nils, _ => .nils
  | .slice h, .slice g => .slice (by rw [Emb.cut_lt (Nat.lt_of_not_le fun hle => by rw [h0 _ hle] at g; cases g)]; exact h)
  | .sliceU h hl hc hq he, .sliceU g _ _ _ _ => .sliceU (by rw [Emb.cut_lt (Nat.lt_of_not_le fun hle => by rw [h0 _ hle] at g; cases g)]; exact h) hl hc hq he
  | .nilm, _ => .nilm
  | .map h, .map g => .map (by rw [Emb.cut_lt (Nat.lt_of_not_le fun hle => by rw [h0 _ hle] at g; cases g)]; exact h)
  | .func ha hc, .func ga gc => .func (VRs.cutBd h0 ha ga) (VRs.cutBd h0 hc gc)
  | .yield h, .yield g => .yield (by rw [Emb.cut_lt (Nat.lt_of_not_le fun hle => by rw [h0 _ hle] at g; cases g)]; exact h)
  | .nilf, _ => .nilf
  | .nili, _ => .nili
  | .agg h, .agg g => .agg (VRs.cutBd h0 h g)
  | .tuple h, .tuple g => .tuple (VRs.cutBd h0 h g)
theorem VRs.cutBd {ι ι0 : Emb} {n : Nat} (h0 : ∀ i, n ≤ i → ι0 i = none) {l l' l0 : List Value} : VRs ι l l' → VRs ι0 l l0 → VRs (ι.cut n) l l'
  | .nil, _ => .nil
  | .cons h t, .cons g u => .cons (VR.cutBd h0 h g) (VRs.cutBd h0 t u)
end

theorem VR.cut {ι : Emb} {n : Nat} {v v' : Value} (h : VR ι v v') (hb : Bd n v) : VR (ι.cut n) v v' := by
  obtain ⟨ι0, v0, g, h0⟩ := hb
  exact VR.cutBd h0 h g

/-! ### Embeddings laid over -/
def Emb.over (ι ι1 : Emb) (a b : Nat) : Emb := ⟨fun i => if a ≤ i ∧ i < b then ι1 i else ι i, ι1.sz⟩
theorem Emb.over_in {ι ι1 : Emb} {a b i : Nat} (h1 : a ≤ i) (h2 : i < b) : ι.over ι1 a b i = ι1 i := if_pos ⟨h1, h2⟩
theorem Emb.over_out {ι ι1 : Emb} {a b i : Nat} (h : ¬ (a ≤ i ∧ i < b)) : ι.over ι1 a b i = ι i := if_neg h
theorem Emb.over_cut {ι ι1 : Emb} {a b m : Nat} (h : b ≤ m) : (ι.over ι1 a b).cut m = (ι.cut m).over ι1 a b := by
  unfold Emb.over Emb.cut
  congr 1
  funext i
  simp only
  by_cases hi : a ≤ i ∧ i < b
  · rw [if_pos hi, if_pos hi, if_pos (by omega)]
  · rw [if_neg hi, if_neg hi]
theorem Emb.over_cut_low {ι ι1 : Emb} {a b m : Nat} (h : m ≤ a) : (ι.over ι1 a b).cut m = ⟨(ι.cut m).at_, ι1.sz⟩ := by
  unfold Emb.over Emb.cut
  congr 1
  funext i
  simp only
  by_cases hi : i < m
  · rw [if_pos hi, if_pos hi, if_neg (by omega)]
  · rw [if_neg hi, if_neg hi]

theorem Rel.resz {base : Nat} {ι : Emb} {H : Hp} {w w' : World} (hr : Rel base ι H w) {s : Nat → Nat} (hs : ∀ b, b < w.heap.size → s b = ι.sz b) (hsz : w.heap.size ≤ w'.heap.size) (hsame : ∀ b, b < w.heap.size → w'.heap[b]? = w.heap[b]?) : Rel base ⟨ι.at_, s⟩ H w' := by
  have hle : ι.le ⟨ι.at_, s⟩ := fun i b p h => ⟨h, hs b (hr.bnd i b p h)⟩
  exact ⟨hr.flo, hr.dom, fun i b p h => Nat.lt_of_lt_of_le (hr.bnd i b p h) hsz, fun i o b p h1 h2 => ((hr.ob i o b p h1 h2).same (hsame b (hr.bnd i b p h2))).mono hle (hle i b p h2).2, hr.inj, hr.bas, Nat.le_trans hr.bs hsz⟩

/-- A heap that has grown by ids that lie nowhere yet. -/
theorem Rel.grow {base : Nat} {ι : Emb} {H H' : Hp} {w : World} (hr : Rel base ι H w) (hn : H.next ≤ H'.next) (hf : H'.floor ≤ H'.next) (hg : ∀ i, i < H.next → H'.get i = H.get i) : Rel base ι H' w :=
  ⟨hf, fun i hi => hr.dom i (by omega), hr.bnd, fun i o b p h1 h2 => hr.ob i o b p ((hg i (hr.lt h2)).symm.trans h1) h2,
    fun i j oi oj b p q h1 h2 h3 h4 h5 h6 => hr.inj i j oi oj b p q ((hg i (hr.lt h5)).symm.trans h1) ((hg j (hr.lt h6)).symm.trans h2) h3 h4 h5 h6,
    fun i o b p h1 h2 h3 => hr.bas i o b p ((hg i (hr.lt h3)).symm.trans h1) h2 h3, hr.bs⟩
theorem Step.grow {base : Nat} {ι0 ι : Emb} {H0 H H' : Hp} {w0 w : World} (hr : Rel base ι H w) (hs : Step ι0 ι H0 H w0 w) (h0 : H0.floor ≤ H0.next) (hn : H.next ≤ H'.next) (hf : H'.floor = H.floor) (hg : ∀ i, i < H.next → H'.get i = H.get i) : Step ι0 ι H0 H' w0 w :=
  ⟨hs.emb, hs.ssz, Nat.le_trans hs.next hn, hf.trans hs.floor, fun i hi => (hg i (by have := hs.next; omega)).trans (hs.low i hi),
    fun b hb ⟨i, o, p, h1, h2, h3, h4⟩ => hs.owned b hb ⟨i, o, p, (hg i (hr.lt h4)).symm.trans h1, h2, by rw [← hf]; exact h3, h4⟩,
    hs.os, hs.tape, hs.output, hs.size, hs.same, hs.loops, hs.news⟩

section
variable {base : Nat} {ι : Emb} {Hq : Hp} {w : World} (R : Rel base ι Hq w) {ιk ι1 : Emb} {Hk H1 : Hp} {w' : World} (hk : ∀ i, i < Hk.next → ιk i = ι i) (hsz : ∀ b, ιk.sz b = ι.sz b) (hdk : ∀ i, Hk.next ≤ i → ιk i = none)
  (R1 : Rel base ι1 H1 w') (S1 : Step ιk ι1 Hk.raised H1 w w') (hfree : ∀ i, Hk.next ≤ i → i < H1.next → ι i = none)
include hdk S1

theorem over_same : ∀ b, b < w.heap.size → w'.heap[b]? = w.heap[b]? := fun b hb =>
  S1.same b hb fun ⟨i, o, p, _, _, h3, h4⟩ => by
    have : Hk.next ≤ i := h3
    rw [hdk i this] at h4; cases h4

theorem over_news {i b p : Nat} (h1 : Hk.next ≤ i) (h2 : ι1 i = some (b, p)) : w.heap.size ≤ b := by
  rcases S1.news i b p h1 h2 with h | ⟨j, o, q, _, _, h3, h4⟩
  · exact h
  · have : Hk.next ≤ j := h3
    rw [hdk j this] at h4; cases h4

include R hk hsz R1 hfree
omit hdk hk R1 in
theorem over_le : ι.le (ι.over ι1 Hk.next H1.next) := fun i b p h => by
  have hn : ¬ (Hk.next ≤ i ∧ i < H1.next) := fun ⟨a, c⟩ => by rw [hfree i a c] at h; cases h
  refine ⟨by rw [Emb.over_out hn]; exact h, ?_⟩
  exact (S1.ssz b (R.bnd i b p h)).trans (hsz b)

omit R hsz hfree hdk in
theorem over_le1 : ι1.le (ι.over ι1 Hk.next H1.next) := fun i b p h => by
  refine ⟨?_, rfl⟩
  have hlt := R1.lt h
  by_cases hi : Hk.next ≤ i
  · rw [Emb.over_in hi hlt]; exact h
  · rw [Emb.over_out (fun c => hi c.1), ← hk i (by omega)]
    have := S1.emb i (by show i < Hk.next; omega)
    rw [← this]; exact h

theorem over_rel (hle : H1.next ≤ Hq.next) (hag : ∀ i, i < H1.next → Hq.get i = H1.get i) : Rel base (ι.over ι1 Hk.next H1.next) Hq w' := by
  have hsame := over_same hdk S1
  have hl := over_le R hsz S1 hfree
  have hl1 := over_le1 hk R1 S1
  have hn1 : Hk.next ≤ H1.next := S1.next
  refine ⟨R.flo, fun i hi => ?_, fun i b p h => ?_, fun i o b p h1 h2 => ?_, fun i j oi oj b p q h1 h2 h3 h4 h5 h6 => ?_, fun i o b p h1 h2 h3 => ?_, Nat.le_trans R.bs S1.size⟩
  · rw [Emb.over_out (by omega)]; exact R.dom i hi
  · by_cases hi : Hk.next ≤ i ∧ i < H1.next
    · rw [Emb.over_in hi.1 hi.2] at h; exact R1.bnd i b p h
    · rw [Emb.over_out hi] at h; exact Nat.lt_of_lt_of_le (R.bnd i b p h) S1.size
  · by_cases hi : Hk.next ≤ i ∧ i < H1.next
    · rw [Emb.over_in hi.1 hi.2] at h2
      exact (R1.ob i o b p ((hag i hi.2).symm.trans h1) h2).mono hl1 rfl
    · rw [Emb.over_out hi] at h2
      exact ((R.ob i o b p h1 h2).same (hsame b (R.bnd i b p h2))).mono hl (hl i b p h2).2
  · by_cases hi : Hk.next ≤ i ∧ i < H1.next <;> by_cases hj : Hk.next ≤ j ∧ j < H1.next
    · rw [Emb.over_in hi.1 hi.2] at h5; rw [Emb.over_in hj.1 hj.2] at h6
      exact R1.inj i j oi oj b p q ((hag i hi.2).symm.trans h1) ((hag j hj.2).symm.trans h2) h3 h4 h5 h6
    · rw [Emb.over_in hi.1 hi.2] at h5; rw [Emb.over_out hj] at h6
      have := over_news hdk S1 hi.1 h5
      have := R.bnd j b q h6
      omega
    · rw [Emb.over_out hi] at h5; rw [Emb.over_in hj.1 hj.2] at h6
      have := over_news hdk S1 hj.1 h6
      have := R.bnd i b p h5
      omega
    · rw [Emb.over_out hi] at h5; rw [Emb.over_out hj] at h6
      exact R.inj i j oi oj b p q h1 h2 h3 h4 h5 h6
  · by_cases hi : Hk.next ≤ i ∧ i < H1.next
    · rw [Emb.over_in hi.1 hi.2] at h3; exact R1.bas i o b p ((hag i hi.2).symm.trans h1) h2 h3
    · rw [Emb.over_out hi] at h3; exact R.bas i o b p h1 h2 h3

omit R hk R1 hfree in
theorem over_step {ι0 : Emb} {H0 : Hp} {w0 : World} (h0 : H0.next ≤ Hk.next) (S : Step ι0 ι H0 Hq w0 w) : Step ι0 (ι.over ι1 Hk.next H1.next) H0 Hq w0 w' := by
  have hsame := over_same hdk S1
  refine ⟨fun i hi => ?_, fun b hb => ?_, S.next, S.floor, S.low, fun b hb ⟨i, o, p, h1, h2, h3, h4⟩ => ?_, S1.os.trans S.os, S1.tape.trans S.tape, S1.output.trans S.output, Nat.le_trans S.size S1.size, fun b hb hno => ?_, fun b L hL => ?_, fun i b p h1 h2 => ?_⟩
  · rw [Emb.over_out (by omega)]; exact S.emb i hi
  · have hb' : b < w.heap.size := Nat.lt_of_lt_of_le hb S.size
    exact ((S1.ssz b hb').trans (hsz b)).trans (S.ssz b hb)
  · by_cases hi : Hk.next ≤ i ∧ i < H1.next
    · rw [Emb.over_in hi.1 hi.2] at h4
      have := over_news hdk S1 hi.1 h4
      have := S.size
      omega
    · rw [Emb.over_out hi] at h4
      exact S.owned b hb ⟨i, o, p, h1, h2, h3, h4⟩
  · exact (hsame b (Nat.lt_of_lt_of_le hb S.size)).trans (S.same b hb hno)
  · obtain ⟨L1, h1⟩ := S.loops b L hL
    exact S1.loops b L1 h1
  · by_cases hi : Hk.next ≤ i ∧ i < H1.next
    · rw [Emb.over_in hi.1 hi.2] at h2
      exact .inl (Nat.le_trans S.size (over_news hdk S1 hi.1 h2))
    · rw [Emb.over_out hi] at h2
      exact S.news i b p h1 h2
end
end Go.Ahe
/-
  AHE, 20c: regions that draw their order: the invariant.
-/
namespace Go.Ahe
open Go.RowKit

theorem pure_any {C : Ctx} {call : CallE} {op : Op} {t : TypeId} {e : Env} {H H1 : Hp} {v : Value} (hp : pureOp op = true) (h : opE C call op t e H = some (v, H1)) : ∀ H2, opE C call op t e H2 = some (v, H2) := by
  intro H2
  cases op <;> first | (cases hp; done) | skip
  case call c =>
    obtain ⟨callee, args, ats⟩ := c
    cases callee with
    | builtin b =>
      simp only [opE, Option.bind_eq_some_iff] at h ⊢
      obtain ⟨vs, h1, h2⟩ := h
      refine ⟨vs, h1, ?_⟩
      cases b <;> first | (cases hp; done) | skip
      all_goals
        simp only [builtinE, Option.map_eq_some_iff] at h2 ⊢
        obtain ⟨u, h3, h4⟩ := h2
        cases h4
        exact ⟨_, h3, rfl⟩
    | value f => cases hp
    | invoke r n => cases hp
  case pick c x y =>
    simp only [opE] at h ⊢
    split at h
    · replace h := pureV_some h; rw [h.1]
    · replace h := pureV_some h; rw [h.1]
    · cases h
  all_goals
    simp only [opE] at h ⊢
    replace h := pureV_some h
    rw [h.1]

theorem len_any {C : Ctx} {ts : List TypeId} {vs : List Value} {H H1 : Hp} {v : Value} (h : builtinE C .len ts vs H = some (v, H1)) : H1 = H ∧ builtinE C .len ts vs H.raised = some (v, H.raised) := by
  rcases ts with _ | ⟨t, _ | ⟨t2, ts⟩⟩ <;> rcases vs with _ | ⟨x, _ | ⟨x2, vs⟩⟩ <;> first | (cases h; done) | skip
  have h : (lenE C t x H).map (fun v => (v, H)) = some (v, H1) := h
  rw [Option.map_eq_some_iff] at h
  obtain ⟨u, h3, h4⟩ := h
  cases h4
  refine ⟨rfl, ?_⟩
  show (lenE C t x H.raised).map (fun v => (v, H.raised)) = _
  have h5 : lenE C t x H.raised = some v := h3
  rw [h5]; rfl

theorem reader_any {C : Ctx} {call : CallE} {op : Op} {t : TypeId} {e : Env} {H H1 : Hp} {v : Value} (hp : readerOp op = true) (h : opE C call op t e H = some (v, H1)) : H1 = H ∧ opE C call op t e H.raised = some (v, H.raised) := by
  cases op <;> first | (cases hp; done) | skip
  case call c =>
    obtain ⟨callee, args, ats⟩ := c
    cases callee with
    | builtin b =>
      simp only [opE, Option.bind_eq_some_iff] at h ⊢
      obtain ⟨vs, h1, h2⟩ := h
      cases b <;> first | (cases hp; done) | skip
      obtain ⟨h3, h4⟩ := len_any h2
      exact ⟨h3, vs, h1, h4⟩
    | value f => cases hp
    | invoke r n => cases hp
  case load ty x =>
    simp only [opE] at h ⊢
    replace h := pureV_some h
    refine ⟨h.2, ?_⟩
    have h2 : ((opV e x).bind fun a => (C.T ty).bind fun ti => loadE ti a H.raised) = some v := h.1
    rw [h2]
  case lookup ty x k ok =>
    simp only [opE] at h ⊢
    replace h := pureV_some h
    refine ⟨h.2, ?_⟩
    have h2 : ((opV e x).bind fun v => (opV e k).bind fun k => lookupE C ty v k ok H.raised) = some v := h.1
    rw [h2]

theorem valsEq_eq : ∀ {a b : List Value}, valsEq a b = true → a = b
  | [], [], _ => rfl
  | [], _ :: _, h => by cases h
  | _ :: _, [], h => by cases h
  | x :: a, y :: b, h => by
    rw [valsEq, Bool.and_eq_true] at h
    have h1 : x = y := by
      have h := h.1
      unfold valEq1 at h
      split at h
      · rw [Array.toList_inj.1 (cellsEq_eq h)]
      · exact cellEq_eq h
    rw [h1, valsEq_eq h.2]

theorem valEq_eq {a b : Value} (h : valEq a b = true) : a = b := by
  unfold valEq at h
  split at h
  · rw [Array.toList_inj.1 (valsEq_eq h)]
  · unfold valEq1 at h
    split at h
    · rw [Array.toList_inj.1 (cellsEq_eq h)]
    · exact cellEq_eq h

theorem usesT_op {ops : List Oper} {o : Oper} {t : Tmp} (h : .tmp t ∈ o.op.operands.toList) : usesT ops o t = true := by
  unfold usesT
  rw [Bool.or_eq_true]
  right
  rw [List.any_eq_true]
  exact ⟨.tmp t, h, nbeq_t rfl⟩

theorem usesT_guard {ops : Array Oper} {o : Oper} {t : Tmp} (h : ∃ j w, o.guard = some (j, w) ∧ (ops[j]?).bind (·.dst) = some t) : usesT ops.toList o t = true := by
  obtain ⟨j, w, h1, h2⟩ := h
  unfold usesT guardT
  rw [h1]
  simp only [Array.getElem?_toList, h2, nbeq_t, Bool.true_or]

theorem ord_lt {ms : List Nat} {i j : Nat} (h : ordB ms i j = true) (hlt : i < j) : ((ms[j]?).getD 0).testBit i = true := by
  unfold ordB at h
  have : Nat.blt i j = true := by simpa using hlt
  rw [this, cond_true] at h; exact h
theorem ord_gt {ms : List Nat} {i j : Nat} (h : ordB ms i j = true) (hlt : j < i) : ((ms[i]?).getD 0).testBit j = true := by
  unfold ordB at h
  have : Nat.blt i j = false := by
    cases hb : Nat.blt i j with
    | false => rfl
    | true => have := nblt_lt hb; omega
  rw [this, cond_false] at h; exact h

section
variable {P : Program} {C : Ctx} (hC : Fits C P) {base : Nat} {call : CallE} (hcall : CallOk P call) {ops : Array Oper} {ms : List Nat} {E : Nat → Env} {K : Nat → Hp} {V : Nat → Value} {EW : Nat → Prop} (T : Tc C call ops ms E K V EW)
  (hreg : RegOk ops ms) (hf : HF ops.size K EW) (hbd : ∀ k, k ≤ ops.size → ∀ t v, (E k).get t = some v → Bd (K k).next v) (hsize : ∀ k, k ≤ ops.size → (E k).size = (E 0).size)

/-- **WHAT HOLDS WHEN THE OPERATIONS OF D HAVE BEEN DONE**; q: the next operation that writes. -/
structure Inv (base : Nat) (ops : Array Oper) (E : Nat → Env) (K : Nat → Hp) (V : Nat → Value) (EW : Nat → Prop) (ι0 : Emb) (w0 : World) (d0 : List Deferred) (D : Nat → Prop) (a : Act) (w : World) (q : Nat) (ι : Emb) : Prop where
  cl : ∀ (i : Nat) (o : Oper), ops[i]? = some o → D i → ∀ e ∈ o.after, Region.binds .any e = true → D e.on
  qn : q ≤ ops.size
  qe : q = ops.size ∨ EW q
  lo : ∀ j, EW j → j < q → D j
  hi : ∀ j, EW j → q ≤ j → ¬ D j
  fam : ∀ m, m ≤ q → (∀ j, m ≤ j → j < q → ¬ EW j) → Rel base (ι.cut (K m).next) (K m) w
  dom : ∀ i, (K q).next ≤ i → ι i = none
  free : ∀ k, k < ops.size → ¬ D k → ∀ i, (K k).next ≤ i → i < (K (k + 1)).next → ι i = none
  step : Step ι0 ι (K 0) (K q) w0 w
  size : a.tmps.size = (E 0).size
  tw : ∀ (k : Nat) (o : Oper) (t : Tmp), ops[k]? = some o → D k → o.dst = some t → t < (E 0).size → VR ι (V k) (a.tmps.getD t undef)
  tn : ∀ t v, (E 0).get t = some v → (∀ (k : Nat) (o : Oper), ops[k]? = some o → D k → o.dst ≠ some t) → VR ι v (a.tmps.getD t undef)
  defers : a.defers = d0

include T hreg in
theorem env_spec : ∀ k, k ≤ ops.size → ∀ t, (∀ (j : Nat) (o : Oper), j < k → ops[j]? = some o → o.dst = some t → (E k).get t = some (V j)) ∧ ((∀ (j : Nat) (o : Oper), j < k → ops[j]? = some o → o.dst ≠ some t) → (E k).get t = (E 0).get t) := by
  intro k
  induction k with
  | zero => intro _ t; exact ⟨fun j o h => by omega, fun _ => rfl⟩
  | succ k ih =>
    intro hk t
    obtain ⟨h1, h2⟩ := ih (by omega) t
    have ho : ops[k]? = some ops[k] := Array.getElem?_eq_getElem (by omega)
    generalize ops[k] = o at ho
    have hput := T.put k o ho
    cases hd : o.dst with
    | none =>
      rw [hd] at hput
      simp only [Env.put, Option.some.injEq] at hput
      rw [← hput]
      refine ⟨fun j o' hj ho' hdt => ?_, fun hno => h2 fun j o' hj => hno j o' (by omega)⟩
      rcases Nat.lt_or_ge j k with hlt | hge
      · exact h1 j o' hlt ho' hdt
      · have : j = k := by omega
        subst this; rw [ho] at ho'; cases ho'; rw [hd] at hdt; cases hdt
    | some d =>
      rw [hd] at hput
      obtain ⟨_, _, hg⟩ := Env.set_some hput
      rw [hg]
      refine ⟨fun j o' hj ho' hdt => ?_, fun hno => ?_⟩
      · rcases Nat.lt_or_ge j k with hlt | hge
        · have hne : t ≠ d := fun e => by subst e; exact hreg.alone j k o' o t ho' ho (by omega) hdt hd
          rw [if_neg hne]; exact h1 j o' hlt ho' hdt
        · have : j = k := by omega
          subst this; rw [ho] at ho'; cases ho'; rw [hd] at hdt; cases hdt; rw [if_pos rfl]
      · have hne : t ≠ d := fun e => by subst e; exact hno k o (by omega) ho hd
        rw [if_neg hne]; exact h2 fun j o' hj => hno j o' (by omega)

section
variable {ι0 : Emb} {w0 : World} {d0 : List Deferred} {D : Nat → Prop} {a : Act} {w : World} {q : Nat} {ι : Emb} (I : Inv base ops E K V EW ι0 w0 d0 D a w q ι) {k : Nat} {o : Oper} (hk : ops[k]? = some o) (hD : ¬ D k)
  (hrd : ∀ e ∈ o.after, Region.binds .any e = true → D e.on)
include hreg I hk hD hrd

omit hD in
theorem ahead {j : Nat} (h : ((ms[k]?).getD 0).testBit j = true) : D j := hreg.closed (L := D) I.cl k o hk hrd j h
omit hk hrd in
theorem behind {j : Nat} {x : Oper} (hj : ops[j]? = some x) (h : ((ms[j]?).getD 0).testBit k = true) : ¬ D j := fun hd => hD (hreg.closed (L := D) I.cl j x hj (I.cl j x hj hd) k h)

include T hsize in
/-- The temporaries that the operation looks at. -/
theorem tmpR {t : Tmp} {v : Value} (hv : (E k).get t = some v) (hu : usesT ops.toList o t = true) : VR ι v (a.tmps.getD t undef) := by
  have hkn : k < ops.size := (Array.getElem?_eq_some_iff.1 hk).1
  obtain ⟨s1, s2⟩ := env_spec T hreg k (by omega) t
  have ht0 : t < (E 0).size := by rw [← hsize k (by omega)]; exact (Env.get_some hv).1
  by_cases hex : ∃ (j : Nat) (x : Oper), ops[j]? = some x ∧ x.dst = some t
  · obtain ⟨j, x, hj, hx⟩ := hex
    have huniq : ∀ (i : Nat) (y : Oper), ops[i]? = some y → y.dst = some t → i = j := fun i y hi hy => by
      by_cases e : i = j
      · exact e
      · exact absurd hx (hreg.alone i j y x t hi hj e hy)
    rcases Nat.lt_trichotomy j k with hlt | heq | hgt
    · have hb := ord_lt (hreg.uses j k x o t hj hk (by omega) hx hu) hlt
      rw [s1 j x hlt hj hx] at hv
      cases hv
      exact I.tw j x t hj (ahead hreg I hk hrd hb) hx ht0
    · rw [s2 fun i y hi hiy hy => by have := huniq i y hiy hy; omega] at hv
      exact I.tn t v hv fun i y hi hdi hy => by have := huniq i y hi hy; subst this; subst heq; exact hD hdi
    · have hb := ord_gt (hreg.uses j k x o t hj hk (by omega) hx hu) hgt
      rw [s2 fun i y hi hiy hy => by have := huniq i y hiy hy; omega] at hv
      exact I.tn t v hv fun i y hi hdi hy => by have := huniq i y hi hy; subst this; exact behind hreg I hD hj hb hdi
  · rw [s2 fun i y hi hiy hy => hex ⟨i, y, hiy, hy⟩] at hv
    exact I.tn t v hv fun i y hi hdi hy => hex ⟨i, y, hi, hy⟩

include T hsize in
theorem opsD_R : OpsR ι (E k) a o.op.operands.toList := fun x hx v hv => by
  cases x with
  | tmp t => exact tmpR T hreg hsize I hk hD hrd hv (usesT_op hx)
  | const u =>
    obtain ⟨hb, hv⟩ := bif_some hv
    cases hv
    exact VR.plainV hb
  | func f => cases hv; exact .func .nil .nil
  | global g => cases hv

include T hsize hbd in
theorem opsD_cut {m : Nat} (hm : (K k).next ≤ (K m).next) : OpsR (ι.cut (K m).next) (E k) a o.op.operands.toList := fun x hx v hv => by
  have hkn : k < ops.size := (Array.getElem?_eq_some_iff.1 hk).1
  cases x with
  | tmp t => exact (VR.cut (tmpR T hreg hsize I hk hD hrd hv (usesT_op hx)) (hbd k (by omega) t v hv)).mono (Emb.cut_le ι hm)
  | const u =>
    obtain ⟨hb, hv⟩ := bif_some hv
    cases hv
    exact VR.plainV hb
  | func f => cases hv; exact .func .nil .nil
  | global g => cases hv

include T hsize in
theorem wantD {b : Bool} (h : wantE ops o (E k) = some b) : Region.wanted o (yielded ops a.tmps) = b := by
  have hkn : k < ops.size := (Array.getElem?_eq_some_iff.1 hk).1
  refine wantE_ok' (ι := ι) ?_ (fun t ht v hv => tmpR T hreg hsize I hk hD hrd hv (usesT_guard ht)) h
  rw [hsize k (by omega), I.size]

/-- The operation has been done: the temporaries. -/
theorem inv_done {q' : Nat} {ι' : Emb} {w' : World} {v' : Value} (hle : ∀ v u, VR ι v u → VR ι' v u) (hv : VR ι' (V k) v') (hqn : q' ≤ ops.size) (hqe : q' = ops.size ∨ EW q') (hlo : ∀ j, EW j → j < q' → D j ∨ j = k) (hhi : ∀ j, EW j → q' ≤ j → ¬ (D j ∨ j = k))
    (hfam : ∀ m, m ≤ q' → (∀ j, m ≤ j → j < q' → ¬ EW j) → Rel base (ι'.cut (K m).next) (K m) w') (hdom : ∀ i, (K q').next ≤ i → ι' i = none)
    (hfree : ∀ j, j < ops.size → ¬ D j → j ≠ k → ∀ i, (K j).next ≤ i → i < (K (j + 1)).next → ι' i = none) (hstep : Step ι0 ι' (K 0) (K q') w0 w') :
    Inv base ops E K V EW ι0 w0 d0 (fun j => D j ∨ j = k) (a.put o.dst v') w' q' ι' where
  cl i x hi hdi e he hb := by
    rcases hdi with hdi | rfl
    · exact .inl (I.cl i x hi hdi e he hb)
    · rw [hk] at hi; cases hi; exact .inl (hrd e he hb)
  qn := hqn
  qe := hqe
  lo := hlo
  hi := hhi
  fam := hfam
  dom := hdom
  free j hj hno := hfree j hj (fun h => hno (.inl h)) (fun h => hno (.inr h))
  step := hstep
  size := by
    rw [← I.size]
    cases o.dst <;> simp [Act.put]
  tw j x t hj hdj hx ht := by
    have hts : t < a.tmps.size := by rw [I.size]; exact ht
    by_cases hjk : j = k
    · subst hjk
      rw [hk] at hj; cases hj
      rw [hx]
      simp only [Act.put, Array.getD_eq_getD_getElem?, Array.getElem?_setIfInBounds_self, hts, if_true, Option.getD_some]
      exact hv
    · have hdj : D j := hdj.resolve_right hjk
      have h1 := hle _ _ (I.tw j x t hj hdj hx ht)
      cases hd : o.dst with
      | none => exact h1
      | some d =>
        have hne : d ≠ t := fun e => by subst e; exact hreg.alone j k x o d hj hk hjk hx hd
        simp only [Act.put, Array.getD_eq_getD_getElem?, Array.getElem?_setIfInBounds_ne hne]
        rw [← Array.getD_eq_getD_getElem?]; exact h1
  tn t v ht hno := by
    have h1 := hle _ _ (I.tn t v ht fun j x hj hdj => hno j x hj (.inl hdj))
    cases hd : o.dst with
    | none => exact h1
    | some d =>
      have hne : d ≠ t := fun e => by subst e; exact hno k o hk (.inr rfl) hd
      simp only [Act.put, Array.getD_eq_getD_getElem?, Array.getElem?_setIfInBounds_ne hne]
      rw [← Array.getD_eq_getD_getElem?]; exact h1
  defers := by rw [put_defers']; exact I.defers

include hf in
/-- It was run in a heap of the stage, and wrote nothing that was there. -/
theorem inv_read {m : Nat} (hmq : m ≤ q) (hmno : ∀ j, m ≤ j → j < q → ¬ EW j) (hew : ¬ EW k) {H1 : Hp} {ι1 : Emb} {w' : World} {v' : Value} (hv : VR ι1 (V k) v') (R1 : Rel base ι1 H1 w') (S1 : Step (ι.cut (K m).next) ι1 (K m).raised H1 w w')
    (hq : H1.next ≤ (K q).next) (hag : ∀ m', m < m' → m' ≤ q → (∀ j, m' ≤ j → j < q → ¬ EW j) → (K m').next ≤ (K m).next ∨ (H1.next ≤ (K m').next ∧ ∀ i, i < H1.next → (K m').get i = H1.get i))
    (hdis : ∀ i, (K m).next ≤ i → i < H1.next → (K k).next ≤ i ∧ i < (K (k + 1)).next) : ∃ q' ι', Inv base ops E K V EW ι0 w0 d0 (fun j => D j ∨ j = k) (a.put o.dst v') w' q' ι' := by
  have hkn : k < ops.size := (Array.getElem?_eq_some_iff.1 hk).1
  have hcut : ∀ i, i < (K m).next → ι.cut (K m).next i = ι i := fun i hi => Emb.cut_lt hi
  have hge : ∀ i, (K m).next ≤ i → ι.cut (K m).next i = none := fun i hi => Emb.cut_ge hi
  have hfr : ∀ i, (K m).next ≤ i → i < H1.next → ι i = none := fun i h1 h2 => by
    obtain ⟨h3, h4⟩ := hdis i h1 h2
    exact I.free k hkn hD i h3 h4
  have Rq : Rel base ι (K q) w := by
    have := I.fam q (Nat.le_refl _) (fun j h1 h2 => by omega)
    rwa [Emb.cut_all I.dom] at this
  have hn1 : (K m).next ≤ H1.next := S1.next
  have hsame := over_same hge S1
  have hl : ι.le (ι.over ι1 (K m).next H1.next) := over_le (ιk := ι.cut (K m).next) Rq (fun _ => rfl) S1 hfr
  have hl1 : ι1.le (ι.over ι1 (K m).next H1.next) := over_le1 hcut R1 S1
  refine ⟨q, ι.over ι1 (K m).next H1.next, inv_done hreg I hk hD hrd (fun v u h => h.mono hl) (hv.mono hl1) I.qn I.qe (fun j h1 h2 => .inl (I.lo j h1 h2)) (fun j h1 h2 h3 => ?_) (fun m' hm' hno' => ?_) (fun i hi => ?_) (fun j hj hnd hne i h1 h2 => ?_) ?_⟩
  · rcases h3 with h3 | rfl
    · exact I.hi j h1 h2 h3
    · exact hew h1
  · have Rm := I.fam m' hm' hno'
    by_cases hc : (K m').next ≤ (K m).next
    · rw [Emb.over_cut_low hc]
      exact Rm.resz (fun b hb => S1.ssz b hb) S1.size hsame
    · have hlt : m < m' := Nat.lt_of_not_le fun hle => hc (hf.nextle hle (Nat.le_trans hmq I.qn))
      rcases hag m' hlt hm' hno' with h | ⟨h1, h2⟩
      · exact absurd h hc
      · rw [Emb.over_cut h1]
        refine over_rel (ιk := ι.cut (K m).next) Rm (fun i hi => ?_) (fun _ => rfl) hge R1 S1 (fun i g1 g2 => ?_) h1 h2
        · rw [Emb.cut_lt hi, Emb.cut_lt (by omega)]
        · cases hx : ι.cut (K m').next i with
          | none => rfl
          | some x => obtain ⟨_, h3⟩ := Emb.cut_some hx; rw [hfr i g1 g2] at h3; cases h3
  · rw [Emb.over_out (by omega)]; exact I.dom i hi
  · by_cases hin : (K m).next ≤ i ∧ i < H1.next
    · obtain ⟨g1, g2⟩ := hdis i hin.1 hin.2
      rcases Nat.lt_or_gt_of_ne hne with hlt | hgt
      · have := hf.nextle (k := j + 1) (m := k) (by omega) (by omega)
        omega
      · have := hf.nextle (k := k + 1) (m := j) (by omega) (by omega)
        omega
    · rw [Emb.over_out hin]; exact I.free j hj hnd i h1 h2
  · exact over_step (ι := ι) (ιk := ι.cut (K m).next) (fun _ => rfl) hge S1 (hf.nextle (Nat.zero_le _) (Nat.le_trans hmq I.qn)) I.step
end
end
end Go.Ahe
/-
  AHE, 20d: regions that draw their order: every order.
-/
namespace Go.Ahe
open Go.RowKit

section
variable {P : Program} {C : Ctx} (hC : Fits C P) {base : Nat} {call : CallE} (hcall : CallOk P call) {ops : Array Oper} {ms : List Nat} {E : Nat → Env} {K : Nat → Hp} {V : Nat → Value} {EW : Nat → Prop} (T : Tc C call ops ms E K V EW)
  (hreg : RegOk ops ms) (hf : HF ops.size K EW) (hbd : ∀ k, k ≤ ops.size → ∀ t v, (E k).get t = some v → Bd (K k).next v) (hsize : ∀ k, k ≤ ops.size → (E k).size = (E 0).size)
  {ι0 : Emb} {w0 : World} {d0 : List Deferred} {D : Nat → Prop} {a : Act} {w : World} {q : Nat} {ι : Emb} (I : Inv base ops E K V EW ι0 w0 d0 D a w q ι) {k : Nat} {o : Oper} (hk : ops[k]? = some o) (hD : ¬ D k)
  (hrd : ∀ e ∈ o.after, Region.binds .any e = true → D e.on) {r : Option Nat} {Q : Exit → Act → World → Prop} {next : Act → World → Prop}
  (hnext : ∀ a' w' q' ι', Inv base ops E K V EW ι0 w0 d0 (fun j => D j ∨ j = k) a' w' q' ι' → next a' w')
include hC hcall T hreg hf hbd hsize I hk hD hrd hnext

/-- Run in a heap of the stage, it hands back what the walk says. -/
theorem step_read {m : Nat} (hmq : m ≤ q) (hmno : ∀ j, m ≤ j → j < q → ¬ EW j) (hew : ¬ EW k) (hop : OpsR (ι.cut (K m).next) (E k) a o.op.operands.toList) (hev : opE C call o.op o.type (E k) (K m).raised = some (V k, (K m).raised)) : o.wpIn (Fr r) 0 P a w next Q := by
  have _ := T
  have _ := hbd
  have _ := hsize
  have Rm := I.fam m hmq hmno
  refine (opE_run' hC Rm.raised hcall hop hev).wp (opE_defer hev) fun v' ι1 w' g1 g2 g3 => ?_
  obtain ⟨q', ι', I'⟩ := inv_read hreg hf I hk hD hrd hmq hmno hew g1 g2 g3 (hf.nextle hmq I.qn) (fun m' h1 h2 h3 => .inr ⟨hf.nextle (by omega) (Nat.le_trans h2 I.qn), fun i hi => hf.agree (by omega) (Nat.le_trans h2 I.qn) (fun j h4 h5 => hmno j h4 (by omega)) i hi⟩)
    (fun i h1 h2 => by have h2 : i < (K m).next := h2; omega)
  exact hnext _ _ _ _ I'

theorem step_one : wpOpIn (Fr r) 0 P ops Q k next a w := by
  have hkn : k < ops.size := (Array.getElem?_eq_some_iff.1 hk).1
  unfold wpOpIn
  rw [hk]
  simp only
  obtain ⟨bb, hw⟩ := T.told k o hk
  cases bb with
  | false =>
    obtain ⟨e1, e2, e3⟩ := T.skip k o hk hw
    rw [if_neg (by rw [wantD T hreg hsize I hk hD hrd hw]; decide)]
    refine ⟨fun _ _ => trivial, hnext _ _ q ι (inv_done hreg I hk hD hrd (fun _ _ h => h) (by rw [e1]; exact .undef) I.qn I.qe (fun j h1 h2 => .inl (I.lo j h1 h2)) (fun j h1 h2 h3 => ?_) I.fam I.dom (fun j hj hnd _ => I.free j hj hnd) I.step)⟩
    rcases h3 with h3 | rfl
    · exact I.hi j h1 h2 h3
    · exact e3 h1
  | true =>
    rw [if_pos (wantD T hreg hsize I hk hD hrd hw)]
    by_cases hew : EW k
    · -- it writes: it is the next that does
      obtain ⟨_, hev, hwr, hoth⟩ := T.wr k o hk hew
      have hqk : q = k := by
        have h1 : q ≤ k := Nat.le_of_not_lt fun h => hD (I.lo k hew h)
        rcases Nat.lt_or_ge q k with h2 | h2
        · exfalso
          have hEq : EW q := I.qe.resolve_left (by omega)
          have hq : ops[q]? = some ops[q] := Array.getElem?_eq_getElem (by omega)
          have hwq := writer_not (T.wr q _ hq hEq).2.2.1
          rcases hoth q _ hq (by omega) with h3 | h3 | h3
          · rw [hwq.1] at h3; cases h3
          · rw [hwq.2] at h3; cases h3
          · exact I.hi q hEq (Nat.le_refl _) (ahead hreg I hk hrd (ord_gt h3 h2))
        · omega
      subst hqk
      have Rq : Rel base ι (K q) w := by
        have := I.fam q (Nat.le_refl _) (fun j h1 h2 => by omega)
        rwa [Emb.cut_all I.dom] at this
      refine (opE_run' hC Rq hcall (opsD_R T hreg hsize I hk hD hrd) hev).wp (opE_defer hev) fun v' ι' w' g1 g2 g3 => ?_
      obtain ⟨q', ⟨p1, p2⟩, p3⟩ := least_exists (p := fun j => q + 1 ≤ j ∧ (j = ops.size ∨ EW j)) ops.size ⟨by omega, .inl rfl⟩
      have hq'n : q' ≤ ops.size := p3 _ ⟨by omega, .inl rfl⟩
      have hno : ∀ j, q + 1 ≤ j → j < q' → ¬ EW j := fun j h1 h2 h3 => by have := p3 j ⟨h1, .inr h3⟩; omega
      have hle := g3.le Rq
      have S' : Step ι0 ι' (K 0) (K (q + 1)) w0 w' := I.step.trans g3
      have hgq : ∀ i, i < (K (q + 1)).next → (K q').get i = (K (q + 1)).get i := hf.agree p1 hq'n hno
      refine hnext _ _ q' ι' (inv_done hreg I hk hD hrd (fun _ _ h => h.mono hle) g1 hq'n p2 (fun j h1 h2 => ?_) (fun j h1 h2 h3 => ?_) (fun m h1 h2 => ?_) (fun i hi => ?_) (fun j hj hnd hne i h1 h2 => ?_) ?_)
      · rcases Nat.lt_trichotomy j q with h3 | h3 | h3
        · exact .inl (I.lo j h1 h3)
        · exact .inr h3
        · exact absurd h1 (hno j (by omega) h2)
      · rcases h3 with h3 | h3
        · exact I.hi j h1 (by omega) h3
        · omega
      · have hm : q + 1 ≤ m := Nat.le_of_not_lt fun h => h2 q (by omega) (by omega) hew
        have hmn : m ≤ ops.size := Nat.le_trans h1 hq'n
        rw [Emb.cut_all (fun i hi => g2.dom i (Nat.le_trans (hf.nextle hm hmn) hi))]
        exact g2.grow (hf.nextle hm hmn) (hf.flo m hmn) (hf.agree hm hmn fun j h3 h4 => hno j h3 (by omega))
      · exact g2.dom i (Nat.le_trans (hf.nextle p1 hq'n) hi)
      · rcases Nat.lt_or_ge i (K (q + 1)).next with h3 | h3
        · rcases Nat.lt_or_ge i (K q).next with h4 | h4
          · rw [g3.emb i h4]; exact I.free j hj hnd i h1 h2
          · exfalso
            rcases Nat.lt_or_gt_of_ne hne with hlt | hgt
            · have := hf.nextle (k := j + 1) (m := q) (by omega) (by omega); omega
            · have := hf.nextle (k := q + 1) (m := j) (by omega) (by omega); omega
        · exact g2.dom i h3
      · exact Step.grow g2 S' (hf.flo 0 (Nat.zero_le _)) (hf.nextle p1 hq'n) (hf.flooreq p1 hq'n) hgq
    · obtain ⟨H1, hev, hK1⟩ := T.md k o hk hw hew
      cases hp : pureOp o.op with
      | true =>
        have h1 := pure_any hp hev (K q).raised
        refine step_read hC hcall T hreg hf hbd hsize I hk hD hrd hnext (m := q) (Nat.le_refl _) (fun j h1 h2 => by omega) hew ?_ h1
        rw [Emb.cut_all I.dom]
        exact opsD_R T hreg hsize I hk hD hrd
      | false =>
        have hqk : q ≠ k := fun e => by
          subst e
          rcases I.qe with h | h
          · omega
          · exact hew h
        cases hr : readerOp o.op with
        | true =>
          by_cases hA : ∃ j, EW j ∧ j < k ∧ ¬ D j
          · -- the write that comes next stands ahead of it in the text
            obtain ⟨j, j1, j2, j3⟩ := hA
            have hqj : q ≤ j := Nat.le_of_not_lt fun h => j3 (I.lo j j1 h)
            have hEq : EW q := I.qe.resolve_left (by omega)
            have hqk' : q < k := by omega
            rcases T.was q k o hk hw hr hEq hqk' with h3 | ⟨u, H2, h3, h4⟩
            · exact absurd (ahead hreg I hk hrd (ord_lt h3 hqk')) (I.hi q hEq (Nat.le_refl _))
            · have := valEq_eq h4; subst this
              refine step_read hC hcall T hreg hf hbd hsize I hk hD hrd hnext (m := q) (Nat.le_refl _) (fun j h1 h2 => by omega) hew ?_ (reader_any hr h3).2
              rw [Emb.cut_all I.dom]
              exact opsD_R T hreg hsize I hk hD hrd
          · have hkq : k < q := by
              rcases Nat.lt_or_ge k q with h | h
              · exact h
              · exfalso
                have hEq : EW q := I.qe.resolve_left (by omega)
                exact hA ⟨q, hEq, by omega, I.hi q hEq (Nat.le_refl _)⟩
            by_cases hB : ∃ j, EW j ∧ k < j ∧ j < q
            · -- a write behind it in the text has been done: the last such
              obtain ⟨j0, b1, b2, b3⟩ := hB
              obtain ⟨d, ⟨j, c1, c2⟩, c3⟩ := least_exists (p := fun d => ∃ j, EW j ∧ j + d + 1 = q) (q - j0 - 1) ⟨j0, b1, by omega⟩
              have hmax : ∀ j', EW j' → j' < q → j' ≤ j := fun j' h1 h2 => by
                have := c3 (q - j' - 1) ⟨j', h1, by omega⟩
                omega
              have hkj : k < j := by have := hmax j0 b1 b3; omega
              obtain ⟨oj, hjs⟩ : ∃ oj, ops[j]? = some oj := ⟨_, Array.getElem?_eq_getElem (T.lt j c1)⟩
              rcases T.still j k o hk hw hr c1 hkj with h3 | ⟨u, H2, h3, h4⟩
              · exact absurd (I.lo j c1 (by omega)) (behind hreg I hD hjs (ord_gt h3 hkj))
              · have := valEq_eq h4; subst this
                have hj1 : j + 1 ≤ ops.size := T.lt j c1
                refine step_read hC hcall T hreg hf hbd hsize I hk hD hrd hnext (m := j + 1) (by omega) (fun j' h1 h2 h5 => by have := hmax j' h5 h2; omega) hew (opsD_cut T hreg hbd hsize I hk hD hrd (hf.nextle (by omega) hj1)) (reader_any hr h3).2
            · have hno : ∀ j, k ≤ j → j < q → ¬ EW j := fun j h1 h2 h3 => by
                by_cases e : j = k
                · subst e; exact hew h3
                · exact hB ⟨j, h3, by omega, h2⟩
              have h5 := reader_any hr hev
              rw [h5.1] at hev
              exact step_read hC hcall T hreg hf hbd hsize I hk hD hrd hnext (m := k) (by omega) hno hew (opsD_cut T hreg hbd hsize I hk hD hrd (Nat.le_refl _)) hev
        | false =>
          have hkq : k < q := by
            rcases Nat.lt_or_ge k q with h | h
            · exact h
            · exfalso
              have hEq : EW q := I.qe.resolve_left (by omega)
              have hq : ops[q]? = some ops[q] := Array.getElem?_eq_getElem (by omega)
              rcases (T.wr q _ hq hEq).2.2.2 k o hk (by omega) with h3 | h3 | h3
              · rw [hp] at h3; cases h3
              · rw [hr] at h3; cases h3
              · exact I.hi q hEq (Nat.le_refl _) (ahead hreg I hk hrd (ord_lt h3 (by omega)))
          have hno : ∀ j, k ≤ j → j < q → ¬ EW j := fun j h1 h2 h3 => by
            by_cases e : j = k
            · subst e; exact hew h3
            · obtain ⟨oj, hjs⟩ : ∃ oj, ops[j]? = some oj := ⟨_, Array.getElem?_eq_getElem (T.lt j h3)⟩
              rcases (T.wr j _ hjs h3).2.2.2 k o hk (by omega) with h4 | h4 | h4
              · rw [hp] at h4; cases h4
              · rw [hr] at h4; cases h4
              · exact behind hreg I hD hjs (ord_gt h4 (by omega)) (I.lo j h3 h2)
          have Rm := I.fam k (by omega) hno
          have hnx : (K (k + 1)).next = H1.next := by rw [hK1]; rfl
          have hgx : ∀ i, (K (k + 1)).get i = H1.get i := fun i => by rw [hK1]; rfl
          refine (opE_run' hC Rm.raised hcall (opsD_cut T hreg hbd hsize I hk hD hrd (Nat.le_refl _)) hev).wp (opE_defer hev) fun v' ι1 w' g1 g2 g3 => ?_
          obtain ⟨q', ι', I'⟩ := inv_read hreg hf I hk hD hrd (m := k) (by omega) hno hew g1 g2 g3 (by rw [← hnx]; exact hf.nextle (by omega) I.qn)
            (fun m' h1 h2 h3 => .inr ⟨by rw [← hnx]; exact hf.nextle (by omega) (Nat.le_trans h2 I.qn), fun i hi => by
              rw [← hgx]; exact hf.agree (by omega) (Nat.le_trans h2 I.qn) (fun j h4 h5 => hno j (by omega) (by omega)) i (by rw [hnx]; exact hi)⟩)
            (fun i h1 h2 => ⟨h1, by rw [hnx]; exact h2⟩)
          exact hnext _ _ _ _ I'
end

section
variable {P : Program} {C : Ctx} (hC : Fits C P) {base : Nat} {call : CallE} (hcall : CallOk P call) {ops : Array Oper} {ms : List Nat} {E : Nat → Env} {K : Nat → Hp} {V : Nat → Value} {EW : Nat → Prop} (T : Tc C call ops ms E K V EW)
  (hreg : RegOk ops ms) (hf : HF ops.size K EW) (hbd : ∀ k, k ≤ ops.size → ∀ t v, (E k).get t = some v → Bd (K k).next v) (hsize : ∀ k, k ≤ ops.size → (E k).size = (E 0).size)
  {ι0 : Emb} {w0 : World} {d0 : List Deferred} {r : Option Nat} {Q : Exit → Act → World → Prop}
  (hQ : ∀ ι' a' w', EnvR ι' (E ops.size) a'.tmps → Rel base ι' (K ops.size) w' → Step ι0 ι' (K 0) (K ops.size) w0 w' → a'.defers = d0 → Q .normal a' w')
include hC hcall T hreg hf hbd hsize hQ

omit hC hcall hf hbd in
theorem inv_end {D : Nat → Prop} {a : Act} {w : World} {q : Nat} {ι : Emb} (I : Inv base ops E K V EW ι0 w0 d0 D a w q ι) (hall : ∀ k, k < ops.size → D k) : Q .normal a w := by
  have hq : q = ops.size := by
    rcases I.qe with h | h
    · exact h
    · exact absurd (hall q (T.lt q h)) (I.hi q h (Nat.le_refl _))
  subst hq
  have R := I.fam ops.size (Nat.le_refl _) (fun j h1 h2 => by omega)
  rw [Emb.cut_all I.dom] at R
  have hs := hsize ops.size (Nat.le_refl _)
  refine hQ ι a w ⟨by rw [hs, I.size], fun t v hv => ?_⟩ R I.step I.defers
  have ht : t < (E 0).size := by rw [← hs]; exact (Env.get_some hv).1
  obtain ⟨s1, s2⟩ := env_spec T hreg ops.size (Nat.le_refl _) t
  by_cases hex : ∃ (j : Nat) (x : Oper), ops[j]? = some x ∧ x.dst = some t
  · obtain ⟨j, x, hj, hx⟩ := hex
    have hjn : j < ops.size := (Array.getElem?_eq_some_iff.1 hj).1
    rw [s1 j x hjn hj hx] at hv
    cases hv
    exact I.tw j x t hj (hall j hjn) hx ht
  · rw [s2 fun i y _ hiy hy => hex ⟨i, y, hiy, hy⟩] at hv
    exact I.tn t v hv fun i y hi _ hy => hex ⟨i, y, hi, hy⟩

theorem any_order : ∀ (fuel : Nat) (U : List Nat) (listed : Array Bool) (a : Act) (w : World) (q : Nat) (ι : Emb), U.length ≤ fuel → U.Nodup → (∀ k, k < ops.size → (listed.getD k true = false ↔ k ∈ U)) → (∀ k ∈ U, k < ops.size) → listed.size = ops.size →
    Inv base ops E K V EW ι0 w0 d0 (fun k => listed.getD k false = true) a w q ι → wpAnyIn (Fr r) 0 P .any ops Q fuel listed a w := by
  intro fuel
  induction fuel with
  | zero =>
    intro U listed a w q ι hl hn hU hlt hsz I
    have hU0 : U = [] := List.eq_nil_of_length_eq_zero (by omega)
    subst hU0
    have hall : ∀ k, k < ops.size → listed.getD k true = true := fun k hk => by
      cases h : listed.getD k true with
      | true => rfl
      | false => exact absurd ((hU k hk).1 h) (by simp)
    refine ⟨?_, inv_end T hreg hsize hQ I fun k hk => ?_⟩
    · rw [List.eq_nil_iff_forall_not_mem]
      intro j hj
      obtain ⟨h1, o, h2, _⟩ := mem_ready.1 hj
      rw [hall j (Array.getElem?_eq_some_iff.1 h2).1] at h1; cases h1
    · have h1 := hall k hk
      rw [Array.getD_eq_getD_getElem?, Array.getElem?_eq_getElem (by omega)] at h1 ⊢
      exact h1
  | succ fuel ih =>
    intro U listed a w q ι hl hn hU hlt hsz I
    have hDU : ∀ k, k < ops.size → (¬ listed.getD k false = true ↔ k ∈ U) := fun k hk => by
      rw [← hU k hk, Array.getD_eq_getD_getElem?, Array.getD_eq_getD_getElem?, Array.getElem?_eq_getElem (by omega)]
      simp
    refine ⟨fun hnil => ?_, fun k hk => ?_⟩
    · refine inv_end T hreg hsize hQ I fun k hk => ?_
      -- the least that is left could come next
      refine Classical.byContradiction fun hnd => ?_
      obtain ⟨j, ⟨j1, j2⟩, j3⟩ := least_exists (p := fun j => j < ops.size ∧ ¬ listed.getD j false = true) k ⟨hk, hnd⟩
      have ho : ops[j]? = some ops[j] := Array.getElem?_eq_getElem j1
      have : j ∈ Region.ready .any ops listed := mem_ready.2 ⟨(hU j j1).2 ((hDU j j1).1 j2), _, ho, fun e he hb => by
        have hlt := hreg.back j _ ho e he hb
        refine Classical.byContradiction fun hne => ?_
        have := j3 e.on ⟨by omega, hne⟩
        omega⟩
      rw [hnil] at this; cases this
    · obtain ⟨h1, o, h2, h3⟩ := mem_ready.1 hk
      have hkn : k < ops.size := (Array.getElem?_eq_some_iff.1 h2).1
      have hkU : k ∈ U := (hU k hkn).1 h1
      refine step_one hC hcall T hreg hf hbd hsize I h2 ((hDU k hkn).2 hkU) h3 fun a' w' q' ι' I' => ?_
      refine ih (U.erase k) (listed.setIfInBounds k true) a' w' q' ι' ?_ (hn.erase k) (fun j hj => ?_) (fun j hj => hlt j (List.mem_of_mem_erase hj)) (by simp [hsz]) ?_
      · rw [List.length_erase_of_mem hkU]; omega
      · rw [hn.mem_erase_iff, ← hU j hj]
        by_cases e : j = k
        · subst e
          simp [Array.getD_eq_getD_getElem?, hsz, hkn]
        · rw [Array.getD_eq_getD_getElem?, Array.getElem?_setIfInBounds_ne (Ne.symm e), ← Array.getD_eq_getD_getElem?]
          simp [e]
      · have hfun : (fun j => (listed.setIfInBounds k true).getD j false = true) = (fun j => listed.getD j false = true ∨ j = k) := by
          funext j
          apply propext
          by_cases e : j = k
          · subst e
            simp [Array.getD_eq_getD_getElem?, hsz, hkn]
          · rw [Array.getD_eq_getD_getElem?, Array.getElem?_setIfInBounds_ne (Ne.symm e), ← Array.getD_eq_getD_getElem?]
            simp [e]
        rw [hfun]; exact I'
end

section
variable {P : Program} {C : Ctx} (hC : Fits C P) {base lo : Nat} {call : CallE} (hcall : CallOk P call) {r : Option Nat}
include hC hcall
theorem code_draw {id : Nat} {ops : Array Oper} : CodeOk P C call base lo r (.region id ops true) := fun e H res h ι a w he hr hm hl => by
  have h : (match opsD C call ops e H with
        | some (e', H') => some (Rs.nx e' H')
        | none => none) = some res := h
  split at h
  · rename_i e' H' hop
    cases h
    unfold opsD at hop
    split at hop
    · rename_i hreg0
      split at hop
      · rename_i s hrun
        cases hop
        have hreg := RegOk.of hreg0
        obtain ⟨E, K, V, EW, rfl, rfl, hE, hK, T⟩ := runD_tc hrun
        obtain ⟨hf, hbd, hsize⟩ := tc_heaps hC hcall T hr he
        refine wpIn_region_any hC.mixed ?_
        let w1 : World := { w with drawn := w.drawn + 1 }
        have hr1 : Rel base ι (K 0) w1 := hr.ofHeap rfl
        have hs1 : Step ι ι (K 0) (K 0) w w1 := Step.ofHeap hr rfl ⟨rfl, rfl, rfl⟩
        obtain ⟨q, p1, p3⟩ := least_exists (p := fun j => j = ops.size ∨ EW j) ops.size (.inl rfl)
        have hqn : q ≤ ops.size := p3 _ (.inl rfl)
        have hno : ∀ j, j < q → ¬ EW j := fun j h1 h2 => by have := p3 j (.inr h2); omega
        have hnd : ∀ k, ¬ (Array.replicate ops.size false).getD k false = true := fun k => by
          rw [Array.getD_eq_getD_getElem?, Array.getElem?_replicate]
          split <;> simp
        refine any_order (base := base) hC hcall T hreg hf hbd hsize (ι0 := ι) (w0 := w) (d0 := a.defers) (fun ι' a' w' g1 g2 g3 g4 => ?_) ops.size (List.range ops.size) _ a w1 q ι (by simp) List.nodup_range (fun k hk => ?_) (fun k hk => by simpa using hk) (by simp) ?_
        · rw [hE] at g1
          rw [hK] at g2 g3
          exact ⟨_, _, ι', rfl, g1, g2, g3, by rw [g4]; exact hm.step hr g3⟩
        · rw [Array.getD_eq_getD_getElem?, Array.getElem?_replicate, if_pos hk]
          simp [hk]
        · exact {
            cl := fun i o _ hd => absurd hd (hnd i)
            qn := hqn
            qe := p1
            lo := fun j h1 h2 => absurd h1 (hno j h2)
            hi := fun j _ _ => hnd j
            fam := fun m h1 _ => by
              have hmn : m ≤ ops.size := Nat.le_trans h1 hqn
              rw [Emb.cut_all (fun i hi => hr1.dom i (Nat.le_trans (hf.nextle (Nat.zero_le m) hmn) hi))]
              exact hr1.grow (hf.nextle (Nat.zero_le m) hmn) (hf.flo m hmn) (hf.agree (Nat.zero_le m) hmn fun j _ h4 => hno j (by omega))
            dom := fun i hi => hr1.dom i (Nat.le_trans (hf.nextle (Nat.zero_le q) hqn) hi)
            free := fun k hk _ i h1 _ => hr1.dom i (Nat.le_trans (hf.nextle (Nat.zero_le k) (by omega)) h1)
            step := Step.grow hr1 hs1 hr.flo (hf.nextle (Nat.zero_le q) hqn) (hf.flooreq (Nat.zero_le q) hqn) (hf.agree (Nat.zero_le q) hqn fun j _ h4 => hno j h4)
            size := he.1.symm
            tw := fun k o t _ hd => absurd hd (hnd k)
            tn := fun t v hv _ => he.2 t v hv
            defers := rfl }
      · cases hop
    · cases hop
  · cases h
end
end Go.Ahe
/-
  AHE, 21: functions, rounds, calls to a depth.
-/
namespace Go.Ahe
open Go.RowKit

section
variable {P : Program} {C : Ctx} (hC : Fits C P) {base lo : Nat} {call : CallE} (hcall : CallOk P call) {r : Option Nat}
include hC hcall
/-- **ALL CODE.** -/
theorem code_ok (c : Code) : CodeOk P C call base lo r c := by
  induction c with
  | skip => exact code_skip
  | region id ops draw => cases draw with
    | false => exact code_region hC hcall
    | true => exact code_draw hC hcall
  | seq x y hx hy => exact code_seq hx hy
  | cond c x y hx hy => exact code_cond hx hy
  | block id x hx => exact code_block hx
  | loop x hx => exact code_loop hx
  | rangeFunc f ps as b _ _ => exact code_rangeFunc hC hcall
  | exit id => exact code_exit id
  | scope x _ => exact fun e H res h => by cases h
  | label l => exact code_label l
  | goto l => exact fun e H res h => by cases h
  | ret => exact code_ret
  | refuse s => exact fun e H res h => by cases h
end

theorem ofArgs_get (k : Nat) : ∀ (args : List Value) (p : Nat) (t : Tr Value), (args.foldl (fun (q : Nat × Tr Value) v => (q.1 + 1, q.2.set q.1 v)) (p, t)).2.get k = if p ≤ k ∧ k < p + args.length then args[k - p]? else t.get k
  | [], p, t => by rw [if_neg (by simp)]; rfl
  | v :: args, p, t => by
    simp only [List.foldl_cons]
    rw [ofArgs_get k args (p + 1) (t.set p v), Tr.get_set]
    by_cases h1 : p + 1 ≤ k ∧ k < p + 1 + args.length
    · rw [if_pos h1, if_pos (by simp; omega)]
      have : k - p = (k - (p + 1)) + 1 := by omega
      rw [this, List.getElem?_cons_succ]
    · rw [if_neg h1]
      by_cases h2 : k = p
      · subst h2
        rw [if_pos rfl, if_pos (by simp)]
        simp
      · rw [if_neg h2, if_neg (by simp; omega)]

theorem EnvR.ofArgs {ι : Emb} {args : List Value} {args' : Array Value} (h : VRs ι args args'.toList) {n : Nat} (hn : args.length ≤ n) : EnvR ι (Env.ofArgs n args) (args' ++ Array.replicate (n - args'.size) undef) := by
  have hl : args.length = args'.size := by rw [← Array.length_toList]; exact h.length
  refine ⟨by simp [Env.ofArgs]; omega, fun k v hk => ?_⟩
  obtain ⟨hk, hg⟩ := Env.get_some hk
  have hk : k < n := hk
  unfold Env.ofArgs at hg
  simp only at hg
  rw [ofArgs_get k args 0 .nl] at hg
  by_cases hlt : k < args.length
  · rw [if_pos ⟨Nat.zero_le _, by omega⟩, Nat.sub_zero] at hg
    obtain ⟨v', h2, h3⟩ := h.get? hg
    rw [Array.getD_eq_getD_getElem?, Array.getElem?_append_left (by omega)]
    rw [Array.getElem?_toList] at h2
    rw [h2]; exact h3
  · rw [if_neg (by omega)] at hg
    cases hg

/-- Values without addresses stand for themselves alone. -/
theorem VR.plainCell_eq {ι : Emb} {v v' : Value} (h : Go.Ahe.plainCell v = true) (hv : VR ι v v') : v' = v := by
  cases hv <;> first | rfl | (cases h; done)
theorem VRs.plain_eq {ι : Emb} {f : Value → Bool} (hf : ∀ v v', f v = true → VR ι v v' → v' = v) : ∀ {l l' : List Value}, l.all f = true → VRs ι l l' → l' = l
  | _, _, _, .nil => rfl
  | _, _, h, .cons hv t => by
    simp only [List.all_cons, Bool.and_eq_true] at h
    rw [hf _ _ h.1 hv, VRs.plain_eq hf h.2 t]
theorem VR.plainV1_eq {ι : Emb} {v v' : Value} (h : Go.Ahe.plainV1 v = true) (hv : VR ι v v') : v' = v := by
  cases hv <;> first | rfl | (cases h; done) | skip
  rename_i hv
  rw [Array.toList_inj.1 (VRs.plain_eq (fun _ _ => VR.plainCell_eq) h hv)]
theorem VR.plainV_eq {ι : Emb} {v v' : Value} (h : Go.Ahe.plainV v = true) (hv : VR ι v v') : v' = v := by
  cases v with
  | tuple a =>
    cases hv with | tuple hv =>
    rw [Array.toList_inj.1 (VRs.plain_eq (fun _ _ => VR.plainV1_eq) h hv)]
  | _ => exact VR.plainV1_eq h hv

/-- Where nothing old could be written, all that was there is there. -/
theorem raised_same {base : Nat} {ι ι' : Emb} {H H1 : Hp} {w w' : World} (hr : Rel base ι H w) (hs : Step ι ι' H.raised H1 w w') : ∀ b, b < w.heap.size → w'.heap[b]? = w.heap[b]? := fun b hb =>
  hs.same b hb fun ⟨i, o, p, _, _, h3, h4⟩ => by
    have : H.next ≤ i := h3
    rw [hr.dom i this] at h4; cases h4

theorem Rel.later {base : Nat} {ι : Emb} {H : Hp} {w w' : World} (hr : Rel base ι H w) (hsz : w.heap.size ≤ w'.heap.size) (hs : ∀ b, b < w.heap.size → w'.heap[b]? = w.heap[b]?) : Rel base ι H w' :=
  ⟨hr.flo, hr.dom, fun i b p h => Nat.lt_of_lt_of_le (hr.bnd i b p h) hsz, fun i o b p h1 h2 => (hr.ob i o b p h1 h2).same (hs b (hr.bnd i b p h2)), hr.inj, hr.bas, Nat.le_trans hr.bs hsz⟩
theorem Step.later {base : Nat} {ι : Emb} {H : Hp} {w w' : World} (hr : Rel base ι H w) (hsz : w.heap.size ≤ w'.heap.size) (hs : ∀ b, b < w.heap.size → w'.heap[b]? = w.heap[b]?) (he : WEq w w') : Step ι ι H H w w' :=
  ⟨fun _ _ => rfl, fun _ _ => rfl, Nat.le_refl _, rfl, fun _ _ => rfl, fun _ _ h => h, he.os, he.tape, he.output, hsz, fun b hb _ => hs b hb, fun b L hL => ⟨L, (hs b (Array.getElem?_eq_some_iff.1 hL).1).trans hL⟩, fun i b p h1 h2 => by rw [hr.dom i h1] at h2; cases h2⟩

section
variable {P : Program} {C : Ctx} (hC : Fits C P) {base : Nat} {ι : Emb} {H : Hp} {w : World} (hr : Rel base ι H w)
include hC hr

theorem resE_run {e : Env} {tmps : Array Value} (he : EnvR ι e tmps) {x : ResultVar} {v : Value} (h : resE C e H x = some v) :
    ∃ v', (match x with
      | .tmp t => pure (tmps.getD t undef)
      | .cell a t => do loadVar t (← asAddr (tmps.getD a undef)) : Sem Value).run P w = .ok v' w ∧ VR ι v v' := by
  cases x with
  | tmp t => exact ⟨_, rfl, he.2 t v h⟩
  | cell a t =>
    have h : (e.get a).bind (fun av => (C.T t).bind fun ti => loadE ti av H) = some v := h
    rw [Option.bind_eq_some_iff] at h
    obtain ⟨av, hav, h⟩ := h
    rw [Option.bind_eq_some_iff] at h
    obtain ⟨ti, hti, h⟩ := h
    obtain ⟨v', _, h2, ad, h3, h4⟩ := loadE_run hC hr hti (he.2 a av hav) h
    refine ⟨v', ?_, h2⟩
    simp only [h3, asAddr, Sem.run_bind, Sem.run_pure, Result.andThen_ok, h4]

omit hC hr in
theorem resEs_run {f : ResultVar → Sem Value} {e : Env} (hf : ∀ x v, resE C e H x = some v → ∃ v', (f x).run P w = .ok v' w ∧ VR ι v v') : ∀ {xs : List ResultVar} {vs : List Value}, resEs C e H xs = some vs →
    ∃ vs' : List Value, (xs.mapM (m := Sem) f).run P w = .ok vs' w ∧ VRs ι vs vs'
  | [], vs, h => by simp only [resEs] at h; cases h; exact ⟨[], rfl, .nil⟩
  | x :: xs, vs, h => by
    simp only [resEs] at h
    split at h
    · rename_i v vs1 h1 h2
      cases h
      obtain ⟨v', e1, e2⟩ := hf x v h1
      obtain ⟨vs', e3, e4⟩ := resEs_run hf h2
      refine ⟨v' :: vs', ?_, .cons e2 e4⟩
      rw [List.mapM_cons]
      simp only [Sem.run_bind, e1, Result.andThen_ok, e3, Sem.run_pure]
    · cases h

omit hC hr in
theorem resAs_run {f : ResultVar → Sem Value} {e : Env} (hf : ∀ x v, resE C e H x = some v → ∃ v', (f x).run P w = .ok v' w ∧ VR ι v v') {xs : Array ResultVar} {vs : List Value} (h : resEs C e H xs.toList = some vs) :
    ∃ vs' : List Value, (do let vs ← xs.mapM f; pure (if h : vs.size = 1 then vs[0] else .tuple vs) : Sem Value).run P w = .ok (if h : vs'.toArray.size = 1 then vs'.toArray[0] else .tuple vs'.toArray) w ∧ VRs ι vs vs' := by
  obtain ⟨vs', e1, e2⟩ := resEs_run hf h
  refine ⟨vs', ?_, e2⟩
  rw [Array.mapM_eq_mapM_toList]
  simp only [Sem.run_bind, Sem.run_map, e1, Result.andThen_ok, Sem.run_pure]

theorem resultE_run {e : Env} {tmps : Array Value} (he : EnvR ι e tmps) {fn : Func} {v : Value} (h : resultE C e H fn.results.toList = some v) : ∃ v', (results fn tmps).run P w = .ok v' w ∧ VR ι v v' := by
  unfold resultE at h
  have key : ∀ vs, resEs C e H fn.results.toList = some vs → ∃ vs' : List Value, (results fn tmps).run P w = .ok (if h : vs'.toArray.size = 1 then vs'.toArray[0] else .tuple vs'.toArray) w ∧ VRs ι vs vs' := fun vs hvs =>
    resAs_run (fun x v h => resE_run hC hr he h) hvs
  split at h
  · rename_i v1 hv
    cases h
    obtain ⟨vs', e1, e2⟩ := key _ hv
    cases e2 with | cons e3 e4 =>
    cases e4
    exact ⟨_, e1, e3⟩
  · rename_i vs hne hv
    cases h
    obtain ⟨vs', e1, e2⟩ := key _ hv
    have hl : ¬ vs'.toArray.size = 1 := fun h1 => by
      have h2 : vs'.length = 1 := by simpa using h1
      rw [← e2.length] at h2
      match vs, h2 with
      | [x], _ => exact hne x rfl
    rw [dif_neg hl] at e1
    exact ⟨_, e1, .tuple (by simpa using e2)⟩
  · cases h
end
end Go.Ahe
/-
  AHE, 22: calls to a depth.
-/
namespace Go.Ahe
open Go.RowKit

/-- The marks are closed, one after the other. -/
theorem close_marks {P : Program} {base : Nat} {ι0 ι : Emb} {H0 H : Hp} {w0 : World} {fn : Func} {tmps : Array Value} {R : Ending → World → Prop}
    (hend : ∀ w, Rel base ι H w → Step ι0 ι H0 H w0 w → LeavesIn Fence.wide 0 P fn tmps R [] .returning w) :
    ∀ (rs : List Nat) (w : World), rs.Nodup → (∀ r ∈ rs, w0.heap.size ≤ r ∧ w.heap[r]? = some (.deferred (some []))) → Rel base ι H w → Step ι0 ι H0 H w0 w → LeavesInM Fence.wide 0 P fn tmps R (rs.map mark1) .returning w
  | [], w, _, _, hr, hs => hend w hr hs
  | r :: rs, w, hn, hm, hr, hs => by
    obtain ⟨h1, h2⟩ := hm r (List.mem_cons_self ..)
    have hlt : r < w.heap.size := (Array.getElem?_eq_some_iff.1 h2).1
    let w' : World := { w with heap := w.heap.setIfInBounds r (.deferred none) }
    have hoth : ∀ k, k ≠ r → w'.heap[k]? = w.heap[k]? := fun k hk => by simp [w', Array.getElem?_setIfInBounds_ne (Ne.symm hk)]
    have hsz : w'.heap.size = w.heap.size := by simp [w']
    have hr' : Rel base ι H w' := ⟨hr.flo, hr.dom, fun i b p h => by rw [hsz]; exact hr.bnd i b p h, fun i o b p g1 g2 => by
      by_cases hb : b = r
      · subst hb
        have h3 := hr.ob i o b p g1 g2
        cases o with
        | cells cs ro => obtain ⟨_, _, _, g, _⟩ := h3; rw [h2] at g; cases g
        | map es ck => obtain ⟨_, g, _⟩ := h3; rw [h2] at g; cases g
        | iter m s t u => obtain ⟨_, _, g, _⟩ := h3; rw [h2] at g; cases g
        | loop => obtain ⟨_, g, _⟩ := h3; rw [h2] at g; cases g
        | dead => trivial
      · exact (hr.ob i o b p g1 g2).same (hoth b hb), hr.inj, hr.bas, by rw [hsz]; exact hr.bs⟩
    have hs' : Step ι0 ι H0 H w0 w' := ⟨hs.emb, hs.ssz, hs.next, hs.floor, hs.low, hs.owned, hs.os, hs.tape, hs.output, by rw [hsz]; exact hs.size,
      fun b hb hno => (hoth b (by omega)).trans (hs.same b hb hno), fun b L hL => by
        obtain ⟨L', hL'⟩ := hs.loops b L hL
        exact ⟨L', (hoth b (fun e => by subst e; rw [h2] at hL'; cases hL')).trans hL'⟩, hs.news⟩
    have hn' := List.nodup_cons.1 hn
    refine ⟨by simp, .inl ⟨r, w', rfl, ?_, close_marks hend rs w' hn'.2 (fun q hq => ?_) hr' hs'⟩⟩
    · simp only [Instr.takeDeferred, getObj, setObj, Sem.run_bind, Sem.run, h2, Result.andThen_ok, Sem.run_pure]
      rfl
    · obtain ⟨h3, h4⟩ := hm q (List.mem_cons_of_mem _ hq)
      exact ⟨h3, (hoth q (fun e => hn'.1 (e ▸ hq))).trans h4⟩

section
variable {P : Program} {C : Ctx} (hC : Fits C P) {call : CallE} (hcall : CallOk P call)
include hC hcall

theorem bodyE_run {f : FuncId} {fn : Func} {c : Code} (hf : P.funcs[f]? = some fn) (hb : fn.body = some c) {pure mk : Bool} {args : List Value} {H H' : Hp} {v : Value} (h : bodyE C call ⟨c, fn.ntmps, fn.results.toList, pure, mk⟩ args H = some (v, H'))
    {base : Nat} {ι : Emb} {w : World} {args' : Array Value} (hr : Rel base ι H w) (ha : VRs ι args args'.toList) : CallsIn Fence.wide 0 P f args' w (PostOf base ι H H' w v) := by
  unfold bodyE at h
  obtain ⟨hle, h⟩ := bif_some h
  have hle := nble_le hle
  have he := EnvR.ofArgs ha hle
  have hm : Marked w.heap.size [] w := ⟨Nat.le_refl _, [], rfl, List.nodup_nil, fun r hr => by cases hr⟩
  have hend : ∀ e1 H1, (resultE C e1 H1 fn.results.toList).map (fun v => (v, H1)) = some (v, H') → ∀ ι1 (a1 : Act) w1, EnvR ι1 e1 a1.tmps → Rel base ι1 H1 w1 → Step ι ι1 H H1 w w1 → Marked w.heap.size a1.defers w1 →
      LeavesInM Fence.wide 0 P fn a1.tmps (PostOf base ι H H' w v) a1.defers .returning w1 := fun e1 H1 h ι1 a1 w1 g1 g2 g3 g4 => by
    rw [Option.map_eq_some_iff] at h
    obtain ⟨v1, h, he1⟩ := h
    cases he1
    obtain ⟨_, rs, m1, m2, m3⟩ := g4
    rw [m1]
    refine close_marks (ι0 := ι) (H0 := H) (w0 := w) (fun w2 r2 s2 => ?_) rs w1 m2 m3 g2 g3
    obtain ⟨v', e1, e2⟩ := resultE_run hC r2 g1 (fn := fn) h
    exact ⟨v', e1, ι1, e2, r2, s2⟩
  split at h
  · rename_i e1 H1 hev
    refine callsIn_of_wp_marks hf hb trivial (wpIn_mono (code_ok hC hcall (r := none) c _ _ _ hev ι { tmps := args' ++ Array.replicate (fn.ntmps - args'.size) undef, defers := [] } w he hr hm (fun l hl => by cases hl)) fun ex a1 w1 hq => ?_)
    cases ex with
    | normal => obtain ⟨e2, H2, ι2, hx, q⟩ := hq; cases hx; exact hend e1 H1 h ι2 a1 w1 q.1 q.2.1 q.2.2.1 q.2.2.2
    | exit id => obtain ⟨e2, H2, ι2, hx, q⟩ := hq; cases hx
    | ret => obtain ⟨e2, H2, ι2, hx, q⟩ := hq; cases hx
    | goto l => exact hq.elim
    | panic c => exact hq.elim
    | outgrown => exact hq.elim
  · rename_i e1 H1 hev
    refine callsIn_of_wp_marks hf hb trivial (wpIn_mono (code_ok hC hcall (r := none) c _ _ _ hev ι { tmps := args' ++ Array.replicate (fn.ntmps - args'.size) undef, defers := [] } w he hr hm (fun l hl => by cases hl)) fun ex a1 w1 hq => ?_)
    cases ex with
    | normal => obtain ⟨e2, H2, ι2, hx, q⟩ := hq; cases hx
    | exit id => obtain ⟨e2, H2, ι2, hx, q⟩ := hq; cases hx
    | ret => obtain ⟨e2, H2, ι2, hx, q⟩ := hq; cases hx; exact hend e1 H1 h ι2 a1 w1 q.1 q.2.1 q.2.2.1 q.2.2.2
    | goto l => exact hq.elim
    | panic c => exact hq.elim
    | outgrown => exact hq.elim
  · cases h

omit hC hcall in
theorem zipSet_run {ι : Emb} : ∀ {ps : List Tmp} {args : List Value} {args' : List Value} {e e0 : Env} {tmps : Array Value}, VRs ι args args' → zipSet (ps.zip args) e = some e0 → EnvR ι e tmps →
    EnvR ι e0 ((ps.zip args').foldl (fun tmps (x : Tmp × Value) => tmps.setIfInBounds x.1 x.2) tmps)
  | [], _, _, e, e0, tmps, _, h, he => by simp only [List.zip_nil_left, zipSet] at h; cases h; exact he
  | p :: ps, _, _, e, e0, tmps, .nil, h, he => by simp only [List.zip_nil_right, zipSet] at h; cases h; exact he
  | p :: ps, _, _, e, e0, tmps, .cons hv ht, h, he => by
    simp only [List.zip_cons_cons, zipSet, Option.bind_eq_some_iff] at h
    obtain ⟨e1, h1, h2⟩ := h
    simp only [List.zip_cons_cons, List.foldl_cons]
    exact zipSet_run ht h2 (he.set h1 hv)

theorem roundE_run {l : Nat} {args : List Value} {H H' : Hp} {v : Value} (h : roundE C call l args H = some (v, H')) {base : Nat} {ι : Emb} {w : World} {args' : Array Value} {b p : Nat} (hr : Rel base ι H w) (ha : VRs ι args args'.toList) (hι : ι l = some (b, p)) :
    RunsAs P base ι H H' w v (Instr.yield b args') := by
  unfold roundE at h
  split at h
  · rename_i st0 pend0 env ps as bd hget
    obtain ⟨L, hL1, hL2, hL3, hL4, hL5, hL6, hL7⟩ := hr.ob l _ b p hget hι
    obtain ⟨hlen, h⟩ := bif_some h
    have hlen := nbeq_eq hlen
    have hsz : ¬ args'.size ≠ L.params.size := by
      have h1 := ha.length
      have h2 : L.params.toList.length = ps.length := by rw [hL5]
      simp only [Array.length_toList] at h1 h2
      omega
    rw [Option.bind_eq_some_iff] at h
    obtain ⟨e0, he0, h⟩ := h
    have hgo : (Instr.getLoop b).run P w = .ok L w := by simp [Instr.getLoop, getObj, Sem.run, hL1]
    refine ⟨.round b L.fn ((L.params.zip args').foldl (fun tmps (x : Tmp × Value) => tmps.setIfInBounds x.1 x.2) L.tmps) L.assign L.body, w, by
      simp only [Instr.yield, Sem.run_bind, hgo, Result.andThen_ok, hsz, if_false, Sem.run_pure], ?_⟩
    have henv : EnvR ι e0 ((L.params.zip args').foldl (fun tmps (x : Tmp × Value) => tmps.setIfInBounds x.1 x.2) L.tmps) := by
      rw [← Array.foldl_toList, Array.toList_zip, hL5]
      exact zipSet_run ha he0 hL4
    have hm : Marked w.heap.size [] w := ⟨Nat.le_refl _, [], rfl, List.nodup_nil, fun r hr => by cases hr⟩
    have hla : LoopAt (some b) w := fun l hl => by cases hl; exact ⟨L, hL1⟩
    split at h
    · rename_i e1 H1 hev
      show RoundIn Fence.wide 0 P b L.fn _ L.assign L.body w (PostOf base ι H H' w v)
      rw [hL6, hL7]
      refine roundIn_of_wpIn trivial (wpIn_mono (code_ok hC hcall (r := some b) as _ _ _ hev ι { tmps := (L.params.zip args').foldl (fun tmps (x : Tmp × Value) => tmps.setIfInBounds x.1 x.2) L.tmps, defers := [] } w henv hr hm hla) fun ex a1 w1 hq => ?_)
      cases ex with
      | exit id => obtain ⟨e2, H2, ι2, hx, q⟩ := hq; cases hx
      | ret => obtain ⟨e2, H2, ι2, hx, q⟩ := hq; cases hx
      | goto l => exact hq.elim
      | panic c => exact hq.elim
      | outgrown => exact hq.elim
      | normal =>
        obtain ⟨e2, H2, ι1, hx, q1, q2, q3, q4⟩ := hq
        cases hx
        split at h
        · rename_i pend1 env1 ps1 as1 bd1 hget1
          have hι1 : ι1 l = some (b, p) := (q3.emb l (hr.lt hι)).trans hι
          obtain ⟨L1, k1, k2, k3, k4, k5, k6, k7⟩ := q2.ob l _ b p hget1 hι1
          rw [Option.bind_eq_some_iff] at h
          obtain ⟨H2, hu, h⟩ := h
          have hlt1 := (Array.getElem?_eq_some_iff.1 k1).1
          obtain ⟨r2, s2⟩ := q2.write hget1 rfl hι1 hu (w' := { w1 with heap := w1.heap.setIfInBounds b (.loop { L1 with state := .busy }) }) ⟨rfl, rfl, rfl⟩ (by simp)
            (fun k hk => by simp [Array.getElem?_setIfInBounds_ne (Ne.symm hk)])
            ⟨{ L1 with state := .busy }, by simp [hlt1], rfl, k3, k4, k5, k6, k7⟩
            (fun L' hL' => ⟨{ L1 with state := .busy }, by simp [hlt1]⟩)
          refine ⟨{ w1 with heap := w1.heap.setIfInBounds b (.loop { L1 with state := .busy }) }, ?_, ?_⟩
          · simp only [Instr.beginRound, Instr.getLoop, getObj, setObj, Sem.run_bind, Sem.run, k1, Result.andThen_ok, Sem.run_pure, k2]
          · have hm2 : Marked w.heap.size a1.defers { w1 with heap := w1.heap.setIfInBounds b (.loop { L1 with state := .busy }) } := q4.step q2 s2
            have hla2 : LoopAt (some b) { w1 with heap := w1.heap.setIfInBounds b (.loop { L1 with state := .busy }) } := (hla.step q3).step s2
            have hleave : ∀ (j : Option Code) (H3 : Hp) (e3 : Env), (match H3.get l with
                | some (.loop _ _ env3 ps3 a3 b3) =>
                  (H3.upd l (.loop (match j with | none => .ready | some _ => .done) j env3 ps3 a3 b3)).map fun H4 => (Value.bool (match j with | none => true | some _ => false), H4)
                | _ => none) = some (v, H') → ∀ ι3 w3, Rel base ι3 H3 w3 → Step ι1 ι3 H2 H3 { w1 with heap := w1.heap.setIfInBounds b (.loop { L1 with state := .busy }) } w3 →
                ∃ v' w', (Instr.endRound b j).run P w3 = .ok v' w' ∧ PostOf base ι H H' w v (.returned v') w' := fun j H3 e3 h ι3 w3 r3 s3 => by
              split at h
              · rename_i st3 pend3 env3 ps3 as3 bd3 hget3
                rw [Option.map_eq_some_iff] at h
                obtain ⟨H4, hu4, he4⟩ := h
                cases he4
                have hlt : l < H2.next := by
                  have := hr.lt hι
                  have g1 := q3.next
                  have g2 := s2.next
                  omega
                have hι3 : ι3 l = some (b, p) := (s3.emb l hlt).trans hι1
                obtain ⟨L3, n1, n2, n3, n4, n5, n6, n7⟩ := r3.ob l _ b p hget3 hι3
                have hlt3 := (Array.getElem?_eq_some_iff.1 n1).1
                obtain ⟨r4, s4⟩ := r3.write hget3 rfl hι3 hu4 (w' := { w3 with heap := w3.heap.setIfInBounds b (.loop { L3 with state := if j.isNone then .ready else .done, pending := j }) }) ⟨rfl, rfl, rfl⟩ (by simp)
                  (fun k hk => by simp [Array.getElem?_setIfInBounds_ne (Ne.symm hk)])
                  ⟨{ L3 with state := if j.isNone then .ready else .done, pending := j }, by simp [hlt3], by cases j <;> rfl, rfl, n4, n5, n6, n7⟩
                  (fun L' hL' => ⟨{ L3 with state := if j.isNone then .ready else .done, pending := j }, by simp [hlt3]⟩)
                refine ⟨.bool j.isNone, _, ?_, ι3, ?_, r4, ((q3.trans s2).trans s3).trans s4⟩
                · simp only [Instr.endRound, Instr.getLoop, getObj, setObj, Sem.run_bind, Sem.run, n1, Result.andThen_ok, Sem.run_pure]
                · cases j <;> exact .bool _
              · cases h
            split at h
            · rename_i e3 H3 hev3
              refine wpIn_mono (code_ok hC hcall (r := some b) bd _ _ _ hev3 ι1 a1 _ q1 r2 hm2 hla2) fun ex a3 w3 hq3 => ?_
              cases ex with
              | exit id => obtain ⟨_, _, _, hx, _⟩ := hq3; cases hx
              | ret => obtain ⟨_, _, _, hx, _⟩ := hq3; cases hx
              | goto l => exact hq3.elim
              | panic c => exact hq3.elim
              | outgrown => exact hq3.elim
              | normal => obtain ⟨_, _, ι3, hx, _, r3, s3, _⟩ := hq3; cases hx; exact hleave none H3 e3 h ι3 w3 r3 s3
            · rename_i id e3 H3 hev3
              refine wpIn_mono (code_ok hC hcall (r := some b) bd _ _ _ hev3 ι1 a1 _ q1 r2 hm2 hla2) fun ex a3 w3 hq3 => ?_
              cases ex with
              | exit id => obtain ⟨_, _, ι3, hx, _, r3, s3, _⟩ := hq3; cases hx; exact hleave (some (.exit id)) H3 e3 h ι3 w3 r3 s3
              | ret => obtain ⟨_, _, _, hx, _⟩ := hq3; cases hx
              | goto l => exact hq3.elim
              | panic c => exact hq3.elim
              | outgrown => exact hq3.elim
              | normal => obtain ⟨_, _, _, hx, _⟩ := hq3; cases hx
            · rename_i e3 H3 hev3
              refine wpIn_mono (code_ok hC hcall (r := some b) bd _ _ _ hev3 ι1 a1 _ q1 r2 hm2 hla2) fun ex a3 w3 hq3 => ?_
              cases ex with
              | exit id => obtain ⟨_, _, _, hx, _⟩ := hq3; cases hx
              | ret => obtain ⟨_, _, ι3, hx, _, r3, s3, _⟩ := hq3; cases hx; exact hleave (some .ret) H3 e3 h ι3 w3 r3 s3
              | goto l => exact hq3.elim
              | panic c => exact hq3.elim
              | outgrown => exact hq3.elim
              | normal => obtain ⟨_, _, _, hx, _⟩ := hq3; cases hx
            · cases h
        · cases h
    · cases h
  · cases h
end

theorem emptyRel (w : World) : Rel w.heap.size ⟨fun _ => none, fun _ => 0⟩ ⟨.nl, 0, 0⟩ w :=
  ⟨Nat.le_refl _, fun _ _ => rfl, fun i b p h => (by cases h), fun i o b p h1 h2 => (by cases h2), fun i j oi oj b p q h1 _ _ _ h5 => (by cases h5), fun i o b p _ _ h => (by cases h), Nat.le_refl _⟩

/-- A call that leaves no trace. -/
theorem pure_run {P : Program} {C : Ctx} (hC : Fits C P) {call : CallE} (hcall : CallOk P call) {f : FuncId} {fn : Func} {c : Code} (hf : P.funcs[f]? = some fn) (hb : fn.body = some c) {pu ma : Bool} {args : List Value} {H H1 : Hp} {v : Value} (hpl : plainV v = true)
    (hbd : bodyE C call ⟨c, fn.ntmps, fn.results.toList, pu, ma⟩ args (H.fresh args) = some (v, H1)) {base : Nat} {ι : Emb} {w : World} {args' : Array Value} (hr : Rel base ι H w) (ha : VRs ι args args'.toList) : CallsIn Fence.wide 0 P f args' w (PostOf base ι H H w v) := by
  have hfin : ∀ {base0 : Nat} {ι0 : Emb} {H0 : Hp}, Rel base0 ι0 H0 w → H0.floor = H0.next → VRs ι0 args args'.toList → bodyE C call ⟨c, fn.ntmps, fn.results.toList, pu, ma⟩ args H0 = some (v, H1) →
      CallsIn Fence.wide 0 P f args' w (PostOf base ι H H w v) := fun {base0 ι0 H0} hr0 hf0 ha0 hb0 => by
    refine (bodyE_run hC hcall hf hb hb0 hr0 ha0).mono fun ex w1 hq => ?_
    cases ex with
    | returned v' =>
      obtain ⟨ι', g1, g2, g3⟩ := hq
      have hsame : ∀ b, b < w.heap.size → w1.heap[b]? = w.heap[b]? := fun b hb => g3.same b hb fun ⟨i, o, p, _, _, h3, h4⟩ => by
        rw [hf0] at h3
        rw [hr0.dom i h3] at h4; cases h4
      have := VR.plainV_eq hpl g1
      subst this
      exact ⟨ι, VR.plainV hpl, hr.later g3.size hsame, Step.later hr g3.size hsame ⟨g3.os, g3.tape, g3.output⟩⟩
    | panicked c => exact hq.elim
    | outgrown => exact hq.elim
  unfold Hp.fresh at hbd
  cases hpa : args.all Go.Ahe.plainV with
  | true =>
    rw [hpa, cond_true] at hbd
    have heq := VRs.plain_eq (fun _ _ => VR.plainV_eq) hpa ha
    refine hfin (base0 := w.heap.size) (ι0 := ⟨fun _ => none, fun _ => 0⟩) (emptyRel w) rfl ?_ hbd
    rw [heq]
    exact VRs.plain (fun _ => VR.plainV) hpa
  | false =>
    rw [hpa, cond_false] at hbd
    exact hfin hr.raised rfl ha hbd

/-- Where nothing old could be written: so it is without that bar. -/
theorem Step.unraise {base : Nat} {ι ι' : Emb} {H H' : Hp} {w w' : World} (hr : Rel base ι H w) (h : Step ι ι' H.raised H' w w') : Step ι ι' H (H'.lowered H.floor) w w' := by
  have hno : ∀ b, ¬ Owned ι H.raised b := fun b ⟨i, o, p, _, _, h3, h4⟩ => by
    have : H.next ≤ i := h3
    rw [hr.dom i this] at h4; cases h4
  refine ⟨h.emb, h.ssz, h.next, rfl, fun i hi => h.low i (Nat.lt_of_lt_of_le hi hr.flo), fun b hb hown => ?_, h.os, h.tape, h.output, h.size, fun b hb _ => h.same b hb (hno b), h.loops, fun i b p h1 h2 => ?_⟩
  · obtain ⟨i, o, p, h1, h2, h3, h4⟩ := hown
    rcases Nat.lt_or_ge i H.next with hi | hi
    · exact ⟨i, o, p, (h.low i hi).symm.trans h1, h2, h3, (h.emb i hi).symm.trans h4⟩
    · rcases h.news i b p hi h4 with h5 | h5
      · omega
      · exact absurd h5 (hno b)
  · rcases h.news i b p h1 h2 with h5 | h5
    · exact .inl h5
    · exact absurd h5 (hno b)

/-- The calls that are given. -/
def extCall (C : Ctx) : CallE := fun fn args H => match fn with
  | .func f => C.ext f args H
  | _ => none

/-- **THE EVALUATOR IS RIGHT.** -/
theorem evF_ok {P : Program} {C : Ctx} (hC : Fits C P) (hE : CallOk P (extCall C)) : ∀ d, CallOk P (evF C d)
  | 0 => ⟨(fun h => by cases h), (fun h => by cases h)⟩
  | d + 1 => by
    have ih := evF_ok hC hE d
    refine ⟨fun {f args H H' v} h {base ι w args'} hr ha => ?_, fun {l args H H' v} h {base ι w args' b p} hr ha hι => roundE_run hC ih h hr ha hι⟩
    simp only [evF] at h
    split at h
    · rename_i x hx
      cases h
      exact hE.func hx hr ha
    · split at h
      · cases h
      · rename_i a haf
        have hmk := hC.funcs f a haf
        generalize a.pure = pu at hmk
        generalize a.fr = ma at hmk
        obtain ⟨fn, c, hf, hb, hne, rfl⟩ := mkAF_some hmk
        refine ⟨.enter f args', w, enter_run hf hb hne args' w, ?_⟩
        show CallsIn Fence.wide 0 P f args' w (PostOf base ι H H' w v)
        simp only at h
        cases pu with
        | false =>
          cases ma with
          | false => exact bodyE_run hC ih hf hb h hr ha
          | true =>
            simp only [Option.map_eq_some_iff] at h
            obtain ⟨q, h1, h2⟩ := h
            cases h2
            refine (bodyE_run hC ih hf hb h1 hr.raised ha).mono fun ex w1 hq => ?_
            cases ex with
            | returned v' =>
              obtain ⟨ι', g1, g2, g3⟩ := hq
              exact ⟨ι', g1, g2.lowered (Nat.le_trans hr.flo g3.next), g3.unraise hr⟩
            | panicked c => exact hq.elim
            | outgrown => exact hq.elim
        | true =>
          simp only at h
          split at h
          · rename_i v1 H1 hbd
            obtain ⟨hpl, h⟩ := bif_some h
            cases h
            exact pure_run hC ih hf hb hpl hbd hr ha
          · cases h
end Go.Ahe
/-
  AHE, 23: from the evaluator to a row: what a call comes to; arguments that are flat.
-/
namespace Go.Ahe
open Go.RowKit

/-- **A LAW'S CALL**: all that was there stays; it hands back what the evaluator says. -/
theorem law_calls {P : Program} {C : Ctx} (hC : Fits C P) {call : CallE} (hcall : CallOk P call) {f : FuncId} {args : List Value} {args' : Array Value} {ι : Emb} {H H' : Hp} {w : World} {v : Value} (hr : Rel w.heap.size ι H w) (hro : ∀ i o, H.get i = some o → o.wr = false)
    (ha : VRs ι args args'.toList) (hp : plainV v = true) {a : AF} (haf : C.fn f = some a) (h : call (.func f) args H = some (v, H')) : Calls P f args' w fun e w' => e = .returned v ∧ Below w.heap.size w w' := by
  refine callsIn_wide.1 (((hcall.func h hr ha).enters hC haf).2.mono fun e w' hq => ?_)
  cases e with
  | panicked c => exact hq.elim
  | outgrown => exact hq.elim
  | returned v' =>
    obtain ⟨ι', h1, h2, h3⟩ := hq
    rw [VR.plainV_eq hp h1]
    exact ⟨rfl, h3.os, h3.tape, h3.output, h3.size, fun b hb => h3.same b hb fun ⟨i, o, p, g1, g2, _, _⟩ => by rw [hro i o g1] at g2; cases g2⟩

/-- .. of arguments without addresses. -/
theorem law_flat {P : Program} {C : Ctx} (hC : Fits C P) {call : CallE} (hcall : CallOk P call) {f : FuncId} {args : List Value} {H' : Hp} {v : Value} (w : World) (ha : args.all plainV = true) (hp : plainV v = true) {a : AF} (haf : C.fn f = some a) (h : call (.func f) args ⟨.nl, 0, 0⟩ = some (v, H')) :
    Calls P f args.toArray w fun e w' => e = .returned v ∧ Below w.heap.size w w' :=
  law_calls hC hcall (emptyRel w) (fun i o h => by cases h) (by simpa using VRs.plain (fun _ => VR.plainV) ha) hp haf h

/-- The context of a program. -/
noncomputable def mkCtx (P : Program) (pure mk : FuncId → Bool) (ext : FuncId → List Value → Hp → Option (Value × Hp)) : Ctx := ⟨fun x y => decide (x < y), fun x y => decide (x = y), mkTI P, fun f => mkAF P (pure f) (mk f) f, ext⟩
theorem mkCtx_fits {P : Program} {pure mk : FuncId → Bool} {ext : FuncId → List Value → Hp → Option (Value × Hp)} (h : P.follows .mixedOrders = true) : Fits (mkCtx P pure mk ext) P :=
  ⟨rfl, rfl, fun _ _ h => h, fun f a ha => by
    have ha : mkAF P (pure f) (mk f) f = some a := ha
    obtain ⟨_, _, _, _, _, rfl⟩ := mkAF_some ha
    exact ha, h⟩

/-- .. where for some functions laws stand in. -/
noncomputable def mkCtxS (P : Program) (skip pure mk : FuncId → Bool) (ext : FuncId → List Value → Hp → Option (Value × Hp)) : Ctx := ⟨fun x y => decide (x < y), fun x y => decide (x = y), mkTI P, fun f => bif skip f then none else mkAF P (pure f) (mk f) f, ext⟩
theorem mkCtxS_fits {P : Program} {skip pure mk : FuncId → Bool} {ext : FuncId → List Value → Hp → Option (Value × Hp)} (h : P.follows .mixedOrders = true) : Fits (mkCtxS P skip pure mk ext) P :=
  ⟨rfl, rfl, fun _ _ h => h, fun f a ha => by
    have ha : (bif skip f then none else mkAF P (pure f) (mk f) f) = some a := ha
    cases hs : skip f with
    | true => rw [hs] at ha; cases ha
    | false =>
      rw [hs, cond_false] at ha
      obtain ⟨_, _, _, _, _, rfl⟩ := mkAF_some ha
      exact ha, h⟩

/-! ### Flat arguments -/
inductive FlatK where
  | bool | int (k : IntKind) | str

def FlatK.is : FlatK → Value → Prop
  | .bool, v => ∃ b, v = .bool b
  | .int k, v => ∃ n, v = .int k n ∧ (Lit.int k n).wf = true
  | .str, v => ∃ s, v = .string s ∧ s.size ≤ maxLen

def cellsAre : List FlatK → List Value → Prop
  | [], [] => True
  | k :: ks, v :: vs => k.is v ∧ cellsAre ks vs
  | _, _ => False

theorem cellsAre_append {a b : List FlatK} : ∀ {x y : List Value}, cellsAre a x → cellsAre b y → cellsAre (a ++ b) (x ++ y) := by
  induction a with
  | nil => intro x y h1 h2; cases x with
    | nil => exact h2
    | cons _ _ => exact h1.elim
  | cons k a ih => intro x y h1 h2; cases x with
    | nil => exact h1.elim
    | cons v x => exact ⟨h1.1, ih h1.2 h2⟩

/-- The cells of a flat type; 'none' where it is not flat, or not laid out as one would think. -/
def flatKs (P : Program) : Nat → TypeId → Option (List FlatK)
  | 0, _ => none
  | d + 1, t => match P.underlying t with
    | some .bool => some [.bool]
    | some (.int k) => some [.int k]
    | some .string => some [.str]
    | some (.struct fs) => (flatFs P (flatKs P d) fs.toList 0).bind fun r => bif Nat.beq r.length (P.cellsOf t) then some r else none
    | some (.array n e) => (flatKs P d e).bind fun r => bif Nat.beq r.length (P.cellsOf e) && Nat.beq (n * r.length) (P.cellsOf t) then some ((List.replicate n r).flatten) else none
    | _ => none
where
  flatFs (P : Program) (ks : TypeId → Option (List FlatK)) : List Field → Nat → Option (List FlatK)
    | [], _ => some []
    | f :: fs, o => match ks f.type with
      | none => none
      | some r => bif Nat.beq f.offset o && Nat.beq r.length (P.cellsOf f.type) then (flatFs P ks fs (o + r.length)).map fun q => r ++ q else none

section
variable {H : Type} {enc : TypeId × Value → H} {P : Program} {w : World} {base : Nat} {spare : Nat → Bool} {held : Bool}

theorem mapM_some {α β : Type} {f : α → Option β} : ∀ {l : List α} {r : List β}, l.mapM f = some r → ∀ x ∈ l, ∃ y, f x = some y
  | [], _, _, x, h => by cases h
  | a :: l, r, h, x, hx => by
    rw [List.mapM_cons] at h
    cases ha : f a with
    | none => rw [ha] at h; cases h
    | some y =>
      rw [ha] at h
      cases hl : l.mapM f with
      | none => rw [hl] at h; cases h
      | some r' =>
        rcases List.mem_cons.1 hx with rfl | hx
        · exact ⟨y, ha⟩
        · exact mapM_some hl x hx

theorem flatFs_cells {ks : TypeId → Option (List FlatK)} {cs : List Value} : ∀ {fs : List Field} {o : Nat} {r : List FlatK}, flatKs.flatFs P ks fs o = some r →
    (∀ f ∈ fs, ∀ q, ks f.type = some q → cellsAre q ((cs.drop f.offset).take (P.cellsOf f.type))) → cellsAre r ((cs.drop o).take r.length)
  | [], o, r, h, _ => by simp only [flatKs.flatFs] at h; cases h; simp [cellsAre]
  | f :: fs, o, r, h, hf => by
    simp only [flatKs.flatFs] at h
    split at h
    · cases h
    · rename_i r1 hr1
      obtain ⟨hb, h⟩ := bif_some h
      rw [Bool.and_eq_true] at hb
      have b1 := nbeq_eq hb.1
      have b2 := nbeq_eq hb.2
      rw [Option.map_eq_some_iff] at h
      obtain ⟨q, hq, rfl⟩ := h
      have h1 := hf f (List.mem_cons_self ..) r1 hr1
      have h2 := flatFs_cells hq fun g hg => hf g (List.mem_cons_of_mem _ hg)
      rw [List.length_append, List.take_add, List.drop_drop]
      rw [b1, ← b2] at h1
      exact cellsAre_append h1 h2

theorem flatRep_cells {r : List FlatK} {cs : List Value} : ∀ (n o : Nat), (∀ i, i < n → cellsAre r ((cs.drop ((o + i) * r.length)).take r.length)) → cellsAre (List.replicate n r).flatten ((cs.drop (o * r.length)).take (n * r.length))
  | 0, o, _ => by simp [cellsAre]
  | n + 1, o, h => by
    have h1 := h 0 (by omega)
    have h2 := flatRep_cells n (o + 1) fun i hi => by
      have := h (i + 1) (by omega)
      rwa [show o + (i + 1) = o + 1 + i by omega] at this
    rw [List.replicate_succ, List.flatten_cons, show (n + 1) * r.length = r.length + n * r.length by rw [Nat.succ_mul, Nat.add_comm], List.take_add, List.drop_drop]
    rw [Nat.add_zero] at h1
    rw [show (o + 1) * r.length = o * r.length + r.length by rw [Nat.succ_mul]] at h2
    exact cellsAre_append h1 h2

theorem trod_struct {fuel : Nat} {t : TypeId} {fs : Array Field} {cs : List Value} (ht : P.underlying t = some (.struct fs)) : DataW.trod enc P w base spare held (fuel + 1) t cs =
    if cs.length = P.cellsOf t then (fs.toList.mapM fun f => DataW.trod enc P w base spare held fuel f.type ((cs.drop f.offset).take (P.cellsOf f.type))).map fun xs => (.agg (xs.map (·.1)), xs.flatMap (·.2)) else none := by
  rw [DataW.trod.eq_def]
  simp only [ht]
theorem trod_array {fuel : Nat} {t : TypeId} {n : Nat} {e : TypeId} {cs : List Value} (ht : P.underlying t = some (.array n e)) : DataW.trod enc P w base spare held (fuel + 1) t cs =
    if cs.length = P.cellsOf t then ((List.range n).mapM fun i => DataW.trod enc P w base spare held fuel e ((cs.drop (i * P.cellsOf e)).take (P.cellsOf e))).map fun xs => (.agg (xs.map (·.1)), xs.flatMap (·.2)) else none := by
  rw [DataW.trod.eq_def]
  simp only [ht]

theorem open_flat : ∀ (d : Nat) (t : TypeId) (ks : List FlatK), flatKs P d t = some ks → ∀ (fuel : Nat) (cs : List Value) (x : DataW H × List MemPlace), DataW.trod enc P w base spare held fuel t cs = some x → cellsAre ks cs
  | 0, t, ks, h, _, _, _, _ => by cases h
  | d + 1, t, ks, h, fuel, cs, x, hx => by
    cases fuel with
    | zero => cases hx
    | succ fuel =>
    unfold flatKs at h
    split at h
    · rename_i ht
      cases h
      unfold DataW.trod at hx
      rw [ht] at hx
      split at hx <;> first | (cases hx; done) | skip
      all_goals first
        | (rename_i heq; cases heq; exact ⟨⟨_, rfl⟩, trivial⟩)
        | (rename_i heq _; cases heq; done)
        | (rename_i heq; cases heq; done)
    · rename_i k ht
      cases h
      unfold DataW.trod at hx
      rw [ht] at hx
      split at hx <;> first | (cases hx; done) | skip
      all_goals first
        | (rename_i heq; cases heq; split at hx <;> first | (rename_i hc; obtain ⟨rfl, hw⟩ := hc; exact ⟨⟨_, rfl, hw⟩, trivial⟩) | (cases hx; done))
        | (rename_i heq _; cases heq; done)
        | (rename_i heq; cases heq; done)
    · rename_i ht
      cases h
      unfold DataW.trod at hx
      rw [ht] at hx
      split at hx <;> first | (cases hx; done) | skip
      all_goals first
        | (rename_i heq; cases heq; split at hx <;> first | (rename_i hc; exact ⟨⟨_, rfl, hc⟩, trivial⟩) | (cases hx; done))
        | (rename_i heq _; cases heq; done)
        | (rename_i heq; cases heq; done)
    · rename_i fs ht
      rw [Option.bind_eq_some_iff] at h
      obtain ⟨r, hr, h⟩ := h
      obtain ⟨hb, h⟩ := bif_some h
      cases h
      have hb := nbeq_eq hb
      rw [trod_struct ht] at hx
      split at hx
      · rename_i hlen
        rw [Option.map_eq_some_iff] at hx
        obtain ⟨xs, hxs, _⟩ := hx
        have h1 := flatFs_cells (P := P) (cs := cs) hr fun f hf q hq => by
          obtain ⟨y, hy⟩ := mapM_some hxs f hf
          exact open_flat d f.type q hq fuel _ y hy
        rw [List.drop_zero, hb, ← hlen, List.take_length] at h1
        exact h1
      · cases hx
    · rename_i n e ht
      rw [Option.bind_eq_some_iff] at h
      obtain ⟨r, hr, h⟩ := h
      obtain ⟨hb, h⟩ := bif_some h
      cases h
      rw [Bool.and_eq_true] at hb
      have b1 := nbeq_eq hb.1
      have b2 := nbeq_eq hb.2
      rw [trod_array ht] at hx
      split at hx
      · rename_i hlen
        rw [Option.map_eq_some_iff] at hx
        obtain ⟨xs, hxs, _⟩ := hx
        have h1 := flatRep_cells (r := r) (cs := cs) n 0 fun i hi => by
          obtain ⟨y, hy⟩ := mapM_some hxs i (by simpa using hi)
          have := open_flat d e r hr fuel _ y hy
          rw [← b1] at this
          rwa [Nat.zero_add]
        rw [Nat.zero_mul, List.drop_zero, b2, ← hlen, List.take_length] at h1
        exact h1
      · cases hx
    · cases h
theorem open_flat_struct {r : Reach} {b0 : Nat} {d : Nat} {t : TypeId} {fs : Array Field} {ks : List FlatK} {v : Value} {x : DataW H} {ps : List MemPlace} (ht : P.underlying t = some (.struct fs)) (hk : flatKs P d t = some ks) (hval : Value.okWide P w r b0 t v)
    (hd : DataW.Trod enc P w base spare held t v x ps) : ∃ cs : List Value, v = .agg cs.toArray ∧ cellsAre ks cs := by
  obtain ⟨fuel, hf⟩ := hd
  unfold Value.okWide at hval
  rw [ht] at hval
  obtain ⟨cs, rfl, _⟩ := hval
  exact ⟨cs.toList, by simp, open_flat d t ks hk fuel _ _ hf⟩
end

theorem cellsAre_cons {k : FlatK} {ks : List FlatK} {cs : List Value} (h : cellsAre (k :: ks) cs) : ∃ v vs, cs = v :: vs ∧ k.is v ∧ cellsAre ks vs := by
  cases cs with
  | nil => exact h.elim
  | cons v vs => exact ⟨v, vs, rfl, h.1, h.2⟩
theorem cellsAre_nil {cs : List Value} (h : cellsAre [] cs) : cs = [] := by
  cases cs with
  | nil => rfl
  | cons v vs => exact h.elim
end Go.Ahe
