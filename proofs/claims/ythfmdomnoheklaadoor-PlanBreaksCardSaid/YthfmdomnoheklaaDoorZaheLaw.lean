/-
  AHE, 23: from the evaluator to a row: what a call comes to; arguments that are flat.
-/
import Derived.Test.YthfmdomnoheklaaDoorZaheCall
import Derived.ChangeShapes
import Derived.WideShapes
namespace Go.Ahe
open Go.RowKit

/-- **A LAW'S CALL**: all that was there stays; it hands back what the evaluator says. -/
theorem law_calls {P : Program} {C : Ctx} (hC : Fits C P) {call : CallE} (hcall : CallOk P call) {f : FuncId} {args : List Value} {args' : Array Value} {ι : Emb} {H H' : Hp} {w : World} {v : Value} (hr : Rel w.heap.size ι H w) (hro : ∀ i o, H.get i = some o → o.wr = false)
    (ha : VRs ι args args'.toList) (hp : plainV v = true) {a : AF} (haf : C.fn f = some a) (h : call (.func f) args H = some (v, H')) : Calls P f args' w fun e w' => e = .returned v ∧ Below w.heap.size w w' := by
  refine callsIn_wide.1 (((hcall.func h hr ha).enters hC haf).2.mono fun e w' hq => ?_)
  cases e with
  | panicked c => exact hq.elim
  | outgrown => exact hq.elim
  | returned v' =>
    obtain ⟨ι', h1, h2, h3⟩ := hq
    rw [VR.plainV_eq hp h1]
    exact ⟨rfl, h3.os, h3.tape, h3.output, h3.size, fun b hb => h3.same b hb fun ⟨i, o, p, g1, g2, _, _⟩ => by rw [hro i o g1] at g2; cases g2⟩

/-- .. of arguments without addresses. -/
theorem law_flat {P : Program} {C : Ctx} (hC : Fits C P) {call : CallE} (hcall : CallOk P call) {f : FuncId} {args : List Value} {H' : Hp} {v : Value} (w : World) (ha : args.all plainV = true) (hp : plainV v = true) {a : AF} (haf : C.fn f = some a) (h : call (.func f) args ⟨.nl, 0, 0⟩ = some (v, H')) :
    Calls P f args.toArray w fun e w' => e = .returned v ∧ Below w.heap.size w w' :=
  law_calls hC hcall (emptyRel w) (fun i o h => by cases h) (by simpa using VRs.plain (fun _ => VR.plainV) ha) hp haf h

/-- The context of a program. -/
noncomputable def mkCtx (P : Program) (pure : FuncId → Bool) (ext : FuncId → List Value → Hp → Option (Value × Hp)) : Ctx := ⟨fun x y => decide (x < y), fun x y => decide (x = y), mkTI P, fun f => mkAF P (pure f) f, ext⟩
theorem mkCtx_fits {P : Program} {pure : FuncId → Bool} {ext : FuncId → List Value → Hp → Option (Value × Hp)} (h : P.follows .mixedOrders = true) : Fits (mkCtx P pure ext) P :=
  ⟨rfl, rfl, fun _ _ h => h, fun f a ha => by
    have ha : mkAF P (pure f) f = some a := ha
    obtain ⟨_, _, _, _, _, rfl⟩ := mkAF_some ha
    exact ha, h⟩

/-! ### Flat arguments -/
inductive FlatK where
  | bool | int (k : IntKind) | str

def FlatK.is : FlatK → Value → Prop
  | .bool, v => ∃ b, v = .bool b
  | .int k, v => ∃ n, v = .int k n ∧ (Lit.int k n).wf = true
  | .str, v => ∃ s, v = .string s ∧ s.size ≤ maxLen

def cellsAre : List FlatK → List Value → Prop
  | [], [] => True
  | k :: ks, v :: vs => k.is v ∧ cellsAre ks vs
  | _, _ => False

theorem cellsAre_append {a b : List FlatK} : ∀ {x y : List Value}, cellsAre a x → cellsAre b y → cellsAre (a ++ b) (x ++ y) := by
  induction a with
  | nil => intro x y h1 h2; cases x with
    | nil => exact h2
    | cons _ _ => exact h1.elim
  | cons k a ih => intro x y h1 h2; cases x with
    | nil => exact h1.elim
    | cons v x => exact ⟨h1.1, ih h1.2 h2⟩

/-- The cells of a flat type; 'none' where it is not flat, or not laid out as one would think. -/
def flatKs (P : Program) : Nat → TypeId → Option (List FlatK)
  | 0, _ => none
  | d + 1, t => match P.underlying t with
    | some .bool => some [.bool]
    | some (.int k) => some [.int k]
    | some .string => some [.str]
    | some (.struct fs) => (flatFs P (flatKs P d) fs.toList 0).bind fun r => bif Nat.beq r.length (P.cellsOf t) then some r else none
    | some (.array n e) => (flatKs P d e).bind fun r => bif Nat.beq r.length (P.cellsOf e) && Nat.beq (n * r.length) (P.cellsOf t) then some ((List.replicate n r).flatten) else none
    | _ => none
where
  flatFs (P : Program) (ks : TypeId → Option (List FlatK)) : List Field → Nat → Option (List FlatK)
    | [], _ => some []
    | f :: fs, o => match ks f.type with
      | none => none
      | some r => bif Nat.beq f.offset o && Nat.beq r.length (P.cellsOf f.type) then (flatFs P ks fs (o + r.length)).map fun q => r ++ q else none

section
variable {H : Type} {enc : TypeId × Value → H} {P : Program} {w : World} {base : Nat} {spare : Nat → Bool} {held : Bool}

theorem mapM_some {α β : Type} {f : α → Option β} : ∀ {l : List α} {r : List β}, l.mapM f = some r → ∀ x ∈ l, ∃ y, f x = some y
  | [], _, _, x, h => by cases h
  | a :: l, r, h, x, hx => by
    rw [List.mapM_cons] at h
    cases ha : f a with
    | none => rw [ha] at h; cases h
    | some y =>
      rw [ha] at h
      cases hl : l.mapM f with
      | none => rw [hl] at h; cases h
      | some r' =>
        rcases List.mem_cons.1 hx with rfl | hx
        · exact ⟨y, ha⟩
        · exact mapM_some hl x hx

theorem flatFs_cells {ks : TypeId → Option (List FlatK)} {cs : List Value} : ∀ {fs : List Field} {o : Nat} {r : List FlatK}, flatKs.flatFs P ks fs o = some r →
    (∀ f ∈ fs, ∀ q, ks f.type = some q → cellsAre q ((cs.drop f.offset).take (P.cellsOf f.type))) → cellsAre r ((cs.drop o).take r.length)
  | [], o, r, h, _ => by simp only [flatKs.flatFs] at h; cases h; simp [cellsAre]
  | f :: fs, o, r, h, hf => by
    simp only [flatKs.flatFs] at h
    split at h
    · cases h
    · rename_i r1 hr1
      obtain ⟨hb, h⟩ := bif_some h
      rw [Bool.and_eq_true] at hb
      have b1 := nbeq_eq hb.1
      have b2 := nbeq_eq hb.2
      rw [Option.map_eq_some_iff] at h
      obtain ⟨q, hq, rfl⟩ := h
      have h1 := hf f (List.mem_cons_self ..) r1 hr1
      have h2 := flatFs_cells hq fun g hg => hf g (List.mem_cons_of_mem _ hg)
      rw [List.length_append, List.take_add, List.drop_drop]
      rw [b1, ← b2] at h1
      exact cellsAre_append h1 h2

theorem flatRep_cells {r : List FlatK} {cs : List Value} : ∀ (n o : Nat), (∀ i, i < n → cellsAre r ((cs.drop ((o + i) * r.length)).take r.length)) → cellsAre (List.replicate n r).flatten ((cs.drop (o * r.length)).take (n * r.length))
  | 0, o, _ => by simp [cellsAre]
  | n + 1, o, h => by
    have h1 := h 0 (by omega)
    have h2 := flatRep_cells n (o + 1) fun i hi => by
      have := h (i + 1) (by omega)
      rwa [show o + (i + 1) = o + 1 + i by omega] at this
    rw [List.replicate_succ, List.flatten_cons, show (n + 1) * r.length = r.length + n * r.length by rw [Nat.succ_mul, Nat.add_comm], List.take_add, List.drop_drop]
    rw [Nat.add_zero] at h1
    rw [show (o + 1) * r.length = o * r.length + r.length by rw [Nat.succ_mul]] at h2
    exact cellsAre_append h1 h2

theorem trod_struct {fuel : Nat} {t : TypeId} {fs : Array Field} {cs : List Value} (ht : P.underlying t = some (.struct fs)) : DataW.trod enc P w base spare held (fuel + 1) t cs =
    if cs.length = P.cellsOf t then (fs.toList.mapM fun f => DataW.trod enc P w base spare held fuel f.type ((cs.drop f.offset).take (P.cellsOf f.type))).map fun xs => (.agg (xs.map (·.1)), xs.flatMap (·.2)) else none := by
  rw [DataW.trod.eq_def]
  simp only [ht]
theorem trod_array {fuel : Nat} {t : TypeId} {n : Nat} {e : TypeId} {cs : List Value} (ht : P.underlying t = some (.array n e)) : DataW.trod enc P w base spare held (fuel + 1) t cs =
    if cs.length = P.cellsOf t then ((List.range n).mapM fun i => DataW.trod enc P w base spare held fuel e ((cs.drop (i * P.cellsOf e)).take (P.cellsOf e))).map fun xs => (.agg (xs.map (·.1)), xs.flatMap (·.2)) else none := by
  rw [DataW.trod.eq_def]
  simp only [ht]

theorem open_flat : ∀ (d : Nat) (t : TypeId) (ks : List FlatK), flatKs P d t = some ks → ∀ (fuel : Nat) (cs : List Value) (x : DataW H × List MemPlace), DataW.trod enc P w base spare held fuel t cs = some x → cellsAre ks cs
  | 0, t, ks, h, _, _, _, _ => by cases h
  | d + 1, t, ks, h, fuel, cs, x, hx => by
    cases fuel with
    | zero => cases hx
    | succ fuel =>
    unfold flatKs at h
    split at h
    · rename_i ht
      cases h
      unfold DataW.trod at hx
      rw [ht] at hx
      split at hx <;> first | (cases hx; done) | skip
      all_goals first
        | (rename_i heq; cases heq; exact ⟨⟨_, rfl⟩, trivial⟩)
        | (rename_i heq _; cases heq; done)
        | (rename_i heq; cases heq; done)
    · rename_i k ht
      cases h
      unfold DataW.trod at hx
      rw [ht] at hx
      split at hx <;> first | (cases hx; done) | skip
      all_goals first
        | (rename_i heq; cases heq; split at hx <;> first | (rename_i hc; obtain ⟨rfl, hw⟩ := hc; exact ⟨⟨_, rfl, hw⟩, trivial⟩) | (cases hx; done))
        | (rename_i heq _; cases heq; done)
        | (rename_i heq; cases heq; done)
    · rename_i ht
      cases h
      unfold DataW.trod at hx
      rw [ht] at hx
      split at hx <;> first | (cases hx; done) | skip
      all_goals first
        | (rename_i heq; cases heq; split at hx <;> first | (rename_i hc; exact ⟨⟨_, rfl, hc⟩, trivial⟩) | (cases hx; done))
        | (rename_i heq _; cases heq; done)
        | (rename_i heq; cases heq; done)
    · rename_i fs ht
      rw [Option.bind_eq_some_iff] at h
      obtain ⟨r, hr, h⟩ := h
      obtain ⟨hb, h⟩ := bif_some h
      cases h
      have hb := nbeq_eq hb
      rw [trod_struct ht] at hx
      split at hx
      · rename_i hlen
        rw [Option.map_eq_some_iff] at hx
        obtain ⟨xs, hxs, _⟩ := hx
        have h1 := flatFs_cells (P := P) (cs := cs) hr fun f hf q hq => by
          obtain ⟨y, hy⟩ := mapM_some hxs f hf
          exact open_flat d f.type q hq fuel _ y hy
        rw [List.drop_zero, hb, ← hlen, List.take_length] at h1
        exact h1
      · cases hx
    · rename_i n e ht
      rw [Option.bind_eq_some_iff] at h
      obtain ⟨r, hr, h⟩ := h
      obtain ⟨hb, h⟩ := bif_some h
      cases h
      rw [Bool.and_eq_true] at hb
      have b1 := nbeq_eq hb.1
      have b2 := nbeq_eq hb.2
      rw [trod_array ht] at hx
      split at hx
      · rename_i hlen
        rw [Option.map_eq_some_iff] at hx
        obtain ⟨xs, hxs, _⟩ := hx
        have h1 := flatRep_cells (r := r) (cs := cs) n 0 fun i hi => by
          obtain ⟨y, hy⟩ := mapM_some hxs i (by simpa using hi)
          have := open_flat d e r hr fuel _ y hy
          rw [← b1] at this
          rwa [Nat.zero_add]
        rw [Nat.zero_mul, List.drop_zero, b2, ← hlen, List.take_length] at h1
        exact h1
      · cases hx
    · cases h
theorem open_flat_struct {r : Reach} {b0 : Nat} {d : Nat} {t : TypeId} {fs : Array Field} {ks : List FlatK} {v : Value} {x : DataW H} {ps : List MemPlace} (ht : P.underlying t = some (.struct fs)) (hk : flatKs P d t = some ks) (hval : Value.okWide P w r b0 t v)
    (hd : DataW.Trod enc P w base spare held t v x ps) : ∃ cs : List Value, v = .agg cs.toArray ∧ cellsAre ks cs := by
  obtain ⟨fuel, hf⟩ := hd
  unfold Value.okWide at hval
  rw [ht] at hval
  obtain ⟨cs, rfl, _⟩ := hval
  exact ⟨cs.toList, by simp, open_flat d t ks hk fuel _ _ hf⟩
end

theorem cellsAre_cons {k : FlatK} {ks : List FlatK} {cs : List Value} (h : cellsAre (k :: ks) cs) : ∃ v vs, cs = v :: vs ∧ k.is v ∧ cellsAre ks vs := by
  cases cs with
  | nil => exact h.elim
  | cons v vs => exact ⟨v, vs, rfl, h.1, h.2⟩
theorem cellsAre_nil {cs : List Value} (h : cellsAre [] cs) : cs = [] := by
  cases cs with
  | nil => rfl
  | cons v vs => exact h.elim
end Go.Ahe
