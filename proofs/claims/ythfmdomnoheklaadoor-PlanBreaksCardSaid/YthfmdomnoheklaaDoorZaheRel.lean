/-
  AHE, 3: how an abstract heap stands to a world: embeddings of ids into blocks, related values, related heaps, and what a step may change.
-/
import Derived.Test.YthfmdomnoheklaaDoorZaheTab
namespace Go.Ahe

theorem nbeq_f {a b : Nat} (h : a ≠ b) : Nat.beq a b = false := by
  cases hb : Nat.beq a b with
  | false => rfl
  | true => exact absurd (Nat.eq_of_beq_eq_true hb) h
theorem nbeq_t {a b : Nat} (h : a = b) : Nat.beq a b = true := by subst h; exact Nat.beq_refl a

/-! ### Trees -/
section
variable {α : Type}
theorem Tr.get_e (k : Nat) : (Tr.nl : Tr α).get k = none := rfl
theorem Tr.get_parts (t : Tr α) (k : Nat) : t.get k = if k = 0 then t.here else if k % 2 = 1 then t.left.get (k / 2) else t.right.get (k / 2 - 1) := by
  cases t with
  | nl => simp [Tr.get, Tr.here, Tr.left, Tr.right]
  | n l v r =>
    rw [Tr.get]
    simp only [Tr.here, Tr.left, Tr.right]
    by_cases h0 : k = 0
    · subst h0; rfl
    · have hb : Nat.beq k 0 = false := nbeq_f h0
      rw [hb, cond_false, if_neg h0]
      by_cases h1 : k % 2 = 1
      · have : Nat.beq (k % 2) 1 = true := nbeq_t h1
        rw [this, cond_true, if_pos h1]
      · have : Nat.beq (k % 2) 1 = false := nbeq_f h1
        rw [this, cond_false, if_neg h1]

theorem Tr.get_put (x : α) : ∀ (f : Nat) (t : Tr α) (k j : Nat), k < f → (Tr.put x f t k).get j = if j = k then some x else t.get j := by
  intro f
  induction f with
  | zero => intro t k j h; omega
  | succ f ih =>
    intro t k j h
    rw [Tr.put]
    by_cases h0 : k = 0
    · subst h0
      have hb : Nat.beq 0 0 = true := rfl
      rw [hb, cond_true, Tr.get_parts, Tr.get_parts t j]
      simp only [Tr.here, Tr.left, Tr.right]
      by_cases hj : j = 0 <;> simp [hj]
    · have hb : Nat.beq k 0 = false := nbeq_f h0
      rw [hb, cond_false]
      by_cases h1 : k % 2 = 1
      · have hb1 : Nat.beq (k % 2) 1 = true := nbeq_t h1
        rw [hb1, cond_true, Tr.get_parts, Tr.get_parts t j]
        simp only [Tr.here, Tr.left, Tr.right]
        by_cases hj : j = 0
        · subst hj; rw [if_pos rfl, if_pos rfl, if_neg (by omega)]
        · rw [if_neg hj, if_neg hj]
          by_cases hj1 : j % 2 = 1
          · rw [if_pos hj1, if_pos hj1, ih _ _ _ (by omega)]
            by_cases e : j = k
            · rw [if_pos e, if_pos (by rw [e])]
            · rw [if_neg e, if_neg (by omega)]
          · rw [if_neg hj1, if_neg hj1, if_neg (by omega)]
      · have hb1 : Nat.beq (k % 2) 1 = false := nbeq_f h1
        rw [hb1, cond_false, Tr.get_parts, Tr.get_parts t j]
        simp only [Tr.here, Tr.left, Tr.right]
        by_cases hj : j = 0
        · subst hj; rw [if_pos rfl, if_pos rfl, if_neg (by omega)]
        · rw [if_neg hj, if_neg hj]
          by_cases hj1 : j % 2 = 1
          · rw [if_pos hj1, if_pos hj1, if_neg (by omega)]
          · rw [if_neg hj1, if_neg hj1, ih _ _ _ (by omega)]
            by_cases e : j = k
            · rw [if_pos e, if_pos (by rw [e])]
            · rw [if_neg e, if_neg (by omega)]

theorem Tr.get_set (t : Tr α) (k : Nat) (x : α) (j : Nat) : (t.set k x).get j = if j = k then some x else t.get j :=
  Tr.get_put x (k + 1) t k j (by omega)
end

/-! ### Heaps -/
theorem Hp.get_new (H : Hp) (o : Ob) (j : Nat) : (H.new o).get j = if j = H.next then some o else H.get j := Tr.get_set _ _ _ _
@[simp] theorem Hp.next_new (H : Hp) (o : Ob) : (H.new o).next = H.next + 1 := id rfl
@[simp] theorem Hp.floor_new (H : Hp) (o : Ob) : (H.new o).floor = H.floor := id rfl
theorem Hp.upd_some {H H' : Hp} {i : Nat} {o : Ob} (h : H.upd i o = some H') : H.floor ≤ i ∧ H'.next = H.next ∧ H'.floor = H.floor ∧ ∀ j, H'.get j = if j = i then some o else H.get j := by
  unfold Hp.upd at h
  cases hb : Nat.ble H.floor i with
  | false => rw [hb, cond_false] at h; cases h
  | true =>
    rw [hb, cond_true] at h
    cases h
    exact ⟨Nat.le_of_ble_eq_true hb, rfl, rfl, fun j => Tr.get_set _ _ _ _⟩
@[simp] theorem Hp.get_raised (H : Hp) (j : Nat) : H.raised.get j = H.get j := rfl
@[simp] theorem Hp.get_lowered (H : Hp) (f j : Nat) : (H.lowered f).get j = H.get j := rfl

/-! ### Frames -/
theorem Env.set_some {e e' : Env} {k : Nat} {v : Value} (h : e.set k v = some e') : k < e.size ∧ e'.size = e.size ∧ ∀ j, e'.get j = if j = k then v else e.get j := by
  unfold Env.set at h
  cases hb : Nat.blt k e.size with
  | false => rw [hb, cond_false] at h; cases h
  | true =>
    rw [hb, cond_true] at h
    cases h
    refine ⟨by simpa using hb, rfl, fun j => ?_⟩
    unfold Env.get
    simp only [Tr.get_set]
    by_cases e : j = k <;> simp [e]

/-! ### Values -/
/-- Where ids lie: a block, an offset; and how many cells the blocks have. -/
structure Emb where
  at_ : Nat → Option (Nat × Nat)
  sz : Nat → Nat
instance : CoeFun Emb fun _ => Nat → Option (Nat × Nat) := ⟨Emb.at_⟩

mutual
inductive VR (ι : Emb) : Value → Value → Prop
  | bool (b : Bool) : VR ι (.bool b) (.bool b)
  | int (k : IntKind) (n : Int) : VR ι (.int k n) (.int k n)
  | string (s : ByteArray) : VR ι (.string s) (.string s)
  | nilp : VR ι (.pointer none) (.pointer none)
  | ptr {i o b p : Nat} (h : ι i = some (b, p)) : VR ι (.pointer (some ⟨i, o, none⟩)) (.pointer (some ⟨b, p + o, none⟩))
  | nils : VR ι (.slice none 0 0) (.slice none 0 0)
  | slice {i o b p l c : Nat} (h : ι i = some (b, p)) : VR ι (.slice (some ⟨i, o, none⟩) l c) (.slice (some ⟨b, p + o, none⟩) l c)
  | sliceU {i o b p q l c c' z : Nat} (h : ι i = some (b, p)) (hl : l ≤ c) (hc : c ≤ c') (hq : c = 0 ∨ q = p + o) (he : c' = 0 ∨ q + c' * z = ι.sz b) : VR ι (.slice (some ⟨i, o, some z⟩) l c) (.slice (some ⟨b, q, none⟩) l c')
  | nilm : VR ι (.map none) (.map none)
  | map {i b p : Nat} (h : ι i = some (b, p)) : VR ι (.map (some i)) (.map (some b))
  | func {f : FuncId} {a a' c c' : Array Value} (ha : VRs ι a.toList a'.toList) (hc : VRs ι c.toList c'.toList) : VR ι (.func (.func f) a c) (.func (.func f) a' c')
  | yield {l b p : Nat} (h : ι l = some (b, p)) : VR ι (.func (.yield l) #[] #[]) (.func (.yield b) #[] #[])
  | nilf : VR ι .nilFunc .nilFunc
  | nili : VR ι .nilIface .nilIface
  | agg {a a' : Array Value} (h : VRs ι a.toList a'.toList) : VR ι (.agg a) (.agg a')
  | tuple {a a' : Array Value} (h : VRs ι a.toList a'.toList) : VR ι (.tuple a) (.tuple a')
inductive VRs (ι : Emb) : List Value → List Value → Prop
  | nil : VRs ι [] []
  | cons {v v' : Value} {l l' : List Value} (h : VR ι v v') (t : VRs ι l l') : VRs ι (v :: l) (v' :: l')
end

def Emb.le (ι ι' : Emb) : Prop := ∀ i b p, ι i = some (b, p) → ι' i = some (b, p) ∧ ι'.sz b = ι.sz b

mutual
theorem VR.mono {ι ι' : Emb} (hm : ι.le ι') {v v' : Value} : VR ι v v' → VR ι' v v'
  | .bool b => .bool b
  | .int k n => .int k n
  | .string s => .string s
  | .nilp => .nilp
  | .ptr h => .ptr (hm _ _ _ h).1
  | .nils => .nils
  | .slice h => .slice (hm _ _ _ h).1
  | .sliceU h hl hc hq he => .sliceU (hm _ _ _ h).1 hl hc hq (by rw [(hm _ _ _ h).2]; exact he)
  | .nilm => .nilm
  | .map h => .map (hm _ _ _ h).1
  | .func ha hc => .func (VRs.mono hm ha) (VRs.mono hm hc)
  | .yield h => .yield (hm _ _ _ h).1
  | .nilf => .nilf
  | .nili => .nili
  | .agg h => .agg (VRs.mono hm h)
  | .tuple h => .tuple (VRs.mono hm h)
theorem VRs.mono {ι ι' : Emb} (hm : ι.le ι') {l l' : List Value} : VRs ι l l' → VRs ι' l l'
  | .nil => .nil
  | .cons h t => .cons (VR.mono hm h) (VRs.mono hm t)
end

theorem VRs.length {ι : Emb} : ∀ {l l' : List Value}, VRs ι l l' → l.length = l'.length
  | _, _, .nil => rfl
  | _, _, .cons _ t => by simp [t.length]

theorem VRs.get? {ι : Emb} : ∀ {l l' : List Value}, VRs ι l l' → ∀ {k : Nat} {v : Value}, l[k]? = some v → ∃ v', l'[k]? = some v' ∧ VR ι v v'
  | _, _, .nil, k, v, h => by simp at h
  | _, _, .cons (v' := v') hv t, k, v, h => by
    cases k with
    | zero => simp at h; subst h; exact ⟨v', rfl, hv⟩
    | succ k => simp at h; obtain ⟨u, hu, hr⟩ := t.get? h; exact ⟨u, by simpa using hu, hr⟩

theorem VRs.of_get {ι : Emb} : ∀ {l l' : List Value}, l.length = l'.length → (∀ (k : Nat) (v : Value), l[k]? = some v → ∃ v', l'[k]? = some v' ∧ VR ι v v') → VRs ι l l'
  | [], [], _, _ => .nil
  | [], _ :: _, h, _ => by simp at h
  | _ :: _, [], h, _ => by simp at h
  | a :: l, b :: l', h, hh => by
    obtain ⟨u, hu, hr⟩ := hh 0 a rfl
    simp at hu; subst hu
    exact .cons hr (VRs.of_get (by simpa using h) fun k v hk => by
      obtain ⟨u, hu, hr⟩ := hh (k + 1) v (by simpa using hk)
      exact ⟨u, by simpa using hu, hr⟩)

theorem VRs.append {ι : Emb} : ∀ {a a' b b' : List Value}, VRs ι a a' → VRs ι b b' → VRs ι (a ++ b) (a' ++ b')
  | _, _, _, _, .nil, h => h
  | _, _, _, _, .cons hv t, h => .cons hv (t.append h)

theorem VRs.take {ι : Emb} : ∀ {a a' : List Value} (n : Nat), VRs ι a a' → VRs ι (a.take n) (a'.take n)
  | _, _, 0, _ => by simpa using VRs.nil
  | _, _, _ + 1, .nil => .nil
  | _, _, n + 1, .cons hv t => .cons hv (t.take n)

theorem VRs.drop {ι : Emb} : ∀ {a a' : List Value} (n : Nat), VRs ι a a' → VRs ι (a.drop n) (a'.drop n)
  | _, _, 0, h => h
  | _, _, _ + 1, .nil => .nil
  | _, _, n + 1, .cons _ t => t.drop n

theorem VRs.one {ι : Emb} {v v' : Value} (h : VR ι v v') : VRs ι [v] [v'] := .cons h .nil

/-- A plain value stands for itself. -/
theorem VR.plainCell {ι : Emb} {v : Value} (h : plainCell v = true) : VR ι v v := by
  cases v with
  | bool b => exact .bool b
  | int k n => exact .int k n
  | string s => exact .string s
  | pointer a => cases a with
    | none => exact .nilp
    | some a => cases h
  | slice a l c => cases a with
    | none => cases l with
      | zero => cases c with
        | zero => exact .nils
        | succ c => cases h
      | succ l => cases h
    | some a => cases h
  | map r => cases r with
    | none => exact .nilm
    | some a => cases h
  | nilFunc => exact .nilf
  | nilIface => exact .nili
  | _ => cases h

theorem VRs.plain {ι : Emb} {f : Value → Bool} (hf : ∀ v, f v = true → VR ι v v) : ∀ {l : List Value}, l.all f = true → VRs ι l l
  | [], _ => .nil
  | v :: l, h => by
    simp only [List.all_cons, Bool.and_eq_true] at h
    exact .cons (hf v h.1) (VRs.plain hf h.2)

theorem VR.plainV1 {ι : Emb} {v : Value} (h : plainV1 v = true) : VR ι v v := by
  cases v with
  | agg cs => exact .agg (VRs.plain (fun v => VR.plainCell) h)
  | _ => exact VR.plainCell h

theorem VR.plainV {ι : Emb} {v : Value} (h : plainV v = true) : VR ι v v := by
  cases v with
  | tuple cs => exact .tuple (VRs.plain (fun v => VR.plainV1) h)
  | _ => exact VR.plainV1 h

theorem VR.undef {ι : Emb} : VR ι (.tuple #[]) (.tuple #[]) := .tuple .nil

/-- The cells of related values. -/
theorem VR.cells {ι : Emb} {v v' : Value} (h : VR ι v v') : VRs ι (cellsOf v) v'.cells.toList := by
  cases h <;> first | exact VRs.one (by constructor <;> assumption) | skip
  case agg h => exact h

theorem cellsOf_eq (v : Value) : v.cells.toList = cellsOf v := by cases v <;> rfl

theorem VR.oneCell {ι : Emb} {v v' : Value} (h : VR ι v v') : oneCell v' = oneCell v := by cases h <;> rfl

/-! ### Frames, related -/
def EnvR (ι : Emb) (e : Env) (tmps : Array Value) : Prop := e.size = tmps.size ∧ ∀ k, k < e.size → VR ι (e.get k) (tmps.getD k Go.undef)

theorem EnvR.mono {ι ι' : Emb} (hm : ι.le ι') {e : Env} {t : Array Value} (h : EnvR ι e t) : EnvR ι' e t := ⟨h.1, fun k hk => (h.2 k hk).mono hm⟩

theorem EnvR.set {ι : Emb} {e e' : Env} {t : Array Value} {k : Nat} {v v' : Value} (h : EnvR ι e t) (hs : e.set k v = some e') (hv : VR ι v v') : EnvR ι e' (t.setIfInBounds k v') := by
  obtain ⟨hk, hsz, hg⟩ := Env.set_some hs
  refine ⟨by rw [hsz, h.1]; simp, fun j hj => ?_⟩
  rw [hsz] at hj
  rw [hg]
  by_cases e : j = k
  · subst e
    rw [if_pos rfl]
    have : j < t.size := by rw [← h.1]; exact hj
    simp [this]; exact hv
  · rw [if_neg e]
    have := h.2 j hj
    rw [Array.getD_eq_getD_getElem?, Array.getElem?_setIfInBounds_ne (Ne.symm e), ← Array.getD_eq_getD_getElem?]
    exact this

theorem EnvR.put {ι : Emb} {e e' : Env} {a : Act} {d : Option Nat} {v v' : Value} (h : EnvR ι e a.tmps) (hs : e.put d v = some e') (hv : VR ι v v') : EnvR ι e' (a.put d v').tmps := by
  cases d with
  | none => simp only [Env.put] at hs; cases hs; exact h
  | some k => exact h.set hs hv

theorem EnvR.op {ι : Emb} {e : Env} {a : Act} {x : Operand} {v : Value} (h : EnvR ι e a.tmps) (hs : opV e x = some v) : VR ι v (a.eval x) := by
  cases x with
  | tmp t =>
    simp only [opV] at hs
    cases hb : Nat.blt t e.size with
    | false => rw [hb, cond_false] at hs; cases hs
    | true =>
      rw [hb, cond_true] at hs
      cases hs
      exact h.2 t (by simpa using hb)
  | const v =>
    simp only [opV] at hs
    cases hb : Go.Ahe.plainV v with
    | false => rw [hb, cond_false] at hs; cases hs
    | true => rw [hb, cond_true] at hs; cases hs; exact VR.plainV hb
  | func f => simp only [opV] at hs; cases hs; exact .func .nil .nil
  | global g => cases hs

theorem EnvR.ops {ι : Emb} {e : Env} {a : Act} (h : EnvR ι e a.tmps) : ∀ {xs : List Operand} {vs : List Value}, opVs e xs = some vs → VRs ι vs (xs.map a.eval)
  | [], vs, hs => by simp only [opVs] at hs; cases hs; exact .nil
  | x :: xs, vs, hs => by
    simp only [opVs] at hs
    split at hs
    · rename_i v vs' h1 h2; cases hs; exact .cons (h.op h1) (h.ops h2)
    · cases hs

end Go.Ahe
