/-
  X, 7: the words of printed functions, simplified.
-/
import Derived.Test.YthfmdomnoheklaaDoorZxPrim
namespace Go.Ahe
theorem Tr.put_n {α : Type} (x : α) (f : Nat) (t : Tr α) (k : Nat) : Tr.put x (f + 1) t k = if k = 0 then .n t.left (some x) t.right else if k % 2 = 1 then .n (Tr.put x f t.left (k / 2)) t.here t.right else .n t.left t.here (Tr.put x f t.right (k / 2 - 1)) := by
  rw [Tr.put]
  by_cases h0 : k = 0
  · subst h0; rfl
  · rw [nbeq_f h0, cond_false, if_neg h0]
    by_cases h1 : k % 2 = 1
    · rw [nbeq_t h1, cond_true, if_pos h1]
    · rw [nbeq_f h1, cond_false, if_neg h1]

theorem Tr.put_put {α : Type} (x y : α) : ∀ (f g : Nat) (t : Tr α) (k : Nat), k < f → k < g → Tr.put y g (Tr.put x f t k) k = Tr.put y g t k
  | 0, _, _, _, h, _ => absurd h (Nat.not_lt_zero _)
  | _, 0, _, _, _, h => absurd h (Nat.not_lt_zero _)
  | f + 1, g + 1, t, k, hf, hg => by
    rw [Tr.put_n, Tr.put_n, Tr.put_n]
    by_cases h0 : k = 0
    · simp [h0, Tr.left, Tr.right]
    · by_cases h1 : k % 2 = 1
      · simp only [h0, h1, if_false, if_true, Tr.left, Tr.right, Tr.here]
        rw [Tr.put_put x y f g _ _ (by omega) (by omega)]
      · simp only [h0, h1, if_false, Tr.left, Tr.right, Tr.here]
        rw [Tr.put_put x y f g _ _ (by omega) (by omega)]

theorem Tr.put_comm {α : Type} (x y : α) : ∀ (f g : Nat) (t : Tr α) (j k : Nat), j < f → k < g → j ≠ k → Tr.put y g (Tr.put x f t j) k = Tr.put x f (Tr.put y g t k) j
  | 0, _, _, _, _, h, _, _ => absurd h (Nat.not_lt_zero _)
  | _, 0, _, _, _, _, h, _ => absurd h (Nat.not_lt_zero _)
  | f + 1, g + 1, t, j, k, hf, hg, hne => by
    rw [Tr.put_n, Tr.put_n, Tr.put_n, Tr.put_n]
    by_cases j0 : j = 0
    · have k0 : ¬ k = 0 := by omega
      by_cases k1 : k % 2 = 1 <;> simp [j0, k0, k1, Tr.left, Tr.right, Tr.here]
    · by_cases k0 : k = 0
      · by_cases j1 : j % 2 = 1 <;> simp [j0, k0, j1, Tr.left, Tr.right, Tr.here]
      · by_cases j1 : j % 2 = 1
        · by_cases k1 : k % 2 = 1
          · simp only [j0, k0, j1, k1, if_false, if_true, Tr.left, Tr.right, Tr.here]
            rw [Tr.put_comm x y f g _ _ _ (by omega) (by omega) (by omega)]
          · simp only [j0, k0, j1, k1, if_false, if_true, Tr.left, Tr.right, Tr.here]
        · by_cases k1 : k % 2 = 1
          · simp only [j0, k0, j1, k1, if_false, if_true, Tr.left, Tr.right, Tr.here]
          · simp only [j0, k0, j1, k1, if_false, Tr.left, Tr.right, Tr.here]
            rw [Tr.put_comm x y f g _ _ _ (by omega) (by omega) (by omega)]

theorem Tr.set_set {α : Type} (t : Tr α) (k : Nat) (x y : α) : (t.set k x).set k y = t.set k y := Tr.put_put x y _ _ _ _ (by omega) (by omega)
theorem Tr.set_comm {α : Type} (t : Tr α) {j k : Nat} (h : j ≠ k) (x y : α) : (t.set j x).set k y = (t.set k y).set j x := Tr.put_comm x y _ _ _ _ _ (by omega) (by omega) h

/-- An object anew. -/
def Hp.setO (H : Hp) (i : Nat) (o : Ob) : Hp := ⟨H.objs.set i o, H.next, H.floor⟩
@[simp] theorem Hp.next_setO (H : Hp) (i : Nat) (o : Ob) : (H.setO i o).next = H.next := id rfl
@[simp] theorem Hp.floor_setO (H : Hp) (i : Nat) (o : Ob) : (H.setO i o).floor = H.floor := id rfl
theorem Hp.get_setO (H : Hp) (i : Nat) (o : Ob) (j : Nat) : (H.setO i o).get j = if j = i then some o else H.get j := Tr.get_set _ _ _ _
theorem Hp.upd_eq {H : Hp} {i : Nat} (h : H.floor ≤ i) (o : Ob) : H.upd i o = some (H.setO i o) := by
  unfold Hp.upd
  rw [Nat.ble_eq_true_of_le h]; rfl
theorem Hp.setO_new {H : Hp} {i : Nat} (o o' : Ob) : (H.new o).setO i o' = if i = H.next then H.new o' else (H.setO i o').new o := by
  by_cases h : i = H.next
  · subst h
    rw [if_pos rfl]
    show Hp.mk _ _ _ = _
    simp only [Hp.new]
    rw [Tr.set_set]
  · rw [if_neg h]
    show Hp.mk _ _ _ = _
    simp only [Hp.new, Hp.setO]
    rw [Tr.set_comm _ (Ne.symm h)]
theorem Hp.setO_setO {H : Hp} {i : Nat} (o o' : Ob) : (H.setO i o).setO i o' = H.setO i o' := by
  show Hp.mk _ _ _ = _
  simp only [Hp.setO]
  rw [Tr.set_set]
end Go.Ahe

namespace Go.Ahe.X
open Go.Ahe

/-! What is to come is not looked at before its time. -/
@[congr] theorem bind_first {α β : Type} {x x' : Option α} {f : α → Option β} (h : x = x') : B x f = B x' f := by rw [h]
@[simp] theorem B_some {α β : Type} {a : α} {f : α → Option β} : B (some a) f = f a := id rfl
@[simp] theorem B_none {α β : Type} {f : α → Option β} : B none f = none := id rfl
theorem B_bind {α β : Type} {x : Option α} {f : α → Option β} : B x f = x.bind f := id rfl
@[simp] theorem B_B {α β γ : Type} {x : Option α} {f : α → Option β} {g : β → Option γ} : B (B x f) g = B x fun a => B (f a) g := by cases x <;> rfl
@[congr] theorem br_first {c c' : Value} {a b : O} (h : c = c') : br c a b = br c' a b := by rw [h]
@[congr] theorem gd_first {c c' : Value} {w : Bool} {x : Option Value} (h : c = c') : gd c w x = gd c' w x := by rw [h]
@[congr] theorem gh_first {c c' : Value} {w : Bool} {x : O} {H : Hp} (h : c = c') : gh c w x H = gh c' w x H := by rw [h]
@[simp] theorem bind_if {α β : Type} {p : Prop} [Decidable p] {x y : Option α} {f : α → Option β} : B (if p then x else y) f = if p then B x f else B y f := by
  by_cases h : p
  · rw [if_pos h, if_pos h]
  · rw [if_neg h, if_neg h]
@[simp] theorem map_if {α β : Type} {p : Prop} [Decidable p] {x y : Option α} {f : α → β} : (if p then x else y).map f = if p then x.map f else y.map f := by
  by_cases h : p
  · rw [if_pos h, if_pos h]
  · rw [if_neg h, if_neg h]

/-- A context that tells numbers apart as they are. -/
class Std (C : Ctx) : Prop where
  lt : C.lt = fun x y => decide (x < y)
  eqi : C.eqi = fun x y => decide (x = y)

section
variable {C : Ctx} {t : TypeId} {k k' : IntKind} {a b : Int}
theorem bin_int {op : BinOp} (h1 : op ≠ .shl) (h2 : op ≠ .shr) : binE C op t (.int k a) (.int k b) = intBin C.lt C.eqi op k a b := by
  cases op <;> first | rfl | exact absurd rfl h1 | exact absurd rfl h2 | (simp only [binE, if_true])
@[simp] theorem bin_add : binE C .add t (.int k a) (.int k b) = some (.int k (k.wrap (a + b))) := by rw [bin_int (by decide) (by decide)]; rfl
@[simp] theorem bin_sub : binE C .sub t (.int k a) (.int k b) = some (.int k (k.wrap (a - b))) := by rw [bin_int (by decide) (by decide)]; rfl
@[simp] theorem bin_mul : binE C .mul t (.int k a) (.int k b) = some (.int k (k.wrap (a * b))) := by rw [bin_int (by decide) (by decide)]; rfl
@[simp] theorem bin_quo : binE C .quo t (.int k a) (.int k b) = if b = 0 then none else some (.int k (k.wrap (a.tdiv b))) := by rw [bin_int (by decide) (by decide)]; rfl
@[simp] theorem bin_rem : binE C .rem t (.int k a) (.int k b) = if b = 0 then none else some (.int k (a.tmod b)) := by rw [bin_int (by decide) (by decide)]; rfl
@[simp] theorem bin_eql [hC : Std C] : binE C .eql t (.int k a) (.int k b) = some (.bool (decide (a = b))) := by rw [bin_int (by decide) (by decide)]; simp only [intBin, hC.eqi]
@[simp] theorem bin_neq [hC : Std C] : binE C .neq t (.int k a) (.int k b) = some (.bool (decide (a ≠ b))) := by rw [bin_int (by decide) (by decide)]; simp only [intBin, hC.eqi]; by_cases h : a = b <;> simp [h]
@[simp] theorem bin_lss [hC : Std C] : binE C .lss t (.int k a) (.int k b) = some (.bool (decide (a < b))) := by rw [bin_int (by decide) (by decide)]; simp only [intBin, hC.lt]
@[simp] theorem bin_gtr [hC : Std C] : binE C .gtr t (.int k a) (.int k b) = some (.bool (decide (b < a))) := by rw [bin_int (by decide) (by decide)]; simp only [intBin, hC.lt]
@[simp] theorem bin_leq [hC : Std C] : binE C .leq t (.int k a) (.int k b) = some (.bool (decide (a ≤ b))) := by
  rw [bin_int (by decide) (by decide)]; simp only [intBin, hC.lt]
  by_cases h : b < a
  · simp [h]
  · simp [h, Int.not_lt.1 h]
@[simp] theorem bin_geq [hC : Std C] : binE C .geq t (.int k a) (.int k b) = some (.bool (decide (b ≤ a))) := by
  rw [bin_int (by decide) (by decide)]; simp only [intBin, hC.lt]
  by_cases h : a < b
  · simp [h]
  · simp [h, Int.not_lt.1 h]
@[simp] theorem bin_and : binE C .and t (.int k a) (.int k b) = bitsE .and k a b := by rw [bin_int (by decide) (by decide)]; rfl
@[simp] theorem bin_or : binE C .or t (.int k a) (.int k b) = bitsE .or k a b := by rw [bin_int (by decide) (by decide)]; rfl
@[simp] theorem bin_xor : binE C .xor t (.int k a) (.int k b) = bitsE .xor k a b := by rw [bin_int (by decide) (by decide)]; rfl
@[simp] theorem bin_andNot : binE C .andNot t (.int k a) (.int k b) = bitsE .andNot k a b := by rw [bin_int (by decide) (by decide)]; rfl
@[simp] theorem bin_shl : binE C .shl t (.int k a) (.int k' b) = shiftE .shl k a b := id rfl
@[simp] theorem bin_shr : binE C .shr t (.int k a) (.int k' b) = shiftE .shr k a b := id rfl
end

@[simp] theorem un_not (b : Bool) : unE .not (.bool b) = some (.bool !b) := id rfl
@[simp] theorem un_neg (k : IntKind) (n : Int) : unE .neg (.int k n) = some (.int k (k.wrap (0 - n))) := id rfl
@[simp] theorem asB_bool (b : Bool) : asB (.bool b) = some b := id rfl
@[simp] theorem br_bool (c : Bool) (a b : O) : br (.bool c) a b = if c = true then a else b := by cases c <;> rfl
@[simp] theorem gd_bool (b w : Bool) (x : Option Value) : gd (.bool b) w x = if b = w then x else some (.tuple #[]) := by cases b <;> cases w <;> rfl
@[simp] theorem gd_tuple (w : Bool) (x : Option Value) {vs : Array Value} : gd (.tuple vs) w x = some (.tuple #[]) := id rfl
@[simp] theorem gh_bool (b w : Bool) (x : O) (H : Hp) : gh (.bool b) w x H = if b = w then x else some (.tuple #[], H) := by cases b <;> cases w <;> rfl
@[simp] theorem gh_tuple (w : Bool) (x : O) (H : Hp) {vs : Array Value} : gh (.tuple vs) w x H = some (.tuple #[], H) := id rfl
@[simp] theorem pk_bool (c : Bool) (a b : Option Value) : pk (.bool c) a b = if c = true then a else b := by cases c <;> rfl
@[simp] theorem wantV_bool (b w : Bool) : wantV (.bool b) w = (b == w) := id rfl
@[simp] theorem wantV_tuple (w : Bool) {vs : Array Value} : wantV (.tuple vs) w = false := id rfl
@[simp] theorem ck_false (x : Option Value) (v : Value) (k : O) : ck false x v k = k := id rfl
@[simp] theorem ck_true (x : Option Value) (v : Value) (k : O) : ck true x v k = if same x v = true then k else none := by unfold ck; cases same x v <;> rfl
@[simp] theorem cvI_int (k k' : IntKind) (n : Int) : cvI k (.int k' n) = some (.int k (k.wrap n)) := id rfl
@[simp] theorem fa_ptr (off i o : Nat) : fa off (P i o) = some (P i (o + off)) := id rfl
@[simp] theorem al_eq (zs : List Value) (H : Hp) : al zs H = some (P H.next 0, H.new (.cells zs false)) := id rfl
@[simp] theorem mm_eq (H : Hp) : mm H = some (.map (some H.next), H.new (.map [] 0)) := id rfl
@[simp] theorem un_some (H : Hp) : un (some H) = some (.tuple #[], H) := id rfl
@[simp] theorem extract_tuple (vs : Array Value) (k : Nat) : extractE (.tuple vs) k = vs.toList[k]? := id rfl
@[simp] theorem nilc_ptr (i o : Nat) : nilc (P i o) = some (P i o) := id rfl
@[simp] theorem lnS_slice (a : Option Addr) (n c : Nat) : lnS (.slice a n c) = some (I n) := id rfl
@[simp] theorem cellsOf_agg (cs : Array Value) : cellsOf (.agg cs) = cs.toList := id rfl
@[simp] theorem cellsOf_int (k : IntKind) (n : Int) : cellsOf (.int k n) = [.int k n] := id rfl
@[simp] theorem cellsOf_bool (b : Bool) : cellsOf (.bool b) = [.bool b] := id rfl
@[simp] theorem cellsOf_ptr (a : Option Addr) : cellsOf (.pointer a) = [.pointer a] := id rfl
@[simp] theorem cellsOf_slice (a : Option Addr) (n c : Nat) : cellsOf (.slice a n c) = [.slice a n c] := id rfl
@[simp] theorem cellsOf_func (f : Fn) (x y : Array Value) : cellsOf (.func f x y) = [.func f x y] := id rfl
@[simp] theorem cellsOf_string (s : ByteArray) : cellsOf (.string s) = [.string s] := id rfl
@[simp] theorem cellsOf_map (s : Option Nat) : cellsOf (.map s) = [.map s] := id rfl
theorem nat?_nonneg (k : IntKind) {n : Int} (h : 0 ≤ n) : nat? (.int k n) = some n.toNat := by simp [nat?, h]
@[simp] theorem nat?_ofNat (k : IntKind) (n : Nat) : nat? (.int k (n : Int)) = some n := by simp [nat?]
@[simp] theorem nat?_lit (k : IntKind) (n : Nat) : nat? (.int k (OfNat.ofNat n)) = some n := by
  show nat? (.int k (n : Int)) = some n
  simp
@[simp] theorem nato?_none : nato? none = some none := id rfl
@[simp] theorem nato?_some (v : Value) : nato? (some v) = (nat? v).map some := id rfl

theorem lrange_eq (cs : List Value) (off n : Nat) : lrange cs off n = if off + n ≤ cs.length then some ((cs.drop off).take n) else none := by
  unfold lrange
  by_cases h : off + n ≤ cs.length
  · rw [if_pos h, Nat.ble_eq_true_of_le h]; rfl
  · rw [if_neg h, show Nat.ble (off + n) cs.length = false from Bool.eq_false_iff.2 fun h2 => h (Nat.le_of_ble_eq_true h2)]; rfl
theorem lput_eq (cs : List Value) (off : Nat) (vs : List Value) : lput cs off vs = if off + vs.length ≤ cs.length then some (cs.take off ++ vs ++ cs.drop (off + vs.length)) else none := by
  unfold lput
  by_cases h : off + vs.length ≤ cs.length
  · rw [if_pos h, Nat.ble_eq_true_of_le h]; rfl
  · rw [if_neg h, show Nat.ble (off + vs.length) cs.length = false from Bool.eq_false_iff.2 fun h2 => h (Nat.le_of_ble_eq_true h2)]; rfl

/-! reading and writing objects that are known -/
theorem read_eq {H : Hp} {i : Nat} {cs : List Value} {ro : Bool} (h : H.get i = some (.cells cs ro)) (off n : Nat) : readCells H i off n = lrange cs off n := by
  unfold readCells; rw [h]
theorem write_eq {H : Hp} {i : Nat} {cs : List Value} (h : H.get i = some (.cells cs false)) (hf : H.floor ≤ i) (off : Nat) {vs : List Value} (hv : vs.all oneCell = true) : writeCells H i off vs = (lput cs off vs).map fun cs' => H.setO i (.cells cs' false) := by
  unfold writeCells; rw [h]
  simp only [hv, cond_true]
  cases lput cs off vs with
  | none => rfl
  | some cs' => exact Hp.upd_eq hf _

theorem ld1_eq {H : Hp} {i off : Nat} {cs : List Value} {ro : Bool} (h : H.get i = some (.cells cs ro)) {v : Value} (hv : cs[off]? = some v) : ld1 (P i off) H = some v := by
  simp only [ld1, read_eq h, lrange_eq]
  obtain ⟨hl, hv⟩ := List.getElem?_eq_some_iff.1 hv
  rw [if_pos (by omega), Option.bind_some, List.drop_eq_getElem_cons hl, hv]
  rfl
theorem ldA_eq {H : Hp} {i off n : Nat} {cs : List Value} {ro : Bool} (h : H.get i = some (.cells cs ro)) (hl : off + n ≤ cs.length) : ldA n (P i off) H = some (.agg ((cs.drop off).take n).toArray) := by
  simp only [ldA, read_eq h, lrange_eq]
  rw [if_pos hl]; rfl
theorem st_eq {H : Hp} {i off n : Nat} {cs : List Value} {v : Value} (h : H.get i = some (.cells cs false)) (hf : H.floor ≤ i) (hn : (cellsOf v).length = n) (ho : (cellsOf v).all oneCell = true) (hl : off + n ≤ cs.length) :
    st n (P i off) v H = some (.tuple #[], H.setO i (.cells (cs.take off ++ cellsOf v ++ cs.drop (off + n)) false)) := by
  simp only [st, hn, Nat.beq_refl, cond_true, write_eq h hf off ho, lput_eq]
  rw [if_pos hl]; rfl

/-! what is new, what lies deeper -/
@[simp] theorem add_lit1 (a : Nat) : a + 1 + 1 = a + 2 := id rfl
@[simp] theorem add_lit2 (a : Nat) : a + 2 + 1 = a + 3 := id rfl
@[simp] theorem add_lit3 (a : Nat) : a + 3 + 1 = a + 4 := id rfl
@[simp] theorem add_lit4 (a : Nat) : a + 4 + 1 = a + 5 := id rfl
@[simp] theorem add_lit5 (a : Nat) : a + 5 + 1 = a + 6 := id rfl
@[simp] theorem add_lit6 (a : Nat) : a + 6 + 1 = a + 7 := id rfl
@[simp] theorem add_lit7 (a : Nat) : a + 7 + 1 = a + 8 := id rfl
@[simp] theorem add_lit8 (a : Nat) : a + 8 + 1 = a + 9 := id rfl
@[simp] theorem add_lit9 (a : Nat) : a + 9 + 1 = a + 10 := id rfl
@[simp] theorem add_lit10 (a : Nat) : a + 10 + 1 = a + 11 := id rfl
@[simp] theorem add_lit11 (a : Nat) : a + 11 + 1 = a + 12 := id rfl
@[simp] theorem add_lit12 (a : Nat) : a + 12 + 1 = a + 13 := id rfl
@[simp] theorem add_lit13 (a : Nat) : a + 13 + 1 = a + 14 := id rfl
@[simp] theorem add_lit14 (a : Nat) : a + 14 + 1 = a + 15 := id rfl
@[simp] theorem add_lit15 (a : Nat) : a + 15 + 1 = a + 16 := id rfl
@[simp] theorem add_lit16 (a : Nat) : a + 16 + 1 = a + 17 := id rfl
@[simp] theorem add_lit17 (a : Nat) : a + 17 + 1 = a + 18 := id rfl
@[simp] theorem add_lit18 (a : Nat) : a + 18 + 1 = a + 19 := id rfl
@[simp] theorem add_lit19 (a : Nat) : a + 19 + 1 = a + 20 := id rfl
@[simp] theorem add_lit20 (a : Nat) : a + 20 + 1 = a + 21 := id rfl
@[simp] theorem add_lit21 (a : Nat) : a + 21 + 1 = a + 22 := id rfl
@[simp] theorem add_lit22 (a : Nat) : a + 22 + 1 = a + 23 := id rfl
@[simp] theorem add_lit23 (a : Nat) : a + 23 + 1 = a + 24 := id rfl
@[simp] theorem add_lit24 (a : Nat) : a + 24 + 1 = a + 25 := id rfl
@[simp] theorem add_lit25 (a : Nat) : a + 25 + 1 = a + 26 := id rfl
@[simp] theorem add_lit26 (a : Nat) : a + 26 + 1 = a + 27 := id rfl
@[simp] theorem add_lit27 (a : Nat) : a + 27 + 1 = a + 28 := id rfl
@[simp] theorem add_lit28 (a : Nat) : a + 28 + 1 = a + 29 := id rfl
@[simp] theorem add_lit29 (a : Nat) : a + 29 + 1 = a + 30 := id rfl
@[simp] theorem add_lit30 (a : Nat) : a + 30 + 1 = a + 31 := id rfl
@[simp] theorem add_lit31 (a : Nat) : a + 31 + 1 = a + 32 := id rfl
@[simp] theorem add_lit32 (a : Nat) : a + 32 + 1 = a + 33 := id rfl
@[simp] theorem add_lit33 (a : Nat) : a + 33 + 1 = a + 34 := id rfl
@[simp] theorem add_lit34 (a : Nat) : a + 34 + 1 = a + 35 := id rfl
@[simp] theorem add_lit35 (a : Nat) : a + 35 + 1 = a + 36 := id rfl
@[simp] theorem add_lit36 (a : Nat) : a + 36 + 1 = a + 37 := id rfl
@[simp] theorem add_lit37 (a : Nat) : a + 37 + 1 = a + 38 := id rfl
@[simp] theorem add_lit38 (a : Nat) : a + 38 + 1 = a + 39 := id rfl
@[simp] theorem add_lit39 (a : Nat) : a + 39 + 1 = a + 40 := id rfl
@[simp] theorem add_lit40 (a : Nat) : a + 40 + 1 = a + 41 := id rfl
theorem le_more {a b k : Nat} (h : a ≤ b) : a ≤ b + k := Nat.le_trans h (Nat.le_add_right _ _)
theorem lt_more {a b k : Nat} (h : a < b) : a < b + k := Nat.lt_of_lt_of_le h (Nat.le_add_right _ _)
@[simp] theorem le_more2 {a b k0 k1 : Nat} (h : a ≤ b) : a ≤ b + k0 + k1 := by omega
@[simp] theorem lt_more2 {a b k0 k1 : Nat} (h : a < b) : a < b + k0 + k1 := by omega
@[simp] theorem le_more3 {a b k0 k1 k2 : Nat} (h : a ≤ b) : a ≤ b + k0 + k1 + k2 := by omega
@[simp] theorem lt_more3 {a b k0 k1 k2 : Nat} (h : a < b) : a < b + k0 + k1 + k2 := by omega
@[simp] theorem le_more4 {a b k0 k1 k2 k3 : Nat} (h : a ≤ b) : a ≤ b + k0 + k1 + k2 + k3 := by omega
@[simp] theorem lt_more4 {a b k0 k1 k2 k3 : Nat} (h : a < b) : a < b + k0 + k1 + k2 + k3 := by omega
@[simp] theorem le_more5 {a b k0 k1 k2 k3 k4 : Nat} (h : a ≤ b) : a ≤ b + k0 + k1 + k2 + k3 + k4 := by omega
@[simp] theorem lt_more5 {a b k0 k1 k2 k3 k4 : Nat} (h : a < b) : a < b + k0 + k1 + k2 + k3 + k4 := by omega
@[simp] theorem le_more6 {a b k0 k1 k2 k3 k4 k5 : Nat} (h : a ≤ b) : a ≤ b + k0 + k1 + k2 + k3 + k4 + k5 := by omega
@[simp] theorem lt_more6 {a b k0 k1 k2 k3 k4 k5 : Nat} (h : a < b) : a < b + k0 + k1 + k2 + k3 + k4 + k5 := by omega
@[simp] theorem le_more7 {a b k0 k1 k2 k3 k4 k5 k6 : Nat} (h : a ≤ b) : a ≤ b + k0 + k1 + k2 + k3 + k4 + k5 + k6 := by omega
@[simp] theorem lt_more7 {a b k0 k1 k2 k3 k4 k5 k6 : Nat} (h : a < b) : a < b + k0 + k1 + k2 + k3 + k4 + k5 + k6 := by omega
@[simp] theorem le_more8 {a b k0 k1 k2 k3 k4 k5 k6 k7 : Nat} (h : a ≤ b) : a ≤ b + k0 + k1 + k2 + k3 + k4 + k5 + k6 + k7 := by omega
@[simp] theorem lt_more8 {a b k0 k1 k2 k3 k4 k5 k6 k7 : Nat} (h : a < b) : a < b + k0 + k1 + k2 + k3 + k4 + k5 + k6 + k7 := by omega
theorem ne_of_lt' {a b : Nat} (h : a < b) : a ≠ b := Nat.ne_of_lt h
theorem fresh_ok (H : Hp) (args : List Value) : (H.fresh args).floor ≤ (H.fresh args).next := by
  unfold Hp.fresh
  cases args.all plainV
  · exact Nat.le_refl _
  · exact Nat.le_refl _

theorem ld1_get {H : Hp} {i : Nat} {cs : List Value} {ro : Bool} (h : H.get i = some (.cells cs ro)) (off : Nat) : ld1 (P i off) H = cs[off]? := by
  simp only [ld1, read_eq h, lrange_eq]
  by_cases hl : off + 1 ≤ cs.length
  · rw [if_pos hl, Option.bind_some, List.drop_eq_getElem_cons (by omega), List.getElem?_eq_getElem (by omega)]; rfl
  · rw [if_neg hl, List.getElem?_eq_none (by omega)]; rfl
theorem ldA_get {H : Hp} {i : Nat} {cs : List Value} {ro : Bool} (h : H.get i = some (.cells cs ro)) (n off : Nat) : ldA n (P i off) H = if off + n ≤ cs.length then some (.agg ((cs.drop off).take n).toArray) else none := by
  simp only [ldA, read_eq h, lrange_eq]
  by_cases hl : off + n ≤ cs.length
  · rw [if_pos hl, if_pos hl]; rfl
  · rw [if_neg hl, if_neg hl]; rfl
theorem st_get {H : Hp} {i : Nat} {cs : List Value} (h : H.get i = some (.cells cs false)) (hf : H.floor ≤ i) (n off : Nat) {v : Value} (ho : (cellsOf v).all oneCell = true) :
    st n (P i off) v H = if (cellsOf v).length = n ∧ off + n ≤ cs.length then some (.tuple #[], H.setO i (.cells (cs.take off ++ cellsOf v ++ cs.drop (off + n)) false)) else none := by
  by_cases hn : (cellsOf v).length = n
  · by_cases hl : off + n ≤ cs.length
    · rw [if_pos ⟨hn, hl⟩, st_eq h hf hn ho hl]
    · rw [if_neg (fun h => hl h.2)]
      simp only [st, hn, Nat.beq_refl, cond_true, write_eq h hf off ho, lput_eq]
      rw [if_neg hl]; rfl
  · rw [if_neg (fun h => hn h.1)]
    simp only [st, nbeq_f hn, cond_false]; rfl

section
variable (H : Hp) (cs : List Value) (o : Ob)
@[simp] theorem ld1_new (ro : Bool) {i off : Nat} (hi : i = H.next) : ld1 (P i off) (H.new (.cells cs ro)) = cs[off]? := ld1_get (by rw [Hp.get_new, if_pos hi]) off
@[simp] theorem ld1_skip {i off : Nat} (h : i ≠ H.next) : ld1 (P i off) (H.new o) = ld1 (P i off) H := by
  simp only [ld1, readCells, Hp.get_new, if_neg h]
@[simp] theorem ldA_new (ro : Bool) {n i off : Nat} (hi : i = H.next) : ldA n (P i off) (H.new (.cells cs ro)) = if off + n ≤ cs.length then some (.agg ((cs.drop off).take n).toArray) else none := ldA_get (by rw [Hp.get_new, if_pos hi]) n off
@[simp] theorem ldA_skip {n i off : Nat} (h : i ≠ H.next) : ldA n (P i off) (H.new o) = ldA n (P i off) H := by
  simp only [ldA, readCells, Hp.get_new, if_neg h]
@[simp] theorem st_new {n i off : Nat} {v : Value} (hi : i = H.next) (hf : H.floor ≤ H.next) (ho : (cellsOf v).all oneCell = true) :
    st n (P i off) v (H.new (.cells cs false)) = if (cellsOf v).length = n ∧ off + n ≤ cs.length then some (.tuple #[], H.new (.cells (cs.take off ++ cellsOf v ++ cs.drop (off + n)) false)) else none := by
  rw [st_get (by rw [Hp.get_new, if_pos hi]) (by rw [hi]; simpa using hf) n off ho, Hp.setO_new, if_pos hi]
@[simp] theorem st_skip {n i off : Nat} {v : Value} (h : i ≠ H.next) : st n (P i off) v (H.new o) = B (st n (P i off) v H) fun p => some (p.1, p.2.new o) := by
  simp only [B_bind, st, writeCells, Hp.get_new, if_neg h]
  cases Nat.beq (cellsOf v).length n with
  | false => rfl
  | true =>
    simp only [cond_true]
    cases hg : H.get i with
    | none => rfl
    | some ob =>
      cases ob with
      | cells c ro =>
        cases ro with
        | true => rfl
        | false =>
          simp only
          cases (cellsOf v).all oneCell with
          | false => rfl
          | true =>
            simp only [cond_true]
            cases lput c off (cellsOf v) with
            | none => rfl
            | some c' =>
              simp only [Option.bind_some]
              unfold Hp.upd
              show un (bif Nat.ble H.floor i then some ((H.new o).setO i (.cells c' false)) else none) = _
              rw [Hp.setO_new, if_neg h]
              cases Nat.ble H.floor i <;> rfl
      | _ => rfl
end

@[simp] theorem gv_eq (xs : List Value) (i : Nat) : gv xs i = xs[i]?.getD (.tuple #[]) := by simp [gv]
@[simp] theorem nth_eq (X : List Kx) (i : Nat) : nth X i = X[i]?.getD fun _ _ => none := by simp [nth]
@[simp] theorem fillE_nil (pl : Nat → Option (Nat × Nat)) (cs : List Value) : fillE pl cs [] = some cs := id rfl
@[simp] theorem fillE_cons (pl : Nat → Option (Nat × Nat)) (cs : List Value) (i : Nat) (v : Value) (r : List (Nat × Value)) : fillE pl cs ((i, v) :: r) = B (pl i) fun p => if (cellsOf v).length = p.2 ∧ p.1 + (cellsOf v).length ≤ cs.length then fillE pl (cs.take p.1 ++ cellsOf v ++ cs.drop (p.1 + (cellsOf v).length)) r else none := by
  simp only [fillE, B_bind]
  cases pl i with
  | none => rfl
  | some p =>
    obtain ⟨off, size⟩ := p
    simp only [Option.bind_some, lput_eq]
    by_cases h1 : (cellsOf v).length = size
    · rw [nbeq_t h1, cond_true]
      by_cases h2 : off + (cellsOf v).length ≤ cs.length
      · rw [if_pos h2, if_pos ⟨h1, h2⟩]; rfl
      · rw [if_neg h2, if_neg (fun h => h2 h.2)]; rfl
    · rw [nbeq_f h1, cond_false, if_neg (fun h => h1 h.1)]
@[simp] theorem bd_eq (pl : List (Nat × Nat)) (zs : List Value) (ps : List (Nat × Value)) : bd pl zs ps = B (fillE (fun i => pl[i]?) zs ps) fun cs => some (.agg cs.toArray) := by unfold bd; cases fillE (fun i => pl[i]?) zs ps <;> rfl
@[simp] theorem bdA_eq (n : Nat) (zs : List Value) (ps : List (Nat × Value)) : bdA n zs ps = B (fillE (fun i => some (i * n, n)) zs ps) fun cs => some (.agg cs.toArray) := by unfold bdA; cases fillE (fun i => some (i * n, n)) zs ps <;> rfl
@[simp] theorem fl_agg (off : Nat) (cs : Array Value) : fl off (.agg cs) = cs.toList[off]? := id rfl
@[simp] theorem flA_agg (off n : Nat) (cs : Array Value) : flA off n (.agg cs) = if off + n ≤ cs.toList.length then some (.agg ((cs.toList.drop off).take n).toArray) else none := by
  simp only [flA, lrange_eq]
  by_cases h : off + n ≤ cs.toList.length
  · rw [if_pos h, if_pos h]; rfl
  · rw [if_neg h, if_neg h]; rfl
@[simp] theorem oneCell_int (k : IntKind) (n : Int) : oneCell (.int k n) = true := id rfl
@[simp] theorem oneCell_bool (b : Bool) : oneCell (.bool b) = true := id rfl
@[simp] theorem oneCell_ptr (a : Option Addr) : oneCell (.pointer a) = true := id rfl
@[simp] theorem oneCell_slice (a : Option Addr) (n c : Nat) : oneCell (.slice a n c) = true := id rfl
@[simp] theorem oneCell_string (s : ByteArray) : oneCell (.string s) = true := id rfl
@[simp] theorem oneCell_map (s : Option Nat) : oneCell (.map s) = true := id rfl
@[simp] theorem oneCell_func (f : Fn) (x y : Array Value) : oneCell (.func f x y) = true := id rfl
@[simp] theorem oneCell_nilf : oneCell .nilFunc = true := id rfl
@[simp] theorem cellsOf_nilf : cellsOf .nilFunc = [.nilFunc] := id rfl
@[simp] theorem cl_func (call : CallE) (f : FuncId) (x y : Array Value) (args : List Value) (H : Hp) : cl call (.func (.func f) x y) args H = call (.func f) (x.toList ++ args ++ y.toList) H := id rfl
@[simp] theorem cl_yield (call : CallE) (l : Nat) (args : List Value) (H : Hp) : cl call (.func (.yield l) #[] #[]) args H = call (.yield l) args H := id rfl
end Go.Ahe.X
