/-
  AHE, 6: more operations on values.
-/
import Derived.Test.YthfmdomnoheklaaDoorZaheVal
namespace Go.Ahe
open Go.RowKit
section
variable {P : Program} {C : Ctx} (hC : Fits C P) {ι : Emb} {w : World}
include hC

theorem eqGuard_run {d : Nat} {op : BinOp} {t : TypeId} {ti : TI} (ht : C.T t = some ti) (x y : Operand) {a b a' b' : Value} (ha : VR ι a a') (hb : VR ι b b') {r : Bool} (h : eqIn C (d + 1) t a b = some r) :
    (eqGuard op t x y a' b').run P w = .ok () w := by
  by_cases hop : op = .eql ∨ op = .neq
  · cases ha with
    | nili =>
      exfalso
      rw [eqIn, ht] at h
      simp only at h
      split at h <;> first | (cases h; done) | simp_all
    | agg ha =>
      obtain ⟨i, dd, z, hi⟩ := hC.ti ht
      have hd := hi.desc
      have hg : P.eqGuardType P.depth t = false := by
        rw [eqIn, ht] at h
        simp only at h
        have hkk := hi.kind
        cases hk : ti.kind <;> rw [hk] at h hd hkk <;> first
          | (obtain ⟨F, rfl, _, h1, _⟩ := hd; exact h1)
          | (simp only at hd; subst hd; exact (mkKind_array hkk).1)
          | (cases h; done)
      cases hb with
      | agg hb => rcases hop with rfl | rfl <;> simp [eqGuard, hg]
      | _ => rcases hop with rfl | rfl <;> rfl
    | _ => rcases hop with rfl | rfl <;> rfl
  · cases op <;> first | rfl | (exact absurd (.inl rfl) hop) | (exact absurd (.inr rfl) hop)

omit hC in
theorem binOp_eql {t : TypeId} {a b : Value} (h1 : ∀ k n, a ≠ .int k n) (h1' : ∀ k n, a ≠ .float k n) (h1'' : ∀ k n m, a ≠ .complex k n m) (h2 : ∀ s s', ¬ (a = .string s ∧ b = .string s')) :
    binOp .eql t a b = (do pure (.bool (← Op.equal t a b))) := by
  unfold binOp
  split <;> first | rfl | (exact absurd rfl (h1 _ _)) | (exact absurd rfl (h1' _ _)) | (exact absurd rfl (h1'' _ _ _)) | (exact absurd ⟨rfl, rfl⟩ (h2 _ _)) | (exfalso; simp_all; done)
omit hC in
theorem binOp_neq {t : TypeId} {a b : Value} (h1 : ∀ k n, a ≠ .int k n) (h1' : ∀ k n, a ≠ .float k n) (h1'' : ∀ k n m, a ≠ .complex k n m) (h2 : ∀ s s', ¬ (a = .string s ∧ b = .string s')) :
    binOp .neq t a b = (do pure (.bool (!(← Op.equal t a b)))) := by
  unfold binOp
  split <;> first | rfl | (exact absurd rfl (h1 _ _)) | (exact absurd rfl (h1' _ _)) | (exact absurd rfl (h1'' _ _ _)) | (exact absurd ⟨rfl, rfl⟩ (h2 _ _)) | (exfalso; simp_all; done)


theorem binE_run {op : BinOp} {t : TypeId} {x y : Operand} {a b a' b' v : Value} (ha : VR ι a a') (hb : VR ι b b') (h : binE C op t a b = some v) :
    ∃ v', (do eqGuard op t x y a' b'; binOp op t a' b' : Sem Value).run P w = .ok v' w ∧ VR ι v v' := by
  unfold binE at h
  split at h
  · rename_i k a k' b
    cases ha; cases hb
    have hg : ∀ k n u, (eqGuard op t x y (.int k n) u).run P w = .ok () w := fun k n u => by cases op <;> rfl
    simp only [Sem.run_bind, hg, Result.andThen_ok]
    split at h
    · have h1 : ∀ (yk : IntKind), (binOp .shl t (.int k a) (.int yk b)).run P w = .ok v w := fun yk => shiftE_run (yk := yk) h P w
      refine ⟨v, h1 k', ?_⟩
      unfold shiftE at h; split at h
      · cases h
      · simp only [Option.some.injEq] at h; subst h; exact .int _ _
    · have h1 : ∀ (yk : IntKind), (binOp .shr t (.int k a) (.int yk b)).run P w = .ok v w := fun yk => shiftE_run (yk := yk) h P w
      refine ⟨v, h1 k', ?_⟩
      unfold shiftE at h; split at h
      · cases h
      · simp only [Option.some.injEq] at h; subst h; exact .int _ _
    · rename_i h1 h2
      split at h
      · rename_i e; subst e
        rw [hC.lt, hC.eqi] at h
        refine ⟨v, intBin_run ⟨h1, h2⟩ h P t w, ?_⟩
        unfold intBin bitsE at h
        cases op <;> simp only [Option.some.injEq] at h <;> first | (subst h; constructor; done) | (split at h <;> first | (cases h; done) | (simp only [Option.some.injEq] at h; subst h; constructor; done)) | cases h
      · cases h
  · cases ha; cases hb
    have hg : ∀ s u, (eqGuard op t x y (.string s) u).run P w = .ok () w := fun s u => by cases op <;> rfl
    simp only [Sem.run_bind, hg, Result.andThen_ok]
    cases op <;> simp only [Option.some.injEq] at h <;> first | (cases h; done) | skip
    · rename_i s1 s2
      cases hb : Nat.ble (s1.size + s2.size) 9223372036854775807 with
      | false => rw [hb, cond_false] at h; cases h
      | true =>
        rw [hb, cond_true] at h; cases h
        have := Nat.le_of_ble_eq_true hb
        refine ⟨_, ?_, .string _⟩
        simp only [binOp, Op.stringOp, IntKind.max_i64]
        rw [if_neg (by omega)]
        rfl
    all_goals (subst h; exact ⟨_, rfl, .bool _⟩)
  · rename_i hn1 hn2
    have h2 : ∀ s s', ¬ (a' = .string s ∧ b' = .string s') := by
      rintro s s' ⟨rfl, rfl⟩
      cases ha; cases hb
      exact hn2 _ _ rfl rfl
    have hE : ∃ r, eqIn C 30 t a b = some r := by
      cases op <;> simp only [Option.map_eq_some_iff] at h <;> first | (obtain ⟨r, hr, _⟩ := h; exact ⟨r, hr⟩) | cases h
    obtain ⟨r, hr⟩ := hE
    obtain ⟨ti, ht⟩ : ∃ ti, C.T t = some ti := by
      cases hT : C.T t with
      | none => rw [eqIn, hT] at hr; cases hr
      | some ti => exact ⟨ti, rfl⟩
    have hg := eqGuard_run hC (d := 29) (op := op) (w := w) ht x y ha hb hr
    have hq : (Op.equal t a' b').run P w = .ok r w := eqIn_run hC 30 Op.maxDepth (by decide) t a b a' b' r hr ha hb w
    have hint : ∀ k n, a' ≠ .int k n := by
      rintro k n rfl
      cases ha
      rw [eqIn, ht] at hr
      simp only at hr
      split at hr <;> first | (cases hr; done) | skip
      all_goals first | (cases hb; exact hn1 _ _ _ _ rfl rfl) | (exfalso; simp_all; done)
    have hfl : ∀ k n, a' ≠ .float k n := by rintro k n rfl; cases ha
    have hco : ∀ k n m, a' ≠ .complex k n m := by rintro k n m rfl; cases ha
    simp only [Sem.run_bind, hg, Result.andThen_ok]
    cases op <;> simp only [Option.map_eq_some_iff] at h <;> first | (cases h; done) | skip
    · obtain ⟨r', hr', rfl⟩ := h
      rw [hr] at hr'; cases hr'
      rw [binOp_eql hint hfl hco h2]
      exact ⟨_, by simp only [Sem.run_bind, hq, Result.andThen_ok, Sem.run_pure], .bool _⟩
    · obtain ⟨r', hr', rfl⟩ := h
      rw [hr] at hr'; cases hr'
      rw [binOp_neq hint hfl hco h2]
      exact ⟨_, by simp only [Sem.run_bind, hq, Result.andThen_ok, Sem.run_pure], .bool _⟩

omit hC in
theorem unE_run {op : UnOp} {a a' v : Value} (ha : VR ι a a') (h : unE op a = some v) : ∃ v', (Op.unary op a').run P w = .ok v' w ∧ VR ι v v' := by
  unfold unE at h
  split at h
  · cases ha; cases h; exact ⟨_, rfl, .int _ _⟩
  · cases ha
    refine ⟨v, bitsE_run h P w, ?_⟩
    simp only [bitsE, Option.some.injEq] at h; subst h; exact .int _ _
  · cases ha; cases h; exact ⟨_, rfl, .bool _⟩
  · cases h

theorem convE_run {s t : TypeId} {a a' v : Value} (ha : VR ι a a') (h : convE C s t a = some v) : ∃ v', (convert s t a').run P w = .ok v' w ∧ VR ι v v' := by
  unfold convE at h
  split at h
  · rename_i si di hsi hdi
    obtain ⟨i1, d1, z1, h1⟩ := hC.ti hsi
    obtain ⟨i2, d2, z2, h2⟩ := hC.ti hdi
    have hd := h2.desc
    simp only [convert, Sem.run_bind, h1.run_under, h2.run_under, Result.andThen_ok]
    split at h
    · rename_i hk; rw [hk] at hd; simp only at hd; subst hd
      cases ha; cases h
      refine ⟨_, ?_, .int _ _⟩
      cases d1 <;> rfl
    · rename_i hk; rw [hk] at hd; simp only at hd; subst hd
      cases ha; cases h
      refine ⟨_, ?_, .string _⟩
      cases d1 <;> rfl
    · cases h
  · cases h

omit hC in
theorem extractE_run {k : Nat} {a a' v : Value} (ha : VR ι a a') (h : extractE a k = some v) : ∃ v', (Instr.extract a' k).run P w = .ok v' w ∧ VR ι v v' := by
  unfold extractE at h
  split at h
  · cases ha with | tuple ha =>
    obtain ⟨v', h1, h2⟩ := ha.get? h
    rw [Array.getElem?_toList] at h1
    refine ⟨v', ?_, h2⟩
    simp [Instr.extract, h1]
  · cases h

theorem fieldE_run {t : TypeId} {f : Nat} {a a' v : Value} (ha : VR ι a a') (h : fieldE C t a f = some v) : ∃ v', (Instr.field t a' f).run P w = .ok v' w ∧ VR ι v v' := by
  unfold fieldE at h
  split at h
  · rename_i ti hti
    obtain ⟨i, d, z, hi⟩ := hC.ti hti
    have hd := hi.desc
    split at h
    · rename_i hk; rw [hk] at hd
      obtain ⟨F, rfl, rfl, _, _⟩ := hd
      cases ha with | agg ha =>
      simp only [Option.bind_eq_some_iff] at h
      obtain ⟨fd, hfd, ft, hft, hp⟩ := h
      rw [List.getElem?_map, Option.map_eq_some_iff] at hfd
      obtain ⟨fx, hfx, rfl⟩ := hfd
      rw [Array.getElem?_toList] at hfx
      obtain ⟨v', h1, h2⟩ := partE_run hC (w := w) hft ha hp
      refine ⟨v', ?_, h2⟩
      simp only [Instr.field, Sem.run_bind, hi.run_under, Result.andThen_ok, hfx, asAgg, Sem.run_pure]
      exact h1
    · cases h
  · cases h

theorem fieldAddrE_run {t : TypeId} {f : Nat} {a a' v : Value} (ha : VR ι a a') (h : fieldAddrE C t a f = some v) : ∃ v', (Instr.fieldAt t a' f).run P w = .ok v' w ∧ VR ι v v' := by
  unfold fieldAddrE at h
  split at h
  · rename_i ti hti
    obtain ⟨i, d, z, hi⟩ := hC.ti hti
    have hd := hi.desc
    split at h
    · rename_i _ io o hk; rw [hk] at hd
      obtain ⟨F, rfl, rfl, _, _⟩ := hd
      cases ha with | @ptr _ _ b p ha =>
      simp only [Option.bind_eq_some_iff] at h
      obtain ⟨fd, hfd, ft, hft, hp⟩ := h
      rw [List.getElem?_map, Option.map_eq_some_iff] at hfd
      obtain ⟨fx, hfx, rfl⟩ := hfd
      rw [Array.getElem?_toList] at hfx
      obtain ⟨i2, d2, z2, h2⟩ := hC.ti hft
      cases hb : Nat.ble 1 ft.size with
      | false => rw [hb, cond_false] at hp; cases hp
      | true =>
        rw [hb, cond_true] at hp; cases hp
        have hne : ft.size ≠ 0 := by have := Nat.le_of_ble_eq_true hb; omega
        refine ⟨.pointer (some ⟨b, p + (o + fx.offset), none⟩), ?_, .ptr ha⟩
        simp only [Instr.fieldAt, Sem.run_bind, hi.run_under, Result.andThen_ok, hfx, Instr.sureAddr, Sem.run_pure, fieldPlace]
        have h2' := h2.run_size w
        simp only at h2'
        simp only [h2', Result.andThen_ok, hne, if_false, Sem.run_ite, Sem.run_pure, Addr.add_lit, Nat.add_assoc]
    · cases h
  · cases h

omit hC in
theorem nat?_some {ix ix' : Value} {k : Nat} (hi : VR ι ix ix') (h : nat? ix = some k) : ∃ ik, ix' = .int ik (k : Int) := by
  unfold nat? at h
  split at h
  · cases hi
    split at h
    · rename_i kk n hn
      cases h
      exact ⟨kk, by rw [Int.toNat_of_nonneg hn]⟩
    · cases h
  · cases h

theorem indexAddrE_run {t : TypeId} {a a' ix ix' v : Value} (ha : VR ι a a') (hx : VR ι ix ix') (h : indexAddrE C t a ix = some v) : ∃ v', (Instr.indexAt t a' ix').run P w = .ok v' w ∧ VR ι v v' := by
  unfold indexAddrE at h
  split at h
  · rename_i ti k hti hk
    obtain ⟨i, d, z, hi⟩ := hC.ti hti
    have hd := hi.desc
    obtain ⟨ik, rfl⟩ := nat?_some hx hk
    split at h
    · rename_i n el io o hkd; rw [hkd] at hd; simp only at hd; subst hd
      cases ha with | @ptr _ _ b p ha =>
      rw [Option.bind_eq_some_iff] at h
      obtain ⟨et, het, h⟩ := h
      obtain ⟨i2, d2, z2, h2⟩ := hC.ti het
      cases hb : Nat.blt k n with
      | false => rw [hb, cond_false] at h; cases h
      | true =>
        rw [hb, cond_true] at h; cases h
        have hlt : k < n := by simpa using hb
        refine ⟨_, ?_, .ptr (o := o + k * et.size) ha⟩
        have hc : (0 : Int) ≤ (k : Int) ∧ (k : Int) < (n : Int) := ⟨by omega, by omega⟩
        simp only [Instr.indexAt, Sem.run_bind, asIntOf, Sem.run_pure, hi.run_under, Result.andThen_ok, Instr.sureAddr, hc, and_self, if_true, h2.run_size, Sem.run_ite, Addr.add_lit, Int.toNat_natCast, Nat.add_assoc]
    · rename_i el io o sp len cap hkd; rw [hkd] at hd; simp only at hd; subst hd
      rw [Option.bind_eq_some_iff] at h
      obtain ⟨et, het, h⟩ := h
      obtain ⟨i2, d2, z2, h2⟩ := hC.ti het
      cases hb : Nat.blt k len with
      | false => rw [hb, cond_false] at h; cases h
      | true =>
        rw [hb, cond_true] at h; cases h
        have hlt : k < len := by simpa using hb
        have hc : (0 : Int) ≤ (k : Int) ∧ (k : Int) < (len : Int) := ⟨by omega, by omega⟩
        cases ha with
        | slice ha =>
          refine ⟨_, ?_, .ptr (o := o + k * et.size) ha⟩
          simp only [Instr.indexAt, Sem.run_bind, asIntOf, Sem.run_pure, hi.run_under, Result.andThen_ok, hc, and_self, if_true, h2.run_size, Sem.run_ite, Addr.add_lit, Int.toNat_natCast, Nat.add_assoc]
        | sliceU ha hll hcc hq hee =>
          rcases hq with hq | hq
          · omega
          · subst hq
            refine ⟨_, ?_, .ptr (o := o + k * et.size) ha⟩
            simp only [Instr.indexAt, Sem.run_bind, asIntOf, Sem.run_pure, hi.run_under, Result.andThen_ok, hc, and_self, if_true, h2.run_size, Sem.run_ite, Addr.add_lit, Int.toNat_natCast, Nat.add_assoc]
    · cases h
  · cases h

theorem indexE_run {t : TypeId} {a a' ix ix' v : Value} (ha : VR ι a a') (hx : VR ι ix ix') (h : indexE C t a ix = some v) : ∃ v', (Instr.index t a' ix').run P w = .ok v' w ∧ VR ι v v' := by
  unfold indexE at h
  split at h
  · rename_i ti k hti hk
    obtain ⟨i, d, z, hi⟩ := hC.ti hti
    have hd := hi.desc
    obtain ⟨ik, rfl⟩ := nat?_some hx hk
    split at h
    · rename_i n el _ hkd; rw [hkd] at hd; simp only at hd; subst hd
      cases ha with | agg ha =>
      rw [Option.bind_eq_some_iff] at h
      obtain ⟨et, het, h⟩ := h
      obtain ⟨i2, d2, z2, h2⟩ := hC.ti het
      cases hb : Nat.blt k n with
      | false => rw [hb, cond_false] at h; cases h
      | true =>
        rw [hb, cond_true] at h
        have hlt : k < n := by simpa using hb
        have hc : (0 : Int) ≤ (k : Int) ∧ (k : Int) < (n : Int) := ⟨by omega, by omega⟩
        obtain ⟨v', h1, h3⟩ := partE_run hC (w := w) het ha h
        refine ⟨v', ?_, h3⟩
        simp only [Instr.index, Sem.run_bind, asIntOf, Sem.run_pure, hi.run_under, Result.andThen_ok, hc, and_self, if_true, h2.run_size, Int.toNat_natCast]
        exact h1
    · rename_i hkd; rw [hkd] at hd; simp only at hd; subst hd
      cases ha
      rw [Option.map_eq_some_iff] at h
      obtain ⟨b, hb, rfl⟩ := h
      refine ⟨_, ?_, .int _ _⟩
      have hc : (0 : Int) ≤ (k : Int) := by omega
      simp only [Instr.index, Sem.run_bind, asIntOf, Sem.run_pure, hi.run_under, Result.andThen_ok, hc, if_true, Int.toNat_natCast, hb]
    · cases h
  · cases h

end
end Go.Ahe
