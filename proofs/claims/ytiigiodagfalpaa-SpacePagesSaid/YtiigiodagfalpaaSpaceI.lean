/- The space seat: the laws that stand in for slices.Insert and slices.overlaps are true of the program. -/
import Derived.Test.YtiigiodagfalpaaSpaceY2
import Derived.Test.YtiigiodagfalpaaZaheC
set_option maxRecDepth 100000
set_option maxHeartbeats 2000000
namespace Go.Proofs.Ytiigiodagfalpaa.Y
open Go.Ahe Go.Ahe.X Go.RowKit
theorem size32 (w : World) : (Go.sizeOf 32).run Try.prog w = .ok 3 w := by
  obtain ⟨i, d, z, hi⟩ := fits0.ti T32
  exact hi.run_size w
theorem ext_ok : CallOk Try.prog (extCall C0) := by
  refine ⟨fun {f args H H' v} h {base ι w args'} hr ha => ?_, fun h => by cases h⟩
  have h : (bif Nat.beq f 44 then ovE args H else none) = some (v, H') := h
  obtain ⟨hf, h⟩ := bif_some h
  have hf := nbeq_eq hf
  subst hf
  exact ovE_ok (tR := 4) Try.func44 (by kernel_rfl) (by kernel_rfl) (by kernel_rfl) (by kernel_rfl) Try.underlying22 3 size32 h hr ha
end Go.Proofs.Ytiigiodagfalpaa.Y
namespace Go.Proofs.Ytiigiodagfalpaa.X
open Go.Ahe Go.Ahe.X Go.RowKit

theorem setO_swap {H : Hp} {i : Nat} (hi : i ≠ H.next) (x y : Ob) : ((H.setO i x).new y).setO i .dead = (H.new y).setO i .dead := by
  have h1 : (H.new y).setO i x = (H.setO i x).new y := by rw [Hp.setO_new, if_neg hi]
  rw [← h1, Hp.setO_setO]

theorem ins_ok {i n j k : Nat} {cs xs : List Value} {H : Hp} (hg : H.get i = some (.cells cs false)) (hj : H.get j = some (.cells xs false)) (hij : i ≠ j) (hcs : cs.length = n * 3) (hxs : xs.length = 3) (hn : 1 ≤ n) (hn2 : n ≤ 1000000) (hk : k ≤ n) (hf : H.floor ≤ i) (ho : cs.all oneCell = true) (hox : xs.all oneCell = true)
    {base : Nat} {ι : Emb} {w : World} {args' : Array Value} (hr : Rel base ι H w) (ha : VRs ι [.slice (some ⟨i, 0, some 3⟩) n n, I k, .slice (some ⟨j, 0, none⟩) 1 1] args'.toList) :
    RunsAs Try.prog base ι H ((H.new (.cells (cs.take (k * 3) ++ xs ++ cs.drop (k * 3)) false)).setO i .dead) w (.slice (some ⟨H.next, 0, some 3⟩) (n + 1) (n + 1)) (callFunc 32 args') := by
  obtain ⟨args'⟩ := args'
  cases ha with | cons ha1 ha =>
  cases ha with | cons ha2 ha =>
  cases ha with | cons ha3 ha =>
  cases ha
  rename_i v1 v2' v3
  obtain ⟨b, p, c, S, hι, hc, hv1, he, hS, hSp, hr2, hv2⟩ := cap_known hr hg hcs hn ha1
  have hi' : i < H.next := hr.lt hι
  obtain ⟨b2, p2, q2, c2', hιj, _⟩ := slice_inv ha3
  have hj' : j < H.next := hr.lt hιj
  have hine : i ≠ H.next := Nat.ne_of_lt hi'
  have hb := hr.bnd i b p hι
  have g2 : (H.setO i (.cells (cs ++ S) false)).get i = some (.cells (cs ++ S) false) := by rw [Hp.get_setO, if_pos rfl]
  have g3 : (H.setO i (.cells (cs ++ S) false)).get j = some (.cells xs false) := by rw [Hp.get_setO, if_neg (Ne.symm hij)]; exact hj
  have s32 := Y.S32 (c := c) (S := S) g2 g3 hij hcs hS hxs hn hn2 hk hc hf (show H.floor ≤ H.next from hr.flo) ho hox hi' hj'
  have runs : ∀ {v2 H2'}, Y.call 32 [.slice (some ⟨i, 0, none⟩) n c, I k, .slice (some ⟨j, 0, none⟩) 1 1] (H.setO i (.cells (cs ++ S) false)) = some (v2, H2') → (callFunc 32 ⟨[v1, v2', v3]⟩).run Try.prog w = .ok (.enter 32 ⟨[v1, v2', v3]⟩) w ∧ CallsIn Fence.wide 0 Try.prog 32 ⟨[v1, v2', v3]⟩ w (PostOf base ι (H.setO i (.cells (cs ++ S) false)) H2' w v2) := fun {v2 H2'} hcall => by
    obtain ⟨d, hd⟩ := ev_iff.1 hcall
    exact ((evF_ok Y.fits0 Y.ext_ok d).func hd hr2 (.cons hv2 (.cons ha2 (.cons ha3 .nil)))).enters Y.fits0 Y.fn32
  by_cases hroom : n + 1 ≤ c
  · rw [if_pos hroom] at s32
    obtain ⟨e1, e2⟩ := runs s32
    refine ⟨_, _, e1, e2.mono fun e w' hq => ?_⟩
    cases e with
    | panicked c => exact hq.elim
    | outgrown => exact hq.elim
    | returned v' =>
      obtain ⟨ι', q1, q3, q4⟩ := hq
      rw [Hp.setO_setO] at q3 q4
      have hι' : ι' i = some (b, p) := (q4.emb i hi').trans hι
      have hv' : v' = .slice (some ⟨b, p, none⟩) (n + 1) c := by
        cases q1 with | slice hx => rw [hι'] at hx; cases hx; rfl
      have hszb : ι'.sz b = ι.sz b := q4.ssz b hb
      have hA : (cs.take (k * 3) ++ xs ++ cs.drop (k * 3)).length = (n + 1) * 3 := by simp; omega
      obtain ⟨ι'', r1, r2, r3⟩ := cap_gone q3 (i := i) (A := cs.take (k * 3) ++ xs ++ cs.drop (k * 3)) (S := S.drop 3) (by rw [Hp.get_setO, if_pos rfl]) hA (List.all_eq_true.2 fun v hv => List.all_eq_true.1 hSp v (List.mem_of_mem_drop hv)) hι' (he.trans hszb.symm) hroom hf
      rw [setO_swap hine] at r2 r3
      refine ⟨ι'', by rw [hv']; exact r1, r2, step_known (o' := .cells (cs ++ S) false) hg rfl hf (q4.trans r3)⟩
  · rw [if_neg hroom] at s32
    obtain ⟨e1, e2⟩ := runs s32
    refine ⟨_, _, e1, e2.mono fun e w' hq => ?_⟩
    cases e with
    | panicked c => exact hq.elim
    | outgrown => exact hq.elim
    | returned v' =>
      obtain ⟨ι', q1, q3, q4⟩ := hq
      have gi : ((H.setO i (.cells (cs ++ S) false)).new (.cells (cs.take (k * 3) ++ xs ++ cs.drop (k * 3)) false)).get i = some (.cells (cs ++ S) false) := by
        rw [Hp.get_new, if_neg (show i ≠ (H.setO i (.cells (cs ++ S) false)).next from hine)]; exact g2
      obtain ⟨r2, r3⟩ := rel_die q3 gi hf
      rw [setO_swap hine] at r2 r3
      exact ⟨ι', q1, r2, step_known (o' := .cells (cs ++ S) false) hg rfl hf (q4.trans r3)⟩

theorem ext_ok : CallOk Try.prog (extCall C0) := by
  refine ⟨fun {f args H H' v} h {base ι w args'} hr ha => ?_, fun h => by cases h⟩
  replace h : (bif Nat.beq f 32 then insE args H else none) = some (v, H') := h
  replace h := bif_some h
  obtain ⟨hf, h⟩ := h
  have hf := nbeq_eq hf
  subst hf
  unfold insE at h
  split at h
  · rename_i i n n' k j
    split at h
    · rename_i cs xs hg hj
      replace h := bif_some h
      obtain ⟨hb, h⟩ := h
      rw [Option.some.injEq, Prod.mk.injEq] at h
      obtain ⟨h1, h2⟩ := h
      rw [← h1, ← h2]
      simp only [Bool.and_eq_true, Bool.not_eq_true'] at hb
      obtain ⟨⟨b1, b2, b3⟩, ⟨b4, b5, b6⟩, ⟨b7, b8⟩, b9, b10⟩ := hb
      have := nbeq_eq b1; subst this
      have hij : i ≠ j := fun e => by subst e; rw [Nat.beq_refl] at b8; cases b8
      exact ins_ok hg hj hij (nbeq_eq b5) (nbeq_eq b6) (nble_le b2) (nble_le b3) (nble_le b4) (nble_le b7) b9 b10 hr ha
    · cases h
  · obtain ⟨d, hd⟩ := ev_iff.1 h
    exact (evF_ok Y.fits0 Y.ext_ok d).func hd hr ha
end Go.Proofs.Ytiigiodagfalpaa.X
