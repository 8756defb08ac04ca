/-
  No cell of these rows narrows 'for every input' (looked for: loops, veiled, ifaces, maps, wideKeys, modest, calm, conditions, laid).
  DERIVED. THE GIVEN ROWS OF THIS SEAT. 4 by the template 'for every input the law returns true; each argument reads behind the call as it read before'; 0 by the template 'total and deterministic' (their statements: YtbipfjcfggdjiaaTotals.lean).
  GIVEN WITH THE SEED: the statements are not yours to turn. If you find one false, say at which input.
  Laid BY PROGRAM, IN A SANDBOX (cutbox-rows.mjs): the forced cells as the released guide's own fill.sh prints them over the translation ccc508cff1d869de… (all of the seat's roots in one cut). By AI agents, Wed Nov 11 2026. No macro, syntax, notation, axiom, sorry.
-/
import Derived.Test.YtbipfjcfggdjiaaChecked
import GoSem.Claim
import GoSem.ClaimJoined
import GoSem.ClaimMapViews
import Derived.JoinedTies
import Derived.KernelRfl
namespace Go.Proofs.Ytbipfjcfggdjiaa
/- THE CELL 'sum', in the pinned program and in every row, IS THE sha256 OF THE DUMP (.gsa) THAT YtbipfjcfggdjiaaProg.lean LOADS. Nothing in Lean hashes anything: it is a label: what it is worth is what the hold of that sum in a sandbox is worth. -/
noncomputable def Try.pinned : Pinned := { name := "ytbipfjcfggdjiaa", sum := "ccc508cff1d869dedc86fe3af60be2efdf9c1b76ea57ea5449fc2ccbc8865fb3", checked := Try.checked }
namespace Rows
def none {H : Type} : Left H := { results := [], args := [] }

/-- 'tenementlaw03.DescTouch': WHATEVER THE INPUT: true; the input reads as it did. -/
def descTouchSpec : ChangeSpec := { name := "descTouch", fn := fun _ => fun
  | [d1, d2] => { results := [.lit (.bool true)], args := [d1, d2] }
  | _ => none }
def descTouchRow : OpenClaim := { program := "ytbipfjcfggdjiaa", sum := "ccc508cff1d869dedc86fe3af60be2efdf9c1b76ea57ea5449fc2ccbc8865fb3", func := "tenement/tenementlaw03.DescTouch", spec := "descTouch", unfollowed := true, recurses := true, apart := false }
def DescTouchSaid : Prop := descTouchRow.holds Try.pinned (OpenSpec.ofChange descTouchSpec)

/-- ITS FALSE NEIGHBOUR: 'it returns false'. Refute it at one input. -/
def descTouchWrong : ChangeSpec := { name := "descTouch", fn := fun _ => fun
  | [d1, d2] => { results := [.lit (.bool false)], args := [d1, d2] }
  | _ => none }
def DescTouchWrongFalsely : Prop := descTouchRow.holds Try.pinned (OpenSpec.ofChange descTouchWrong)

/-- 'tenementlaw03.DescBack': WHATEVER THE INPUT: true; the input reads as it did. -/
def descBackSpec : ChangeSpec := { name := "descBack", fn := fun _ => fun
  | [d1, d2, d3] => { results := [.lit (.bool true)], args := [d1, d2, d3] }
  | _ => none }
def descBackRow : OpenClaim := { program := "ytbipfjcfggdjiaa", sum := "ccc508cff1d869dedc86fe3af60be2efdf9c1b76ea57ea5449fc2ccbc8865fb3", func := "tenement/tenementlaw03.DescBack", spec := "descBack", unfollowed := true, recurses := true, apart := false }
def DescBackSaid : Prop := descBackRow.holds Try.pinned (OpenSpec.ofChange descBackSpec)

/-- ITS FALSE NEIGHBOUR: 'it returns false'. Refute it at one input. -/
def descBackWrong : ChangeSpec := { name := "descBack", fn := fun _ => fun
  | [d1, d2, d3] => { results := [.lit (.bool false)], args := [d1, d2, d3] }
  | _ => none }
def DescBackWrongFalsely : Prop := descBackRow.holds Try.pinned (OpenSpec.ofChange descBackWrong)

/-- 'tenementlaw03.DescOne': WHATEVER THE INPUT: true; the input reads as it did. -/
def descOneSpec : ChangeSpec := { name := "descOne", fn := fun _ => fun
  | [d1, d2, d3] => { results := [.lit (.bool true)], args := [d1, d2, d3] }
  | _ => none }
def descOneRow : OpenClaim := { program := "ytbipfjcfggdjiaa", sum := "ccc508cff1d869dedc86fe3af60be2efdf9c1b76ea57ea5449fc2ccbc8865fb3", func := "tenement/tenementlaw03.DescOne", spec := "descOne", unfollowed := true, recurses := true, apart := false }
def DescOneSaid : Prop := descOneRow.holds Try.pinned (OpenSpec.ofChange descOneSpec)

/-- ITS FALSE NEIGHBOUR: 'it returns false'. Refute it at one input. -/
def descOneWrong : ChangeSpec := { name := "descOne", fn := fun _ => fun
  | [d1, d2, d3] => { results := [.lit (.bool false)], args := [d1, d2, d3] }
  | _ => none }
def DescOneWrongFalsely : Prop := descOneRow.holds Try.pinned (OpenSpec.ofChange descOneWrong)

/-- 'tenementlaw03.DescTells': WHATEVER THE INPUT: true; the input reads as it did. -/
def descTellsSpec : ChangeSpec := { name := "descTells", fn := fun _ => fun
  | [d1, d2, d3, d4] => { results := [.lit (.bool true)], args := [d1, d2, d3, d4] }
  | _ => none }
def descTellsRow : OpenClaim := { program := "ytbipfjcfggdjiaa", sum := "ccc508cff1d869dedc86fe3af60be2efdf9c1b76ea57ea5449fc2ccbc8865fb3", func := "tenement/tenementlaw03.DescTells", spec := "descTells", unfollowed := true, recurses := true, apart := false }
def DescTellsSaid : Prop := descTellsRow.holds Try.pinned (OpenSpec.ofChange descTellsSpec)

/-- ITS FALSE NEIGHBOUR: 'it returns false'. Refute it at one input. -/
def descTellsWrong : ChangeSpec := { name := "descTells", fn := fun _ => fun
  | [d1, d2, d3, d4] => { results := [.lit (.bool false)], args := [d1, d2, d3, d4] }
  | _ => none }
def DescTellsWrongFalsely : Prop := descTellsRow.holds Try.pinned (OpenSpec.ofChange descTellsWrong)

/- THE SECOND FORM. 'bulk': how many values and letters a reading holds, each counted each time it is reached (what is shared counts as often as it is met; a slice's spare places count too). A statement '..UptoSaid' is the law's where the arguments, and the package variables that the reading takes, are together of bulk at most 1048576: NARROWER than '..Said'. Prove '..Said' where nothing that the law and all that it calls make is longer than what came in: it says more and counts as full. Else prove '..UptoSaid'. A law counts once. -/
mutual
def uptoBulk {H : Type} : DataW H → Nat
  | .lit (.string bytes) => bytes.length + 1
  | .lit _ => 1
  | .nil => 1
  | .ptr d => uptoBulk d + 1
  | .slice elems spare => uptoBulkAll elems + uptoBulkAll spare + 1
  | .agg parts => uptoBulkAll parts + 1
  | .iface _ d => uptoBulk d + 1
  | .map entries => uptoBulkEntries entries + 1
  | .held _ => 1
def uptoBulkAll {H : Type} : List (DataW H) → Nat
  | [] => 0
  | d :: r => uptoBulk d + uptoBulkAll r
def uptoBulkEntries {H : Type} : List (Lit × DataW H) → Nat
  | [] => 0
  | x :: r => uptoBulkEntry x + uptoBulkEntries r
def uptoBulkEntry {H : Type} : Lit × DataW H → Nat
  | (.string bytes, d) => bytes.length + uptoBulk d + 1
  | (_, d) => uptoBulk d + 1
 end
def uptoSmall : (H : Type) → List (DataW H) → Bool := fun _ ds => decide (uptoBulkAll ds ≤ 1048576)
def OpenSpec.upto (s : _root_.Go.ChangeSpec) : _root_.Go.OpenSpec := { _root_.Go.OpenSpec.ofChange s with cond := some uptoSmall }

/-- 'tenementlaw03.DescTouch', WHERE WHAT IT READS IS OF BULK AT MOST 1048576: true; the input reads as it did. -/
def descTouchUptoRow : OpenClaim := { program := "ytbipfjcfggdjiaa", sum := "ccc508cff1d869dedc86fe3af60be2efdf9c1b76ea57ea5449fc2ccbc8865fb3", func := "tenement/tenementlaw03.DescTouch", spec := "descTouch", unfollowed := true, recurses := true, apart := false, narrowed := true }
def DescTouchUptoSaid : Prop := descTouchUptoRow.holds Try.pinned (OpenSpec.upto descTouchSpec)

/-- 'tenementlaw03.DescBack', WHERE WHAT IT READS IS OF BULK AT MOST 1048576: true; the input reads as it did. -/
def descBackUptoRow : OpenClaim := { program := "ytbipfjcfggdjiaa", sum := "ccc508cff1d869dedc86fe3af60be2efdf9c1b76ea57ea5449fc2ccbc8865fb3", func := "tenement/tenementlaw03.DescBack", spec := "descBack", unfollowed := true, recurses := true, apart := false, narrowed := true }
def DescBackUptoSaid : Prop := descBackUptoRow.holds Try.pinned (OpenSpec.upto descBackSpec)

/-- 'tenementlaw03.DescOne', WHERE WHAT IT READS IS OF BULK AT MOST 1048576: true; the input reads as it did. -/
def descOneUptoRow : OpenClaim := { program := "ytbipfjcfggdjiaa", sum := "ccc508cff1d869dedc86fe3af60be2efdf9c1b76ea57ea5449fc2ccbc8865fb3", func := "tenement/tenementlaw03.DescOne", spec := "descOne", unfollowed := true, recurses := true, apart := false, narrowed := true }
def DescOneUptoSaid : Prop := descOneUptoRow.holds Try.pinned (OpenSpec.upto descOneSpec)

/-- 'tenementlaw03.DescTells', WHERE WHAT IT READS IS OF BULK AT MOST 1048576: true; the input reads as it did. -/
def descTellsUptoRow : OpenClaim := { program := "ytbipfjcfggdjiaa", sum := "ccc508cff1d869dedc86fe3af60be2efdf9c1b76ea57ea5449fc2ccbc8865fb3", func := "tenement/tenementlaw03.DescTells", spec := "descTells", unfollowed := true, recurses := true, apart := false, narrowed := true }
def DescTellsUptoSaid : Prop := descTellsUptoRow.holds Try.pinned (OpenSpec.upto descTellsSpec)

end Rows
end Go.Proofs.Ytbipfjcfggdjiaa
