/-
  DERIVED. GIVEN WITH THE SEED: THE CARDS: each row of YthfmdomnoheklaaDoorRows.lean that lists a variable, with what it lists TIED to the program's text (the seventh form; the later family's looks); each row that meets fmt, with fmt's text TOLD by the authors' own Lean function (tested against real Go, not proved from fmt's source: count such statements apart). THE CARD IS WHAT COUNTS. Prove the row's statement (the work); the ties are given (YthfmdomnoheklaaDoorTie.lean); close each card by the builder's one call (the guide's Derived/Test/ToyasCard.lean, 'card_holds'). Laid BY PROGRAM, IN A SANDBOX (cutbox-door.mjs). By AI agents, Wed Nov 11 2026. No macro, syntax, notation, axiom, sorry.
-/
import Derived.Test.YthfmdomnoheklaaDoorRows
import GoSem.ClaimSeven
namespace Go.Proofs.YthfmdomnoheklaaDoor
namespace Rows

/-- THE TIED CARD OF 'tenementlaw23.PlanBreaks'. -/
def planBreaksCard : Claim7 := { stood := { row := planBreaksRow, standIns := [], harness := (true, "e14df4ed473ec364c561c656168fc4068f9e8badc331289abf21d89acc7a398c"), looks := false }, kinds := [], alts := [], laidByText := true, laidKinds := [.data], laidTests := true, laidLooks := .later }
def PlanBreaksCardSaid : Prop := Claim7.holds Tryd.pinned (.plain (OpenSpec.ofChange planBreaksSpec)) planBreaksCard

/-- THE SECOND FORM's CARD OF 'tenementlaw23.PlanBreaks'. -/
def planBreaksUptoCard : Claim7 := { stood := { row := planBreaksUptoRow, standIns := [], harness := (true, "e14df4ed473ec364c561c656168fc4068f9e8badc331289abf21d89acc7a398c"), looks := false }, kinds := [], alts := [], laidByText := true, laidKinds := [.data], laidTests := true, laidLooks := .later }
def PlanBreaksUptoCardSaid : Prop := Claim7.holds Tryd.pinned (.plain (OpenSpec.upto planBreaksSpec)) planBreaksUptoCard
end Rows
end Go.Proofs.YthfmdomnoheklaaDoor
