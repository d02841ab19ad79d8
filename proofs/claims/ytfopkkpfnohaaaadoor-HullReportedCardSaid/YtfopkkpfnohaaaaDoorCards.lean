/-
  DERIVED. GIVEN WITH THE SEED: THE CARDS: each row of YtfopkkpfnohaaaaDoorRows.lean that lists a variable, with what it lists TIED to the program's text (the seventh form; the later family's looks); each row that meets fmt, with fmt's text TOLD by the authors' own Lean function (tested against real Go, not proved from fmt's source: count such statements apart). THE CARD IS WHAT COUNTS. Prove the row's statement (the work); the ties are given (YtfopkkpfnohaaaaDoorTie.lean); close each card by the builder's one call (the guide's Derived/Test/ToyasCard.lean, 'card_holds'). Laid BY PROGRAM, IN A SANDBOX (cutbox-door.mjs). By AI agents, Wed Nov 11 2026. No macro, syntax, notation, axiom, sorry.
-/
import Derived.Test.YtfopkkpfnohaaaaDoorRows
import GoSem.ClaimSeven
namespace Go.Proofs.YtfopkkpfnohaaaaDoor
namespace Rows

/-- THE TIED CARD OF 'polynyalaw03.HullReported'. -/
def hullReportedCard : Claim7 := { stood := { row := hullReportedRow, standIns := [], harness := (true, "47dcfbc690669290bba7c8ff3ee6b5db8e0d80e470d3721d75ecd16912ba04f8"), looks := false }, kinds := [], alts := [], laidByText := true, laidKinds := [.data], laidTests := true, laidLooks := .later }
def HullReportedCardSaid : Prop := Claim7.holds Tryd.pinned (.plain (OpenSpec.ofChange hullReportedSpec)) hullReportedCard

/-- THE SECOND FORM's CARD OF 'polynyalaw03.HullReported'. -/
def hullReportedUptoCard : Claim7 := { stood := { row := hullReportedUptoRow, standIns := [], harness := (true, "47dcfbc690669290bba7c8ff3ee6b5db8e0d80e470d3721d75ecd16912ba04f8"), looks := false }, kinds := [], alts := [], laidByText := true, laidKinds := [.data], laidTests := true, laidLooks := .later }
def HullReportedUptoCardSaid : Prop := Claim7.holds Tryd.pinned (.plain (OpenSpec.upto hullReportedSpec)) hullReportedUptoCard
end Rows
end Go.Proofs.YtfopkkpfnohaaaaDoor
