/-
  DERIVED. GIVEN WITH THE SEED: THE CARDS: each row of YtndfimiglchpoaaGreatDoorRows.lean that lists a variable, with what it lists TIED to the program's text (the seventh form; the later family's looks); each row that meets fmt, with fmt's text TOLD by the authors' own Lean function (tested against real Go, not proved from fmt's source: count such statements apart). THE CARD IS WHAT COUNTS. Prove the row's statement (the work); the ties are given (YtndfimiglchpoaaGreatDoorTie.lean); close each card by the builder's one call (the guide's Derived/Test/ToyasCard.lean, 'card_holds'). Laid BY PROGRAM, IN A SANDBOX (cutbox-door.mjs). By AI agents, Wed Nov 11 2026. No macro, syntax, notation, axiom, sorry.
-/
import Derived.Test.YtndfimiglchpoaaGreatDoorRows
import GoSem.ClaimSeven
namespace Go.Proofs.YtndfimiglchpoaaGreatDoor
namespace Rows

/-- THE TIED CARD OF 'polynyalaw12.FeesConvoy'. -/
def feesConvoyCard : Claim7 := { stood := { row := feesConvoyRow, standIns := [], harness := (true, "81a9c1731fcb9b87b4f8a6eee969f43efd582c6e1caa186340a05f7e760e010d"), looks := false }, kinds := [], alts := [], laidByText := true, laidKinds := [.data], laidTests := true, laidLooks := .later }
def FeesConvoyCardSaid : Prop := Claim7.holds Tryz.pinned (.plain (OpenSpec.ofChange feesConvoySpec)) feesConvoyCard

/-- THE SECOND FORM's CARD OF 'polynyalaw12.FeesConvoy'. -/
def feesConvoyUptoCard : Claim7 := { stood := { row := feesConvoyUptoRow, standIns := [], harness := (true, "81a9c1731fcb9b87b4f8a6eee969f43efd582c6e1caa186340a05f7e760e010d"), looks := false }, kinds := [], alts := [], laidByText := true, laidKinds := [.data], laidTests := true, laidLooks := .later }
def FeesConvoyUptoCardSaid : Prop := Claim7.holds Tryz.pinned (.plain (OpenSpec.upto feesConvoySpec)) feesConvoyUptoCard
end Rows
end Go.Proofs.YtndfimiglchpoaaGreatDoor
