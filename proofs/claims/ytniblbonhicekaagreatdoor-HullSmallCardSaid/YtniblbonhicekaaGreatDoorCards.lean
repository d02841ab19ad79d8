/-
  DERIVED. GIVEN WITH THE SEED: THE CARDS: each row of YtniblbonhicekaaGreatDoorRows.lean that lists a variable, with what it lists TIED to the program's text (the seventh form; the later family's looks); each row that meets fmt, with fmt's text TOLD by the authors' own Lean function (tested against real Go, not proved from fmt's source: count such statements apart). THE CARD IS WHAT COUNTS. Prove the row's statement (the work); the ties are given (YtniblbonhicekaaGreatDoorTie.lean); close each card by the builder's one call (the guide's Derived/Test/ToyasCard.lean, 'card_holds'). Laid BY PROGRAM, IN A SANDBOX (cutbox-door.mjs). By AI agents, Wed Nov 11 2026. No macro, syntax, notation, axiom, sorry.
-/
import Derived.Test.YtniblbonhicekaaGreatDoorRows
import GoSem.ClaimSeven
namespace Go.Proofs.YtniblbonhicekaaGreatDoor
namespace Rows

/-- THE TIED CARD OF 'polynyalaw03.HullSmall'. -/
def hullSmallCard : Claim7 := { stood := { row := hullSmallRow, standIns := [], harness := (true, "00efa2c3f6400b451d3f3350e30e0bfdb54017c81a9b9dc59a66d07bde9a2935"), looks := false }, kinds := [], alts := [], laidByText := true, laidKinds := [.data], laidTests := true, laidLooks := .later }
def HullSmallCardSaid : Prop := Claim7.holds Tryz.pinned (.plain (OpenSpec.ofChange hullSmallSpec)) hullSmallCard

/-- THE SECOND FORM's CARD OF 'polynyalaw03.HullSmall'. -/
def hullSmallUptoCard : Claim7 := { stood := { row := hullSmallUptoRow, standIns := [], harness := (true, "00efa2c3f6400b451d3f3350e30e0bfdb54017c81a9b9dc59a66d07bde9a2935"), looks := false }, kinds := [], alts := [], laidByText := true, laidKinds := [.data], laidTests := true, laidLooks := .later }
def HullSmallUptoCardSaid : Prop := Claim7.holds Tryz.pinned (.plain (OpenSpec.upto hullSmallSpec)) hullSmallUptoCard
end Rows
end Go.Proofs.YtniblbonhicekaaGreatDoor
