/-
  DERIVED. GIVEN WITH THE SEED: THE CARDS: each row of YtopinlndbbikdaaGreatDoorRows.lean that lists a variable, with what it lists TIED to the program's text (the seventh form; the later family's looks); each row that meets fmt, with fmt's text TOLD by the authors' own Lean function (tested against real Go, not proved from fmt's source: count such statements apart). THE CARD IS WHAT COUNTS. Prove the row's statement (the work); the ties are given (YtopinlndbbikdaaGreatDoorTie.lean); close each card by the builder's one call (the guide's Derived/Test/ToyasCard.lean, 'card_holds'). Laid BY PROGRAM, IN A SANDBOX (cutbox-door.mjs). By AI agents, Wed Nov 11 2026. No macro, syntax, notation, axiom, sorry.
-/
import Derived.Test.YtopinlndbbikdaaGreatDoorRows
import GoSem.ClaimSeven
namespace Go.Proofs.YtopinlndbbikdaaGreatDoor
namespace Rows

/-- THE TIED CARD OF 'polynyalaw05.ConvoyBest'. -/
def convoyBestCard : Claim7 := { stood := { row := convoyBestRow, standIns := [], harness := (true, "9a47b44f093893ab6c9d6c05322c0f51c72d944763446fbc47aad465dc3fe1c2"), looks := false }, kinds := [], alts := [], laidByText := true, laidKinds := [.data], laidTests := true, laidLooks := .later }
def ConvoyBestCardSaid : Prop := Claim7.holds Tryz.pinned (.plain (OpenSpec.ofChange convoyBestSpec)) convoyBestCard

/-- THE SECOND FORM's CARD OF 'polynyalaw05.ConvoyBest'. -/
def convoyBestUptoCard : Claim7 := { stood := { row := convoyBestUptoRow, standIns := [], harness := (true, "9a47b44f093893ab6c9d6c05322c0f51c72d944763446fbc47aad465dc3fe1c2"), looks := false }, kinds := [], alts := [], laidByText := true, laidKinds := [.data], laidTests := true, laidLooks := .later }
def ConvoyBestUptoCardSaid : Prop := Claim7.holds Tryz.pinned (.plain (OpenSpec.upto convoyBestSpec)) convoyBestUptoCard
end Rows
end Go.Proofs.YtopinlndbbikdaaGreatDoor
