/-
  DERIVED. GIVEN WITH THE SEED: THE CARDS: each row of YtcabeiajfbdfhaaGreatDoorRows.lean that lists a variable, with what it lists TIED to the program's text (the seventh form; the later family's looks); each row that meets fmt, with fmt's text TOLD by the authors' own Lean function (tested against real Go, not proved from fmt's source: count such statements apart). THE CARD IS WHAT COUNTS. Prove the row's statement (the work); the ties are given (YtcabeiajfbdfhaaGreatDoorTie.lean); close each card by the builder's one call (the guide's Derived/Test/ToyasCard.lean, 'card_holds'). Laid BY PROGRAM, IN A SANDBOX (cutbox-door.mjs). By AI agents, Wed Nov 11 2026. No macro, syntax, notation, axiom, sorry.
-/
import Derived.Test.YtcabeiajfbdfhaaGreatDoorRows
import GoSem.ClaimSeven
namespace Go.Proofs.YtcabeiajfbdfhaaGreatDoor
namespace Rows

/-- THE TIED CARD OF 'polynyalaw05.ConvoyChecks'. -/
def convoyChecksCard : Claim7 := { stood := { row := convoyChecksRow, standIns := [], harness := (true, "c017d5029882cc80d0a3124220b7a1f4c210e5f4e610f1b1f25102d45b45e086"), looks := false }, kinds := [], alts := [], laidByText := true, laidKinds := [.data], laidTests := true, laidLooks := .later }
def ConvoyChecksCardSaid : Prop := Claim7.holds Tryz.pinned (.plain (OpenSpec.ofChange convoyChecksSpec)) convoyChecksCard

/-- THE TIED CARD OF 'polynyalaw05.ConvoyLegs'. -/
def convoyLegsCard : Claim7 := { stood := { row := convoyLegsRow, standIns := [], harness := (true, "c017d5029882cc80d0a3124220b7a1f4c210e5f4e610f1b1f25102d45b45e086"), looks := false }, kinds := [], alts := [], laidByText := true, laidKinds := [.data], laidTests := true, laidLooks := .later }
def ConvoyLegsCardSaid : Prop := Claim7.holds Tryz.pinned (.plain (OpenSpec.ofChange convoyLegsSpec)) convoyLegsCard

/-- THE TIED CARD OF 'polynyalaw05.ConvoyHolds'. -/
def convoyHoldsCard : Claim7 := { stood := { row := convoyHoldsRow, standIns := [], harness := (true, "c017d5029882cc80d0a3124220b7a1f4c210e5f4e610f1b1f25102d45b45e086"), looks := false }, kinds := [], alts := [], laidByText := true, laidKinds := [.data], laidTests := true, laidLooks := .later }
def ConvoyHoldsCardSaid : Prop := Claim7.holds Tryz.pinned (.plain (OpenSpec.ofChange convoyHoldsSpec)) convoyHoldsCard

/-- THE TIED CARD OF 'polynyalaw05.ConvoyBest'. -/
def convoyBestCard : Claim7 := { stood := { row := convoyBestRow, standIns := [], harness := (true, "c017d5029882cc80d0a3124220b7a1f4c210e5f4e610f1b1f25102d45b45e086"), looks := false }, kinds := [], alts := [], laidByText := true, laidKinds := [.data], laidTests := true, laidLooks := .later }
def ConvoyBestCardSaid : Prop := Claim7.holds Tryz.pinned (.plain (OpenSpec.ofChange convoyBestSpec)) convoyBestCard

/-- THE TIED CARD OF 'polynyalaw05.ConvoyOrders'. -/
def convoyOrdersCard : Claim7 := { stood := { row := convoyOrdersRow, standIns := [], harness := (true, "c017d5029882cc80d0a3124220b7a1f4c210e5f4e610f1b1f25102d45b45e086"), looks := false }, kinds := [], alts := [], laidByText := true, laidKinds := [.data], laidTests := true, laidLooks := .later }
def ConvoyOrdersCardSaid : Prop := Claim7.holds Tryz.pinned (.plain (OpenSpec.ofChange convoyOrdersSpec)) convoyOrdersCard

/-- THE TIED CARD OF 'polynyalaw05.ConvoySmall'. -/
def convoySmallCard : Claim7 := { stood := { row := convoySmallRow, standIns := [], harness := (true, "c017d5029882cc80d0a3124220b7a1f4c210e5f4e610f1b1f25102d45b45e086"), looks := false }, kinds := [], alts := [], laidByText := true, laidKinds := [.data], laidTests := true, laidLooks := .later }
def ConvoySmallCardSaid : Prop := Claim7.holds Tryz.pinned (.plain (OpenSpec.ofChange convoySmallSpec)) convoySmallCard

/-- THE SECOND FORM's CARD OF 'polynyalaw05.ConvoyChecks'. -/
def convoyChecksUptoCard : Claim7 := { stood := { row := convoyChecksUptoRow, standIns := [], harness := (true, "c017d5029882cc80d0a3124220b7a1f4c210e5f4e610f1b1f25102d45b45e086"), looks := false }, kinds := [], alts := [], laidByText := true, laidKinds := [.data], laidTests := true, laidLooks := .later }
def ConvoyChecksUptoCardSaid : Prop := Claim7.holds Tryz.pinned (.plain (OpenSpec.upto convoyChecksSpec)) convoyChecksUptoCard

/-- THE SECOND FORM's CARD OF 'polynyalaw05.ConvoyLegs'. -/
def convoyLegsUptoCard : Claim7 := { stood := { row := convoyLegsUptoRow, standIns := [], harness := (true, "c017d5029882cc80d0a3124220b7a1f4c210e5f4e610f1b1f25102d45b45e086"), looks := false }, kinds := [], alts := [], laidByText := true, laidKinds := [.data], laidTests := true, laidLooks := .later }
def ConvoyLegsUptoCardSaid : Prop := Claim7.holds Tryz.pinned (.plain (OpenSpec.upto convoyLegsSpec)) convoyLegsUptoCard

/-- THE SECOND FORM's CARD OF 'polynyalaw05.ConvoyHolds'. -/
def convoyHoldsUptoCard : Claim7 := { stood := { row := convoyHoldsUptoRow, standIns := [], harness := (true, "c017d5029882cc80d0a3124220b7a1f4c210e5f4e610f1b1f25102d45b45e086"), looks := false }, kinds := [], alts := [], laidByText := true, laidKinds := [.data], laidTests := true, laidLooks := .later }
def ConvoyHoldsUptoCardSaid : Prop := Claim7.holds Tryz.pinned (.plain (OpenSpec.upto convoyHoldsSpec)) convoyHoldsUptoCard

/-- THE SECOND FORM's CARD OF 'polynyalaw05.ConvoyBest'. -/
def convoyBestUptoCard : Claim7 := { stood := { row := convoyBestUptoRow, standIns := [], harness := (true, "c017d5029882cc80d0a3124220b7a1f4c210e5f4e610f1b1f25102d45b45e086"), looks := false }, kinds := [], alts := [], laidByText := true, laidKinds := [.data], laidTests := true, laidLooks := .later }
def ConvoyBestUptoCardSaid : Prop := Claim7.holds Tryz.pinned (.plain (OpenSpec.upto convoyBestSpec)) convoyBestUptoCard

/-- THE SECOND FORM's CARD OF 'polynyalaw05.ConvoyOrders'. -/
def convoyOrdersUptoCard : Claim7 := { stood := { row := convoyOrdersUptoRow, standIns := [], harness := (true, "c017d5029882cc80d0a3124220b7a1f4c210e5f4e610f1b1f25102d45b45e086"), looks := false }, kinds := [], alts := [], laidByText := true, laidKinds := [.data], laidTests := true, laidLooks := .later }
def ConvoyOrdersUptoCardSaid : Prop := Claim7.holds Tryz.pinned (.plain (OpenSpec.upto convoyOrdersSpec)) convoyOrdersUptoCard

/-- THE SECOND FORM's CARD OF 'polynyalaw05.ConvoySmall'. -/
def convoySmallUptoCard : Claim7 := { stood := { row := convoySmallUptoRow, standIns := [], harness := (true, "c017d5029882cc80d0a3124220b7a1f4c210e5f4e610f1b1f25102d45b45e086"), looks := false }, kinds := [], alts := [], laidByText := true, laidKinds := [.data], laidTests := true, laidLooks := .later }
def ConvoySmallUptoCardSaid : Prop := Claim7.holds Tryz.pinned (.plain (OpenSpec.upto convoySmallSpec)) convoySmallUptoCard
end Rows
end Go.Proofs.YtcabeiajfbdfhaaGreatDoor
