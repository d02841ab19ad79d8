/-
  DERIVED. GIVEN WITH THE SEED: THE CARDS: each row of YtgpcfckbcldokaaDoorRows.lean that lists a variable, with what it lists TIED to the program's text (the seventh form; the later family's looks); each row that meets fmt, with fmt's text TOLD by the authors' own Lean function (tested against real Go, not proved from fmt's source: count such statements apart). THE CARD IS WHAT COUNTS. Prove the row's statement (the work); the ties are given (YtgpcfckbcldokaaDoorTie.lean); close each card by the builder's one call (the guide's Derived/Test/ToyasCard.lean, 'card_holds'). Laid BY PROGRAM, IN A SANDBOX (cutbox-door.mjs). By AI agents, Wed Nov 11 2026. No macro, syntax, notation, axiom, sorry.
-/
import Derived.Test.YtgpcfckbcldokaaDoorRows
import GoSem.ClaimSeven
namespace Go.Proofs.YtgpcfckbcldokaaDoor
namespace Rows

/-- THE TIED CARD OF 'polynyalaw03.HullMonotone'. -/
def hullMonotoneCard : Claim7 := { stood := { row := hullMonotoneRow, standIns := [], harness := (true, "daf176d1e7ac92251cd273b17ec66cf9c8107bda9a1c2c70ddd44dd20d9994ac"), looks := false }, kinds := [], alts := [], laidByText := true, laidKinds := [.data], laidTests := true, laidLooks := .later }
def HullMonotoneCardSaid : Prop := Claim7.holds Tryd.pinned (.plain (OpenSpec.ofChange hullMonotoneSpec)) hullMonotoneCard

/-- THE TIED CARD OF 'polynyalaw03.HullPassed'. -/
def hullPassedCard : Claim7 := { stood := { row := hullPassedRow, standIns := [], harness := (true, "daf176d1e7ac92251cd273b17ec66cf9c8107bda9a1c2c70ddd44dd20d9994ac"), looks := false }, kinds := [], alts := [], laidByText := true, laidKinds := [.data], laidTests := true, laidLooks := .later }
def HullPassedCardSaid : Prop := Claim7.holds Tryd.pinned (.plain (OpenSpec.ofChange hullPassedSpec)) hullPassedCard

/-- THE TIED CARD OF 'polynyalaw03.HullLegs'. -/
def hullLegsCard : Claim7 := { stood := { row := hullLegsRow, standIns := [], harness := (true, "daf176d1e7ac92251cd273b17ec66cf9c8107bda9a1c2c70ddd44dd20d9994ac"), looks := false }, kinds := [], alts := [], laidByText := true, laidKinds := [.data], laidTests := true, laidLooks := .later }
def HullLegsCardSaid : Prop := Claim7.holds Tryd.pinned (.plain (OpenSpec.ofChange hullLegsSpec)) hullLegsCard

/-- THE TIED CARD OF 'polynyalaw03.HullLimited'. -/
def hullLimitedCard : Claim7 := { stood := { row := hullLimitedRow, standIns := [], harness := (true, "daf176d1e7ac92251cd273b17ec66cf9c8107bda9a1c2c70ddd44dd20d9994ac"), looks := false }, kinds := [], alts := [], laidByText := true, laidKinds := [.data], laidTests := true, laidLooks := .later }
def HullLimitedCardSaid : Prop := Claim7.holds Tryd.pinned (.plain (OpenSpec.ofChange hullLimitedSpec)) hullLimitedCard

/-- THE TIED CARD OF 'polynyalaw03.HullChecks'. -/
def hullChecksCard : Claim7 := { stood := { row := hullChecksRow, standIns := [], harness := (true, "daf176d1e7ac92251cd273b17ec66cf9c8107bda9a1c2c70ddd44dd20d9994ac"), looks := false }, kinds := [], alts := [], laidByText := true, laidKinds := [.data], laidTests := true, laidLooks := .later }
def HullChecksCardSaid : Prop := Claim7.holds Tryd.pinned (.plain (OpenSpec.ofChange hullChecksSpec)) hullChecksCard

/-- THE TIED CARD OF 'polynyalaw03.HullBetter'. -/
def hullBetterCard : Claim7 := { stood := { row := hullBetterRow, standIns := [], harness := (true, "daf176d1e7ac92251cd273b17ec66cf9c8107bda9a1c2c70ddd44dd20d9994ac"), looks := false }, kinds := [], alts := [], laidByText := true, laidKinds := [.data], laidTests := true, laidLooks := .later }
def HullBetterCardSaid : Prop := Claim7.holds Tryd.pinned (.plain (OpenSpec.ofChange hullBetterSpec)) hullBetterCard

/-- THE TIED CARD OF 'polynyalaw03.HullWaits'. -/
def hullWaitsCard : Claim7 := { stood := { row := hullWaitsRow, standIns := [], harness := (true, "daf176d1e7ac92251cd273b17ec66cf9c8107bda9a1c2c70ddd44dd20d9994ac"), looks := false }, kinds := [], alts := [], laidByText := true, laidKinds := [.data], laidTests := true, laidLooks := .later }
def HullWaitsCardSaid : Prop := Claim7.holds Tryd.pinned (.plain (OpenSpec.ofChange hullWaitsSpec)) hullWaitsCard

/-- THE TIED CARD OF 'polynyalaw03.HullBounds'. -/
def hullBoundsCard : Claim7 := { stood := { row := hullBoundsRow, standIns := [], harness := (true, "daf176d1e7ac92251cd273b17ec66cf9c8107bda9a1c2c70ddd44dd20d9994ac"), looks := false }, kinds := [], alts := [], laidByText := true, laidKinds := [.data], laidTests := true, laidLooks := .later }
def HullBoundsCardSaid : Prop := Claim7.holds Tryd.pinned (.plain (OpenSpec.ofChange hullBoundsSpec)) hullBoundsCard

/-- THE TIED CARD OF 'polynyalaw03.HullCells'. -/
def hullCellsCard : Claim7 := { stood := { row := hullCellsRow, standIns := [], harness := (true, "daf176d1e7ac92251cd273b17ec66cf9c8107bda9a1c2c70ddd44dd20d9994ac"), looks := false }, kinds := [], alts := [], laidByText := true, laidKinds := [.data], laidTests := true, laidLooks := .later }
def HullCellsCardSaid : Prop := Claim7.holds Tryd.pinned (.plain (OpenSpec.ofChange hullCellsSpec)) hullCellsCard

/-- THE TIED CARD OF 'polynyalaw03.HullSpeeds'. -/
def hullSpeedsCard : Claim7 := { stood := { row := hullSpeedsRow, standIns := [], harness := (true, "daf176d1e7ac92251cd273b17ec66cf9c8107bda9a1c2c70ddd44dd20d9994ac"), looks := false }, kinds := [], alts := [], laidByText := true, laidKinds := [.data], laidTests := true, laidLooks := .later }
def HullSpeedsCardSaid : Prop := Claim7.holds Tryd.pinned (.plain (OpenSpec.ofChange hullSpeedsSpec)) hullSpeedsCard

/-- THE TIED CARD OF 'polynyalaw03.HullAged'. -/
def hullAgedCard : Claim7 := { stood := { row := hullAgedRow, standIns := [], harness := (true, "daf176d1e7ac92251cd273b17ec66cf9c8107bda9a1c2c70ddd44dd20d9994ac"), looks := false }, kinds := [], alts := [], laidByText := true, laidKinds := [.data], laidTests := true, laidLooks := .later }
def HullAgedCardSaid : Prop := Claim7.holds Tryd.pinned (.plain (OpenSpec.ofChange hullAgedSpec)) hullAgedCard

/-- THE TIED CARD OF 'polynyalaw03.HullReported'. -/
def hullReportedCard : Claim7 := { stood := { row := hullReportedRow, standIns := [], harness := (true, "daf176d1e7ac92251cd273b17ec66cf9c8107bda9a1c2c70ddd44dd20d9994ac"), looks := false }, kinds := [], alts := [], laidByText := true, laidKinds := [.data], laidTests := true, laidLooks := .later }
def HullReportedCardSaid : Prop := Claim7.holds Tryd.pinned (.plain (OpenSpec.ofChange hullReportedSpec)) hullReportedCard

/-- THE SECOND FORM's CARD OF 'polynyalaw03.HullMonotone'. -/
def hullMonotoneUptoCard : Claim7 := { stood := { row := hullMonotoneUptoRow, standIns := [], harness := (true, "daf176d1e7ac92251cd273b17ec66cf9c8107bda9a1c2c70ddd44dd20d9994ac"), looks := false }, kinds := [], alts := [], laidByText := true, laidKinds := [.data], laidTests := true, laidLooks := .later }
def HullMonotoneUptoCardSaid : Prop := Claim7.holds Tryd.pinned (.plain (OpenSpec.upto hullMonotoneSpec)) hullMonotoneUptoCard

/-- THE SECOND FORM's CARD OF 'polynyalaw03.HullPassed'. -/
def hullPassedUptoCard : Claim7 := { stood := { row := hullPassedUptoRow, standIns := [], harness := (true, "daf176d1e7ac92251cd273b17ec66cf9c8107bda9a1c2c70ddd44dd20d9994ac"), looks := false }, kinds := [], alts := [], laidByText := true, laidKinds := [.data], laidTests := true, laidLooks := .later }
def HullPassedUptoCardSaid : Prop := Claim7.holds Tryd.pinned (.plain (OpenSpec.upto hullPassedSpec)) hullPassedUptoCard

/-- THE SECOND FORM's CARD OF 'polynyalaw03.HullLegs'. -/
def hullLegsUptoCard : Claim7 := { stood := { row := hullLegsUptoRow, standIns := [], harness := (true, "daf176d1e7ac92251cd273b17ec66cf9c8107bda9a1c2c70ddd44dd20d9994ac"), looks := false }, kinds := [], alts := [], laidByText := true, laidKinds := [.data], laidTests := true, laidLooks := .later }
def HullLegsUptoCardSaid : Prop := Claim7.holds Tryd.pinned (.plain (OpenSpec.upto hullLegsSpec)) hullLegsUptoCard

/-- THE SECOND FORM's CARD OF 'polynyalaw03.HullLimited'. -/
def hullLimitedUptoCard : Claim7 := { stood := { row := hullLimitedUptoRow, standIns := [], harness := (true, "daf176d1e7ac92251cd273b17ec66cf9c8107bda9a1c2c70ddd44dd20d9994ac"), looks := false }, kinds := [], alts := [], laidByText := true, laidKinds := [.data], laidTests := true, laidLooks := .later }
def HullLimitedUptoCardSaid : Prop := Claim7.holds Tryd.pinned (.plain (OpenSpec.upto hullLimitedSpec)) hullLimitedUptoCard

/-- THE SECOND FORM's CARD OF 'polynyalaw03.HullChecks'. -/
def hullChecksUptoCard : Claim7 := { stood := { row := hullChecksUptoRow, standIns := [], harness := (true, "daf176d1e7ac92251cd273b17ec66cf9c8107bda9a1c2c70ddd44dd20d9994ac"), looks := false }, kinds := [], alts := [], laidByText := true, laidKinds := [.data], laidTests := true, laidLooks := .later }
def HullChecksUptoCardSaid : Prop := Claim7.holds Tryd.pinned (.plain (OpenSpec.upto hullChecksSpec)) hullChecksUptoCard

/-- THE SECOND FORM's CARD OF 'polynyalaw03.HullBetter'. -/
def hullBetterUptoCard : Claim7 := { stood := { row := hullBetterUptoRow, standIns := [], harness := (true, "daf176d1e7ac92251cd273b17ec66cf9c8107bda9a1c2c70ddd44dd20d9994ac"), looks := false }, kinds := [], alts := [], laidByText := true, laidKinds := [.data], laidTests := true, laidLooks := .later }
def HullBetterUptoCardSaid : Prop := Claim7.holds Tryd.pinned (.plain (OpenSpec.upto hullBetterSpec)) hullBetterUptoCard

/-- THE SECOND FORM's CARD OF 'polynyalaw03.HullWaits'. -/
def hullWaitsUptoCard : Claim7 := { stood := { row := hullWaitsUptoRow, standIns := [], harness := (true, "daf176d1e7ac92251cd273b17ec66cf9c8107bda9a1c2c70ddd44dd20d9994ac"), looks := false }, kinds := [], alts := [], laidByText := true, laidKinds := [.data], laidTests := true, laidLooks := .later }
def HullWaitsUptoCardSaid : Prop := Claim7.holds Tryd.pinned (.plain (OpenSpec.upto hullWaitsSpec)) hullWaitsUptoCard

/-- THE SECOND FORM's CARD OF 'polynyalaw03.HullBounds'. -/
def hullBoundsUptoCard : Claim7 := { stood := { row := hullBoundsUptoRow, standIns := [], harness := (true, "daf176d1e7ac92251cd273b17ec66cf9c8107bda9a1c2c70ddd44dd20d9994ac"), looks := false }, kinds := [], alts := [], laidByText := true, laidKinds := [.data], laidTests := true, laidLooks := .later }
def HullBoundsUptoCardSaid : Prop := Claim7.holds Tryd.pinned (.plain (OpenSpec.upto hullBoundsSpec)) hullBoundsUptoCard

/-- THE SECOND FORM's CARD OF 'polynyalaw03.HullCells'. -/
def hullCellsUptoCard : Claim7 := { stood := { row := hullCellsUptoRow, standIns := [], harness := (true, "daf176d1e7ac92251cd273b17ec66cf9c8107bda9a1c2c70ddd44dd20d9994ac"), looks := false }, kinds := [], alts := [], laidByText := true, laidKinds := [.data], laidTests := true, laidLooks := .later }
def HullCellsUptoCardSaid : Prop := Claim7.holds Tryd.pinned (.plain (OpenSpec.upto hullCellsSpec)) hullCellsUptoCard

/-- THE SECOND FORM's CARD OF 'polynyalaw03.HullSpeeds'. -/
def hullSpeedsUptoCard : Claim7 := { stood := { row := hullSpeedsUptoRow, standIns := [], harness := (true, "daf176d1e7ac92251cd273b17ec66cf9c8107bda9a1c2c70ddd44dd20d9994ac"), looks := false }, kinds := [], alts := [], laidByText := true, laidKinds := [.data], laidTests := true, laidLooks := .later }
def HullSpeedsUptoCardSaid : Prop := Claim7.holds Tryd.pinned (.plain (OpenSpec.upto hullSpeedsSpec)) hullSpeedsUptoCard

/-- THE SECOND FORM's CARD OF 'polynyalaw03.HullAged'. -/
def hullAgedUptoCard : Claim7 := { stood := { row := hullAgedUptoRow, standIns := [], harness := (true, "daf176d1e7ac92251cd273b17ec66cf9c8107bda9a1c2c70ddd44dd20d9994ac"), looks := false }, kinds := [], alts := [], laidByText := true, laidKinds := [.data], laidTests := true, laidLooks := .later }
def HullAgedUptoCardSaid : Prop := Claim7.holds Tryd.pinned (.plain (OpenSpec.upto hullAgedSpec)) hullAgedUptoCard

/-- THE SECOND FORM's CARD OF 'polynyalaw03.HullReported'. -/
def hullReportedUptoCard : Claim7 := { stood := { row := hullReportedUptoRow, standIns := [], harness := (true, "daf176d1e7ac92251cd273b17ec66cf9c8107bda9a1c2c70ddd44dd20d9994ac"), looks := false }, kinds := [], alts := [], laidByText := true, laidKinds := [.data], laidTests := true, laidLooks := .later }
def HullReportedUptoCardSaid : Prop := Claim7.holds Tryd.pinned (.plain (OpenSpec.upto hullReportedSpec)) hullReportedUptoCard
end Rows
end Go.Proofs.YtgpcfckbcldokaaDoor
