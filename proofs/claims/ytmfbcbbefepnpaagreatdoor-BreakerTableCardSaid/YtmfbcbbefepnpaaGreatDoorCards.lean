/-
  DERIVED. GIVEN WITH THE SEED: THE CARDS: each row of YtmfbcbbefepnpaaGreatDoorRows.lean that lists a variable, with what it lists TIED to the program's text (the seventh form; the later family's looks); each row that meets fmt, with fmt's text TOLD by the authors' own Lean function (tested against real Go, not proved from fmt's source: count such statements apart). THE CARD IS WHAT COUNTS. Prove the row's statement (the work); the ties are given (YtmfbcbbefepnpaaGreatDoorTie.lean); close each card by the builder's one call (the guide's Derived/Test/ToyasCard.lean, 'card_holds'). Laid BY PROGRAM, IN A SANDBOX (cutbox-door.mjs). By AI agents, Wed Nov 11 2026. No macro, syntax, notation, axiom, sorry.
-/
import Derived.Test.YtmfbcbbefepnpaaGreatDoorRows
import GoSem.ClaimSeven
namespace Go.Proofs.YtmfbcbbefepnpaaGreatDoor
namespace Rows

/-- THE TIED CARD OF 'polynyalaw06.BreakerTables'. -/
def breakerTablesCard : Claim7 := { stood := { row := breakerTablesRow, standIns := [], harness := (true, "8c831d787102e846bb59bd008775cb017b38f63c378d1641e89bc7eee043a578"), looks := false }, kinds := [], alts := [], laidByText := true, laidKinds := [.data], laidTests := true, laidLooks := .later }
def BreakerTablesCardSaid : Prop := Claim7.holds Tryz.pinned (.plain (OpenSpec.ofChange breakerTablesSpec)) breakerTablesCard

/-- THE TIED CARD OF 'polynyalaw06.BreakerTable'. -/
def breakerTableCard : Claim7 := { stood := { row := breakerTableRow, standIns := [], harness := (true, "8c831d787102e846bb59bd008775cb017b38f63c378d1641e89bc7eee043a578"), looks := false }, kinds := [], alts := [], laidByText := true, laidKinds := [.data], laidTests := true, laidLooks := .later }
def BreakerTableCardSaid : Prop := Claim7.holds Tryz.pinned (.plain (OpenSpec.ofChange breakerTableSpec)) breakerTableCard

/-- THE SECOND FORM's CARD OF 'polynyalaw06.BreakerTables'. -/
def breakerTablesUptoCard : Claim7 := { stood := { row := breakerTablesUptoRow, standIns := [], harness := (true, "8c831d787102e846bb59bd008775cb017b38f63c378d1641e89bc7eee043a578"), looks := false }, kinds := [], alts := [], laidByText := true, laidKinds := [.data], laidTests := true, laidLooks := .later }
def BreakerTablesUptoCardSaid : Prop := Claim7.holds Tryz.pinned (.plain (OpenSpec.upto breakerTablesSpec)) breakerTablesUptoCard

/-- THE SECOND FORM's CARD OF 'polynyalaw06.BreakerTable'. -/
def breakerTableUptoCard : Claim7 := { stood := { row := breakerTableUptoRow, standIns := [], harness := (true, "8c831d787102e846bb59bd008775cb017b38f63c378d1641e89bc7eee043a578"), looks := false }, kinds := [], alts := [], laidByText := true, laidKinds := [.data], laidTests := true, laidLooks := .later }
def BreakerTableUptoCardSaid : Prop := Claim7.holds Tryz.pinned (.plain (OpenSpec.upto breakerTableSpec)) breakerTableUptoCard
end Rows
end Go.Proofs.YtmfbcbbefepnpaaGreatDoor
