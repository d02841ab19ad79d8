/-
  DERIVED. GIVEN WITH THE SEED: THE CARDS: each row of YtcabeiajfbdfhaaDoorRows.lean that lists a variable, with what it lists TIED to the program's text (the seventh form; the later family's looks); each row that meets fmt, with fmt's text TOLD by the authors' own Lean function (tested against real Go, not proved from fmt's source: count such statements apart). THE CARD IS WHAT COUNTS. Prove the row's statement (the work); the ties are given (YtcabeiajfbdfhaaDoorTie.lean); close each card by the builder's one call (the guide's Derived/Test/ToyasCard.lean, 'card_holds'). Laid BY PROGRAM, IN A SANDBOX (cutbox-door.mjs). By AI agents, Wed Nov 11 2026. No macro, syntax, notation, axiom, sorry.
-/
import Derived.Test.YtcabeiajfbdfhaaDoorRows
import GoSem.ClaimSeven
namespace Go.Proofs.YtcabeiajfbdfhaaDoor
namespace Rows

/-- THE TIED CARD OF 'polynyalaw05.ConvoyApart'. -/
def convoyApartCard : Claim7 := { stood := { row := convoyApartRow, standIns := [], harness := (true, "be1bb824634e79dbb41dfcae917e5b1206348a71f575d919729d3adf62231938"), looks := false }, kinds := [], alts := [], laidByText := true, laidKinds := [.data], laidTests := true, laidLooks := .later }
def ConvoyApartCardSaid : Prop := Claim7.holds Tryd.pinned (.plain (OpenSpec.ofChange convoyApartSpec)) convoyApartCard

/-- THE TIED CARD OF 'polynyalaw05.ConvoySplits'. -/
def convoySplitsCard : Claim7 := { stood := { row := convoySplitsRow, standIns := [], harness := (true, "be1bb824634e79dbb41dfcae917e5b1206348a71f575d919729d3adf62231938"), looks := false }, kinds := [], alts := [], laidByText := true, laidKinds := [.data], laidTests := true, laidLooks := .later }
def ConvoySplitsCardSaid : Prop := Claim7.holds Tryd.pinned (.plain (OpenSpec.ofChange convoySplitsSpec)) convoySplitsCard

/-- THE TIED CARD OF 'polynyalaw05.ConvoyTakes'. -/
def convoyTakesCard : Claim7 := { stood := { row := convoyTakesRow, standIns := [], harness := (true, "be1bb824634e79dbb41dfcae917e5b1206348a71f575d919729d3adf62231938"), looks := false }, kinds := [], alts := [], laidByText := true, laidKinds := [.data], laidTests := true, laidLooks := .later }
def ConvoyTakesCardSaid : Prop := Claim7.holds Tryd.pinned (.plain (OpenSpec.ofChange convoyTakesSpec)) convoyTakesCard

/-- THE TIED CARD OF 'polynyalaw05.ConvoyKnown'. -/
def convoyKnownCard : Claim7 := { stood := { row := convoyKnownRow, standIns := [], harness := (true, "be1bb824634e79dbb41dfcae917e5b1206348a71f575d919729d3adf62231938"), looks := false }, kinds := [], alts := [], laidByText := true, laidKinds := [.data], laidTests := true, laidLooks := .later }
def ConvoyKnownCardSaid : Prop := Claim7.holds Tryd.pinned (.plain (OpenSpec.ofChange convoyKnownSpec)) convoyKnownCard

/-- THE TIED CARD OF 'polynyalaw05.ConvoyOpen'. -/
def convoyOpenCard : Claim7 := { stood := { row := convoyOpenRow, standIns := [], harness := (true, "be1bb824634e79dbb41dfcae917e5b1206348a71f575d919729d3adf62231938"), looks := false }, kinds := [], alts := [], laidByText := true, laidKinds := [.data], laidTests := true, laidLooks := .later }
def ConvoyOpenCardSaid : Prop := Claim7.holds Tryd.pinned (.plain (OpenSpec.ofChange convoyOpenSpec)) convoyOpenCard

/-- THE TIED CARD OF 'polynyalaw05.ConvoyLeft'. -/
def convoyLeftCard : Claim7 := { stood := { row := convoyLeftRow, standIns := [], harness := (true, "be1bb824634e79dbb41dfcae917e5b1206348a71f575d919729d3adf62231938"), looks := false }, kinds := [], alts := [], laidByText := true, laidKinds := [.data], laidTests := true, laidLooks := .later }
def ConvoyLeftCardSaid : Prop := Claim7.holds Tryd.pinned (.plain (OpenSpec.ofChange convoyLeftSpec)) convoyLeftCard

/-- THE SECOND FORM's CARD OF 'polynyalaw05.ConvoyApart'. -/
def convoyApartUptoCard : Claim7 := { stood := { row := convoyApartUptoRow, standIns := [], harness := (true, "be1bb824634e79dbb41dfcae917e5b1206348a71f575d919729d3adf62231938"), looks := false }, kinds := [], alts := [], laidByText := true, laidKinds := [.data], laidTests := true, laidLooks := .later }
def ConvoyApartUptoCardSaid : Prop := Claim7.holds Tryd.pinned (.plain (OpenSpec.upto convoyApartSpec)) convoyApartUptoCard

/-- THE SECOND FORM's CARD OF 'polynyalaw05.ConvoySplits'. -/
def convoySplitsUptoCard : Claim7 := { stood := { row := convoySplitsUptoRow, standIns := [], harness := (true, "be1bb824634e79dbb41dfcae917e5b1206348a71f575d919729d3adf62231938"), looks := false }, kinds := [], alts := [], laidByText := true, laidKinds := [.data], laidTests := true, laidLooks := .later }
def ConvoySplitsUptoCardSaid : Prop := Claim7.holds Tryd.pinned (.plain (OpenSpec.upto convoySplitsSpec)) convoySplitsUptoCard

/-- THE SECOND FORM's CARD OF 'polynyalaw05.ConvoyTakes'. -/
def convoyTakesUptoCard : Claim7 := { stood := { row := convoyTakesUptoRow, standIns := [], harness := (true, "be1bb824634e79dbb41dfcae917e5b1206348a71f575d919729d3adf62231938"), looks := false }, kinds := [], alts := [], laidByText := true, laidKinds := [.data], laidTests := true, laidLooks := .later }
def ConvoyTakesUptoCardSaid : Prop := Claim7.holds Tryd.pinned (.plain (OpenSpec.upto convoyTakesSpec)) convoyTakesUptoCard

/-- THE SECOND FORM's CARD OF 'polynyalaw05.ConvoyKnown'. -/
def convoyKnownUptoCard : Claim7 := { stood := { row := convoyKnownUptoRow, standIns := [], harness := (true, "be1bb824634e79dbb41dfcae917e5b1206348a71f575d919729d3adf62231938"), looks := false }, kinds := [], alts := [], laidByText := true, laidKinds := [.data], laidTests := true, laidLooks := .later }
def ConvoyKnownUptoCardSaid : Prop := Claim7.holds Tryd.pinned (.plain (OpenSpec.upto convoyKnownSpec)) convoyKnownUptoCard

/-- THE SECOND FORM's CARD OF 'polynyalaw05.ConvoyOpen'. -/
def convoyOpenUptoCard : Claim7 := { stood := { row := convoyOpenUptoRow, standIns := [], harness := (true, "be1bb824634e79dbb41dfcae917e5b1206348a71f575d919729d3adf62231938"), looks := false }, kinds := [], alts := [], laidByText := true, laidKinds := [.data], laidTests := true, laidLooks := .later }
def ConvoyOpenUptoCardSaid : Prop := Claim7.holds Tryd.pinned (.plain (OpenSpec.upto convoyOpenSpec)) convoyOpenUptoCard

/-- THE SECOND FORM's CARD OF 'polynyalaw05.ConvoyLeft'. -/
def convoyLeftUptoCard : Claim7 := { stood := { row := convoyLeftUptoRow, standIns := [], harness := (true, "be1bb824634e79dbb41dfcae917e5b1206348a71f575d919729d3adf62231938"), looks := false }, kinds := [], alts := [], laidByText := true, laidKinds := [.data], laidTests := true, laidLooks := .later }
def ConvoyLeftUptoCardSaid : Prop := Claim7.holds Tryd.pinned (.plain (OpenSpec.upto convoyLeftSpec)) convoyLeftUptoCard
end Rows
end Go.Proofs.YtcabeiajfbdfhaaDoor
