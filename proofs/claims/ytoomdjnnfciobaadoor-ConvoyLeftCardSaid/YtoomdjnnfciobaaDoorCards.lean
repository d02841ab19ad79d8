/-
  DERIVED. GIVEN WITH THE SEED: THE CARDS: each row of YtoomdjnnfciobaaDoorRows.lean that lists a variable, with what it lists TIED to the program's text (the seventh form; the later family's looks); each row that meets fmt, with fmt's text TOLD by the authors' own Lean function (tested against real Go, not proved from fmt's source: count such statements apart). THE CARD IS WHAT COUNTS. Prove the row's statement (the work); the ties are given (YtoomdjnnfciobaaDoorTie.lean); close each card by the builder's one call (the guide's Derived/Test/ToyasCard.lean, 'card_holds'). Laid BY PROGRAM, IN A SANDBOX (cutbox-door.mjs). By AI agents, Wed Nov 11 2026. No macro, syntax, notation, axiom, sorry.
-/
import Derived.Test.YtoomdjnnfciobaaDoorRows
import GoSem.ClaimSeven
namespace Go.Proofs.YtoomdjnnfciobaaDoor
namespace Rows

/-- THE TIED CARD OF 'polynyalaw05.ConvoyLeft'. -/
def convoyLeftCard : Claim7 := { stood := { row := convoyLeftRow, standIns := [], harness := (true, "f56f3ac4f38ed274299e7293977fdf0b1191aada64fbc4a07334ba4f21e8946c"), looks := false }, kinds := [], alts := [], laidByText := true, laidKinds := [.data], laidTests := true, laidLooks := .later }
def ConvoyLeftCardSaid : Prop := Claim7.holds Tryd.pinned (.plain (OpenSpec.ofChange convoyLeftSpec)) convoyLeftCard

/-- THE SECOND FORM's CARD OF 'polynyalaw05.ConvoyLeft'. -/
def convoyLeftUptoCard : Claim7 := { stood := { row := convoyLeftUptoRow, standIns := [], harness := (true, "f56f3ac4f38ed274299e7293977fdf0b1191aada64fbc4a07334ba4f21e8946c"), looks := false }, kinds := [], alts := [], laidByText := true, laidKinds := [.data], laidTests := true, laidLooks := .later }
def ConvoyLeftUptoCardSaid : Prop := Claim7.holds Tryd.pinned (.plain (OpenSpec.upto convoyLeftSpec)) convoyLeftUptoCard
end Rows
end Go.Proofs.YtoomdjnnfciobaaDoor
