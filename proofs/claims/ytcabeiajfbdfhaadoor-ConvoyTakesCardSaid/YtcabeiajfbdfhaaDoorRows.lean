/-
  NARROWER THAN 'FOR EVERY INPUT', by the rows' own cells (each row's printed sentence says how): ConvoyApart: laid · ConvoySplits: laid · ConvoyTakes: laid · ConvoyKnown: laid · ConvoyOpen: laid · ConvoyLeft: laid.
  DERIVED. THE GIVEN ROWS OF THIS SEAT. 6 by the template 'for every input the law returns true; each argument reads behind the call as it read before'; 0 by the template 'total and deterministic' (their statements: YtcabeiajfbdfhaaDoorTotals.lean).
  GIVEN WITH THE SEED: the statements are not yours to turn. If you find one false, say at which input.
  Laid BY PROGRAM, IN A SANDBOX (cutbox-rows.mjs): the forced cells as the released guide's own fill.sh prints them over the translation 26eaf65cb384f389… (all of the seat's roots in one cut). By AI agents, Wed Nov 11 2026. No macro, syntax, notation, axiom, sorry.
-/
import Derived.Test.YtcabeiajfbdfhaaDoorChecked
import GoSem.Claim
import GoSem.ClaimJoined
import GoSem.ClaimMapViews
import Derived.JoinedTies
import Derived.KernelRfl
namespace Go.Proofs.YtcabeiajfbdfhaaDoor
/- THE CELL 'sum', in the pinned program and in every row, IS THE sha256 OF THE DUMP (.gsa) THAT YtcabeiajfbdfhaaDoorProg.lean LOADS. Nothing in Lean hashes anything: it is a label: what it is worth is what the hold of that sum in a sandbox is worth. -/
noncomputable def Tryd.pinned : Pinned := { name := "ytcabeiajfbdfhaadoor", sum := "26eaf65cb384f389250e6095b6f4a394022afdae817f1a757bb3f8b40a57684b", checked := Tryd.checked }
namespace Rows
def none {H : Type} : Left H := { results := [], args := [] }

/- WHAT THE LISTED PACKAGE-LEVEL VARIABLES READ AS WHEN THE CALL BEGINS. Each datum BY PROGRAM (the guide's laid-datum.mjs) off the statement by which the dump's own 'gosem.cut.vars' lays the variable. In a bare row this is a premise. The card (YtcabeiajfbdfhaaDoorCards.lean) ties it to the program's text. -/
def laid_polynya_hull_strengths {H : Type} : DataW H := .agg [.lit (.int .i64 4000), .lit (.int .i64 8000), .lit (.int .i64 14000), .lit (.int .i64 24000), .lit (.int .i64 40000), .lit (.int .i64 90000)]

/-- 'polynyalaw05.ConvoyApart': WHATEVER THE INPUT: true; the input reads as it did. -/
def convoyApartSpec : ChangeSpec := { name := "convoyApart", fn := fun _ => fun
  | [d1, d2, d3, d4] => { results := [.lit (.bool true)], args := [d1, d2, d3, d4] }
  | _ => none }
def convoyApartRow : OpenClaim := { program := "ytcabeiajfbdfhaadoor", sum := "26eaf65cb384f389250e6095b6f4a394022afdae817f1a757bb3f8b40a57684b", func := "polynya/polynyalaw05.ConvoyApart", spec := "convoyApart", unfollowed := true, recurses := true, named := ["polynya/hull.strengths"], apart := false, laid := [("polynya/hull.strengths", laid_polynya_hull_strengths)] }
def ConvoyApartSaid : Prop := convoyApartRow.holds Tryd.pinned (OpenSpec.ofChange convoyApartSpec)

/-- ITS FALSE NEIGHBOUR: 'it returns false'. Refute it at one input. -/
def convoyApartWrong : ChangeSpec := { name := "convoyApart", fn := fun _ => fun
  | [d1, d2, d3, d4] => { results := [.lit (.bool false)], args := [d1, d2, d3, d4] }
  | _ => none }
def ConvoyApartWrongFalsely : Prop := convoyApartRow.holds Tryd.pinned (OpenSpec.ofChange convoyApartWrong)

/-- 'polynyalaw05.ConvoySplits': WHATEVER THE INPUT: true; the input reads as it did. -/
def convoySplitsSpec : ChangeSpec := { name := "convoySplits", fn := fun _ => fun
  | [d1, d2, d3] => { results := [.lit (.bool true)], args := [d1, d2, d3] }
  | _ => none }
def convoySplitsRow : OpenClaim := { program := "ytcabeiajfbdfhaadoor", sum := "26eaf65cb384f389250e6095b6f4a394022afdae817f1a757bb3f8b40a57684b", func := "polynya/polynyalaw05.ConvoySplits", spec := "convoySplits", unfollowed := true, recurses := true, named := ["polynya/hull.strengths"], apart := false, laid := [("polynya/hull.strengths", laid_polynya_hull_strengths)] }
def ConvoySplitsSaid : Prop := convoySplitsRow.holds Tryd.pinned (OpenSpec.ofChange convoySplitsSpec)

/-- ITS FALSE NEIGHBOUR: 'it returns false'. Refute it at one input. -/
def convoySplitsWrong : ChangeSpec := { name := "convoySplits", fn := fun _ => fun
  | [d1, d2, d3] => { results := [.lit (.bool false)], args := [d1, d2, d3] }
  | _ => none }
def ConvoySplitsWrongFalsely : Prop := convoySplitsRow.holds Tryd.pinned (OpenSpec.ofChange convoySplitsWrong)

/-- 'polynyalaw05.ConvoyTakes': WHATEVER THE INPUT: true; the input reads as it did. -/
def convoyTakesSpec : ChangeSpec := { name := "convoyTakes", fn := fun _ => fun
  | [d1, d2, d3, d4] => { results := [.lit (.bool true)], args := [d1, d2, d3, d4] }
  | _ => none }
def convoyTakesRow : OpenClaim := { program := "ytcabeiajfbdfhaadoor", sum := "26eaf65cb384f389250e6095b6f4a394022afdae817f1a757bb3f8b40a57684b", func := "polynya/polynyalaw05.ConvoyTakes", spec := "convoyTakes", unfollowed := true, recurses := true, named := ["polynya/hull.strengths"], apart := false, laid := [("polynya/hull.strengths", laid_polynya_hull_strengths)] }
def ConvoyTakesSaid : Prop := convoyTakesRow.holds Tryd.pinned (OpenSpec.ofChange convoyTakesSpec)

/-- ITS FALSE NEIGHBOUR: 'it returns false'. Refute it at one input. -/
def convoyTakesWrong : ChangeSpec := { name := "convoyTakes", fn := fun _ => fun
  | [d1, d2, d3, d4] => { results := [.lit (.bool false)], args := [d1, d2, d3, d4] }
  | _ => none }
def ConvoyTakesWrongFalsely : Prop := convoyTakesRow.holds Tryd.pinned (OpenSpec.ofChange convoyTakesWrong)

/-- 'polynyalaw05.ConvoyKnown': WHATEVER THE INPUT: true; the input reads as it did. -/
def convoyKnownSpec : ChangeSpec := { name := "convoyKnown", fn := fun _ => fun
  | [d1, d2, d3, d4, d5, d6] => { results := [.lit (.bool true)], args := [d1, d2, d3, d4, d5, d6] }
  | _ => none }
def convoyKnownRow : OpenClaim := { program := "ytcabeiajfbdfhaadoor", sum := "26eaf65cb384f389250e6095b6f4a394022afdae817f1a757bb3f8b40a57684b", func := "polynya/polynyalaw05.ConvoyKnown", spec := "convoyKnown", unfollowed := true, recurses := true, named := ["polynya/hull.strengths"], apart := false, laid := [("polynya/hull.strengths", laid_polynya_hull_strengths)] }
def ConvoyKnownSaid : Prop := convoyKnownRow.holds Tryd.pinned (OpenSpec.ofChange convoyKnownSpec)

/-- ITS FALSE NEIGHBOUR: 'it returns false'. Refute it at one input. -/
def convoyKnownWrong : ChangeSpec := { name := "convoyKnown", fn := fun _ => fun
  | [d1, d2, d3, d4, d5, d6] => { results := [.lit (.bool false)], args := [d1, d2, d3, d4, d5, d6] }
  | _ => none }
def ConvoyKnownWrongFalsely : Prop := convoyKnownRow.holds Tryd.pinned (OpenSpec.ofChange convoyKnownWrong)

/-- 'polynyalaw05.ConvoyOpen': WHATEVER THE INPUT: true; the input reads as it did. -/
def convoyOpenSpec : ChangeSpec := { name := "convoyOpen", fn := fun _ => fun
  | [d1, d2, d3, d4] => { results := [.lit (.bool true)], args := [d1, d2, d3, d4] }
  | _ => none }
def convoyOpenRow : OpenClaim := { program := "ytcabeiajfbdfhaadoor", sum := "26eaf65cb384f389250e6095b6f4a394022afdae817f1a757bb3f8b40a57684b", func := "polynya/polynyalaw05.ConvoyOpen", spec := "convoyOpen", unfollowed := true, recurses := true, named := ["polynya/hull.strengths"], apart := false, laid := [("polynya/hull.strengths", laid_polynya_hull_strengths)] }
def ConvoyOpenSaid : Prop := convoyOpenRow.holds Tryd.pinned (OpenSpec.ofChange convoyOpenSpec)

/-- ITS FALSE NEIGHBOUR: 'it returns false'. Refute it at one input. -/
def convoyOpenWrong : ChangeSpec := { name := "convoyOpen", fn := fun _ => fun
  | [d1, d2, d3, d4] => { results := [.lit (.bool false)], args := [d1, d2, d3, d4] }
  | _ => none }
def ConvoyOpenWrongFalsely : Prop := convoyOpenRow.holds Tryd.pinned (OpenSpec.ofChange convoyOpenWrong)

/-- 'polynyalaw05.ConvoyLeft': WHATEVER THE INPUT: true; the input reads as it did. -/
def convoyLeftSpec : ChangeSpec := { name := "convoyLeft", fn := fun _ => fun
  | [d1, d2, d3, d4] => { results := [.lit (.bool true)], args := [d1, d2, d3, d4] }
  | _ => none }
def convoyLeftRow : OpenClaim := { program := "ytcabeiajfbdfhaadoor", sum := "26eaf65cb384f389250e6095b6f4a394022afdae817f1a757bb3f8b40a57684b", func := "polynya/polynyalaw05.ConvoyLeft", spec := "convoyLeft", inPlace := ["slices.overlaps[polynya/convoy.Member]"], unfollowed := true, recurses := true, named := ["polynya/hull.strengths"], apart := false, laid := [("polynya/hull.strengths", laid_polynya_hull_strengths)] }
def ConvoyLeftSaid : Prop := convoyLeftRow.holds Tryd.pinned (OpenSpec.ofChange convoyLeftSpec)

/-- ITS FALSE NEIGHBOUR: 'it returns false'. Refute it at one input. -/
def convoyLeftWrong : ChangeSpec := { name := "convoyLeft", fn := fun _ => fun
  | [d1, d2, d3, d4] => { results := [.lit (.bool false)], args := [d1, d2, d3, d4] }
  | _ => none }
def ConvoyLeftWrongFalsely : Prop := convoyLeftRow.holds Tryd.pinned (OpenSpec.ofChange convoyLeftWrong)

/- THE SECOND FORM. 'bulk': how many values and letters a reading holds, each counted each time it is reached (what is shared counts as often as it is met; a slice's spare places count too). A statement '..UptoSaid' is the law's where the arguments, and the package variables that the reading takes, are together of bulk at most 1048576: NARROWER than '..Said'. Prove '..Said' where nothing that the law and all that it calls make is longer than what came in: it says more and counts as full. Else prove '..UptoSaid'. A law counts once. -/
mutual
def uptoBulk {H : Type} : DataW H → Nat
  | .lit (.string bytes) => bytes.length + 1
  | .lit _ => 1
  | .nil => 1
  | .ptr d => uptoBulk d + 1
  | .slice elems spare => uptoBulkAll elems + uptoBulkAll spare + 1
  | .agg parts => uptoBulkAll parts + 1
  | .iface _ d => uptoBulk d + 1
  | .map entries => uptoBulkEntries entries + 1
  | .held _ => 1
def uptoBulkAll {H : Type} : List (DataW H) → Nat
  | [] => 0
  | d :: r => uptoBulk d + uptoBulkAll r
def uptoBulkEntries {H : Type} : List (Lit × DataW H) → Nat
  | [] => 0
  | x :: r => uptoBulkEntry x + uptoBulkEntries r
def uptoBulkEntry {H : Type} : Lit × DataW H → Nat
  | (.string bytes, d) => bytes.length + uptoBulk d + 1
  | (_, d) => uptoBulk d + 1
 end
def uptoSmall : (H : Type) → List (DataW H) → Bool := fun _ ds => decide (uptoBulkAll ds ≤ 1048576)
def OpenSpec.upto (s : _root_.Go.ChangeSpec) : _root_.Go.OpenSpec := { _root_.Go.OpenSpec.ofChange s with cond := some uptoSmall }

/-- 'polynyalaw05.ConvoyApart', WHERE WHAT IT READS IS OF BULK AT MOST 1048576: true; the input reads as it did. -/
def convoyApartUptoRow : OpenClaim := { program := "ytcabeiajfbdfhaadoor", sum := "26eaf65cb384f389250e6095b6f4a394022afdae817f1a757bb3f8b40a57684b", func := "polynya/polynyalaw05.ConvoyApart", spec := "convoyApart", unfollowed := true, recurses := true, named := ["polynya/hull.strengths"], apart := false, laid := [("polynya/hull.strengths", laid_polynya_hull_strengths)], narrowed := true }
def ConvoyApartUptoSaid : Prop := convoyApartUptoRow.holds Tryd.pinned (OpenSpec.upto convoyApartSpec)

/-- 'polynyalaw05.ConvoySplits', WHERE WHAT IT READS IS OF BULK AT MOST 1048576: true; the input reads as it did. -/
def convoySplitsUptoRow : OpenClaim := { program := "ytcabeiajfbdfhaadoor", sum := "26eaf65cb384f389250e6095b6f4a394022afdae817f1a757bb3f8b40a57684b", func := "polynya/polynyalaw05.ConvoySplits", spec := "convoySplits", unfollowed := true, recurses := true, named := ["polynya/hull.strengths"], apart := false, laid := [("polynya/hull.strengths", laid_polynya_hull_strengths)], narrowed := true }
def ConvoySplitsUptoSaid : Prop := convoySplitsUptoRow.holds Tryd.pinned (OpenSpec.upto convoySplitsSpec)

/-- 'polynyalaw05.ConvoyTakes', WHERE WHAT IT READS IS OF BULK AT MOST 1048576: true; the input reads as it did. -/
def convoyTakesUptoRow : OpenClaim := { program := "ytcabeiajfbdfhaadoor", sum := "26eaf65cb384f389250e6095b6f4a394022afdae817f1a757bb3f8b40a57684b", func := "polynya/polynyalaw05.ConvoyTakes", spec := "convoyTakes", unfollowed := true, recurses := true, named := ["polynya/hull.strengths"], apart := false, laid := [("polynya/hull.strengths", laid_polynya_hull_strengths)], narrowed := true }
def ConvoyTakesUptoSaid : Prop := convoyTakesUptoRow.holds Tryd.pinned (OpenSpec.upto convoyTakesSpec)

/-- 'polynyalaw05.ConvoyKnown', WHERE WHAT IT READS IS OF BULK AT MOST 1048576: true; the input reads as it did. -/
def convoyKnownUptoRow : OpenClaim := { program := "ytcabeiajfbdfhaadoor", sum := "26eaf65cb384f389250e6095b6f4a394022afdae817f1a757bb3f8b40a57684b", func := "polynya/polynyalaw05.ConvoyKnown", spec := "convoyKnown", unfollowed := true, recurses := true, named := ["polynya/hull.strengths"], apart := false, laid := [("polynya/hull.strengths", laid_polynya_hull_strengths)], narrowed := true }
def ConvoyKnownUptoSaid : Prop := convoyKnownUptoRow.holds Tryd.pinned (OpenSpec.upto convoyKnownSpec)

/-- 'polynyalaw05.ConvoyOpen', WHERE WHAT IT READS IS OF BULK AT MOST 1048576: true; the input reads as it did. -/
def convoyOpenUptoRow : OpenClaim := { program := "ytcabeiajfbdfhaadoor", sum := "26eaf65cb384f389250e6095b6f4a394022afdae817f1a757bb3f8b40a57684b", func := "polynya/polynyalaw05.ConvoyOpen", spec := "convoyOpen", unfollowed := true, recurses := true, named := ["polynya/hull.strengths"], apart := false, laid := [("polynya/hull.strengths", laid_polynya_hull_strengths)], narrowed := true }
def ConvoyOpenUptoSaid : Prop := convoyOpenUptoRow.holds Tryd.pinned (OpenSpec.upto convoyOpenSpec)

/-- 'polynyalaw05.ConvoyLeft', WHERE WHAT IT READS IS OF BULK AT MOST 1048576: true; the input reads as it did. -/
def convoyLeftUptoRow : OpenClaim := { program := "ytcabeiajfbdfhaadoor", sum := "26eaf65cb384f389250e6095b6f4a394022afdae817f1a757bb3f8b40a57684b", func := "polynya/polynyalaw05.ConvoyLeft", spec := "convoyLeft", inPlace := ["slices.overlaps[polynya/convoy.Member]"], unfollowed := true, recurses := true, named := ["polynya/hull.strengths"], apart := false, laid := [("polynya/hull.strengths", laid_polynya_hull_strengths)], narrowed := true }
def ConvoyLeftUptoSaid : Prop := convoyLeftUptoRow.holds Tryd.pinned (OpenSpec.upto convoyLeftSpec)

end Rows
end Go.Proofs.YtcabeiajfbdfhaaDoor
