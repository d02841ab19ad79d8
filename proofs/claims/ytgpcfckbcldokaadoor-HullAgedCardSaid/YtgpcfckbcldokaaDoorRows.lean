/-
  NARROWER THAN 'FOR EVERY INPUT', by the rows' own cells (each row's printed sentence says how): HullMonotone: laid · HullPassed: laid · HullLegs: laid · HullLimited: laid · HullChecks: laid · HullBetter: laid · HullWaits: laid · HullBounds: laid · HullCells: laid · HullSpeeds: laid · HullAged: laid · HullReported: laid.
  DERIVED. THE GIVEN ROWS OF THIS SEAT. 12 by the template 'for every input the law returns true; each argument reads behind the call as it read before'; 0 by the template 'total and deterministic' (their statements: YtgpcfckbcldokaaDoorTotals.lean).
  GIVEN WITH THE SEED: the statements are not yours to turn. If you find one false, say at which input.
  Laid BY PROGRAM, IN A SANDBOX (cutbox-rows.mjs): the forced cells as the released guide's own fill.sh prints them over the translation 2f792d6862e5ca13… (all of the seat's roots in one cut). By AI agents, Wed Nov 11 2026. No macro, syntax, notation, axiom, sorry.
-/
import Derived.Test.YtgpcfckbcldokaaDoorChecked
import GoSem.Claim
import GoSem.ClaimJoined
import GoSem.ClaimMapViews
import Derived.JoinedTies
import Derived.KernelRfl
namespace Go.Proofs.YtgpcfckbcldokaaDoor
/- THE CELL 'sum', in the pinned program and in every row, IS THE sha256 OF THE DUMP (.gsa) THAT YtgpcfckbcldokaaDoorProg.lean LOADS. Nothing in Lean hashes anything: it is a label: what it is worth is what the hold of that sum in a sandbox is worth. -/
noncomputable def Tryd.pinned : Pinned := { name := "ytgpcfckbcldokaadoor", sum := "2f792d6862e5ca1344cd5725a7d323ccd22a21e524454bf7b9179794caa06d31", checked := Tryd.checked }
namespace Rows
def none {H : Type} : Left H := { results := [], args := [] }

/- WHAT THE LISTED PACKAGE-LEVEL VARIABLES READ AS WHEN THE CALL BEGINS. Each datum BY PROGRAM (the guide's laid-datum.mjs) off the statement by which the dump's own 'gosem.cut.vars' lays the variable. In a bare row this is a premise. The card (YtgpcfckbcldokaaDoorCards.lean) ties it to the program's text. -/
def laid_polynya_hull_strengths {H : Type} : DataW H := .agg [.lit (.int .i64 4000), .lit (.int .i64 8000), .lit (.int .i64 14000), .lit (.int .i64 24000), .lit (.int .i64 40000), .lit (.int .i64 90000)]

/-- 'polynyalaw03.HullMonotone': WHATEVER THE INPUT: true; the input reads as it did. -/
def hullMonotoneSpec : ChangeSpec := { name := "hullMonotone", fn := fun _ => fun
  | [d1, d2, d3, d4, d5] => { results := [.lit (.bool true)], args := [d1, d2, d3, d4, d5] }
  | _ => none }
def hullMonotoneRow : OpenClaim := { program := "ytgpcfckbcldokaadoor", sum := "2f792d6862e5ca1344cd5725a7d323ccd22a21e524454bf7b9179794caa06d31", func := "polynya/polynyalaw03.HullMonotone", spec := "hullMonotone", unfollowed := true, recurses := true, named := ["polynya/hull.strengths"], apart := false, laid := [("polynya/hull.strengths", laid_polynya_hull_strengths)] }
def HullMonotoneSaid : Prop := hullMonotoneRow.holds Tryd.pinned (OpenSpec.ofChange hullMonotoneSpec)

/-- ITS FALSE NEIGHBOUR: 'it returns false'. Refute it at one input. -/
def hullMonotoneWrong : ChangeSpec := { name := "hullMonotone", fn := fun _ => fun
  | [d1, d2, d3, d4, d5] => { results := [.lit (.bool false)], args := [d1, d2, d3, d4, d5] }
  | _ => none }
def HullMonotoneWrongFalsely : Prop := hullMonotoneRow.holds Tryd.pinned (OpenSpec.ofChange hullMonotoneWrong)

/-- 'polynyalaw03.HullPassed': WHATEVER THE INPUT: true; the input reads as it did. -/
def hullPassedSpec : ChangeSpec := { name := "hullPassed", fn := fun _ => fun
  | [d1, d2, d3, d4] => { results := [.lit (.bool true)], args := [d1, d2, d3, d4] }
  | _ => none }
def hullPassedRow : OpenClaim := { program := "ytgpcfckbcldokaadoor", sum := "2f792d6862e5ca1344cd5725a7d323ccd22a21e524454bf7b9179794caa06d31", func := "polynya/polynyalaw03.HullPassed", spec := "hullPassed", unfollowed := true, recurses := true, named := ["polynya/hull.strengths"], apart := false, laid := [("polynya/hull.strengths", laid_polynya_hull_strengths)] }
def HullPassedSaid : Prop := hullPassedRow.holds Tryd.pinned (OpenSpec.ofChange hullPassedSpec)

/-- ITS FALSE NEIGHBOUR: 'it returns false'. Refute it at one input. -/
def hullPassedWrong : ChangeSpec := { name := "hullPassed", fn := fun _ => fun
  | [d1, d2, d3, d4] => { results := [.lit (.bool false)], args := [d1, d2, d3, d4] }
  | _ => none }
def HullPassedWrongFalsely : Prop := hullPassedRow.holds Tryd.pinned (OpenSpec.ofChange hullPassedWrong)

/-- 'polynyalaw03.HullLegs': WHATEVER THE INPUT: true; the input reads as it did. -/
def hullLegsSpec : ChangeSpec := { name := "hullLegs", fn := fun _ => fun
  | [d1, d2, d3, d4] => { results := [.lit (.bool true)], args := [d1, d2, d3, d4] }
  | _ => none }
def hullLegsRow : OpenClaim := { program := "ytgpcfckbcldokaadoor", sum := "2f792d6862e5ca1344cd5725a7d323ccd22a21e524454bf7b9179794caa06d31", func := "polynya/polynyalaw03.HullLegs", spec := "hullLegs", unfollowed := true, recurses := true, named := ["polynya/hull.strengths"], apart := false, laid := [("polynya/hull.strengths", laid_polynya_hull_strengths)] }
def HullLegsSaid : Prop := hullLegsRow.holds Tryd.pinned (OpenSpec.ofChange hullLegsSpec)

/-- ITS FALSE NEIGHBOUR: 'it returns false'. Refute it at one input. -/
def hullLegsWrong : ChangeSpec := { name := "hullLegs", fn := fun _ => fun
  | [d1, d2, d3, d4] => { results := [.lit (.bool false)], args := [d1, d2, d3, d4] }
  | _ => none }
def HullLegsWrongFalsely : Prop := hullLegsRow.holds Tryd.pinned (OpenSpec.ofChange hullLegsWrong)

/-- 'polynyalaw03.HullLimited': WHATEVER THE INPUT: true; the input reads as it did. -/
def hullLimitedSpec : ChangeSpec := { name := "hullLimited", fn := fun _ => fun
  | [d1, d2, d3, d4, d5] => { results := [.lit (.bool true)], args := [d1, d2, d3, d4, d5] }
  | _ => none }
def hullLimitedRow : OpenClaim := { program := "ytgpcfckbcldokaadoor", sum := "2f792d6862e5ca1344cd5725a7d323ccd22a21e524454bf7b9179794caa06d31", func := "polynya/polynyalaw03.HullLimited", spec := "hullLimited", unfollowed := true, recurses := true, named := ["polynya/hull.strengths"], apart := false, laid := [("polynya/hull.strengths", laid_polynya_hull_strengths)] }
def HullLimitedSaid : Prop := hullLimitedRow.holds Tryd.pinned (OpenSpec.ofChange hullLimitedSpec)

/-- ITS FALSE NEIGHBOUR: 'it returns false'. Refute it at one input. -/
def hullLimitedWrong : ChangeSpec := { name := "hullLimited", fn := fun _ => fun
  | [d1, d2, d3, d4, d5] => { results := [.lit (.bool false)], args := [d1, d2, d3, d4, d5] }
  | _ => none }
def HullLimitedWrongFalsely : Prop := hullLimitedRow.holds Tryd.pinned (OpenSpec.ofChange hullLimitedWrong)

/-- 'polynyalaw03.HullChecks': WHATEVER THE INPUT: true; the input reads as it did. -/
def hullChecksSpec : ChangeSpec := { name := "hullChecks", fn := fun _ => fun
  | [d1, d2, d3, d4] => { results := [.lit (.bool true)], args := [d1, d2, d3, d4] }
  | _ => none }
def hullChecksRow : OpenClaim := { program := "ytgpcfckbcldokaadoor", sum := "2f792d6862e5ca1344cd5725a7d323ccd22a21e524454bf7b9179794caa06d31", func := "polynya/polynyalaw03.HullChecks", spec := "hullChecks", unfollowed := true, recurses := true, named := ["polynya/hull.strengths"], apart := false, laid := [("polynya/hull.strengths", laid_polynya_hull_strengths)] }
def HullChecksSaid : Prop := hullChecksRow.holds Tryd.pinned (OpenSpec.ofChange hullChecksSpec)

/-- ITS FALSE NEIGHBOUR: 'it returns false'. Refute it at one input. -/
def hullChecksWrong : ChangeSpec := { name := "hullChecks", fn := fun _ => fun
  | [d1, d2, d3, d4] => { results := [.lit (.bool false)], args := [d1, d2, d3, d4] }
  | _ => none }
def HullChecksWrongFalsely : Prop := hullChecksRow.holds Tryd.pinned (OpenSpec.ofChange hullChecksWrong)

/-- 'polynyalaw03.HullBetter': WHATEVER THE INPUT: true; the input reads as it did. -/
def hullBetterSpec : ChangeSpec := { name := "hullBetter", fn := fun _ => fun
  | [d1, d2, d3, d4, d5, d6] => { results := [.lit (.bool true)], args := [d1, d2, d3, d4, d5, d6] }
  | _ => none }
def hullBetterRow : OpenClaim := { program := "ytgpcfckbcldokaadoor", sum := "2f792d6862e5ca1344cd5725a7d323ccd22a21e524454bf7b9179794caa06d31", func := "polynya/polynyalaw03.HullBetter", spec := "hullBetter", unfollowed := true, recurses := true, named := ["polynya/hull.strengths"], apart := false, laid := [("polynya/hull.strengths", laid_polynya_hull_strengths)] }
def HullBetterSaid : Prop := hullBetterRow.holds Tryd.pinned (OpenSpec.ofChange hullBetterSpec)

/-- ITS FALSE NEIGHBOUR: 'it returns false'. Refute it at one input. -/
def hullBetterWrong : ChangeSpec := { name := "hullBetter", fn := fun _ => fun
  | [d1, d2, d3, d4, d5, d6] => { results := [.lit (.bool false)], args := [d1, d2, d3, d4, d5, d6] }
  | _ => none }
def HullBetterWrongFalsely : Prop := hullBetterRow.holds Tryd.pinned (OpenSpec.ofChange hullBetterWrong)

/-- 'polynyalaw03.HullWaits': WHATEVER THE INPUT: true; the input reads as it did. -/
def hullWaitsSpec : ChangeSpec := { name := "hullWaits", fn := fun _ => fun
  | [d1, d2, d3, d4] => { results := [.lit (.bool true)], args := [d1, d2, d3, d4] }
  | _ => none }
def hullWaitsRow : OpenClaim := { program := "ytgpcfckbcldokaadoor", sum := "2f792d6862e5ca1344cd5725a7d323ccd22a21e524454bf7b9179794caa06d31", func := "polynya/polynyalaw03.HullWaits", spec := "hullWaits", unfollowed := true, recurses := true, named := ["polynya/hull.strengths"], apart := false, laid := [("polynya/hull.strengths", laid_polynya_hull_strengths)] }
def HullWaitsSaid : Prop := hullWaitsRow.holds Tryd.pinned (OpenSpec.ofChange hullWaitsSpec)

/-- ITS FALSE NEIGHBOUR: 'it returns false'. Refute it at one input. -/
def hullWaitsWrong : ChangeSpec := { name := "hullWaits", fn := fun _ => fun
  | [d1, d2, d3, d4] => { results := [.lit (.bool false)], args := [d1, d2, d3, d4] }
  | _ => none }
def HullWaitsWrongFalsely : Prop := hullWaitsRow.holds Tryd.pinned (OpenSpec.ofChange hullWaitsWrong)

/-- 'polynyalaw03.HullBounds': WHATEVER THE INPUT: true; the input reads as it did. -/
def hullBoundsSpec : ChangeSpec := { name := "hullBounds", fn := fun _ => fun
  | [d1, d2, d3, d4] => { results := [.lit (.bool true)], args := [d1, d2, d3, d4] }
  | _ => none }
def hullBoundsRow : OpenClaim := { program := "ytgpcfckbcldokaadoor", sum := "2f792d6862e5ca1344cd5725a7d323ccd22a21e524454bf7b9179794caa06d31", func := "polynya/polynyalaw03.HullBounds", spec := "hullBounds", unfollowed := true, recurses := true, named := ["polynya/hull.strengths"], apart := false, laid := [("polynya/hull.strengths", laid_polynya_hull_strengths)] }
def HullBoundsSaid : Prop := hullBoundsRow.holds Tryd.pinned (OpenSpec.ofChange hullBoundsSpec)

/-- ITS FALSE NEIGHBOUR: 'it returns false'. Refute it at one input. -/
def hullBoundsWrong : ChangeSpec := { name := "hullBounds", fn := fun _ => fun
  | [d1, d2, d3, d4] => { results := [.lit (.bool false)], args := [d1, d2, d3, d4] }
  | _ => none }
def HullBoundsWrongFalsely : Prop := hullBoundsRow.holds Tryd.pinned (OpenSpec.ofChange hullBoundsWrong)

/-- 'polynyalaw03.HullCells': WHATEVER THE INPUT: true; the input reads as it did. -/
def hullCellsSpec : ChangeSpec := { name := "hullCells", fn := fun _ => fun
  | [d1, d2, d3, d4, d5] => { results := [.lit (.bool true)], args := [d1, d2, d3, d4, d5] }
  | _ => none }
def hullCellsRow : OpenClaim := { program := "ytgpcfckbcldokaadoor", sum := "2f792d6862e5ca1344cd5725a7d323ccd22a21e524454bf7b9179794caa06d31", func := "polynya/polynyalaw03.HullCells", spec := "hullCells", unfollowed := true, recurses := true, named := ["polynya/hull.strengths"], apart := false, laid := [("polynya/hull.strengths", laid_polynya_hull_strengths)] }
def HullCellsSaid : Prop := hullCellsRow.holds Tryd.pinned (OpenSpec.ofChange hullCellsSpec)

/-- ITS FALSE NEIGHBOUR: 'it returns false'. Refute it at one input. -/
def hullCellsWrong : ChangeSpec := { name := "hullCells", fn := fun _ => fun
  | [d1, d2, d3, d4, d5] => { results := [.lit (.bool false)], args := [d1, d2, d3, d4, d5] }
  | _ => none }
def HullCellsWrongFalsely : Prop := hullCellsRow.holds Tryd.pinned (OpenSpec.ofChange hullCellsWrong)

/-- 'polynyalaw03.HullSpeeds': WHATEVER THE INPUT: true; the input reads as it did. -/
def hullSpeedsSpec : ChangeSpec := { name := "hullSpeeds", fn := fun _ => fun
  | [d1, d2, d3, d4, d5] => { results := [.lit (.bool true)], args := [d1, d2, d3, d4, d5] }
  | _ => none }
def hullSpeedsRow : OpenClaim := { program := "ytgpcfckbcldokaadoor", sum := "2f792d6862e5ca1344cd5725a7d323ccd22a21e524454bf7b9179794caa06d31", func := "polynya/polynyalaw03.HullSpeeds", spec := "hullSpeeds", unfollowed := true, recurses := true, named := ["polynya/hull.strengths"], apart := false, laid := [("polynya/hull.strengths", laid_polynya_hull_strengths)] }
def HullSpeedsSaid : Prop := hullSpeedsRow.holds Tryd.pinned (OpenSpec.ofChange hullSpeedsSpec)

/-- ITS FALSE NEIGHBOUR: 'it returns false'. Refute it at one input. -/
def hullSpeedsWrong : ChangeSpec := { name := "hullSpeeds", fn := fun _ => fun
  | [d1, d2, d3, d4, d5] => { results := [.lit (.bool false)], args := [d1, d2, d3, d4, d5] }
  | _ => none }
def HullSpeedsWrongFalsely : Prop := hullSpeedsRow.holds Tryd.pinned (OpenSpec.ofChange hullSpeedsWrong)

/-- 'polynyalaw03.HullAged': WHATEVER THE INPUT: true; the input reads as it did. -/
def hullAgedSpec : ChangeSpec := { name := "hullAged", fn := fun _ => fun
  | [d1, d2, d3, d4, d5, d6] => { results := [.lit (.bool true)], args := [d1, d2, d3, d4, d5, d6] }
  | _ => none }
def hullAgedRow : OpenClaim := { program := "ytgpcfckbcldokaadoor", sum := "2f792d6862e5ca1344cd5725a7d323ccd22a21e524454bf7b9179794caa06d31", func := "polynya/polynyalaw03.HullAged", spec := "hullAged", unfollowed := true, recurses := true, named := ["polynya/hull.strengths"], apart := false, laid := [("polynya/hull.strengths", laid_polynya_hull_strengths)] }
def HullAgedSaid : Prop := hullAgedRow.holds Tryd.pinned (OpenSpec.ofChange hullAgedSpec)

/-- ITS FALSE NEIGHBOUR: 'it returns false'. Refute it at one input. -/
def hullAgedWrong : ChangeSpec := { name := "hullAged", fn := fun _ => fun
  | [d1, d2, d3, d4, d5, d6] => { results := [.lit (.bool false)], args := [d1, d2, d3, d4, d5, d6] }
  | _ => none }
def HullAgedWrongFalsely : Prop := hullAgedRow.holds Tryd.pinned (OpenSpec.ofChange hullAgedWrong)

/-- 'polynyalaw03.HullReported': WHATEVER THE INPUT: true; the input reads as it did. -/
def hullReportedSpec : ChangeSpec := { name := "hullReported", fn := fun _ => fun
  | [d1, d2, d3, d4, d5] => { results := [.lit (.bool true)], args := [d1, d2, d3, d4, d5] }
  | _ => none }
def hullReportedRow : OpenClaim := { program := "ytgpcfckbcldokaadoor", sum := "2f792d6862e5ca1344cd5725a7d323ccd22a21e524454bf7b9179794caa06d31", func := "polynya/polynyalaw03.HullReported", spec := "hullReported", unfollowed := true, recurses := true, named := ["polynya/hull.strengths"], apart := false, laid := [("polynya/hull.strengths", laid_polynya_hull_strengths)] }
def HullReportedSaid : Prop := hullReportedRow.holds Tryd.pinned (OpenSpec.ofChange hullReportedSpec)

/-- ITS FALSE NEIGHBOUR: 'it returns false'. Refute it at one input. -/
def hullReportedWrong : ChangeSpec := { name := "hullReported", fn := fun _ => fun
  | [d1, d2, d3, d4, d5] => { results := [.lit (.bool false)], args := [d1, d2, d3, d4, d5] }
  | _ => none }
def HullReportedWrongFalsely : Prop := hullReportedRow.holds Tryd.pinned (OpenSpec.ofChange hullReportedWrong)

/- THE SECOND FORM. 'bulk': how many values and letters a reading holds, each counted each time it is reached (what is shared counts as often as it is met; a slice's spare places count too). A statement '..UptoSaid' is the law's where the arguments, and the package variables that the reading takes, are together of bulk at most 1048576: NARROWER than '..Said'. Prove '..Said' where nothing that the law and all that it calls make is longer than what came in: it says more and counts as full. Else prove '..UptoSaid'. A law counts once. -/
mutual
def uptoBulk {H : Type} : DataW H → Nat
  | .lit (.string bytes) => bytes.length + 1
  | .lit _ => 1
  | .nil => 1
  | .ptr d => uptoBulk d + 1
  | .slice elems spare => uptoBulkAll elems + uptoBulkAll spare + 1
  | .agg parts => uptoBulkAll parts + 1
  | .iface _ d => uptoBulk d + 1
  | .map entries => uptoBulkEntries entries + 1
  | .held _ => 1
def uptoBulkAll {H : Type} : List (DataW H) → Nat
  | [] => 0
  | d :: r => uptoBulk d + uptoBulkAll r
def uptoBulkEntries {H : Type} : List (Lit × DataW H) → Nat
  | [] => 0
  | x :: r => uptoBulkEntry x + uptoBulkEntries r
def uptoBulkEntry {H : Type} : Lit × DataW H → Nat
  | (.string bytes, d) => bytes.length + uptoBulk d + 1
  | (_, d) => uptoBulk d + 1
 end
def uptoSmall : (H : Type) → List (DataW H) → Bool := fun _ ds => decide (uptoBulkAll ds ≤ 1048576)
def OpenSpec.upto (s : _root_.Go.ChangeSpec) : _root_.Go.OpenSpec := { _root_.Go.OpenSpec.ofChange s with cond := some uptoSmall }

/-- 'polynyalaw03.HullMonotone', WHERE WHAT IT READS IS OF BULK AT MOST 1048576: true; the input reads as it did. -/
def hullMonotoneUptoRow : OpenClaim := { program := "ytgpcfckbcldokaadoor", sum := "2f792d6862e5ca1344cd5725a7d323ccd22a21e524454bf7b9179794caa06d31", func := "polynya/polynyalaw03.HullMonotone", spec := "hullMonotone", unfollowed := true, recurses := true, named := ["polynya/hull.strengths"], apart := false, laid := [("polynya/hull.strengths", laid_polynya_hull_strengths)], narrowed := true }
def HullMonotoneUptoSaid : Prop := hullMonotoneUptoRow.holds Tryd.pinned (OpenSpec.upto hullMonotoneSpec)

/-- 'polynyalaw03.HullPassed', WHERE WHAT IT READS IS OF BULK AT MOST 1048576: true; the input reads as it did. -/
def hullPassedUptoRow : OpenClaim := { program := "ytgpcfckbcldokaadoor", sum := "2f792d6862e5ca1344cd5725a7d323ccd22a21e524454bf7b9179794caa06d31", func := "polynya/polynyalaw03.HullPassed", spec := "hullPassed", unfollowed := true, recurses := true, named := ["polynya/hull.strengths"], apart := false, laid := [("polynya/hull.strengths", laid_polynya_hull_strengths)], narrowed := true }
def HullPassedUptoSaid : Prop := hullPassedUptoRow.holds Tryd.pinned (OpenSpec.upto hullPassedSpec)

/-- 'polynyalaw03.HullLegs', WHERE WHAT IT READS IS OF BULK AT MOST 1048576: true; the input reads as it did. -/
def hullLegsUptoRow : OpenClaim := { program := "ytgpcfckbcldokaadoor", sum := "2f792d6862e5ca1344cd5725a7d323ccd22a21e524454bf7b9179794caa06d31", func := "polynya/polynyalaw03.HullLegs", spec := "hullLegs", unfollowed := true, recurses := true, named := ["polynya/hull.strengths"], apart := false, laid := [("polynya/hull.strengths", laid_polynya_hull_strengths)], narrowed := true }
def HullLegsUptoSaid : Prop := hullLegsUptoRow.holds Tryd.pinned (OpenSpec.upto hullLegsSpec)

/-- 'polynyalaw03.HullLimited', WHERE WHAT IT READS IS OF BULK AT MOST 1048576: true; the input reads as it did. -/
def hullLimitedUptoRow : OpenClaim := { program := "ytgpcfckbcldokaadoor", sum := "2f792d6862e5ca1344cd5725a7d323ccd22a21e524454bf7b9179794caa06d31", func := "polynya/polynyalaw03.HullLimited", spec := "hullLimited", unfollowed := true, recurses := true, named := ["polynya/hull.strengths"], apart := false, laid := [("polynya/hull.strengths", laid_polynya_hull_strengths)], narrowed := true }
def HullLimitedUptoSaid : Prop := hullLimitedUptoRow.holds Tryd.pinned (OpenSpec.upto hullLimitedSpec)

/-- 'polynyalaw03.HullChecks', WHERE WHAT IT READS IS OF BULK AT MOST 1048576: true; the input reads as it did. -/
def hullChecksUptoRow : OpenClaim := { program := "ytgpcfckbcldokaadoor", sum := "2f792d6862e5ca1344cd5725a7d323ccd22a21e524454bf7b9179794caa06d31", func := "polynya/polynyalaw03.HullChecks", spec := "hullChecks", unfollowed := true, recurses := true, named := ["polynya/hull.strengths"], apart := false, laid := [("polynya/hull.strengths", laid_polynya_hull_strengths)], narrowed := true }
def HullChecksUptoSaid : Prop := hullChecksUptoRow.holds Tryd.pinned (OpenSpec.upto hullChecksSpec)

/-- 'polynyalaw03.HullBetter', WHERE WHAT IT READS IS OF BULK AT MOST 1048576: true; the input reads as it did. -/
def hullBetterUptoRow : OpenClaim := { program := "ytgpcfckbcldokaadoor", sum := "2f792d6862e5ca1344cd5725a7d323ccd22a21e524454bf7b9179794caa06d31", func := "polynya/polynyalaw03.HullBetter", spec := "hullBetter", unfollowed := true, recurses := true, named := ["polynya/hull.strengths"], apart := false, laid := [("polynya/hull.strengths", laid_polynya_hull_strengths)], narrowed := true }
def HullBetterUptoSaid : Prop := hullBetterUptoRow.holds Tryd.pinned (OpenSpec.upto hullBetterSpec)

/-- 'polynyalaw03.HullWaits', WHERE WHAT IT READS IS OF BULK AT MOST 1048576: true; the input reads as it did. -/
def hullWaitsUptoRow : OpenClaim := { program := "ytgpcfckbcldokaadoor", sum := "2f792d6862e5ca1344cd5725a7d323ccd22a21e524454bf7b9179794caa06d31", func := "polynya/polynyalaw03.HullWaits", spec := "hullWaits", unfollowed := true, recurses := true, named := ["polynya/hull.strengths"], apart := false, laid := [("polynya/hull.strengths", laid_polynya_hull_strengths)], narrowed := true }
def HullWaitsUptoSaid : Prop := hullWaitsUptoRow.holds Tryd.pinned (OpenSpec.upto hullWaitsSpec)

/-- 'polynyalaw03.HullBounds', WHERE WHAT IT READS IS OF BULK AT MOST 1048576: true; the input reads as it did. -/
def hullBoundsUptoRow : OpenClaim := { program := "ytgpcfckbcldokaadoor", sum := "2f792d6862e5ca1344cd5725a7d323ccd22a21e524454bf7b9179794caa06d31", func := "polynya/polynyalaw03.HullBounds", spec := "hullBounds", unfollowed := true, recurses := true, named := ["polynya/hull.strengths"], apart := false, laid := [("polynya/hull.strengths", laid_polynya_hull_strengths)], narrowed := true }
def HullBoundsUptoSaid : Prop := hullBoundsUptoRow.holds Tryd.pinned (OpenSpec.upto hullBoundsSpec)

/-- 'polynyalaw03.HullCells', WHERE WHAT IT READS IS OF BULK AT MOST 1048576: true; the input reads as it did. -/
def hullCellsUptoRow : OpenClaim := { program := "ytgpcfckbcldokaadoor", sum := "2f792d6862e5ca1344cd5725a7d323ccd22a21e524454bf7b9179794caa06d31", func := "polynya/polynyalaw03.HullCells", spec := "hullCells", unfollowed := true, recurses := true, named := ["polynya/hull.strengths"], apart := false, laid := [("polynya/hull.strengths", laid_polynya_hull_strengths)], narrowed := true }
def HullCellsUptoSaid : Prop := hullCellsUptoRow.holds Tryd.pinned (OpenSpec.upto hullCellsSpec)

/-- 'polynyalaw03.HullSpeeds', WHERE WHAT IT READS IS OF BULK AT MOST 1048576: true; the input reads as it did. -/
def hullSpeedsUptoRow : OpenClaim := { program := "ytgpcfckbcldokaadoor", sum := "2f792d6862e5ca1344cd5725a7d323ccd22a21e524454bf7b9179794caa06d31", func := "polynya/polynyalaw03.HullSpeeds", spec := "hullSpeeds", unfollowed := true, recurses := true, named := ["polynya/hull.strengths"], apart := false, laid := [("polynya/hull.strengths", laid_polynya_hull_strengths)], narrowed := true }
def HullSpeedsUptoSaid : Prop := hullSpeedsUptoRow.holds Tryd.pinned (OpenSpec.upto hullSpeedsSpec)

/-- 'polynyalaw03.HullAged', WHERE WHAT IT READS IS OF BULK AT MOST 1048576: true; the input reads as it did. -/
def hullAgedUptoRow : OpenClaim := { program := "ytgpcfckbcldokaadoor", sum := "2f792d6862e5ca1344cd5725a7d323ccd22a21e524454bf7b9179794caa06d31", func := "polynya/polynyalaw03.HullAged", spec := "hullAged", unfollowed := true, recurses := true, named := ["polynya/hull.strengths"], apart := false, laid := [("polynya/hull.strengths", laid_polynya_hull_strengths)], narrowed := true }
def HullAgedUptoSaid : Prop := hullAgedUptoRow.holds Tryd.pinned (OpenSpec.upto hullAgedSpec)

/-- 'polynyalaw03.HullReported', WHERE WHAT IT READS IS OF BULK AT MOST 1048576: true; the input reads as it did. -/
def hullReportedUptoRow : OpenClaim := { program := "ytgpcfckbcldokaadoor", sum := "2f792d6862e5ca1344cd5725a7d323ccd22a21e524454bf7b9179794caa06d31", func := "polynya/polynyalaw03.HullReported", spec := "hullReported", unfollowed := true, recurses := true, named := ["polynya/hull.strengths"], apart := false, laid := [("polynya/hull.strengths", laid_polynya_hull_strengths)], narrowed := true }
def HullReportedUptoSaid : Prop := hullReportedUptoRow.holds Tryd.pinned (OpenSpec.upto hullReportedSpec)

end Rows
end Go.Proofs.YtgpcfckbcldokaaDoor
