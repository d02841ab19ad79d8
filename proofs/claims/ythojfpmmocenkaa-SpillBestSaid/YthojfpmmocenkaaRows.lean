/-
  No cell of these rows narrows 'for every input' (looked for: loops, veiled, ifaces, maps, wideKeys, modest, calm, conditions, laid).
  DERIVED. THE GIVEN ROWS OF THIS SEAT. 9 by the template 'for every input the law returns true; each argument reads behind the call as it read before'; 0 by the template 'total and deterministic' (their statements: YthojfpmmocenkaaTotals.lean).
  GIVEN WITH THE SEED: the statements are not yours to turn. If you find one false, say at which input.
  Laid BY PROGRAM, IN A SANDBOX (cutbox-rows.mjs): the forced cells as the released guide's own fill.sh prints them over the translation cff76f57201a7a79… (all of the seat's roots in one cut). By AI agents, Wed Nov 11 2026. No macro, syntax, notation, axiom, sorry.
-/
import Derived.Test.YthojfpmmocenkaaChecked
import GoSem.Claim
import GoSem.ClaimJoined
import GoSem.ClaimMapViews
import Derived.JoinedTies
import Derived.KernelRfl
namespace Go.Proofs.Ythojfpmmocenkaa
/- THE CELL 'sum', in the pinned program and in every row, IS THE sha256 OF THE DUMP (.gsa) THAT YthojfpmmocenkaaProg.lean LOADS. Nothing in Lean hashes anything: it is a label: what it is worth is what the hold of that sum in a sandbox is worth. -/
noncomputable def Try.pinned : Pinned := { name := "ythojfpmmocenkaa", sum := "cff76f57201a7a790b06a4af382f285cbf28c0f9c514192562ce8bb0b9e3a958", checked := Try.checked }
namespace Rows
def none {H : Type} : Left H := { results := [], args := [] }

/-- 'polynyalaw11.SpillInside': WHATEVER THE INPUT: true; the input reads as it did. -/
def spillInsideSpec : ChangeSpec := { name := "spillInside", fn := fun _ => fun
  | [d1, d2, d3, d4] => { results := [.lit (.bool true)], args := [d1, d2, d3, d4] }
  | _ => none }
def spillInsideRow : OpenClaim := { program := "ythojfpmmocenkaa", sum := "cff76f57201a7a790b06a4af382f285cbf28c0f9c514192562ce8bb0b9e3a958", func := "polynya/polynyalaw11.SpillInside", spec := "spillInside", unfollowed := true, recurses := true, apart := false }
def SpillInsideSaid : Prop := spillInsideRow.holds Try.pinned (OpenSpec.ofChange spillInsideSpec)

/-- ITS FALSE NEIGHBOUR: 'it returns false'. Refute it at one input. -/
def spillInsideWrong : ChangeSpec := { name := "spillInside", fn := fun _ => fun
  | [d1, d2, d3, d4] => { results := [.lit (.bool false)], args := [d1, d2, d3, d4] }
  | _ => none }
def SpillInsideWrongFalsely : Prop := spillInsideRow.holds Try.pinned (OpenSpec.ofChange spillInsideWrong)

/-- 'polynyalaw11.SpillHolds': WHATEVER THE INPUT: true; the input reads as it did. -/
def spillHoldsSpec : ChangeSpec := { name := "spillHolds", fn := fun _ => fun
  | [d1, d2, d3] => { results := [.lit (.bool true)], args := [d1, d2, d3] }
  | _ => none }
def spillHoldsRow : OpenClaim := { program := "ythojfpmmocenkaa", sum := "cff76f57201a7a790b06a4af382f285cbf28c0f9c514192562ce8bb0b9e3a958", func := "polynya/polynyalaw11.SpillHolds", spec := "spillHolds", unfollowed := true, recurses := true, apart := false }
def SpillHoldsSaid : Prop := spillHoldsRow.holds Try.pinned (OpenSpec.ofChange spillHoldsSpec)

/-- ITS FALSE NEIGHBOUR: 'it returns false'. Refute it at one input. -/
def spillHoldsWrong : ChangeSpec := { name := "spillHolds", fn := fun _ => fun
  | [d1, d2, d3] => { results := [.lit (.bool false)], args := [d1, d2, d3] }
  | _ => none }
def SpillHoldsWrongFalsely : Prop := spillHoldsRow.holds Try.pinned (OpenSpec.ofChange spillHoldsWrong)

/-- 'polynyalaw11.SpillSights': WHATEVER THE INPUT: true; the input reads as it did. -/
def spillSightsSpec : ChangeSpec := { name := "spillSights", fn := fun _ => fun
  | [d1, d2] => { results := [.lit (.bool true)], args := [d1, d2] }
  | _ => none }
def spillSightsRow : OpenClaim := { program := "ythojfpmmocenkaa", sum := "cff76f57201a7a790b06a4af382f285cbf28c0f9c514192562ce8bb0b9e3a958", func := "polynya/polynyalaw11.SpillSights", spec := "spillSights", unfollowed := true, recurses := true, apart := false }
def SpillSightsSaid : Prop := spillSightsRow.holds Try.pinned (OpenSpec.ofChange spillSightsSpec)

/-- ITS FALSE NEIGHBOUR: 'it returns false'. Refute it at one input. -/
def spillSightsWrong : ChangeSpec := { name := "spillSights", fn := fun _ => fun
  | [d1, d2] => { results := [.lit (.bool false)], args := [d1, d2] }
  | _ => none }
def SpillSightsWrongFalsely : Prop := spillSightsRow.holds Try.pinned (OpenSpec.ofChange spillSightsWrong)

/-- 'polynyalaw11.SpillComes': WHATEVER THE INPUT: true; the input reads as it did. -/
def spillComesSpec : ChangeSpec := { name := "spillComes", fn := fun _ => fun
  | [d1, d2, d3] => { results := [.lit (.bool true)], args := [d1, d2, d3] }
  | _ => none }
def spillComesRow : OpenClaim := { program := "ythojfpmmocenkaa", sum := "cff76f57201a7a790b06a4af382f285cbf28c0f9c514192562ce8bb0b9e3a958", func := "polynya/polynyalaw11.SpillComes", spec := "spillComes", unfollowed := true, recurses := true, apart := false }
def SpillComesSaid : Prop := spillComesRow.holds Try.pinned (OpenSpec.ofChange spillComesSpec)

/-- ITS FALSE NEIGHBOUR: 'it returns false'. Refute it at one input. -/
def spillComesWrong : ChangeSpec := { name := "spillComes", fn := fun _ => fun
  | [d1, d2, d3] => { results := [.lit (.bool false)], args := [d1, d2, d3] }
  | _ => none }
def SpillComesWrongFalsely : Prop := spillComesRow.holds Try.pinned (OpenSpec.ofChange spillComesWrong)

/-- 'polynyalaw11.SpillFields': WHATEVER THE INPUT: true; the input reads as it did. -/
def spillFieldsSpec : ChangeSpec := { name := "spillFields", fn := fun _ => fun
  | [d1, d2, d3, d4, d5, d6, d7, d8, d9] => { results := [.lit (.bool true)], args := [d1, d2, d3, d4, d5, d6, d7, d8, d9] }
  | _ => none }
def spillFieldsRow : OpenClaim := { program := "ythojfpmmocenkaa", sum := "cff76f57201a7a790b06a4af382f285cbf28c0f9c514192562ce8bb0b9e3a958", func := "polynya/polynyalaw11.SpillFields", spec := "spillFields", unfollowed := true, recurses := true, apart := false }
def SpillFieldsSaid : Prop := spillFieldsRow.holds Try.pinned (OpenSpec.ofChange spillFieldsSpec)

/-- ITS FALSE NEIGHBOUR: 'it returns false'. Refute it at one input. -/
def spillFieldsWrong : ChangeSpec := { name := "spillFields", fn := fun _ => fun
  | [d1, d2, d3, d4, d5, d6, d7, d8, d9] => { results := [.lit (.bool false)], args := [d1, d2, d3, d4, d5, d6, d7, d8, d9] }
  | _ => none }
def SpillFieldsWrongFalsely : Prop := spillFieldsRow.holds Try.pinned (OpenSpec.ofChange spillFieldsWrong)

/-- 'polynyalaw11.SpillFlights': WHATEVER THE INPUT: true; the input reads as it did. -/
def spillFlightsSpec : ChangeSpec := { name := "spillFlights", fn := fun _ => fun
  | [d1, d2, d3, d4] => { results := [.lit (.bool true)], args := [d1, d2, d3, d4] }
  | _ => none }
def spillFlightsRow : OpenClaim := { program := "ythojfpmmocenkaa", sum := "cff76f57201a7a790b06a4af382f285cbf28c0f9c514192562ce8bb0b9e3a958", func := "polynya/polynyalaw11.SpillFlights", spec := "spillFlights", unfollowed := true, recurses := true, apart := false }
def SpillFlightsSaid : Prop := spillFlightsRow.holds Try.pinned (OpenSpec.ofChange spillFlightsSpec)

/-- ITS FALSE NEIGHBOUR: 'it returns false'. Refute it at one input. -/
def spillFlightsWrong : ChangeSpec := { name := "spillFlights", fn := fun _ => fun
  | [d1, d2, d3, d4] => { results := [.lit (.bool false)], args := [d1, d2, d3, d4] }
  | _ => none }
def SpillFlightsWrongFalsely : Prop := spillFlightsRow.holds Try.pinned (OpenSpec.ofChange spillFlightsWrong)

/-- 'polynyalaw11.SpillBest': WHATEVER THE INPUT: true; the input reads as it did. -/
def spillBestSpec : ChangeSpec := { name := "spillBest", fn := fun _ => fun
  | [d1, d2, d3, d4, d5, d6, d7] => { results := [.lit (.bool true)], args := [d1, d2, d3, d4, d5, d6, d7] }
  | _ => none }
def spillBestRow : OpenClaim := { program := "ythojfpmmocenkaa", sum := "cff76f57201a7a790b06a4af382f285cbf28c0f9c514192562ce8bb0b9e3a958", func := "polynya/polynyalaw11.SpillBest", spec := "spillBest", unfollowed := true, recurses := true, apart := false }
def SpillBestSaid : Prop := spillBestRow.holds Try.pinned (OpenSpec.ofChange spillBestSpec)

/-- ITS FALSE NEIGHBOUR: 'it returns false'. Refute it at one input. -/
def spillBestWrong : ChangeSpec := { name := "spillBest", fn := fun _ => fun
  | [d1, d2, d3, d4, d5, d6, d7] => { results := [.lit (.bool false)], args := [d1, d2, d3, d4, d5, d6, d7] }
  | _ => none }
def SpillBestWrongFalsely : Prop := spillBestRow.holds Try.pinned (OpenSpec.ofChange spillBestWrong)

/-- 'polynyalaw11.SpillSeen': WHATEVER THE INPUT: true; the input reads as it did. -/
def spillSeenSpec : ChangeSpec := { name := "spillSeen", fn := fun _ => fun
  | [d1, d2, d3, d4] => { results := [.lit (.bool true)], args := [d1, d2, d3, d4] }
  | _ => none }
def spillSeenRow : OpenClaim := { program := "ythojfpmmocenkaa", sum := "cff76f57201a7a790b06a4af382f285cbf28c0f9c514192562ce8bb0b9e3a958", func := "polynya/polynyalaw11.SpillSeen", spec := "spillSeen", unfollowed := true, recurses := true, apart := false }
def SpillSeenSaid : Prop := spillSeenRow.holds Try.pinned (OpenSpec.ofChange spillSeenSpec)

/-- ITS FALSE NEIGHBOUR: 'it returns false'. Refute it at one input. -/
def spillSeenWrong : ChangeSpec := { name := "spillSeen", fn := fun _ => fun
  | [d1, d2, d3, d4] => { results := [.lit (.bool false)], args := [d1, d2, d3, d4] }
  | _ => none }
def SpillSeenWrongFalsely : Prop := spillSeenRow.holds Try.pinned (OpenSpec.ofChange spillSeenWrong)

/-- 'polynyalaw11.SpillCharts': WHATEVER THE INPUT: true; the input reads as it did. -/
def spillChartsSpec : ChangeSpec := { name := "spillCharts", fn := fun _ => fun
  | [d1, d2, d3, d4, d5] => { results := [.lit (.bool true)], args := [d1, d2, d3, d4, d5] }
  | _ => none }
def spillChartsRow : OpenClaim := { program := "ythojfpmmocenkaa", sum := "cff76f57201a7a790b06a4af382f285cbf28c0f9c514192562ce8bb0b9e3a958", func := "polynya/polynyalaw11.SpillCharts", spec := "spillCharts", unfollowed := true, recurses := true, apart := false }
def SpillChartsSaid : Prop := spillChartsRow.holds Try.pinned (OpenSpec.ofChange spillChartsSpec)

/-- ITS FALSE NEIGHBOUR: 'it returns false'. Refute it at one input. -/
def spillChartsWrong : ChangeSpec := { name := "spillCharts", fn := fun _ => fun
  | [d1, d2, d3, d4, d5] => { results := [.lit (.bool false)], args := [d1, d2, d3, d4, d5] }
  | _ => none }
def SpillChartsWrongFalsely : Prop := spillChartsRow.holds Try.pinned (OpenSpec.ofChange spillChartsWrong)

/- THE SECOND FORM. 'bulk': how many values and letters a reading holds, each counted each time it is reached (what is shared counts as often as it is met; a slice's spare places count too). A statement '..UptoSaid' is the law's where the arguments, and the package variables that the reading takes, are together of bulk at most 1048576: NARROWER than '..Said'. Prove '..Said' where nothing that the law and all that it calls make is longer than what came in: it says more and counts as full. Else prove '..UptoSaid'. A law counts once. -/
mutual
def uptoBulk {H : Type} : DataW H → Nat
  | .lit (.string bytes) => bytes.length + 1
  | .lit _ => 1
  | .nil => 1
  | .ptr d => uptoBulk d + 1
  | .slice elems spare => uptoBulkAll elems + uptoBulkAll spare + 1
  | .agg parts => uptoBulkAll parts + 1
  | .iface _ d => uptoBulk d + 1
  | .map entries => uptoBulkEntries entries + 1
  | .held _ => 1
def uptoBulkAll {H : Type} : List (DataW H) → Nat
  | [] => 0
  | d :: r => uptoBulk d + uptoBulkAll r
def uptoBulkEntries {H : Type} : List (Lit × DataW H) → Nat
  | [] => 0
  | x :: r => uptoBulkEntry x + uptoBulkEntries r
def uptoBulkEntry {H : Type} : Lit × DataW H → Nat
  | (.string bytes, d) => bytes.length + uptoBulk d + 1
  | (_, d) => uptoBulk d + 1
 end
def uptoSmall : (H : Type) → List (DataW H) → Bool := fun _ ds => decide (uptoBulkAll ds ≤ 1048576)
def OpenSpec.upto (s : _root_.Go.ChangeSpec) : _root_.Go.OpenSpec := { _root_.Go.OpenSpec.ofChange s with cond := some uptoSmall }

/-- 'polynyalaw11.SpillInside', WHERE WHAT IT READS IS OF BULK AT MOST 1048576: true; the input reads as it did. -/
def spillInsideUptoRow : OpenClaim := { program := "ythojfpmmocenkaa", sum := "cff76f57201a7a790b06a4af382f285cbf28c0f9c514192562ce8bb0b9e3a958", func := "polynya/polynyalaw11.SpillInside", spec := "spillInside", unfollowed := true, recurses := true, apart := false, narrowed := true }
def SpillInsideUptoSaid : Prop := spillInsideUptoRow.holds Try.pinned (OpenSpec.upto spillInsideSpec)

/-- 'polynyalaw11.SpillHolds', WHERE WHAT IT READS IS OF BULK AT MOST 1048576: true; the input reads as it did. -/
def spillHoldsUptoRow : OpenClaim := { program := "ythojfpmmocenkaa", sum := "cff76f57201a7a790b06a4af382f285cbf28c0f9c514192562ce8bb0b9e3a958", func := "polynya/polynyalaw11.SpillHolds", spec := "spillHolds", unfollowed := true, recurses := true, apart := false, narrowed := true }
def SpillHoldsUptoSaid : Prop := spillHoldsUptoRow.holds Try.pinned (OpenSpec.upto spillHoldsSpec)

/-- 'polynyalaw11.SpillSights', WHERE WHAT IT READS IS OF BULK AT MOST 1048576: true; the input reads as it did. -/
def spillSightsUptoRow : OpenClaim := { program := "ythojfpmmocenkaa", sum := "cff76f57201a7a790b06a4af382f285cbf28c0f9c514192562ce8bb0b9e3a958", func := "polynya/polynyalaw11.SpillSights", spec := "spillSights", unfollowed := true, recurses := true, apart := false, narrowed := true }
def SpillSightsUptoSaid : Prop := spillSightsUptoRow.holds Try.pinned (OpenSpec.upto spillSightsSpec)

/-- 'polynyalaw11.SpillComes', WHERE WHAT IT READS IS OF BULK AT MOST 1048576: true; the input reads as it did. -/
def spillComesUptoRow : OpenClaim := { program := "ythojfpmmocenkaa", sum := "cff76f57201a7a790b06a4af382f285cbf28c0f9c514192562ce8bb0b9e3a958", func := "polynya/polynyalaw11.SpillComes", spec := "spillComes", unfollowed := true, recurses := true, apart := false, narrowed := true }
def SpillComesUptoSaid : Prop := spillComesUptoRow.holds Try.pinned (OpenSpec.upto spillComesSpec)

/-- 'polynyalaw11.SpillFields', WHERE WHAT IT READS IS OF BULK AT MOST 1048576: true; the input reads as it did. -/
def spillFieldsUptoRow : OpenClaim := { program := "ythojfpmmocenkaa", sum := "cff76f57201a7a790b06a4af382f285cbf28c0f9c514192562ce8bb0b9e3a958", func := "polynya/polynyalaw11.SpillFields", spec := "spillFields", unfollowed := true, recurses := true, apart := false, narrowed := true }
def SpillFieldsUptoSaid : Prop := spillFieldsUptoRow.holds Try.pinned (OpenSpec.upto spillFieldsSpec)

/-- 'polynyalaw11.SpillFlights', WHERE WHAT IT READS IS OF BULK AT MOST 1048576: true; the input reads as it did. -/
def spillFlightsUptoRow : OpenClaim := { program := "ythojfpmmocenkaa", sum := "cff76f57201a7a790b06a4af382f285cbf28c0f9c514192562ce8bb0b9e3a958", func := "polynya/polynyalaw11.SpillFlights", spec := "spillFlights", unfollowed := true, recurses := true, apart := false, narrowed := true }
def SpillFlightsUptoSaid : Prop := spillFlightsUptoRow.holds Try.pinned (OpenSpec.upto spillFlightsSpec)

/-- 'polynyalaw11.SpillBest', WHERE WHAT IT READS IS OF BULK AT MOST 1048576: true; the input reads as it did. -/
def spillBestUptoRow : OpenClaim := { program := "ythojfpmmocenkaa", sum := "cff76f57201a7a790b06a4af382f285cbf28c0f9c514192562ce8bb0b9e3a958", func := "polynya/polynyalaw11.SpillBest", spec := "spillBest", unfollowed := true, recurses := true, apart := false, narrowed := true }
def SpillBestUptoSaid : Prop := spillBestUptoRow.holds Try.pinned (OpenSpec.upto spillBestSpec)

/-- 'polynyalaw11.SpillSeen', WHERE WHAT IT READS IS OF BULK AT MOST 1048576: true; the input reads as it did. -/
def spillSeenUptoRow : OpenClaim := { program := "ythojfpmmocenkaa", sum := "cff76f57201a7a790b06a4af382f285cbf28c0f9c514192562ce8bb0b9e3a958", func := "polynya/polynyalaw11.SpillSeen", spec := "spillSeen", unfollowed := true, recurses := true, apart := false, narrowed := true }
def SpillSeenUptoSaid : Prop := spillSeenUptoRow.holds Try.pinned (OpenSpec.upto spillSeenSpec)

/-- 'polynyalaw11.SpillCharts', WHERE WHAT IT READS IS OF BULK AT MOST 1048576: true; the input reads as it did. -/
def spillChartsUptoRow : OpenClaim := { program := "ythojfpmmocenkaa", sum := "cff76f57201a7a790b06a4af382f285cbf28c0f9c514192562ce8bb0b9e3a958", func := "polynya/polynyalaw11.SpillCharts", spec := "spillCharts", unfollowed := true, recurses := true, apart := false, narrowed := true }
def SpillChartsUptoSaid : Prop := spillChartsUptoRow.holds Try.pinned (OpenSpec.upto spillChartsSpec)

end Rows
end Go.Proofs.Ythojfpmmocenkaa
