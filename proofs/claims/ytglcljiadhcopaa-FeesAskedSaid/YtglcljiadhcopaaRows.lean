/-
  No cell of these rows narrows 'for every input' (looked for: loops, veiled, ifaces, maps, wideKeys, modest, calm, conditions, laid).
  DERIVED. THE GIVEN ROWS OF THIS SEAT. 10 by the template 'for every input the law returns true; each argument reads behind the call as it read before'; 0 by the template 'total and deterministic' (their statements: YtglcljiadhcopaaTotals.lean).
  GIVEN WITH THE SEED: the statements are not yours to turn. If you find one false, say at which input.
  Laid BY PROGRAM, IN A SANDBOX (cutbox-rows.mjs): the forced cells as the released guide's own fill.sh prints them over the translation a2b76f5684844c9c… (all of the seat's roots in one cut). By AI agents, Wed Nov 11 2026. No macro, syntax, notation, axiom, sorry.
-/
import Derived.Test.YtglcljiadhcopaaChecked
import GoSem.Claim
import GoSem.ClaimJoined
import GoSem.ClaimMapViews
import Derived.JoinedTies
import Derived.KernelRfl
namespace Go.Proofs.Ytglcljiadhcopaa
/- THE CELL 'sum', in the pinned program and in every row, IS THE sha256 OF THE DUMP (.gsa) THAT YtglcljiadhcopaaProg.lean LOADS. Nothing in Lean hashes anything: it is a label: what it is worth is what the hold of that sum in a sandbox is worth. -/
noncomputable def Try.pinned : Pinned := { name := "ytglcljiadhcopaa", sum := "a2b76f5684844c9c92ed0cc3cf7656fde3f74daa0a156abc00c926b7d068a850", checked := Try.checked }
namespace Rows
def none {H : Type} : Left H := { results := [], args := [] }

/-- 'polynyalaw12.FeesAwards': WHATEVER THE INPUT: true; the input reads as it did. -/
def feesAwardsSpec : ChangeSpec := { name := "feesAwards", fn := fun _ => fun
  | [d1, d2] => { results := [.lit (.bool true)], args := [d1, d2] }
  | _ => none }
def feesAwardsRow : OpenClaim := { program := "ytglcljiadhcopaa", sum := "a2b76f5684844c9c92ed0cc3cf7656fde3f74daa0a156abc00c926b7d068a850", func := "polynya/polynyalaw12.FeesAwards", spec := "feesAwards", unfollowed := true, recurses := true, apart := false }
def FeesAwardsSaid : Prop := feesAwardsRow.holds Try.pinned (OpenSpec.ofChange feesAwardsSpec)

/-- ITS FALSE NEIGHBOUR: 'it returns false'. Refute it at one input. -/
def feesAwardsWrong : ChangeSpec := { name := "feesAwards", fn := fun _ => fun
  | [d1, d2] => { results := [.lit (.bool false)], args := [d1, d2] }
  | _ => none }
def FeesAwardsWrongFalsely : Prop := feesAwardsRow.holds Try.pinned (OpenSpec.ofChange feesAwardsWrong)

/-- 'polynyalaw12.FeesFair': WHATEVER THE INPUT: true; the input reads as it did. -/
def feesFairSpec : ChangeSpec := { name := "feesFair", fn := fun _ => fun
  | [d1, d2, d3, d4] => { results := [.lit (.bool true)], args := [d1, d2, d3, d4] }
  | _ => none }
def feesFairRow : OpenClaim := { program := "ytglcljiadhcopaa", sum := "a2b76f5684844c9c92ed0cc3cf7656fde3f74daa0a156abc00c926b7d068a850", func := "polynya/polynyalaw12.FeesFair", spec := "feesFair", unfollowed := true, recurses := true, apart := false }
def FeesFairSaid : Prop := feesFairRow.holds Try.pinned (OpenSpec.ofChange feesFairSpec)

/-- ITS FALSE NEIGHBOUR: 'it returns false'. Refute it at one input. -/
def feesFairWrong : ChangeSpec := { name := "feesFair", fn := fun _ => fun
  | [d1, d2, d3, d4] => { results := [.lit (.bool false)], args := [d1, d2, d3, d4] }
  | _ => none }
def FeesFairWrongFalsely : Prop := feesFairRow.holds Try.pinned (OpenSpec.ofChange feesFairWrong)

/-- 'polynyalaw12.FeesDues': WHATEVER THE INPUT: true; the input reads as it did. -/
def feesDuesSpec : ChangeSpec := { name := "feesDues", fn := fun _ => fun
  | [d1, d2, d3, d4, d5, d6, d7] => { results := [.lit (.bool true)], args := [d1, d2, d3, d4, d5, d6, d7] }
  | _ => none }
def feesDuesRow : OpenClaim := { program := "ytglcljiadhcopaa", sum := "a2b76f5684844c9c92ed0cc3cf7656fde3f74daa0a156abc00c926b7d068a850", func := "polynya/polynyalaw12.FeesDues", spec := "feesDues", unfollowed := true, recurses := true, apart := false }
def FeesDuesSaid : Prop := feesDuesRow.holds Try.pinned (OpenSpec.ofChange feesDuesSpec)

/-- ITS FALSE NEIGHBOUR: 'it returns false'. Refute it at one input. -/
def feesDuesWrong : ChangeSpec := { name := "feesDues", fn := fun _ => fun
  | [d1, d2, d3, d4, d5, d6, d7] => { results := [.lit (.bool false)], args := [d1, d2, d3, d4, d5, d6, d7] }
  | _ => none }
def FeesDuesWrongFalsely : Prop := feesDuesRow.holds Try.pinned (OpenSpec.ofChange feesDuesWrong)

/-- 'polynyalaw12.FeesAdds': WHATEVER THE INPUT: true; the input reads as it did. -/
def feesAddsSpec : ChangeSpec := { name := "feesAdds", fn := fun _ => fun
  | [d1, d2] => { results := [.lit (.bool true)], args := [d1, d2] }
  | _ => none }
def feesAddsRow : OpenClaim := { program := "ytglcljiadhcopaa", sum := "a2b76f5684844c9c92ed0cc3cf7656fde3f74daa0a156abc00c926b7d068a850", func := "polynya/polynyalaw12.FeesAdds", spec := "feesAdds", unfollowed := true, recurses := true, apart := false }
def FeesAddsSaid : Prop := feesAddsRow.holds Try.pinned (OpenSpec.ofChange feesAddsSpec)

/-- ITS FALSE NEIGHBOUR: 'it returns false'. Refute it at one input. -/
def feesAddsWrong : ChangeSpec := { name := "feesAdds", fn := fun _ => fun
  | [d1, d2] => { results := [.lit (.bool false)], args := [d1, d2] }
  | _ => none }
def FeesAddsWrongFalsely : Prop := feesAddsRow.holds Try.pinned (OpenSpec.ofChange feesAddsWrong)

/-- 'polynyalaw12.FeesSeason': WHATEVER THE INPUT: true; the input reads as it did. -/
def feesSeasonSpec : ChangeSpec := { name := "feesSeason", fn := fun _ => fun
  | [d1, d2] => { results := [.lit (.bool true)], args := [d1, d2] }
  | _ => none }
def feesSeasonRow : OpenClaim := { program := "ytglcljiadhcopaa", sum := "a2b76f5684844c9c92ed0cc3cf7656fde3f74daa0a156abc00c926b7d068a850", func := "polynya/polynyalaw12.FeesSeason", spec := "feesSeason", unfollowed := true, recurses := true, apart := false }
def FeesSeasonSaid : Prop := feesSeasonRow.holds Try.pinned (OpenSpec.ofChange feesSeasonSpec)

/-- ITS FALSE NEIGHBOUR: 'it returns false'. Refute it at one input. -/
def feesSeasonWrong : ChangeSpec := { name := "feesSeason", fn := fun _ => fun
  | [d1, d2] => { results := [.lit (.bool false)], args := [d1, d2] }
  | _ => none }
def FeesSeasonWrongFalsely : Prop := feesSeasonRow.holds Try.pinned (OpenSpec.ofChange feesSeasonWrong)

/-- 'polynyalaw12.FeesShares': WHATEVER THE INPUT: true; the input reads as it did. -/
def feesSharesSpec : ChangeSpec := { name := "feesShares", fn := fun _ => fun
  | [d1, d2] => { results := [.lit (.bool true)], args := [d1, d2] }
  | _ => none }
def feesSharesRow : OpenClaim := { program := "ytglcljiadhcopaa", sum := "a2b76f5684844c9c92ed0cc3cf7656fde3f74daa0a156abc00c926b7d068a850", func := "polynya/polynyalaw12.FeesShares", spec := "feesShares", unfollowed := true, recurses := true, apart := false }
def FeesSharesSaid : Prop := feesSharesRow.holds Try.pinned (OpenSpec.ofChange feesSharesSpec)

/-- ITS FALSE NEIGHBOUR: 'it returns false'. Refute it at one input. -/
def feesSharesWrong : ChangeSpec := { name := "feesShares", fn := fun _ => fun
  | [d1, d2] => { results := [.lit (.bool false)], args := [d1, d2] }
  | _ => none }
def FeesSharesWrongFalsely : Prop := feesSharesRow.holds Try.pinned (OpenSpec.ofChange feesSharesWrong)

/-- 'polynyalaw12.FeesCore': WHATEVER THE INPUT: true; the input reads as it did. -/
def feesCoreSpec : ChangeSpec := { name := "feesCore", fn := fun _ => fun
  | [d1, d2] => { results := [.lit (.bool true)], args := [d1, d2] }
  | _ => none }
def feesCoreRow : OpenClaim := { program := "ytglcljiadhcopaa", sum := "a2b76f5684844c9c92ed0cc3cf7656fde3f74daa0a156abc00c926b7d068a850", func := "polynya/polynyalaw12.FeesCore", spec := "feesCore", unfollowed := true, recurses := true, apart := false }
def FeesCoreSaid : Prop := feesCoreRow.holds Try.pinned (OpenSpec.ofChange feesCoreSpec)

/-- ITS FALSE NEIGHBOUR: 'it returns false'. Refute it at one input. -/
def feesCoreWrong : ChangeSpec := { name := "feesCore", fn := fun _ => fun
  | [d1, d2] => { results := [.lit (.bool false)], args := [d1, d2] }
  | _ => none }
def FeesCoreWrongFalsely : Prop := feesCoreRow.holds Try.pinned (OpenSpec.ofChange feesCoreWrong)

/-- 'polynyalaw12.FeesAsked': WHATEVER THE INPUT: true; the input reads as it did. -/
def feesAskedSpec : ChangeSpec := { name := "feesAsked", fn := fun _ => fun
  | [d1, d2, d3] => { results := [.lit (.bool true)], args := [d1, d2, d3] }
  | _ => none }
def feesAskedRow : OpenClaim := { program := "ytglcljiadhcopaa", sum := "a2b76f5684844c9c92ed0cc3cf7656fde3f74daa0a156abc00c926b7d068a850", func := "polynya/polynyalaw12.FeesAsked", spec := "feesAsked", unfollowed := true, recurses := true, apart := false }
def FeesAskedSaid : Prop := feesAskedRow.holds Try.pinned (OpenSpec.ofChange feesAskedSpec)

/-- ITS FALSE NEIGHBOUR: 'it returns false'. Refute it at one input. -/
def feesAskedWrong : ChangeSpec := { name := "feesAsked", fn := fun _ => fun
  | [d1, d2, d3] => { results := [.lit (.bool false)], args := [d1, d2, d3] }
  | _ => none }
def FeesAskedWrongFalsely : Prop := feesAskedRow.holds Try.pinned (OpenSpec.ofChange feesAskedWrong)

/-- 'polynyalaw12.FeesMonths': WHATEVER THE INPUT: true; the input reads as it did. -/
def feesMonthsSpec : ChangeSpec := { name := "feesMonths", fn := fun _ => fun
  | [d1, d2, d3, d4] => { results := [.lit (.bool true)], args := [d1, d2, d3, d4] }
  | _ => none }
def feesMonthsRow : OpenClaim := { program := "ytglcljiadhcopaa", sum := "a2b76f5684844c9c92ed0cc3cf7656fde3f74daa0a156abc00c926b7d068a850", func := "polynya/polynyalaw12.FeesMonths", spec := "feesMonths", unfollowed := true, recurses := true, apart := false }
def FeesMonthsSaid : Prop := feesMonthsRow.holds Try.pinned (OpenSpec.ofChange feesMonthsSpec)

/-- ITS FALSE NEIGHBOUR: 'it returns false'. Refute it at one input. -/
def feesMonthsWrong : ChangeSpec := { name := "feesMonths", fn := fun _ => fun
  | [d1, d2, d3, d4] => { results := [.lit (.bool false)], args := [d1, d2, d3, d4] }
  | _ => none }
def FeesMonthsWrongFalsely : Prop := feesMonthsRow.holds Try.pinned (OpenSpec.ofChange feesMonthsWrong)

/-- 'polynyalaw12.FeesBills': WHATEVER THE INPUT: true; the input reads as it did. -/
def feesBillsSpec : ChangeSpec := { name := "feesBills", fn := fun _ => fun
  | [d1, d2, d3, d4, d5, d6, d7] => { results := [.lit (.bool true)], args := [d1, d2, d3, d4, d5, d6, d7] }
  | _ => none }
def feesBillsRow : OpenClaim := { program := "ytglcljiadhcopaa", sum := "a2b76f5684844c9c92ed0cc3cf7656fde3f74daa0a156abc00c926b7d068a850", func := "polynya/polynyalaw12.FeesBills", spec := "feesBills", unfollowed := true, recurses := true, apart := false }
def FeesBillsSaid : Prop := feesBillsRow.holds Try.pinned (OpenSpec.ofChange feesBillsSpec)

/-- ITS FALSE NEIGHBOUR: 'it returns false'. Refute it at one input. -/
def feesBillsWrong : ChangeSpec := { name := "feesBills", fn := fun _ => fun
  | [d1, d2, d3, d4, d5, d6, d7] => { results := [.lit (.bool false)], args := [d1, d2, d3, d4, d5, d6, d7] }
  | _ => none }
def FeesBillsWrongFalsely : Prop := feesBillsRow.holds Try.pinned (OpenSpec.ofChange feesBillsWrong)

/- THE SECOND FORM. 'bulk': how many values and letters a reading holds, each counted each time it is reached (what is shared counts as often as it is met; a slice's spare places count too). A statement '..UptoSaid' is the law's where the arguments, and the package variables that the reading takes, are together of bulk at most 1048576: NARROWER than '..Said'. Prove '..Said' where nothing that the law and all that it calls make is longer than what came in: it says more and counts as full. Else prove '..UptoSaid'. A law counts once. -/
mutual
def uptoBulk {H : Type} : DataW H → Nat
  | .lit (.string bytes) => bytes.length + 1
  | .lit _ => 1
  | .nil => 1
  | .ptr d => uptoBulk d + 1
  | .slice elems spare => uptoBulkAll elems + uptoBulkAll spare + 1
  | .agg parts => uptoBulkAll parts + 1
  | .iface _ d => uptoBulk d + 1
  | .map entries => uptoBulkEntries entries + 1
  | .held _ => 1
def uptoBulkAll {H : Type} : List (DataW H) → Nat
  | [] => 0
  | d :: r => uptoBulk d + uptoBulkAll r
def uptoBulkEntries {H : Type} : List (Lit × DataW H) → Nat
  | [] => 0
  | x :: r => uptoBulkEntry x + uptoBulkEntries r
def uptoBulkEntry {H : Type} : Lit × DataW H → Nat
  | (.string bytes, d) => bytes.length + uptoBulk d + 1
  | (_, d) => uptoBulk d + 1
 end
def uptoSmall : (H : Type) → List (DataW H) → Bool := fun _ ds => decide (uptoBulkAll ds ≤ 1048576)
def OpenSpec.upto (s : _root_.Go.ChangeSpec) : _root_.Go.OpenSpec := { _root_.Go.OpenSpec.ofChange s with cond := some uptoSmall }

/-- 'polynyalaw12.FeesAwards', WHERE WHAT IT READS IS OF BULK AT MOST 1048576: true; the input reads as it did. -/
def feesAwardsUptoRow : OpenClaim := { program := "ytglcljiadhcopaa", sum := "a2b76f5684844c9c92ed0cc3cf7656fde3f74daa0a156abc00c926b7d068a850", func := "polynya/polynyalaw12.FeesAwards", spec := "feesAwards", unfollowed := true, recurses := true, apart := false, narrowed := true }
def FeesAwardsUptoSaid : Prop := feesAwardsUptoRow.holds Try.pinned (OpenSpec.upto feesAwardsSpec)

/-- 'polynyalaw12.FeesFair', WHERE WHAT IT READS IS OF BULK AT MOST 1048576: true; the input reads as it did. -/
def feesFairUptoRow : OpenClaim := { program := "ytglcljiadhcopaa", sum := "a2b76f5684844c9c92ed0cc3cf7656fde3f74daa0a156abc00c926b7d068a850", func := "polynya/polynyalaw12.FeesFair", spec := "feesFair", unfollowed := true, recurses := true, apart := false, narrowed := true }
def FeesFairUptoSaid : Prop := feesFairUptoRow.holds Try.pinned (OpenSpec.upto feesFairSpec)

/-- 'polynyalaw12.FeesDues', WHERE WHAT IT READS IS OF BULK AT MOST 1048576: true; the input reads as it did. -/
def feesDuesUptoRow : OpenClaim := { program := "ytglcljiadhcopaa", sum := "a2b76f5684844c9c92ed0cc3cf7656fde3f74daa0a156abc00c926b7d068a850", func := "polynya/polynyalaw12.FeesDues", spec := "feesDues", unfollowed := true, recurses := true, apart := false, narrowed := true }
def FeesDuesUptoSaid : Prop := feesDuesUptoRow.holds Try.pinned (OpenSpec.upto feesDuesSpec)

/-- 'polynyalaw12.FeesAdds', WHERE WHAT IT READS IS OF BULK AT MOST 1048576: true; the input reads as it did. -/
def feesAddsUptoRow : OpenClaim := { program := "ytglcljiadhcopaa", sum := "a2b76f5684844c9c92ed0cc3cf7656fde3f74daa0a156abc00c926b7d068a850", func := "polynya/polynyalaw12.FeesAdds", spec := "feesAdds", unfollowed := true, recurses := true, apart := false, narrowed := true }
def FeesAddsUptoSaid : Prop := feesAddsUptoRow.holds Try.pinned (OpenSpec.upto feesAddsSpec)

/-- 'polynyalaw12.FeesSeason', WHERE WHAT IT READS IS OF BULK AT MOST 1048576: true; the input reads as it did. -/
def feesSeasonUptoRow : OpenClaim := { program := "ytglcljiadhcopaa", sum := "a2b76f5684844c9c92ed0cc3cf7656fde3f74daa0a156abc00c926b7d068a850", func := "polynya/polynyalaw12.FeesSeason", spec := "feesSeason", unfollowed := true, recurses := true, apart := false, narrowed := true }
def FeesSeasonUptoSaid : Prop := feesSeasonUptoRow.holds Try.pinned (OpenSpec.upto feesSeasonSpec)

/-- 'polynyalaw12.FeesShares', WHERE WHAT IT READS IS OF BULK AT MOST 1048576: true; the input reads as it did. -/
def feesSharesUptoRow : OpenClaim := { program := "ytglcljiadhcopaa", sum := "a2b76f5684844c9c92ed0cc3cf7656fde3f74daa0a156abc00c926b7d068a850", func := "polynya/polynyalaw12.FeesShares", spec := "feesShares", unfollowed := true, recurses := true, apart := false, narrowed := true }
def FeesSharesUptoSaid : Prop := feesSharesUptoRow.holds Try.pinned (OpenSpec.upto feesSharesSpec)

/-- 'polynyalaw12.FeesCore', WHERE WHAT IT READS IS OF BULK AT MOST 1048576: true; the input reads as it did. -/
def feesCoreUptoRow : OpenClaim := { program := "ytglcljiadhcopaa", sum := "a2b76f5684844c9c92ed0cc3cf7656fde3f74daa0a156abc00c926b7d068a850", func := "polynya/polynyalaw12.FeesCore", spec := "feesCore", unfollowed := true, recurses := true, apart := false, narrowed := true }
def FeesCoreUptoSaid : Prop := feesCoreUptoRow.holds Try.pinned (OpenSpec.upto feesCoreSpec)

/-- 'polynyalaw12.FeesAsked', WHERE WHAT IT READS IS OF BULK AT MOST 1048576: true; the input reads as it did. -/
def feesAskedUptoRow : OpenClaim := { program := "ytglcljiadhcopaa", sum := "a2b76f5684844c9c92ed0cc3cf7656fde3f74daa0a156abc00c926b7d068a850", func := "polynya/polynyalaw12.FeesAsked", spec := "feesAsked", unfollowed := true, recurses := true, apart := false, narrowed := true }
def FeesAskedUptoSaid : Prop := feesAskedUptoRow.holds Try.pinned (OpenSpec.upto feesAskedSpec)

/-- 'polynyalaw12.FeesMonths', WHERE WHAT IT READS IS OF BULK AT MOST 1048576: true; the input reads as it did. -/
def feesMonthsUptoRow : OpenClaim := { program := "ytglcljiadhcopaa", sum := "a2b76f5684844c9c92ed0cc3cf7656fde3f74daa0a156abc00c926b7d068a850", func := "polynya/polynyalaw12.FeesMonths", spec := "feesMonths", unfollowed := true, recurses := true, apart := false, narrowed := true }
def FeesMonthsUptoSaid : Prop := feesMonthsUptoRow.holds Try.pinned (OpenSpec.upto feesMonthsSpec)

/-- 'polynyalaw12.FeesBills', WHERE WHAT IT READS IS OF BULK AT MOST 1048576: true; the input reads as it did. -/
def feesBillsUptoRow : OpenClaim := { program := "ytglcljiadhcopaa", sum := "a2b76f5684844c9c92ed0cc3cf7656fde3f74daa0a156abc00c926b7d068a850", func := "polynya/polynyalaw12.FeesBills", spec := "feesBills", unfollowed := true, recurses := true, apart := false, narrowed := true }
def FeesBillsUptoSaid : Prop := feesBillsUptoRow.holds Try.pinned (OpenSpec.upto feesBillsSpec)

end Rows
end Go.Proofs.Ytglcljiadhcopaa
