/-
  No cell of these rows narrows 'for every input' (looked for: loops, veiled, ifaces, maps, wideKeys, modest, calm, conditions, laid).
  DERIVED. THE GIVEN ROWS OF THIS SEAT. 6 by the template 'for every input the law returns true; each argument reads behind the call as it read before'; 0 by the template 'total and deterministic' (their statements: YtmfbcbbefepnpaaTotals.lean).
  GIVEN WITH THE SEED: the statements are not yours to turn. If you find one false, say at which input.
  Laid BY PROGRAM, IN A SANDBOX (cutbox-rows.mjs): the forced cells as the released guide's own fill.sh prints them over the translation 607c30e24a4d49db… (all of the seat's roots in one cut). By AI agents, Wed Nov 11 2026. No macro, syntax, notation, axiom, sorry.
-/
import Derived.Test.YtmfbcbbefepnpaaChecked
import GoSem.Claim
import GoSem.ClaimJoined
import GoSem.ClaimMapViews
import Derived.JoinedTies
import Derived.KernelRfl
namespace Go.Proofs.Ytmfbcbbefepnpaa
/- THE CELL 'sum', in the pinned program and in every row, IS THE sha256 OF THE DUMP (.gsa) THAT YtmfbcbbefepnpaaProg.lean LOADS. Nothing in Lean hashes anything: it is a label: what it is worth is what the hold of that sum in a sandbox is worth. -/
noncomputable def Try.pinned : Pinned := { name := "ytmfbcbbefepnpaa", sum := "607c30e24a4d49dbe1d9edc32d0680fe340a23b9502db9563b584a83e0425781", checked := Try.checked }
namespace Rows
def none {H : Type} : Left H := { results := [], args := [] }

/-- 'polynyalaw06.BreakerMore': WHATEVER THE INPUT: true; the input reads as it did. -/
def breakerMoreSpec : ChangeSpec := { name := "breakerMore", fn := fun _ => fun
  | [d1, d2] => { results := [.lit (.bool true)], args := [d1, d2] }
  | _ => none }
def breakerMoreRow : OpenClaim := { program := "ytmfbcbbefepnpaa", sum := "607c30e24a4d49dbe1d9edc32d0680fe340a23b9502db9563b584a83e0425781", func := "polynya/polynyalaw06.BreakerMore", spec := "breakerMore", unfollowed := true, recurses := true, plainKeys := false, apart := false }
def BreakerMoreSaid : Prop := breakerMoreRow.holds Try.pinned (OpenSpec.ofChange breakerMoreSpec)

/-- ITS FALSE NEIGHBOUR: 'it returns false'. Refute it at one input. -/
def breakerMoreWrong : ChangeSpec := { name := "breakerMore", fn := fun _ => fun
  | [d1, d2] => { results := [.lit (.bool false)], args := [d1, d2] }
  | _ => none }
def BreakerMoreWrongFalsely : Prop := breakerMoreRow.holds Try.pinned (OpenSpec.ofChange breakerMoreWrong)

/-- 'polynyalaw06.BreakerGuards': WHATEVER THE INPUT: true; the input reads as it did. -/
def breakerGuardsSpec : ChangeSpec := { name := "breakerGuards", fn := fun _ => fun
  | [d1, d2] => { results := [.lit (.bool true)], args := [d1, d2] }
  | _ => none }
def breakerGuardsRow : OpenClaim := { program := "ytmfbcbbefepnpaa", sum := "607c30e24a4d49dbe1d9edc32d0680fe340a23b9502db9563b584a83e0425781", func := "polynya/polynyalaw06.BreakerGuards", spec := "breakerGuards", unfollowed := true, recurses := true, plainKeys := false, apart := false }
def BreakerGuardsSaid : Prop := breakerGuardsRow.holds Try.pinned (OpenSpec.ofChange breakerGuardsSpec)

/-- ITS FALSE NEIGHBOUR: 'it returns false'. Refute it at one input. -/
def breakerGuardsWrong : ChangeSpec := { name := "breakerGuards", fn := fun _ => fun
  | [d1, d2] => { results := [.lit (.bool false)], args := [d1, d2] }
  | _ => none }
def BreakerGuardsWrongFalsely : Prop := breakerGuardsRow.holds Try.pinned (OpenSpec.ofChange breakerGuardsWrong)

/-- 'polynyalaw06.BreakerActs': WHATEVER THE INPUT: true; the input reads as it did. -/
def breakerActsSpec : ChangeSpec := { name := "breakerActs", fn := fun _ => fun
  | [d1, d2, d3, d4, d5, d6] => { results := [.lit (.bool true)], args := [d1, d2, d3, d4, d5, d6] }
  | _ => none }
def breakerActsRow : OpenClaim := { program := "ytmfbcbbefepnpaa", sum := "607c30e24a4d49dbe1d9edc32d0680fe340a23b9502db9563b584a83e0425781", func := "polynya/polynyalaw06.BreakerActs", spec := "breakerActs", unfollowed := true, recurses := true, plainKeys := false, apart := false }
def BreakerActsSaid : Prop := breakerActsRow.holds Try.pinned (OpenSpec.ofChange breakerActsSpec)

/-- ITS FALSE NEIGHBOUR: 'it returns false'. Refute it at one input. -/
def breakerActsWrong : ChangeSpec := { name := "breakerActs", fn := fun _ => fun
  | [d1, d2, d3, d4, d5, d6] => { results := [.lit (.bool false)], args := [d1, d2, d3, d4, d5, d6] }
  | _ => none }
def BreakerActsWrongFalsely : Prop := breakerActsRow.holds Try.pinned (OpenSpec.ofChange breakerActsWrong)

/-- 'polynyalaw06.BreakerFreed': WHATEVER THE INPUT: true; the input reads as it did. -/
def breakerFreedSpec : ChangeSpec := { name := "breakerFreed", fn := fun _ => fun
  | [d1, d2, d3] => { results := [.lit (.bool true)], args := [d1, d2, d3] }
  | _ => none }
def breakerFreedRow : OpenClaim := { program := "ytmfbcbbefepnpaa", sum := "607c30e24a4d49dbe1d9edc32d0680fe340a23b9502db9563b584a83e0425781", func := "polynya/polynyalaw06.BreakerFreed", spec := "breakerFreed", unfollowed := true, recurses := true, plainKeys := false, apart := false }
def BreakerFreedSaid : Prop := breakerFreedRow.holds Try.pinned (OpenSpec.ofChange breakerFreedSpec)

/-- ITS FALSE NEIGHBOUR: 'it returns false'. Refute it at one input. -/
def breakerFreedWrong : ChangeSpec := { name := "breakerFreed", fn := fun _ => fun
  | [d1, d2, d3] => { results := [.lit (.bool false)], args := [d1, d2, d3] }
  | _ => none }
def BreakerFreedWrongFalsely : Prop := breakerFreedRow.holds Try.pinned (OpenSpec.ofChange breakerFreedWrong)

/-- 'polynyalaw06.BreakerCovered': WHATEVER THE INPUT: true; the input reads as it did. -/
def breakerCoveredSpec : ChangeSpec := { name := "breakerCovered", fn := fun _ => fun
  | [d1, d2, d3, d4, d5] => { results := [.lit (.bool true)], args := [d1, d2, d3, d4, d5] }
  | _ => none }
def breakerCoveredRow : OpenClaim := { program := "ytmfbcbbefepnpaa", sum := "607c30e24a4d49dbe1d9edc32d0680fe340a23b9502db9563b584a83e0425781", func := "polynya/polynyalaw06.BreakerCovered", spec := "breakerCovered", unfollowed := true, recurses := true, plainKeys := false, apart := false }
def BreakerCoveredSaid : Prop := breakerCoveredRow.holds Try.pinned (OpenSpec.ofChange breakerCoveredSpec)

/-- ITS FALSE NEIGHBOUR: 'it returns false'. Refute it at one input. -/
def breakerCoveredWrong : ChangeSpec := { name := "breakerCovered", fn := fun _ => fun
  | [d1, d2, d3, d4, d5] => { results := [.lit (.bool false)], args := [d1, d2, d3, d4, d5] }
  | _ => none }
def BreakerCoveredWrongFalsely : Prop := breakerCoveredRow.holds Try.pinned (OpenSpec.ofChange breakerCoveredWrong)

/-- 'polynyalaw06.BreakerProved': WHATEVER THE INPUT: true; the input reads as it did. -/
def breakerProvedSpec : ChangeSpec := { name := "breakerProved", fn := fun _ => fun
  | [d1, d2, d3, d4] => { results := [.lit (.bool true)], args := [d1, d2, d3, d4] }
  | _ => none }
def breakerProvedRow : OpenClaim := { program := "ytmfbcbbefepnpaa", sum := "607c30e24a4d49dbe1d9edc32d0680fe340a23b9502db9563b584a83e0425781", func := "polynya/polynyalaw06.BreakerProved", spec := "breakerProved", unfollowed := true, recurses := true, plainKeys := false, apart := false }
def BreakerProvedSaid : Prop := breakerProvedRow.holds Try.pinned (OpenSpec.ofChange breakerProvedSpec)

/-- ITS FALSE NEIGHBOUR: 'it returns false'. Refute it at one input. -/
def breakerProvedWrong : ChangeSpec := { name := "breakerProved", fn := fun _ => fun
  | [d1, d2, d3, d4] => { results := [.lit (.bool false)], args := [d1, d2, d3, d4] }
  | _ => none }
def BreakerProvedWrongFalsely : Prop := breakerProvedRow.holds Try.pinned (OpenSpec.ofChange breakerProvedWrong)

/- THE SECOND FORM. 'bulk': how many values and letters a reading holds, each counted each time it is reached (what is shared counts as often as it is met; a slice's spare places count too). A statement '..UptoSaid' is the law's where the arguments, and the package variables that the reading takes, are together of bulk at most 1048576: NARROWER than '..Said'. Prove '..Said' where nothing that the law and all that it calls make is longer than what came in: it says more and counts as full. Else prove '..UptoSaid'. A law counts once. -/
mutual
def uptoBulk {H : Type} : DataW H → Nat
  | .lit (.string bytes) => bytes.length + 1
  | .lit _ => 1
  | .nil => 1
  | .ptr d => uptoBulk d + 1
  | .slice elems spare => uptoBulkAll elems + uptoBulkAll spare + 1
  | .agg parts => uptoBulkAll parts + 1
  | .iface _ d => uptoBulk d + 1
  | .map entries => uptoBulkEntries entries + 1
  | .held _ => 1
def uptoBulkAll {H : Type} : List (DataW H) → Nat
  | [] => 0
  | d :: r => uptoBulk d + uptoBulkAll r
def uptoBulkEntries {H : Type} : List (Lit × DataW H) → Nat
  | [] => 0
  | x :: r => uptoBulkEntry x + uptoBulkEntries r
def uptoBulkEntry {H : Type} : Lit × DataW H → Nat
  | (.string bytes, d) => bytes.length + uptoBulk d + 1
  | (_, d) => uptoBulk d + 1
 end
def uptoSmall : (H : Type) → List (DataW H) → Bool := fun _ ds => decide (uptoBulkAll ds ≤ 1048576)
def OpenSpec.upto (s : _root_.Go.ChangeSpec) : _root_.Go.OpenSpec := { _root_.Go.OpenSpec.ofChange s with cond := some uptoSmall }

/-- 'polynyalaw06.BreakerMore', WHERE WHAT IT READS IS OF BULK AT MOST 1048576: true; the input reads as it did. -/
def breakerMoreUptoRow : OpenClaim := { program := "ytmfbcbbefepnpaa", sum := "607c30e24a4d49dbe1d9edc32d0680fe340a23b9502db9563b584a83e0425781", func := "polynya/polynyalaw06.BreakerMore", spec := "breakerMore", unfollowed := true, recurses := true, plainKeys := false, apart := false, narrowed := true }
def BreakerMoreUptoSaid : Prop := breakerMoreUptoRow.holds Try.pinned (OpenSpec.upto breakerMoreSpec)

/-- 'polynyalaw06.BreakerGuards', WHERE WHAT IT READS IS OF BULK AT MOST 1048576: true; the input reads as it did. -/
def breakerGuardsUptoRow : OpenClaim := { program := "ytmfbcbbefepnpaa", sum := "607c30e24a4d49dbe1d9edc32d0680fe340a23b9502db9563b584a83e0425781", func := "polynya/polynyalaw06.BreakerGuards", spec := "breakerGuards", unfollowed := true, recurses := true, plainKeys := false, apart := false, narrowed := true }
def BreakerGuardsUptoSaid : Prop := breakerGuardsUptoRow.holds Try.pinned (OpenSpec.upto breakerGuardsSpec)

/-- 'polynyalaw06.BreakerActs', WHERE WHAT IT READS IS OF BULK AT MOST 1048576: true; the input reads as it did. -/
def breakerActsUptoRow : OpenClaim := { program := "ytmfbcbbefepnpaa", sum := "607c30e24a4d49dbe1d9edc32d0680fe340a23b9502db9563b584a83e0425781", func := "polynya/polynyalaw06.BreakerActs", spec := "breakerActs", unfollowed := true, recurses := true, plainKeys := false, apart := false, narrowed := true }
def BreakerActsUptoSaid : Prop := breakerActsUptoRow.holds Try.pinned (OpenSpec.upto breakerActsSpec)

/-- 'polynyalaw06.BreakerFreed', WHERE WHAT IT READS IS OF BULK AT MOST 1048576: true; the input reads as it did. -/
def breakerFreedUptoRow : OpenClaim := { program := "ytmfbcbbefepnpaa", sum := "607c30e24a4d49dbe1d9edc32d0680fe340a23b9502db9563b584a83e0425781", func := "polynya/polynyalaw06.BreakerFreed", spec := "breakerFreed", unfollowed := true, recurses := true, plainKeys := false, apart := false, narrowed := true }
def BreakerFreedUptoSaid : Prop := breakerFreedUptoRow.holds Try.pinned (OpenSpec.upto breakerFreedSpec)

/-- 'polynyalaw06.BreakerCovered', WHERE WHAT IT READS IS OF BULK AT MOST 1048576: true; the input reads as it did. -/
def breakerCoveredUptoRow : OpenClaim := { program := "ytmfbcbbefepnpaa", sum := "607c30e24a4d49dbe1d9edc32d0680fe340a23b9502db9563b584a83e0425781", func := "polynya/polynyalaw06.BreakerCovered", spec := "breakerCovered", unfollowed := true, recurses := true, plainKeys := false, apart := false, narrowed := true }
def BreakerCoveredUptoSaid : Prop := breakerCoveredUptoRow.holds Try.pinned (OpenSpec.upto breakerCoveredSpec)

/-- 'polynyalaw06.BreakerProved', WHERE WHAT IT READS IS OF BULK AT MOST 1048576: true; the input reads as it did. -/
def breakerProvedUptoRow : OpenClaim := { program := "ytmfbcbbefepnpaa", sum := "607c30e24a4d49dbe1d9edc32d0680fe340a23b9502db9563b584a83e0425781", func := "polynya/polynyalaw06.BreakerProved", spec := "breakerProved", unfollowed := true, recurses := true, plainKeys := false, apart := false, narrowed := true }
def BreakerProvedUptoSaid : Prop := breakerProvedUptoRow.holds Try.pinned (OpenSpec.upto breakerProvedSpec)

end Rows
end Go.Proofs.Ytmfbcbbefepnpaa
