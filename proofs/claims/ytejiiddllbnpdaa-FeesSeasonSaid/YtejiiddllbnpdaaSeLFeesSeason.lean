/-
  The law FeesSeason answers true for every input and leaves what was there alone. Conditions: none but those of the given statement.
-/
import Derived.Test.YtejiiddllbnpdaaSe5
import Derived.Test.YtejiiddllbnpdaaRows
import Derived.ChangeAt
namespace Go.Proofs.Ytejiiddllbnpdaa
open Go Go.KX Go.ChangeShapes Go.WideShapes Go.ChangeAt Go.RowKit Fs
def In2 (x : Int) : Prop := 0 ≤ x ∧ x ≤ 255
theorem hr5 : HReads E 5 2 In2 := hreads_int (E := E) (c := 2) (k := .u8) (fun n => n) (fun _ => rfl) Try.underlying5 (by kernel_rfl) (fun n h => wf_u8 h)
theorem own : ownKnob Try.prog.godebug = none := by kernel_rfl
set_option maxRecDepth 100000 in
set_option maxHeartbeats 4000000 in
theorem feesSeason_lifted (os : Os) (started : os.Started) (H : Type) (enc : TypeId × Value → H) :
  ReturnsInHanded {} Try.checked os 4 .any (Rows.feesSeasonSpec.pre6 enc Try.prog Try.f4 [] false) (Rows.feesSeasonSpec.post enc Try.prog Try.f4 false true false false) := by
 refine returnsInHanded_of_change (C := Try.checked) own started (by kernel_rfl) Try.func4
  (ChangeSpec.witness6 (enc := enc) (C := Try.checked) false ⟨#[], #[.slice none 0 0, .slice none 0 0], []⟩ 8 (by kernel_rfl) (by kernel_rfl) (by kernel_rfl) (by kernel_rfl)) ?_
 intro W base args ds gs before hval0 hW _ _
 have hval : ∀ (j : Nat) t v, Try.f4.params[j]? = some t → args[j]? = some v → Value.okWide Try.prog W .any base t v := hval0
 have hW' := hW
 obtain ⟨p, q, hA0, hV, rfl, hfz, hnd⟩ := hW
 have hA : DataW.TrodAll enc Try.prog W 0 (fun _ => true) true Try.f4.params.toList args.toList ds p := hA0
 rw [Try.params4] at hA hval
 obtain ⟨v0, vs0, d0, ds0, p0, q0, hargs, rfl, rfl, h0, r0⟩ := trodAll_cons hA
 obtain ⟨v1, vs1, d1, ds1, p1, q1, rfl, rfl, rfl, h1, r1⟩ := trodAll_cons r0
 obtain ⟨rfl, rfl, rfl⟩ := trodAll_nil r1
 obtain rfl : args = #[v0, v1] := by cases args; simp_all
 obtain ⟨rfl, rfl⟩ := trodVars_none hV
 obtain ⟨a0, m0, b0⟩ := harg_sl (E := E) Try.underlying46 hr5 (by decide) (hval 0 46 v0 rfl rfl) h0
 obtain ⟨a1, m1, b1⟩ := harg_sl (E := E) Try.underlying46 hr5 (by decide) (hval 1 46 v1 rfl rfl) h1
 clear hA0 hval0
 have hc : CSok E [] ⟨4, [.sl 2, .sl 2], [.v 1 false []], fun x => law12_FeesSeason 1000000000000000 x.1 x.2.1⟩ := c4 1000000000000000
 have hargs2 : ArgsAre E (IsCells W) W [.sl 2, .sl 2] (a0, a1, ()) [v0, v1] := ⟨v0, _, rfl, m0, ⟨v1, _, rfl, m1, rfl⟩⟩
 have hwalk := law_calls (E := E) hc rfl true rfl hargs2 (feesSeason_ok b0 b1)
 refine hwalk.mono fun e W' ⟨he, hb⟩ => ?_
 subst he
 exact ⟨_, rfl, post_law hW' rfl rfl rfl Try.underlying4 (by kernel_rfl) hb⟩
theorem feesSeason_holds : Rows.FeesSeasonSaid :=
 OpenClaim.holds_of_wide 4 Try.f4 rfl rfl rfl rfl rfl rfl rfl ⟨rfl, rfl, rfl, rfl, rfl⟩ rfl rfl rfl rfl rfl (by kernel_rfl) Try.func4 (by kernel_rfl)
  (of_decide_eq_true (by kernel_rfl)) (by unfold Func.isWrapper; first | (rw [if_pos (by decide +kernel)]; kernel_rfl) | (rw [if_neg (by decide +kernel)]; exact ⟨rfl, rfl⟩))
  (fun os started H enc _ => feesSeason_lifted os started H enc)
#print axioms feesSeason_holds
end Go.Proofs.Ytejiiddllbnpdaa
