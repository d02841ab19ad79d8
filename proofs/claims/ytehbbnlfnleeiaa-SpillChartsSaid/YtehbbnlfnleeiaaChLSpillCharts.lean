/-
  The law SpillCharts answers true for every input and leaves what was there alone. Conditions: none but those of the given statement.
-/
import Derived.Test.YtehbbnlfnleeiaaCh3
import Derived.Test.YtehbbnlfnleeiaaRows
import Derived.ChangeAt
namespace Go.Proofs.Ytehbbnlfnleeiaa
open Go Go.KX Go.ChangeShapes Go.WideShapes Go.ChangeAt Go.RowKit Sk
def In2 (x : Int) : Prop := 0 ≤ x ∧ x ≤ 255
theorem hr5 : HReads E 5 2 In2 := hreads_int (E := E) (c := 2) (k := .u8) (fun n => n) (fun _ => rfl) Try.underlying5 (by kernel_rfl) (fun n h => wf_u8 h)
theorem own : ownKnob Try.prog.godebug = none := by kernel_rfl
set_option maxRecDepth 100000 in
set_option maxHeartbeats 4000000 in
theorem spillCharts_lifted (os : Os) (started : os.Started) (H : Type) (enc : TypeId × Value → H) :
  ReturnsInHanded {} Try.checked os 3 .any (Rows.spillChartsSpec.pre6 enc Try.prog Try.f3 [] false) (Rows.spillChartsSpec.post enc Try.prog Try.f3 false true false false) := by
 refine returnsInHanded_of_change (C := Try.checked) own started (by kernel_rfl) Try.func3
  (ChangeSpec.witness6 (enc := enc) (C := Try.checked) false ⟨#[], #[.slice none 0 0, .slice none 0 0, .slice none 0 0, .slice none 0 0, .int .u8 0], []⟩ 8 (by kernel_rfl) (by kernel_rfl) (by kernel_rfl) (by kernel_rfl)) ?_
 intro W base args ds gs before hval0 hW _ _
 have hval : ∀ (j : Nat) t v, Try.f3.params[j]? = some t → args[j]? = some v → Value.okWide Try.prog W .any base t v := hval0
 have hW' := hW
 obtain ⟨p, q, hA0, hV, rfl, hfz, hnd⟩ := hW
 have hA : DataW.TrodAll enc Try.prog W 0 (fun _ => true) true Try.f3.params.toList args.toList ds p := hA0
 rw [Try.params3] at hA hval
 obtain ⟨v0, vs0, d0, ds0, p0, q0, hargs, rfl, rfl, h0, r0⟩ := trodAll_cons hA
 obtain ⟨v1, vs1, d1, ds1, p1, q1, rfl, rfl, rfl, h1, r1⟩ := trodAll_cons r0
 obtain ⟨v2, vs2, d2, ds2, p2, q2, rfl, rfl, rfl, h2, r2⟩ := trodAll_cons r1
 obtain ⟨v3, vs3, d3, ds3, p3, q3, rfl, rfl, rfl, h3, r3⟩ := trodAll_cons r2
 obtain ⟨v4, vs4, d4, ds4, p4, q4, rfl, rfl, rfl, h4, r4⟩ := trodAll_cons r3
 obtain ⟨rfl, rfl, rfl⟩ := trodAll_nil r4
 obtain rfl : args = #[v0, v1, v2, v3, v4] := by cases args; simp_all
 obtain ⟨rfl, rfl⟩ := trodVars_none hV
 obtain ⟨a0, m0, b0⟩ := harg_sl (E := E) Try.underlying22 hr5 (by decide) (hval 0 22 v0 rfl rfl) h0
 obtain ⟨a1, m1, b1⟩ := harg_sl (E := E) Try.underlying22 hr5 (by decide) (hval 1 22 v1 rfl rfl) h1
 obtain ⟨a2, m2, b2⟩ := harg_sl (E := E) Try.underlying22 hr5 (by decide) (hval 2 22 v2 rfl rfl) h2
 obtain ⟨a3, m3, b3⟩ := harg_sl (E := E) Try.underlying22 hr5 (by decide) (hval 3 22 v3 rfl rfl) h3
 obtain ⟨a4, m4, b4⟩ := harg_int hr5 Try.underlying5 (hval 4 5 v4 rfl rfl) h4
 clear hA0 hval0
 have hc : CSok E [] ⟨3, [.sl 2, .sl 2, .sl 2, .sl 2, .v 2 false], [.v 1 false []], fun x => law11_SpillCharts 1000000000000000 x.1 x.2.1 x.2.2.1 x.2.2.2.1 x.2.2.2.2.1⟩ := c3 1000000000000000
 have hargs2 : ArgsAre E (IsCells W) W [.sl 2, .sl 2, .sl 2, .sl 2, .v 2 false] (a0, a1, a2, a3, a4, ()) [v0, v1, v2, v3, v4] := ⟨v0, _, rfl, m0, ⟨v1, _, rfl, m1, ⟨v2, _, rfl, m2, ⟨v3, _, rfl, m3, ⟨v4, _, rfl, m4, rfl⟩⟩⟩⟩⟩
 have hwalk := law_calls (E := E) hc rfl true rfl hargs2 (charts_plain b0 b1 b2 b3 b4)
 refine hwalk.mono fun e W' ⟨he, hb⟩ => ?_
 subst he
 exact ⟨_, rfl, post_law hW' rfl rfl rfl Try.underlying4 (by kernel_rfl) hb⟩
theorem spillCharts_holds : Rows.SpillChartsSaid :=
 OpenClaim.holds_of_wide 3 Try.f3 rfl rfl rfl rfl rfl rfl rfl ⟨rfl, rfl, rfl, rfl, rfl⟩ rfl rfl rfl rfl rfl (by kernel_rfl) Try.func3 (by kernel_rfl)
  (of_decide_eq_true (by kernel_rfl)) (by unfold Func.isWrapper; first | (rw [if_pos (by decide +kernel)]; kernel_rfl) | (rw [if_neg (by decide +kernel)]; exact ⟨rfl, rfl⟩))
  (fun os started H enc _ => spillCharts_lifted os started H enc)
#print axioms spillCharts_holds
end Go.Proofs.Ytehbbnlfnleeiaa
