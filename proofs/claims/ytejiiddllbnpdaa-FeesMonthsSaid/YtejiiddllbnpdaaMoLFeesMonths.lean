/-
  The law FeesMonths answers true for every input and leaves what was there alone. Conditions: none but those of the given statement.
-/
import Derived.Test.YtejiiddllbnpdaaMo5
import Derived.Test.YtejiiddllbnpdaaRows
import Derived.ChangeAt
namespace Go.Proofs.Ytejiiddllbnpdaa
open Go Go.KX Go.ChangeShapes Go.WideShapes Go.ChangeAt Go.RowKit Fm
def In0 (x : Int) : Prop := -9223372036854775808 ≤ x ∧ x ≤ 9223372036854775807
def In6 (x : List (Int)) : Prop := (∀ y ∈ x, In0 y) ∧ x.length ≤ 9223372036854775807
def In7 (x : List (List (Int))) : Prop := (∀ y ∈ x, In6 y) ∧ x.length ≤ 9223372036854775807
def In8 (x : Fm.State) : Prop := In6 x.Deposits ∧ In7 x.Owed
theorem hr3 : HReads E 3 0 In0 := hreads_int (E := E) (c := 0) (k := .i64) (fun n => n) (fun _ => rfl) Try.underlying3 (by kernel_rfl) (fun n h => wf_i64 h)
theorem hr22 : HReads E 22 6 In6 := hreads_slice (E := E) (c := 0) (d := 6) (fun l => l) (fun _ => rfl) Try.underlying22 hr3 (by decide) (by kernel_rfl) (fun l h h2 => ⟨h, h2⟩)
theorem hr23 : HReads E 23 7 In7 := hreads_slice (E := E) (c := 6) (d := 7) (fun l => l) (fun _ => rfl) Try.underlying23 hr22 (by decide) (by kernel_rfl) (fun l h h2 => ⟨h, h2⟩)
theorem hr25 : HReads E 25 8 In8 := by
 refine ⟨by kernel_rfl, fun H e w base sp held fuel cs x h => ?_⟩
 obtain ⟨hl, hf⟩ := fields_of (E := E) Try.underlying25 h
 obtain ⟨a0, e0, g0⟩ := hr22.at (hf 0 _ rfl)
 obtain ⟨a1, e1, g1⟩ := hr23.at (hf 1 _ rfl)
 have q := (hcut_cons (E := E) (o := 0) (n := 1) e0 (hcut_cons (E := E) (o := 1) (n := 1) e1 (hcut_nil (E := E) (o := 2) (Nat.le_of_eq (hl.trans (by kernel_rfl))))))
 rw [List.drop_zero] at q
 exact ⟨⟨a0, a1⟩, q, g0, g1⟩
theorem own : ownKnob Try.prog.godebug = none := by kernel_rfl
set_option maxRecDepth 100000 in
set_option maxHeartbeats 4000000 in
theorem feesMonths_lifted (os : Os) (started : os.Started) (H : Type) (enc : TypeId × Value → H) :
  ReturnsInHanded {} Try.checked os 3 .any (Rows.feesMonthsSpec.pre6 enc Try.prog Try.f3 [] false) (Rows.feesMonthsSpec.post enc Try.prog Try.f3 false true false false) := by
 refine returnsInHanded_of_change (C := Try.checked) own started (by kernel_rfl) Try.func3
  (ChangeSpec.witness6 (enc := enc) (C := Try.checked) false ⟨#[], #[.agg #[.slice none 0 0, .slice none 0 0], .slice none 0 0, .slice none 0 0, .int .i64 0], []⟩ 8 (by kernel_rfl) (by kernel_rfl) (by kernel_rfl) (by kernel_rfl)) ?_
 intro W base args ds gs before hval0 hW _ _
 have hval : ∀ (j : Nat) t v, Try.f3.params[j]? = some t → args[j]? = some v → Value.okWide Try.prog W .any base t v := hval0
 have hW' := hW
 obtain ⟨p, q, hA0, hV, rfl, hfz, hnd⟩ := hW
 have hA : DataW.TrodAll enc Try.prog W 0 (fun _ => true) true Try.f3.params.toList args.toList ds p := hA0
 rw [Try.params3] at hA hval
 obtain ⟨v0, vs0, d0, ds0, p0, q0, hargs, rfl, rfl, h0, r0⟩ := trodAll_cons hA
 obtain ⟨v1, vs1, d1, ds1, p1, q1, rfl, rfl, rfl, h1, r1⟩ := trodAll_cons r0
 obtain ⟨v2, vs2, d2, ds2, p2, q2, rfl, rfl, rfl, h2, r2⟩ := trodAll_cons r1
 obtain ⟨v3, vs3, d3, ds3, p3, q3, rfl, rfl, rfl, h3, r3⟩ := trodAll_cons r2
 obtain ⟨rfl, rfl, rfl⟩ := trodAll_nil r3
 obtain rfl : args = #[v0, v1, v2, v3] := by cases args; simp_all
 obtain ⟨rfl, rfl⟩ := trodVars_none hV
 obtain ⟨a0, m0, b0⟩ := harg_agg hr25 Try.underlying25 (hval 0 25 v0 rfl rfl) h0
 obtain ⟨a1, m1, b1⟩ := harg_sl (E := E) Try.underlying22 hr3 (by decide) (hval 1 22 v1 rfl rfl) h1
 obtain ⟨a2, m2, b2⟩ := harg_sl (E := E) Try.underlying23 hr22 (by decide) (hval 2 23 v2 rfl rfl) h2
 obtain ⟨a3, m3, b3⟩ := harg_int hr3 Try.underlying3 (hval 3 3 v3 rfl rfl) h3
 clear hA0 hval0
 have hc : CSok E [] ⟨3, [.v 8 true, .sl 0, .sl 6, .v 0 false], [.v 1 false []], fun x => law12_FeesMonths 1000000000000000 x.1 x.2.1 x.2.2.1 x.2.2.2.1⟩ := c3 1000000000000000
 have hargs2 : ArgsAre E (IsCells W) W [.v 8 true, .sl 0, .sl 6, .v 0 false] (a0, a1, a2, a3, ()) [v0, v1, v2, v3] := ⟨v0, _, rfl, m0, ⟨v1, _, rfl, m1, ⟨v2, _, rfl, m2, ⟨v3, _, rfl, m3, rfl⟩⟩⟩⟩
 have hwalk := law_calls (E := E) hc rfl true rfl hargs2 (feesMonths_ok b0 b1 b2 b3)
 refine hwalk.mono fun e W' ⟨he, hb⟩ => ?_
 subst he
 exact ⟨_, rfl, post_law hW' rfl rfl rfl Try.underlying4 (by kernel_rfl) hb⟩
theorem feesMonths_holds : Rows.FeesMonthsSaid :=
 OpenClaim.holds_of_wide 3 Try.f3 rfl rfl rfl rfl rfl rfl rfl ⟨rfl, rfl, rfl, rfl, rfl⟩ rfl rfl rfl rfl rfl (by kernel_rfl) Try.func3 (by kernel_rfl)
  (of_decide_eq_true (by kernel_rfl)) (by unfold Func.isWrapper; first | (rw [if_pos (by decide +kernel)]; kernel_rfl) | (rw [if_neg (by decide +kernel)]; exact ⟨rfl, rfl⟩))
  (fun os started H enc _ => feesMonths_lifted os started H enc)
#print axioms feesMonths_holds
end Go.Proofs.Ytejiiddllbnpdaa
