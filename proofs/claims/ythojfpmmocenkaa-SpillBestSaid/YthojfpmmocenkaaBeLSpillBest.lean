/-
  The law SpillBest answers true for every input and leaves what was there alone. Conditions: none but those of the given statement.
-/
import Derived.Test.YthojfpmmocenkaaBe4
import Derived.Test.YthojfpmmocenkaaRows
namespace Go.Proofs.Ythojfpmmocenkaa
open Go Go.KX Go.ChangeShapes Go.WideShapes Go.RowKit Sp
def In2 (x : Int) : Prop := 0 ≤ x ∧ x ≤ 255
theorem hr5 : HReads E 5 2 In2 := hreads_int (E := E) (c := 2) (k := .u8) (fun n => n) (fun _ => rfl) Try.underlying5 (by kernel_rfl) (fun n h => wf_u8 h)
theorem own : ownKnob Try.prog.godebug = none := by kernel_rfl
set_option maxRecDepth 100000 in
set_option maxHeartbeats 4000000 in
theorem spillBest_lifted (os : Os) (started : os.Started) (H : Type) (enc : TypeId × Value → H) :
    ReturnsInHanded {} Try.checked os 9 .any (Rows.spillBestSpec.pre6 enc Try.prog Try.f9 [] false) (Rows.spillBestSpec.post enc Try.prog Try.f9 false true false false) := by
  refine returnsInHanded_of_change (C := Try.checked) own started (by kernel_rfl) Try.func9
    (ChangeSpec.witness6 (enc := enc) (C := Try.checked) false ⟨#[], #[.slice none 0 0, .slice none 0 0, .slice none 0 0, .int .u8 0, .int .u8 0, .int .u8 0, .slice none 0 0], []⟩ 8 (by kernel_rfl) (by kernel_rfl) (by kernel_rfl) (by kernel_rfl)) ?_
  intro W base args ds gs before hval0 hW _ _
  have hval : ∀ (j : Nat) t v, Try.f9.params[j]? = some t → args[j]? = some v → Value.okWide Try.prog W .any base t v := hval0
  have hW' := hW
  obtain ⟨p, q, hA0, hV, rfl, hfz, hnd⟩ := hW
  have hA : DataW.TrodAll enc Try.prog W 0 (fun _ => true) true Try.f9.params.toList args.toList ds p := hA0
  rw [Try.params9] at hA hval
  obtain ⟨v0, vs0, d0, ds0, p0, q0, hargs, rfl, rfl, h0, r0⟩ := trodAll_cons hA
  obtain ⟨v1, vs1, d1, ds1, p1, q1, rfl, rfl, rfl, h1, r1⟩ := trodAll_cons r0
  obtain ⟨v2, vs2, d2, ds2, p2, q2, rfl, rfl, rfl, h2, r2⟩ := trodAll_cons r1
  obtain ⟨v3, vs3, d3, ds3, p3, q3, rfl, rfl, rfl, h3, r3⟩ := trodAll_cons r2
  obtain ⟨v4, vs4, d4, ds4, p4, q4, rfl, rfl, rfl, h4, r4⟩ := trodAll_cons r3
  obtain ⟨v5, vs5, d5, ds5, p5, q5, rfl, rfl, rfl, h5, r5⟩ := trodAll_cons r4
  obtain ⟨v6, vs6, d6, ds6, p6, q6, rfl, rfl, rfl, h6, r6⟩ := trodAll_cons r5
  obtain ⟨rfl, rfl, rfl⟩ := trodAll_nil r6
  obtain rfl : args = #[v0, v1, v2, v3, v4, v5, v6] := by cases args; simp_all
  obtain ⟨rfl, rfl⟩ := trodVars_none hV
  obtain ⟨a0, m0, b0⟩ := harg_sl (E := E) Try.underlying22 hr5 (by decide) (hval 0 22 v0 rfl rfl) h0
  obtain ⟨a1, m1, b1⟩ := harg_sl (E := E) Try.underlying22 hr5 (by decide) (hval 1 22 v1 rfl rfl) h1
  obtain ⟨a2, m2, b2⟩ := harg_sl (E := E) Try.underlying22 hr5 (by decide) (hval 2 22 v2 rfl rfl) h2
  obtain ⟨a3, m3, b3⟩ := harg_int hr5 Try.underlying5 (hval 3 5 v3 rfl rfl) h3
  obtain ⟨a4, m4, b4⟩ := harg_int hr5 Try.underlying5 (hval 4 5 v4 rfl rfl) h4
  obtain ⟨a5, m5, b5⟩ := harg_int hr5 Try.underlying5 (hval 5 5 v5 rfl rfl) h5
  obtain ⟨a6, m6, b6⟩ := harg_sl (E := E) Try.underlying22 hr5 (by decide) (hval 6 22 v6 rfl rfl) h6
  clear hA0 hval0
  have hc : CSok E [] ⟨9, [.sl 2, .sl 2, .sl 2, .v 2 false, .v 2 false, .v 2 false, .sl 2], [.v 1 false []], fun x => law11_SpillBest 1000000000000000 x.1 x.2.1 x.2.2.1 x.2.2.2.1 x.2.2.2.2.1 x.2.2.2.2.2.1 x.2.2.2.2.2.2.1⟩ := c9 1000000000000000
  have hargs2 : ArgsAre E (IsCells W) W [.sl 2, .sl 2, .sl 2, .v 2 false, .v 2 false, .v 2 false, .sl 2] (a0, a1, a2, a3, a4, a5, a6, ()) [v0, v1, v2, v3, v4, v5, v6] := ⟨v0, _, rfl, m0, ⟨v1, _, rfl, m1, ⟨v2, _, rfl, m2, ⟨v3, _, rfl, m3, ⟨v4, _, rfl, m4, ⟨v5, _, rfl, m5, ⟨v6, _, rfl, m6, rfl⟩⟩⟩⟩⟩⟩⟩
  have hwalk := law_calls (E := E) hc rfl true rfl hargs2 (spillBest_ok b0 b1 b2 b3 b4 b5 b6)
  refine hwalk.mono fun e W' ⟨he, hb⟩ => ?_
  subst he
  exact ⟨_, rfl, post_law hW' rfl rfl rfl Try.underlying4 (by kernel_rfl) hb⟩

theorem spillBest_holds : Rows.SpillBestSaid :=
  OpenClaim.holds_of_wide 9 Try.f9 rfl rfl rfl rfl rfl rfl rfl ⟨rfl, rfl, rfl, rfl, rfl⟩ rfl rfl rfl rfl rfl (by kernel_rfl) Try.func9 (by kernel_rfl)
    (of_decide_eq_true (by kernel_rfl)) (by unfold Func.isWrapper; first | (rw [if_pos (by decide +kernel)]; kernel_rfl) | (rw [if_neg (by decide +kernel)]; exact ⟨rfl, rfl⟩))
    (fun os started H enc _ => spillBest_lifted os started H enc)
#print axioms spillBest_holds
end Go.Proofs.Ythojfpmmocenkaa
