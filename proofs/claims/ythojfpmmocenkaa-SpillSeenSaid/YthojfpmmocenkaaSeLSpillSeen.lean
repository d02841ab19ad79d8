/-
  The law SpillSeen answers true for every input and leaves what was there alone. Conditions: none but those of the given statement.
-/
import Derived.Test.YthojfpmmocenkaaSe4
import Derived.Test.YthojfpmmocenkaaRows
namespace Go.Proofs.Ythojfpmmocenkaa
open Go Go.KX Go.ChangeShapes Go.WideShapes Go.RowKit Sp
def In0 (x : Int) : Prop := -9223372036854775808 ≤ x ∧ x ≤ 9223372036854775807
def In7 (x : Sp.Span) : Prop := In0 x.Lo ∧ In0 x.Hi
def In8 (x : List (Sp.Span)) : Prop := (∀ y ∈ x, In7 y) ∧ x.length ≤ 9223372036854775807
def In9 (x : Sp.Field) : Prop := In0 x.W ∧ In0 x.H ∧ In8 x.Cells
theorem hr3 : HReads E 3 0 In0 := hreads_int (E := E) (c := 0) (k := .i64) (fun n => n) (fun _ => rfl) Try.underlying3 (by kernel_rfl) (fun n h => wf_i64 h)
theorem hr34 : HReads E 34 7 In7 := by
  refine ⟨by kernel_rfl, fun H e w base sp held fuel cs x h => ?_⟩
  obtain ⟨hl, hf⟩ := fields_of (E := E) Try.underlying34 h
  obtain ⟨a0, e0, g0⟩ := hr3.at (hf 0 _ rfl)
  obtain ⟨a1, e1, g1⟩ := hr3.at (hf 1 _ rfl)
  have q := (hcut_cons (E := E) (o := 0) (n := 1) e0 (hcut_cons (E := E) (o := 1) (n := 1) e1 (hcut_nil (E := E) (o := 2) (Nat.le_of_eq (hl.trans (by kernel_rfl))))))
  rw [List.drop_zero] at q
  exact ⟨⟨a0, a1⟩, q, g0, g1⟩
theorem hr23 : HReads E 23 8 In8 := hreads_slice (E := E) (c := 7) (d := 8) (fun l => l) (fun _ => rfl) Try.underlying23 hr34 (by decide) (by kernel_rfl) (fun l h h2 => ⟨h, h2⟩)
theorem hr25 : HReads E 25 9 In9 := by
  refine ⟨by kernel_rfl, fun H e w base sp held fuel cs x h => ?_⟩
  obtain ⟨hl, hf⟩ := fields_of (E := E) Try.underlying25 h
  obtain ⟨a0, e0, g0⟩ := hr3.at (hf 0 _ rfl)
  obtain ⟨a1, e1, g1⟩ := hr3.at (hf 1 _ rfl)
  obtain ⟨a2, e2, g2⟩ := hr23.at (hf 2 _ rfl)
  have q := (hcut_cons (E := E) (o := 0) (n := 1) e0 (hcut_cons (E := E) (o := 1) (n := 1) e1 (hcut_cons (E := E) (o := 2) (n := 1) e2 (hcut_nil (E := E) (o := 3) (Nat.le_of_eq (hl.trans (by kernel_rfl)))))))
  rw [List.drop_zero] at q
  exact ⟨⟨a0, a1, a2⟩, q, g0, g1, g2⟩
def In11 (x : Sp.Sight) : Prop := In0 x.Cell ∧ In7 x.Oil
theorem hr56 : HReads E 56 11 In11 := by
  refine ⟨by kernel_rfl, fun H e w base sp held fuel cs x h => ?_⟩
  obtain ⟨hl, hf⟩ := fields_of (E := E) Try.underlying56 h
  obtain ⟨a0, e0, g0⟩ := hr3.at (hf 0 _ rfl)
  obtain ⟨a1, e1, g1⟩ := hr34.at (hf 1 _ rfl)
  have q := (hcut_cons (E := E) (o := 0) (n := 1) e0 (hcut_cons (E := E) (o := 1) (n := 2) e1 (hcut_nil (E := E) (o := 3) (Nat.le_of_eq (hl.trans (by kernel_rfl))))))
  rw [List.drop_zero] at q
  exact ⟨⟨a0, a1⟩, q, g0, g1⟩
def In18 (x : Sp.Ice) : Prop := In0 x.Conc ∧ In0 x.Thick ∧ In0 x.Ridge ∧ In0 x.Press
theorem hr110 : HReads E 110 18 In18 := by
  refine ⟨by kernel_rfl, fun H e w base sp held fuel cs x h => ?_⟩
  obtain ⟨hl, hf⟩ := fields_of (E := E) Try.underlying110 h
  obtain ⟨a0, e0, g0⟩ := hr3.at (hf 0 _ rfl)
  obtain ⟨a1, e1, g1⟩ := hr3.at (hf 1 _ rfl)
  obtain ⟨a2, e2, g2⟩ := hr3.at (hf 2 _ rfl)
  obtain ⟨a3, e3, g3⟩ := hr3.at (hf 3 _ rfl)
  have q := (hcut_cons (E := E) (o := 0) (n := 1) e0 (hcut_cons (E := E) (o := 1) (n := 1) e1 (hcut_cons (E := E) (o := 2) (n := 1) e2 (hcut_cons (E := E) (o := 3) (n := 1) e3 (hcut_nil (E := E) (o := 4) (Nat.le_of_eq (hl.trans (by kernel_rfl))))))))
  rw [List.drop_zero] at q
  exact ⟨⟨a0, a1, a2, a3⟩, q, g0, g1, g2, g3⟩
def In19 (x : Sp.Cell) : Prop := In7 x.Conc ∧ In7 x.Thick ∧ In7 x.Ridge ∧ In7 x.Press
def In20 (x : List (Sp.Cell)) : Prop := (∀ y ∈ x, In19 y) ∧ x.length ≤ 9223372036854775807
def In21 (x : Sp.Chart) : Prop := In0 x.W ∧ In0 x.H ∧ In0 x.Hour ∧ In20 x.Cells
theorem hr123 : HReads E 123 19 In19 := by
  refine ⟨by kernel_rfl, fun H e w base sp held fuel cs x h => ?_⟩
  obtain ⟨hl, hf⟩ := fields_of (E := E) Try.underlying123 h
  obtain ⟨a0, e0, g0⟩ := hr34.at (hf 0 _ rfl)
  obtain ⟨a1, e1, g1⟩ := hr34.at (hf 1 _ rfl)
  obtain ⟨a2, e2, g2⟩ := hr34.at (hf 2 _ rfl)
  obtain ⟨a3, e3, g3⟩ := hr34.at (hf 3 _ rfl)
  have q := (hcut_cons (E := E) (o := 0) (n := 2) e0 (hcut_cons (E := E) (o := 2) (n := 2) e1 (hcut_cons (E := E) (o := 4) (n := 2) e2 (hcut_cons (E := E) (o := 6) (n := 2) e3 (hcut_nil (E := E) (o := 8) (Nat.le_of_eq (hl.trans (by kernel_rfl))))))))
  rw [List.drop_zero] at q
  exact ⟨⟨a0, a1, a2, a3⟩, q, g0, g1, g2, g3⟩
theorem hr111 : HReads E 111 20 In20 := hreads_slice (E := E) (c := 19) (d := 20) (fun l => l) (fun _ => rfl) Try.underlying111 hr123 (by decide) (by kernel_rfl) (fun l h h2 => ⟨h, h2⟩)
theorem hr113 : HReads E 113 21 In21 := by
  refine ⟨by kernel_rfl, fun H e w base sp held fuel cs x h => ?_⟩
  obtain ⟨hl, hf⟩ := fields_of (E := E) Try.underlying113 h
  obtain ⟨a0, e0, g0⟩ := hr3.at (hf 0 _ rfl)
  obtain ⟨a1, e1, g1⟩ := hr3.at (hf 1 _ rfl)
  obtain ⟨a2, e2, g2⟩ := hr3.at (hf 2 _ rfl)
  obtain ⟨a3, e3, g3⟩ := hr111.at (hf 3 _ rfl)
  have q := (hcut_cons (E := E) (o := 0) (n := 1) e0 (hcut_cons (E := E) (o := 1) (n := 1) e1 (hcut_cons (E := E) (o := 2) (n := 1) e2 (hcut_cons (E := E) (o := 3) (n := 1) e3 (hcut_nil (E := E) (o := 4) (Nat.le_of_eq (hl.trans (by kernel_rfl))))))))
  rw [List.drop_zero] at q
  exact ⟨⟨a0, a1, a2, a3⟩, q, g0, g1, g2, g3⟩
theorem own : ownKnob Try.prog.godebug = none := by kernel_rfl
set_option maxRecDepth 100000 in
set_option maxHeartbeats 4000000 in
theorem spillSeen_lifted (os : Os) (started : os.Started) (H : Type) (enc : TypeId × Value → H) :
    ReturnsInHanded {} Try.checked os 10 .any (Rows.spillSeenSpec.pre6 enc Try.prog Try.f10 [] false) (Rows.spillSeenSpec.post enc Try.prog Try.f10 false true false false) := by
  refine returnsInHanded_of_change (C := Try.checked) own started (by kernel_rfl) Try.func10
    (ChangeSpec.witness6 (enc := enc) (C := Try.checked) false ⟨#[], #[.agg #[.int .i64 0, .int .i64 0, .slice none 0 0], .slice none 0 0, .agg #[.int .i64 0, .int .i64 0, .int .i64 0, .int .i64 0], .agg #[.int .i64 0, .int .i64 0, .int .i64 0, .slice none 0 0]], []⟩ 8 (by kernel_rfl) (by kernel_rfl) (by kernel_rfl) (by kernel_rfl)) ?_
  intro W base args ds gs before hval0 hW _ _
  have hval : ∀ (j : Nat) t v, Try.f10.params[j]? = some t → args[j]? = some v → Value.okWide Try.prog W .any base t v := hval0
  have hW' := hW
  obtain ⟨p, q, hA0, hV, rfl, hfz, hnd⟩ := hW
  have hA : DataW.TrodAll enc Try.prog W 0 (fun _ => true) true Try.f10.params.toList args.toList ds p := hA0
  rw [Try.params10] at hA hval
  obtain ⟨v0, vs0, d0, ds0, p0, q0, hargs, rfl, rfl, h0, r0⟩ := trodAll_cons hA
  obtain ⟨v1, vs1, d1, ds1, p1, q1, rfl, rfl, rfl, h1, r1⟩ := trodAll_cons r0
  obtain ⟨v2, vs2, d2, ds2, p2, q2, rfl, rfl, rfl, h2, r2⟩ := trodAll_cons r1
  obtain ⟨v3, vs3, d3, ds3, p3, q3, rfl, rfl, rfl, h3, r3⟩ := trodAll_cons r2
  obtain ⟨rfl, rfl, rfl⟩ := trodAll_nil r3
  obtain rfl : args = #[v0, v1, v2, v3] := by cases args; simp_all
  obtain ⟨rfl, rfl⟩ := trodVars_none hV
  obtain ⟨a0, m0, b0⟩ := harg_agg hr25 Try.underlying25 (hval 0 25 v0 rfl rfl) h0
  obtain ⟨a1, m1, b1⟩ := harg_sl (E := E) Try.underlying54 hr56 (by decide) (hval 1 54 v1 rfl rfl) h1
  obtain ⟨a2, m2, b2⟩ := harg_agg hr110 Try.underlying110 (hval 2 110 v2 rfl rfl) h2
  obtain ⟨a3, m3, b3⟩ := harg_agg hr113 Try.underlying113 (hval 3 113 v3 rfl rfl) h3
  clear hA0 hval0
  have hc : CSok E [] ⟨10, [.v 9 true, .sl 11, .v 18 true, .v 21 true], [.v 1 false []], fun x => law11_SpillSeen 1000 x.1 x.2.1 x.2.2.1 x.2.2.2.1⟩ := c10 1000
  have hargs2 : ArgsAre E (IsCells W) W [.v 9 true, .sl 11, .v 18 true, .v 21 true] (a0, a1, a2, a3, ()) [v0, v1, v2, v3] := ⟨v0, _, rfl, m0, ⟨v1, _, rfl, m1, ⟨v2, _, rfl, m2, ⟨v3, _, rfl, m3, rfl⟩⟩⟩⟩
  have hwalk := law_calls (E := E) hc rfl true rfl hargs2 (seen_plain b0 b1 b2 b3)
  refine hwalk.mono fun e W' ⟨he, hb⟩ => ?_
  subst he
  exact ⟨_, rfl, post_law hW' rfl rfl rfl Try.underlying4 (by kernel_rfl) hb⟩

theorem spillSeen_holds : Rows.SpillSeenSaid :=
  OpenClaim.holds_of_wide 10 Try.f10 rfl rfl rfl rfl rfl rfl rfl ⟨rfl, rfl, rfl, rfl, rfl⟩ rfl rfl rfl rfl rfl (by kernel_rfl) Try.func10 (by kernel_rfl)
    (of_decide_eq_true (by kernel_rfl)) (by unfold Func.isWrapper; first | (rw [if_pos (by decide +kernel)]; kernel_rfl) | (rw [if_neg (by decide +kernel)]; exact ⟨rfl, rfl⟩))
    (fun os started H enc _ => spillSeen_lifted os started H enc)
#print axioms spillSeen_holds
end Go.Proofs.Ythojfpmmocenkaa
