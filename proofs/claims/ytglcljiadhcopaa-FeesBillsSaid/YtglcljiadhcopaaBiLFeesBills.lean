/-
  The law FeesBills answers true for every input and leaves what was there alone. Conditions: none but those of the given statement.
-/
import Derived.Test.YtglcljiadhcopaaBi4
import Derived.Test.YtglcljiadhcopaaRows
namespace Go.Proofs.Ytglcljiadhcopaa
open Go Go.KX Go.ChangeShapes Go.WideShapes Go.RowKit Fe
def In0 (x : Int) : Prop := -9223372036854775808 ≤ x ∧ x ≤ 9223372036854775807
def In10 (x : Fe.Band) : Prop := In0 x.Upto ∧ In0 x.Rate
def In11 (x : List (Fe.Band)) : Prop := (∀ y ∈ x, In10 y) ∧ x.length ≤ 9223372036854775807
def In12 (x : Fe.A7ofInt) : Prop := In0 x.a0 ∧ In0 x.a1 ∧ In0 x.a2 ∧ In0 x.a3 ∧ In0 x.a4 ∧ In0 x.a5 ∧ In0 x.a6
def In13 (x : Fe.Tariff) : Prop := In11 x.Bands ∧ In12 x.Class ∧ In0 x.Least ∧ In0 x.Most ∧ In0 x.Paid ∧ In0 x.Mile ∧ In0 x.Escort ∧ In0 x.Cut ∧ In0 x.Tow
theorem hr3 : HReads E 3 0 In0 := hreads_int (E := E) (c := 0) (k := .i64) (fun n => n) (fun _ => rfl) Try.underlying3 (by kernel_rfl) (fun n h => wf_i64 h)
theorem hr103 : HReads E 103 10 In10 := by
  refine ⟨by kernel_rfl, fun H e w base sp held fuel cs x h => ?_⟩
  obtain ⟨hl, hf⟩ := fields_of (E := E) Try.underlying103 h
  obtain ⟨a0, e0, g0⟩ := hr3.at (hf 0 _ rfl)
  obtain ⟨a1, e1, g1⟩ := hr3.at (hf 1 _ rfl)
  have q := (hcut_cons (E := E) (o := 0) (n := 1) e0 (hcut_cons (E := E) (o := 1) (n := 1) e1 (hcut_nil (E := E) (o := 2) (Nat.le_of_eq (hl.trans (by kernel_rfl))))))
  rw [List.drop_zero] at q
  exact ⟨⟨a0, a1⟩, q, g0, g1⟩
theorem hr38 : HReads E 38 11 In11 := hreads_slice (E := E) (c := 10) (d := 11) (fun l => l) (fun _ => rfl) Try.underlying38 hr103 (by decide) (by kernel_rfl) (fun l h h2 => ⟨h, h2⟩)
theorem hr39 : HReads E 39 12 In12 := by
  refine ⟨by kernel_rfl, fun H e w base sp held fuel cs x h => ?_⟩
  obtain ⟨hl, hf⟩ := elems_of (E := E) (s := 1) Try.underlying39 (by kernel_rfl) h
  obtain ⟨a0, e0, g0⟩ := hr3.at (hf 0 (by decide))
  obtain ⟨a1, e1, g1⟩ := hr3.at (hf 1 (by decide))
  obtain ⟨a2, e2, g2⟩ := hr3.at (hf 2 (by decide))
  obtain ⟨a3, e3, g3⟩ := hr3.at (hf 3 (by decide))
  obtain ⟨a4, e4, g4⟩ := hr3.at (hf 4 (by decide))
  obtain ⟨a5, e5, g5⟩ := hr3.at (hf 5 (by decide))
  obtain ⟨a6, e6, g6⟩ := hr3.at (hf 6 (by decide))
  have q := (hcut_cons (E := E) (o := 0) (n := 1) e0 (hcut_cons (E := E) (o := 1) (n := 1) e1 (hcut_cons (E := E) (o := 2) (n := 1) e2 (hcut_cons (E := E) (o := 3) (n := 1) e3 (hcut_cons (E := E) (o := 4) (n := 1) e4 (hcut_cons (E := E) (o := 5) (n := 1) e5 (hcut_cons (E := E) (o := 6) (n := 1) e6 (hcut_nil (E := E) (o := 7) (Nat.le_of_eq (hl.trans (by kernel_rfl)))))))))))
  rw [List.drop_zero] at q
  exact ⟨⟨a0, a1, a2, a3, a4, a5, a6⟩, q, g0, g1, g2, g3, g4, g5, g6⟩
theorem hr41 : HReads E 41 13 In13 := by
  refine ⟨by kernel_rfl, fun H e w base sp held fuel cs x h => ?_⟩
  obtain ⟨hl, hf⟩ := fields_of (E := E) Try.underlying41 h
  obtain ⟨a0, e0, g0⟩ := hr38.at (hf 0 _ rfl)
  obtain ⟨a1, e1, g1⟩ := hr39.at (hf 1 _ rfl)
  obtain ⟨a2, e2, g2⟩ := hr3.at (hf 2 _ rfl)
  obtain ⟨a3, e3, g3⟩ := hr3.at (hf 3 _ rfl)
  obtain ⟨a4, e4, g4⟩ := hr3.at (hf 4 _ rfl)
  obtain ⟨a5, e5, g5⟩ := hr3.at (hf 5 _ rfl)
  obtain ⟨a6, e6, g6⟩ := hr3.at (hf 6 _ rfl)
  obtain ⟨a7, e7, g7⟩ := hr3.at (hf 7 _ rfl)
  obtain ⟨a8, e8, g8⟩ := hr3.at (hf 8 _ rfl)
  have q := (hcut_cons (E := E) (o := 0) (n := 1) e0 (hcut_cons (E := E) (o := 1) (n := 7) e1 (hcut_cons (E := E) (o := 8) (n := 1) e2 (hcut_cons (E := E) (o := 9) (n := 1) e3 (hcut_cons (E := E) (o := 10) (n := 1) e4 (hcut_cons (E := E) (o := 11) (n := 1) e5 (hcut_cons (E := E) (o := 12) (n := 1) e6 (hcut_cons (E := E) (o := 13) (n := 1) e7 (hcut_cons (E := E) (o := 14) (n := 1) e8 (hcut_nil (E := E) (o := 15) (Nat.le_of_eq (hl.trans (by kernel_rfl)))))))))))))
  rw [List.drop_zero] at q
  exact ⟨⟨a0, a1, a2, a3, a4, a5, a6, a7, a8⟩, q, g0, g1, g2, g3, g4, g5, g6, g7, g8⟩
def In14 (x : Fe.Voyage) : Prop := In0 x.Ship ∧ In0 x.Class ∧ In0 x.Tonnes ∧ In0 x.Tenths ∧ In0 x.Escort ∧ In0 x.Cut ∧ In0 x.Tow
theorem hr46 : HReads E 46 14 In14 := by
  refine ⟨by kernel_rfl, fun H e w base sp held fuel cs x h => ?_⟩
  obtain ⟨hl, hf⟩ := fields_of (E := E) Try.underlying46 h
  obtain ⟨a0, e0, g0⟩ := hr3.at (hf 0 _ rfl)
  obtain ⟨a1, e1, g1⟩ := hr3.at (hf 1 _ rfl)
  obtain ⟨a2, e2, g2⟩ := hr3.at (hf 2 _ rfl)
  obtain ⟨a3, e3, g3⟩ := hr3.at (hf 3 _ rfl)
  obtain ⟨a4, e4, g4⟩ := hr3.at (hf 4 _ rfl)
  obtain ⟨a5, e5, g5⟩ := hr3.at (hf 5 _ rfl)
  obtain ⟨a6, e6, g6⟩ := hr3.at (hf 6 _ rfl)
  have q := (hcut_cons (E := E) (o := 0) (n := 1) e0 (hcut_cons (E := E) (o := 1) (n := 1) e1 (hcut_cons (E := E) (o := 2) (n := 1) e2 (hcut_cons (E := E) (o := 3) (n := 1) e3 (hcut_cons (E := E) (o := 4) (n := 1) e4 (hcut_cons (E := E) (o := 5) (n := 1) e5 (hcut_cons (E := E) (o := 6) (n := 1) e6 (hcut_nil (E := E) (o := 7) (Nat.le_of_eq (hl.trans (by kernel_rfl)))))))))))
  rw [List.drop_zero] at q
  exact ⟨⟨a0, a1, a2, a3, a4, a5, a6⟩, q, g0, g1, g2, g3, g4, g5, g6⟩
theorem own : ownKnob Try.prog.godebug = none := by kernel_rfl
set_option maxRecDepth 100000 in
set_option maxHeartbeats 4000000 in
theorem feesBills_lifted (os : Os) (started : os.Started) (H : Type) (enc : TypeId × Value → H) :
    ReturnsInHanded {} Try.checked os 12 .any (Rows.feesBillsSpec.pre6 enc Try.prog Try.f12 [] false) (Rows.feesBillsSpec.post enc Try.prog Try.f12 false true false false) := by
  refine returnsInHanded_of_change (C := Try.checked) own started (by kernel_rfl) Try.func12
    (ChangeSpec.witness6 (enc := enc) (C := Try.checked) false ⟨#[], #[.agg #[.slice none 0 0, .int .i64 0, .int .i64 0, .int .i64 0, .int .i64 0, .int .i64 0, .int .i64 0, .int .i64 0, .int .i64 0, .int .i64 0, .int .i64 0, .int .i64 0, .int .i64 0, .int .i64 0, .int .i64 0], .int .i64 0, .int .i64 0, .int .i64 0, .int .i64 0, .agg #[.int .i64 0, .int .i64 0, .int .i64 0, .int .i64 0, .int .i64 0, .int .i64 0, .int .i64 0], .slice none 0 0], []⟩ 8 (by kernel_rfl) (by kernel_rfl) (by kernel_rfl) (by kernel_rfl)) ?_
  intro W base args ds gs before hval0 hW _ _
  have hval : ∀ (j : Nat) t v, Try.f12.params[j]? = some t → args[j]? = some v → Value.okWide Try.prog W .any base t v := hval0
  have hW' := hW
  obtain ⟨p, q, hA0, hV, rfl, hfz, hnd⟩ := hW
  have hA : DataW.TrodAll enc Try.prog W 0 (fun _ => true) true Try.f12.params.toList args.toList ds p := hA0
  rw [Try.params12] at hA hval
  obtain ⟨v0, vs0, d0, ds0, p0, q0, hargs, rfl, rfl, h0, r0⟩ := trodAll_cons hA
  obtain ⟨v1, vs1, d1, ds1, p1, q1, rfl, rfl, rfl, h1, r1⟩ := trodAll_cons r0
  obtain ⟨v2, vs2, d2, ds2, p2, q2, rfl, rfl, rfl, h2, r2⟩ := trodAll_cons r1
  obtain ⟨v3, vs3, d3, ds3, p3, q3, rfl, rfl, rfl, h3, r3⟩ := trodAll_cons r2
  obtain ⟨v4, vs4, d4, ds4, p4, q4, rfl, rfl, rfl, h4, r4⟩ := trodAll_cons r3
  obtain ⟨v5, vs5, d5, ds5, p5, q5, rfl, rfl, rfl, h5, r5⟩ := trodAll_cons r4
  obtain ⟨v6, vs6, d6, ds6, p6, q6, rfl, rfl, rfl, h6, r6⟩ := trodAll_cons r5
  obtain ⟨rfl, rfl, rfl⟩ := trodAll_nil r6
  obtain rfl : args = #[v0, v1, v2, v3, v4, v5, v6] := by cases args; simp_all
  obtain ⟨rfl, rfl⟩ := trodVars_none hV
  obtain ⟨a0, m0, b0⟩ := harg_agg hr41 Try.underlying41 (hval 0 41 v0 rfl rfl) h0
  obtain ⟨a1, m1, b1⟩ := harg_int hr3 Try.underlying3 (hval 1 3 v1 rfl rfl) h1
  obtain ⟨a2, m2, b2⟩ := harg_int hr3 Try.underlying3 (hval 2 3 v2 rfl rfl) h2
  obtain ⟨a3, m3, b3⟩ := harg_int hr3 Try.underlying3 (hval 3 3 v3 rfl rfl) h3
  obtain ⟨a4, m4, b4⟩ := harg_int hr3 Try.underlying3 (hval 4 3 v4 rfl rfl) h4
  obtain ⟨a5, m5, b5⟩ := harg_agg hr46 Try.underlying46 (hval 5 46 v5 rfl rfl) h5
  obtain ⟨a6, m6, b6⟩ := harg_sl (E := E) Try.underlying63 hr46 (by decide) (hval 6 63 v6 rfl rfl) h6
  clear hA0 hval0
  have hc : CSok E [] ⟨12, [.v 13 true, .v 0 false, .v 0 false, .v 0 false, .v 0 false, .v 14 true, .sl 14], [.v 1 false []], fun x => law12_FeesBills 1000000000000000 x.1 x.2.1 x.2.2.1 x.2.2.2.1 x.2.2.2.2.1 x.2.2.2.2.2.1 x.2.2.2.2.2.2.1⟩ := c12 1000000000000000
  have hargs2 : ArgsAre E (IsCells W) W [.v 13 true, .v 0 false, .v 0 false, .v 0 false, .v 0 false, .v 14 true, .sl 14] (a0, a1, a2, a3, a4, a5, a6, ()) [v0, v1, v2, v3, v4, v5, v6] := ⟨v0, _, rfl, m0, ⟨v1, _, rfl, m1, ⟨v2, _, rfl, m2, ⟨v3, _, rfl, m3, ⟨v4, _, rfl, m4, ⟨v5, _, rfl, m5, ⟨v6, _, rfl, m6, rfl⟩⟩⟩⟩⟩⟩⟩
  have hwalk := law_calls (E := E) hc rfl true rfl hargs2 (feesBills_ok b0 b1 b2 b3 b4 b5 b6)
  refine hwalk.mono fun e W' ⟨he, hb⟩ => ?_
  subst he
  exact ⟨_, rfl, post_law hW' rfl rfl rfl Try.underlying4 (by kernel_rfl) hb⟩

theorem feesBills_holds : Rows.FeesBillsSaid :=
  OpenClaim.holds_of_wide 12 Try.f12 rfl rfl rfl rfl rfl rfl rfl ⟨rfl, rfl, rfl, rfl, rfl⟩ rfl rfl rfl rfl rfl (by kernel_rfl) Try.func12 (by kernel_rfl)
    (of_decide_eq_true (by kernel_rfl)) (by unfold Func.isWrapper; first | (rw [if_pos (by decide +kernel)]; kernel_rfl) | (rw [if_neg (by decide +kernel)]; exact ⟨rfl, rfl⟩))
    (fun os started H enc _ => feesBills_lifted os started H enc)
#print axioms feesBills_holds
end Go.Proofs.Ytglcljiadhcopaa
