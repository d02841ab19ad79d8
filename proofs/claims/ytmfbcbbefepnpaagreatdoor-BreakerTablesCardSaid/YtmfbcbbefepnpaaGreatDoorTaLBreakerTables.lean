/-
  The law BreakerTables answers true for every input and leaves what was there alone. Conditions: none but those of the given card (the variable that it lists is tied to the program's text).
-/
import Derived.Test.YtmfbcbbefepnpaaGreatDoorTa5
import Derived.Test.YtmfbcbbefepnpaaGreatDoorRows
import Derived.Test.YtmfbcbbefepnpaaGreatDoorTie
import Derived.Test.YtmfbcbbefepnpaaGreatDoorCards
namespace Go.Proofs.YtmfbcbbefepnpaaGreatDoor
open Go Go.KX Go.ChangeShapes Go.WideShapes Go.ChangeAt Go.RowKit Bk
def In0 (x : Int) : Prop := -9223372036854775808 ≤ x ∧ x ≤ 9223372036854775807
def In6 (x : Bk.Point) : Prop := In0 x.X ∧ In0 x.Y
def In7 (x : List (Bk.Point)) : Prop := (∀ y ∈ x, In6 y) ∧ x.length ≤ 9223372036854775807
def In8 (x : Bk.Ship) : Prop := In0 x.Class ∧ In0 x.Power ∧ In0 x.Draught ∧ In0 x.Tonnes ∧ In7 x.Thrust ∧ In7 x.Water ∧ In7 x.Ice ∧ In0 x.Slow ∧ In0 x.Brash ∧ In0 x.Ridge ∧ In0 x.Press
theorem hr3 : HReads E 3 0 In0 := hreads_int (E := E) (c := 0) (k := .i64) (fun n => n) (fun _ => rfl) Tryz.underlying3 (by kernel_rfl) (fun n h => wf_i64 h)
theorem hr60 : HReads E 60 6 In6 := by
  refine ⟨by kernel_rfl, fun H e w base sp held fuel cs x h => ?_⟩
  obtain ⟨hl, hf⟩ := fields_of (E := E) Tryz.underlying60 h
  obtain ⟨a0, e0, g0⟩ := hr3.at (hf 0 _ rfl)
  obtain ⟨a1, e1, g1⟩ := hr3.at (hf 1 _ rfl)
  have q := (hcut_cons (E := E) (o := 0) (n := 1) e0 (hcut_cons (E := E) (o := 1) (n := 1) e1 (hcut_nil (E := E) (o := 2) (Nat.le_of_eq (hl.trans (by kernel_rfl))))))
  rw [List.drop_zero] at q
  exact ⟨⟨a0, a1⟩, q, g0, g1⟩
theorem hr22 : HReads E 22 7 In7 := hreads_slice (E := E) (c := 6) (d := 7) (fun l => l) (fun _ => rfl) Tryz.underlying22 hr60 (by decide) (by kernel_rfl) (fun l h h2 => ⟨h, h2⟩)
theorem hr24 : HReads E 24 8 In8 := by
  refine ⟨by kernel_rfl, fun H e w base sp held fuel cs x h => ?_⟩
  obtain ⟨hl, hf⟩ := fields_of (E := E) Tryz.underlying24 h
  obtain ⟨a0, e0, g0⟩ := hr3.at (hf 0 _ rfl)
  obtain ⟨a1, e1, g1⟩ := hr3.at (hf 1 _ rfl)
  obtain ⟨a2, e2, g2⟩ := hr3.at (hf 2 _ rfl)
  obtain ⟨a3, e3, g3⟩ := hr3.at (hf 3 _ rfl)
  obtain ⟨a4, e4, g4⟩ := hr22.at (hf 4 _ rfl)
  obtain ⟨a5, e5, g5⟩ := hr22.at (hf 5 _ rfl)
  obtain ⟨a6, e6, g6⟩ := hr22.at (hf 6 _ rfl)
  obtain ⟨a7, e7, g7⟩ := hr3.at (hf 7 _ rfl)
  obtain ⟨a8, e8, g8⟩ := hr3.at (hf 8 _ rfl)
  obtain ⟨a9, e9, g9⟩ := hr3.at (hf 9 _ rfl)
  obtain ⟨a10, e10, g10⟩ := hr3.at (hf 10 _ rfl)
  have q := (hcut_cons (E := E) (o := 0) (n := 1) e0 (hcut_cons (E := E) (o := 1) (n := 1) e1 (hcut_cons (E := E) (o := 2) (n := 1) e2 (hcut_cons (E := E) (o := 3) (n := 1) e3 (hcut_cons (E := E) (o := 4) (n := 1) e4 (hcut_cons (E := E) (o := 5) (n := 1) e5 (hcut_cons (E := E) (o := 6) (n := 1) e6 (hcut_cons (E := E) (o := 7) (n := 1) e7 (hcut_cons (E := E) (o := 8) (n := 1) e8 (hcut_cons (E := E) (o := 9) (n := 1) e9 (hcut_cons (E := E) (o := 10) (n := 1) e10 (hcut_nil (E := E) (o := 11) (Nat.le_of_eq (hl.trans (by kernel_rfl)))))))))))))))
  rw [List.drop_zero] at q
  exact ⟨⟨a0, a1, a2, a3, a4, a5, a6, a7, a8, a9, a10⟩, q, g0, g1, g2, g3, g4, g5, g6, g7, g8, g9, g10⟩
def In9 (x : Bk.Span) : Prop := In0 x.Lo ∧ In0 x.Hi
def In10 (x : Bk.Cell) : Prop := In9 x.Conc ∧ In9 x.Thick ∧ In9 x.Ridge ∧ In9 x.Press
theorem hr26 : HReads E 26 9 In9 := by
  refine ⟨by kernel_rfl, fun H e w base sp held fuel cs x h => ?_⟩
  obtain ⟨hl, hf⟩ := fields_of (E := E) Tryz.underlying26 h
  obtain ⟨a0, e0, g0⟩ := hr3.at (hf 0 _ rfl)
  obtain ⟨a1, e1, g1⟩ := hr3.at (hf 1 _ rfl)
  have q := (hcut_cons (E := E) (o := 0) (n := 1) e0 (hcut_cons (E := E) (o := 1) (n := 1) e1 (hcut_nil (E := E) (o := 2) (Nat.le_of_eq (hl.trans (by kernel_rfl))))))
  rw [List.drop_zero] at q
  exact ⟨⟨a0, a1⟩, q, g0, g1⟩
theorem hr28 : HReads E 28 10 In10 := by
  refine ⟨by kernel_rfl, fun H e w base sp held fuel cs x h => ?_⟩
  obtain ⟨hl, hf⟩ := fields_of (E := E) Tryz.underlying28 h
  obtain ⟨a0, e0, g0⟩ := hr26.at (hf 0 _ rfl)
  obtain ⟨a1, e1, g1⟩ := hr26.at (hf 1 _ rfl)
  obtain ⟨a2, e2, g2⟩ := hr26.at (hf 2 _ rfl)
  obtain ⟨a3, e3, g3⟩ := hr26.at (hf 3 _ rfl)
  have q := (hcut_cons (E := E) (o := 0) (n := 2) e0 (hcut_cons (E := E) (o := 2) (n := 2) e1 (hcut_cons (E := E) (o := 4) (n := 2) e2 (hcut_cons (E := E) (o := 6) (n := 2) e3 (hcut_nil (E := E) (o := 8) (Nat.le_of_eq (hl.trans (by kernel_rfl))))))))
  rw [List.drop_zero] at q
  exact ⟨⟨a0, a1, a2, a3⟩, q, g0, g1, g2, g3⟩
def In1 (x : Bool) : Prop := True
def In11 (x : Bk.Part) : Prop := In10 x.Cell ∧ In1 x.Channel ∧ In0 x.Length
def In12 (x : List (Bk.Part)) : Prop := (∀ y ∈ x, In11 y) ∧ x.length ≤ 9223372036854775807
def In13 (x : List (List (Bk.Part))) : Prop := (∀ y ∈ x, In12 y) ∧ x.length ≤ 9223372036854775807
theorem hr4 : HReads E 4 1 In1 := hreads_bool (E := E) (c := 1) (fun n => n) (fun _ => rfl) Tryz.underlying4 (by kernel_rfl) (fun _ => trivial)
theorem hr39 : HReads E 39 11 In11 := by
  refine ⟨by kernel_rfl, fun H e w base sp held fuel cs x h => ?_⟩
  obtain ⟨hl, hf⟩ := fields_of (E := E) Tryz.underlying39 h
  obtain ⟨a0, e0, g0⟩ := hr28.at (hf 0 _ rfl)
  obtain ⟨a1, e1, g1⟩ := hr4.at (hf 1 _ rfl)
  obtain ⟨a2, e2, g2⟩ := hr3.at (hf 2 _ rfl)
  have q := (hcut_cons (E := E) (o := 0) (n := 8) e0 (hcut_cons (E := E) (o := 8) (n := 1) e1 (hcut_cons (E := E) (o := 9) (n := 1) e2 (hcut_nil (E := E) (o := 10) (Nat.le_of_eq (hl.trans (by kernel_rfl)))))))
  rw [List.drop_zero] at q
  exact ⟨⟨a0, a1, a2⟩, q, g0, g1, g2⟩
theorem hr34 : HReads E 34 12 In12 := hreads_slice (E := E) (c := 11) (d := 12) (fun l => l) (fun _ => rfl) Tryz.underlying34 hr39 (by decide) (by kernel_rfl) (fun l h h2 => ⟨h, h2⟩)
theorem hr32 : HReads E 32 13 In13 := hreads_slice (E := E) (c := 12) (d := 13) (fun l => l) (fun _ => rfl) Tryz.underlying32 hr34 (by decide) (by kernel_rfl) (fun l h h2 => ⟨h, h2⟩)
set_option maxRecDepth 100000 in
set_option maxHeartbeats 4000000 in
theorem breakerTables_lifted (os : Os) (started : os.Started) (H : Type) (enc : TypeId × Value → H) :
    ReturnsInHanded {} Tryz.checked os 3 .any (fun w args => (Rows.breakerTablesSpec.pre enc Tryz.prog Tryz.f3 [] false w args ∧ laidMetH Tryz.prog laid1 w) ∧ sizedMet enc Tryz.prog Tryz.f3 (OpenSpec.ofChange Rows.breakerTablesSpec) false w args)
      (Rows.breakerTablesSpec.post enc Tryz.prog Tryz.f3 false true false false) := by
  refine returnsInHanded_of_change_and (C := Tryz.checked) (X := fun w _ => laidMetH Tryz.prog laid1 w) (fun _ _ _ hh h => h.of_heap hh) own started (by kernel_rfl) Tryz.func3
    (ChangeSpec.witness_shaped (enc := enc) (C := Tryz.checked) (os := os) (X := fun w _ => laidMetH Tryz.prog laid1 w) false (World.doorLaid Tryz.prog 400 os) #[.agg #[.int .i64 0, .int .i64 0, .int .i64 0, .int .i64 0, .slice none 0 0, .slice none 0 0, .slice none 0 0, .int .i64 0, .int .i64 0, .int .i64 0, .int .i64 0], .agg #[.int .i64 0, .int .i64 0, .int .i64 0, .int .i64 0, .int .i64 0, .int .i64 0, .int .i64 0, .int .i64 0], .slice none 0 0] 8 rfl (World.shaped_of_RefB (by kernel_rfl) (by kernel_rfl)) (by kernel_rfl) (by kernel_rfl) (by kernel_rfl) (door_met os _)) ?_
  intro W base args ds gs before hval0 hW _ _ hL _
  have hval : ∀ (j : Nat) t v, Tryz.f3.params[j]? = some t → args[j]? = some v → Value.okWide Tryz.prog W .any base t v := hval0
  have hW' := hW
  obtain ⟨p, q, hA0, hV, rfl, hfz, hnd⟩ := hW
  have hA : DataW.TrodAll enc Tryz.prog W 0 (fun _ => true) true Tryz.f3.params.toList args.toList ds p := hA0
  rw [Tryz.params3] at hA hval
  obtain ⟨v0, vs0, d0, ds0, p0, q0, hargs, rfl, rfl, h0, r0⟩ := trodAll_cons hA
  obtain ⟨v1, vs1, d1, ds1, p1, q1, rfl, rfl, rfl, h1, r1⟩ := trodAll_cons r0
  obtain ⟨v2, vs2, d2, ds2, p2, q2, rfl, rfl, rfl, h2, r2⟩ := trodAll_cons r1
  obtain ⟨rfl, rfl, rfl⟩ := trodAll_nil r2
  obtain rfl : args = #[v0, v1, v2] := by cases args; simp_all
  obtain ⟨rfl, rfl⟩ := trodVars_none hV
  obtain ⟨a0, m0, b0⟩ := harg_agg hr24 Tryz.underlying24 (hval 0 24 v0 rfl rfl) h0
  obtain ⟨a1, m1, b1⟩ := harg_agg hr28 Tryz.underlying28 (hval 1 28 v1 rfl rfl) h1
  obtain ⟨a2, m2, b2⟩ := harg_sl (E := E) Tryz.underlying29 hr32 (by decide) (hval 2 29 v2 rfl rfl) h2
  have hG := of_laid hL
  clear hA0 hval0
  have hc : CSok E gl ⟨3, [.v 8 true, .v 10 true, .sl 13], [.v 1 false []], fun x => law06_BreakerTables 1000000000000000 x.1 x.2.1 x.2.2.1⟩ := c3 1000000000000000
  have hargs2 : ArgsAre E (IsCells W) W [.v 8 true, .v 10 true, .sl 13] (a0, a1, a2, ()) [v0, v1, v2] := ⟨v0, _, rfl, m0, ⟨v1, _, rfl, m1, ⟨v2, _, rfl, m2, rfl⟩⟩⟩
  have hwalk := law_callsG (E := E) hc hG true rfl hargs2 (tables_law b0 b1 b2)
  refine hwalk.mono fun e W' ⟨he, hb⟩ => ?_
  subst he
  exact ⟨_, rfl, post_law hW' rfl rfl rfl Tryz.underlying4 (by kernel_rfl) hb⟩
theorem breakerTables_said : Rows.BreakerTablesSaid :=
  OpenClaim.holds_of_wide 3 Tryz.f3 rfl rfl rfl rfl rfl rfl rfl ⟨rfl, rfl, rfl, rfl, rfl⟩ rfl rfl rfl rfl rfl (by kernel_rfl) Tryz.func3 (by kernel_rfl)
    (of_decide_eq_true (by kernel_rfl)) (by unfold Func.isWrapper; first | (rw [if_pos (by decide +kernel)]; kernel_rfl) | (rw [if_neg (by decide +kernel)]; exact ⟨rfl, rfl⟩))
    (fun os started H enc _ => breakerTables_lifted os started H enc)
theorem breakerTables_holds : Rows.BreakerTablesCardSaid :=
  Claim7.holds_tied_plain_at .later [] [.data] true (true, "8c831d787102e846bb59bd008775cb017b38f63c378d1641e89bc7eee043a578") false
    breakerTables_said (fun _ h => by cases h) (by kernel_rfl) (fun _ h => by cases h) breakerTables_row_tie rfl ⟨rfl, rfl⟩ (by kernel_rfl) rfl
    (fun f fn hf hfn => by
      obtain rfl : f = 3 := Option.some.inj ((show Tryz.prog.funcNamed "polynya/polynyalaw06.BreakerTables" = some 3 by kernel_rfl).symm.trans hf) |>.symm
      obtain rfl : fn = Tryz.f3 := (Option.some.inj (Tryz.func3.symm.trans hfn)).symm
      exact ⟨by kernel_rfl, fun j t ht => by
        rw [Tryz.params3] at ht
        have hm : t ∈ [24, 28, 29] := by simpa using Array.mem_of_getElem? ht
        have hall : ([24, 28, 29].all fun u => !Tryz.prog.wantsStandIn u) = true := by kernel_rfl
        exact (show Tryz.prog.wantsStandIn t = false by simpa using List.all_eq_true.1 hall t hm)⟩)
    (by kernel_rfl)
#print axioms breakerTables_holds
end Go.Proofs.YtmfbcbbefepnpaaGreatDoor
