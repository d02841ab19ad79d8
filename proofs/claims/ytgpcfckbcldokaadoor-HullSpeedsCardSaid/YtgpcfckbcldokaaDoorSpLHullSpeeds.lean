/-
  The law HullSpeeds answers true for every input and leaves what was there alone. Conditions: none but those of the given card (the variable that it lists is tied to the program's text).
-/
import Derived.Test.YtgpcfckbcldokaaDoorSp7
namespace Go.Proofs.YtgpcfckbcldokaaDoor
open Go Go.AX Go.ChangeShapes Go.WideShapes Go.ChangeAt Go.RowKit Hull Go.Proofs.T

set_option maxRecDepth 100000 in
set_option maxHeartbeats 4000000 in
theorem hullSpeeds_lifted (os : Os) (started : os.Started) (H : Type) (enc : TypeId × Value → H) :
    ReturnsInHanded {} Tryd.checked os 12 .any (fun w args => (Rows.hullSpeedsSpec.pre enc Tryd.prog Tryd.f12 [] false w args ∧ laidMetH Tryd.prog laid1 w) ∧ sizedMet enc Tryd.prog Tryd.f12 (OpenSpec.ofChange Rows.hullSpeedsSpec) false w args)
      (Rows.hullSpeedsSpec.post enc Tryd.prog Tryd.f12 false true false false) := by
  refine returnsInHanded_of_change_and (C := Tryd.checked) (X := fun w _ => laidMetH Tryd.prog laid1 w) (fun _ _ _ hh h => h.of_heap hh) own started (by kernel_rfl) Tryd.func12
    (ChangeSpec.witness_shaped (enc := enc) (C := Tryd.checked) (os := os) (X := fun w _ => laidMetH Tryd.prog laid1 w) false (World.doorLaid Tryd.prog 400 os) #[.agg #[.int .i64 0, .int .i64 0, .int .i64 0, .int .i64 0, .slice none 0 0, .slice none 0 0, .slice none 0 0, .int .i64 0, .int .i64 0, .int .i64 0, .int .i64 0], .agg #[.int .i64 0, .int .i64 0, .int .i64 0, .int .i64 0], .agg #[.int .i64 0, .int .i64 0, .int .i64 0, .int .i64 0, .int .i64 0, .int .i64 0, .int .i64 0, .int .i64 0], .int .i64 0, .bool false] 8 rfl (World.shaped_of_RefB (by kernel_rfl) (by kernel_rfl)) (by kernel_rfl) (by kernel_rfl) (by kernel_rfl) (door_met os _)) ?_
  intro W base args ds gs before hval0 hW _ _ hL _
  have hval : ∀ (j : Nat) t v, Tryd.f12.params[j]? = some t → args[j]? = some v → Value.okWide Tryd.prog W .any base t v := hval0
  have hW' := hW
  obtain ⟨p, q, hA0, hV, rfl, hfz, hnd⟩ := hW
  have hA : DataW.TrodAll enc Tryd.prog W 0 (fun _ => true) true Tryd.f12.params.toList args.toList ds p := hA0
  rw [Tryd.params12] at hA hval
  obtain ⟨v0, vs0, d0, ds0, p0, q0, hargs, rfl, rfl, h0, r0⟩ := trodAll_cons hA
  obtain ⟨v1, vs1, d1, ds1, p1, q1, rfl, rfl, rfl, h1, r1⟩ := trodAll_cons r0
  obtain ⟨v2, vs2, d2, ds2, p2, q2, rfl, rfl, rfl, h2, r2⟩ := trodAll_cons r1
  obtain ⟨v3, vs3, d3, ds3, p3, q3, rfl, rfl, rfl, h3, r3⟩ := trodAll_cons r2
  obtain ⟨v4, vs4, d4, ds4, p4, q4, rfl, rfl, rfl, h4, r4⟩ := trodAll_cons r3
  obtain ⟨rfl, rfl, rfl⟩ := trodAll_nil r4
  obtain rfl : args = #[v0, v1, v2, v3, v4] := by cases args; simp_all
  obtain ⟨rfl, rfl⟩ := trodVars_none hV
  obtain ⟨c0, rfl, hl0, hf0⟩ := open_agg_arg Tryd.underlying25 (hval 0 25 v0 rfl rfl) h0
  obtain ⟨z0_Class, e0_0, w0_Class⟩ := reads_3.at (hf0 0 _ rfl)
  obtain ⟨z0_Power, e0_1, w0_Power⟩ := reads_3.at (hf0 1 _ rfl)
  obtain ⟨z0_Draught, e0_2, w0_Draught⟩ := reads_3.at (hf0 2 _ rfl)
  obtain ⟨z0_Tonnes, e0_3, w0_Tonnes⟩ := reads_3.at (hf0 3 _ rfl)
  obtain ⟨s0_Thrust, l0_Thrust, e0_4, hs0_Thrust, w0_Thrust, n0_Thrust⟩ := open_recs_at Tryd.underlying23 reads_84 (by decide) (by kernel_rfl) (fun _ => rfl) (hf0 4 _ rfl)
  obtain ⟨s0_Water, l0_Water, e0_5, hs0_Water, w0_Water, n0_Water⟩ := open_recs_at Tryd.underlying23 reads_84 (by decide) (by kernel_rfl) (fun _ => rfl) (hf0 5 _ rfl)
  obtain ⟨s0_Ice, l0_Ice, e0_6, hs0_Ice, w0_Ice, n0_Ice⟩ := open_recs_at Tryd.underlying23 reads_84 (by decide) (by kernel_rfl) (fun _ => rfl) (hf0 6 _ rfl)
  obtain ⟨z0_Slow, e0_7, w0_Slow⟩ := reads_3.at (hf0 7 _ rfl)
  obtain ⟨z0_Brash, e0_8, w0_Brash⟩ := reads_3.at (hf0 8 _ rfl)
  obtain ⟨z0_Ridge, e0_9, w0_Ridge⟩ := reads_3.at (hf0 9 _ rfl)
  obtain ⟨z0_Press, e0_10, w0_Press⟩ := reads_3.at (hf0 10 _ rfl)
  have q0 : List.drop 0 c0 = _ := (cut_cons e0_0 (cut_cons e0_1 (cut_cons e0_2 (cut_cons e0_3 (cut_cons e0_4 (cut_cons e0_5 (cut_cons e0_6 (cut_cons e0_7 (cut_cons e0_8 (cut_cons e0_9 (cut_cons e0_10 (List.drop_eq_nil_of_le (by rw [hl0, show Tryd.prog.cellsOf 25 = 11 by kernel_rfl]; decide)))))))))))))
  rw [List.drop_zero] at q0
  subst q0
  let a0 : Ship := ⟨z0_Class, z0_Power, z0_Draught, z0_Tonnes, l0_Thrust, l0_Water, l0_Ice, z0_Slow, z0_Brash, z0_Ridge, z0_Press⟩
  obtain ⟨a1, rfl, w1⟩ := open_rec_arg Tryd.underlying28 reads_28 (hval 1 28 v1 rfl rfl) h1
  obtain ⟨a2, rfl, w2⟩ := open_rec_arg Tryd.underlying34 reads_34 (hval 2 34 v2 rfl rfl) h2
  obtain ⟨a3, rfl, rfl, _, w3⟩ := open_int Tryd.underlying3 (hval 3 3 v3 rfl rfl) h3
  have b3 := wf_i64 w3
  obtain ⟨a4, rfl, rfl, _⟩ := open_bool Tryd.underlying4 (hval 4 4 v4 rfl rfl) h4
  have hG := of_laid hL
  clear hA0 hval0
  obtain ⟨r, hm, hr⟩ := m12_ok (F := 1000) (by decide) a0 a1 a2 a3 a4
  subst hr
  have hwalk := c12 1000 a0 s0_Thrust s0_Water s0_Ice a1 a2 a3 a4 W hs0_Thrust hs0_Water hs0_Ice hG true hm
  refine hwalk.mono fun e W' ⟨he, hb⟩ => ?_
  subst he
  exact ⟨_, rfl, post_law hW' rfl rfl rfl Tryd.underlying4 (by kernel_rfl) hb⟩

theorem hullSpeeds_said : Rows.HullSpeedsSaid :=
  OpenClaim.holds_of_wide 12 Tryd.f12 rfl rfl rfl rfl rfl rfl rfl ⟨rfl, rfl, rfl, rfl, rfl⟩ rfl rfl rfl rfl rfl (by kernel_rfl) Tryd.func12 (by kernel_rfl)
    (of_decide_eq_true (by kernel_rfl)) (by unfold Func.isWrapper; first | (rw [if_pos (by decide +kernel)]; kernel_rfl) | (rw [if_neg (by decide +kernel)]; exact ⟨rfl, rfl⟩))
    (fun os started H enc _ => hullSpeeds_lifted os started H enc)

theorem hullSpeeds_holds : Rows.HullSpeedsCardSaid :=
  Claim7.holds_tied_plain_at .later [] [.data] true (true, "daf176d1e7ac92251cd273b17ec66cf9c8107bda9a1c2c70ddd44dd20d9994ac") false
    hullSpeeds_said (fun _ h => by cases h) (by kernel_rfl) (fun _ h => by cases h) hullSpeeds_row_tie rfl ⟨rfl, rfl⟩ (by kernel_rfl) rfl
    (fun f fn hf hfn => by
      obtain rfl : f = 12 := Option.some.inj ((show Tryd.prog.funcNamed "polynya/polynyalaw03.HullSpeeds" = some 12 by kernel_rfl).symm.trans hf) |>.symm
      obtain rfl : fn = Tryd.f12 := (Option.some.inj (Tryd.func12.symm.trans hfn)).symm
      exact ⟨by kernel_rfl, fun j t ht => by
        rw [Tryd.params12] at ht
        have hm : t ∈ [25, 28, 34, 3, 4] := by simpa using Array.mem_of_getElem? ht
        have hall : ([25, 28, 34, 3, 4].all fun u => !Tryd.prog.wantsStandIn u) = true := by kernel_rfl
        exact (show Tryd.prog.wantsStandIn t = false by simpa using List.all_eq_true.1 hall t hm)⟩)
    (by kernel_rfl)
#print axioms hullSpeeds_holds
end Go.Proofs.YtgpcfckbcldokaaDoor
