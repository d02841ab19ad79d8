/-
  The law ConvoyBest answers true for every input and leaves what was there alone. Conditions: none but those of the given card (the variable that it lists is tied to the program's text).
-/
import Derived.Test.YtopinlndbbikdaaGreatDoorCb5
import Derived.Test.YtopinlndbbikdaaGreatDoorRows
import Derived.Test.YtopinlndbbikdaaGreatDoorTie
import Derived.Test.YtopinlndbbikdaaGreatDoorCards
namespace Go.Proofs.YtopinlndbbikdaaGreatDoor
open Go Go.KX Go.ChangeShapes Go.WideShapes Go.ChangeAt Go.RowKit Cb
def In2 (x : Int) : Prop := 0 ≤ x ∧ x ≤ 255
theorem hr5 : HReads E 5 2 In2 := hreads_int (E := E) (c := 2) (k := .u8) (fun n => n) (fun _ => rfl) Tryz.underlying5 (by kernel_rfl) (fun n h => wf_u8 h)
set_option maxRecDepth 100000 in
set_option maxHeartbeats 4000000 in
theorem convoyBest_lifted (os : Os) (started : os.Started) (H : Type) (enc : TypeId × Value → H) :
  ReturnsInHanded {} Tryz.checked os 3 .any (fun w args => (Rows.convoyBestSpec.pre enc Tryz.prog Tryz.f3 [] false w args ∧ laidMetH Tryz.prog laid1 w) ∧ sizedMet enc Tryz.prog Tryz.f3 (OpenSpec.ofChange Rows.convoyBestSpec) false w args)
   (Rows.convoyBestSpec.post enc Tryz.prog Tryz.f3 false true false false) := by
 refine returnsInHanded_of_change_and (C := Tryz.checked) (X := fun w _ => laidMetH Tryz.prog laid1 w) (fun _ _ _ hh h => h.of_heap hh) own started (by kernel_rfl) Tryz.func3
  (ChangeSpec.witness_shaped (enc := enc) (C := Tryz.checked) (os := os) (X := fun w _ => laidMetH Tryz.prog laid1 w) false (World.doorLaid Tryz.prog 400 os) #[.slice none 0 0, .slice none 0 0, .slice none 0 0] 8 rfl (World.shaped_of_RefB (by kernel_rfl) (by kernel_rfl)) (by kernel_rfl) (by kernel_rfl) (by kernel_rfl) (door_met os _)) ?_
 intro W base args ds gs before hval0 hW _ _ hL _
 have hval : ∀ (j : Nat) t v, Tryz.f3.params[j]? = some t → args[j]? = some v → Value.okWide Tryz.prog W .any base t v := hval0
 have hW' := hW
 obtain ⟨p, q, hA0, hV, rfl, hfz, hnd⟩ := hW
 have hA : DataW.TrodAll enc Tryz.prog W 0 (fun _ => true) true Tryz.f3.params.toList args.toList ds p := hA0
 rw [Tryz.params3] at hA hval
 obtain ⟨v0, vs0, d0, ds0, p0, q0, hargs, rfl, rfl, h0, r0⟩ := trodAll_cons hA
 obtain ⟨v1, vs1, d1, ds1, p1, q1, rfl, rfl, rfl, h1, r1⟩ := trodAll_cons r0
 obtain ⟨v2, vs2, d2, ds2, p2, q2, rfl, rfl, rfl, h2, r2⟩ := trodAll_cons r1
 obtain ⟨rfl, rfl, rfl⟩ := trodAll_nil r2
 obtain rfl : args = #[v0, v1, v2] := by cases args; simp_all
 obtain ⟨rfl, rfl⟩ := trodVars_none hV
 obtain ⟨a0, m0, b0⟩ := harg_sl (E := E) Tryz.underlying22 hr5 (by decide) (hval 0 22 v0 rfl rfl) h0
 obtain ⟨a1, m1, b1⟩ := harg_sl (E := E) Tryz.underlying22 hr5 (by decide) (hval 1 22 v1 rfl rfl) h1
 obtain ⟨a2, m2, b2⟩ := harg_sl (E := E) Tryz.underlying22 hr5 (by decide) (hval 2 22 v2 rfl rfl) h2
 have hG := of_laid hL
 clear hA0 hval0
 have hc : CSok E gl ⟨3, [.sl 2, .sl 2, .sl 2], [.v 1 false []], fun x => law05_ConvoyBest 1000000000000000 x.1 x.2.1 x.2.2.1⟩ := c3 1000000000000000
 have hargs2 : ArgsAre E (IsCells W) W [.sl 2, .sl 2, .sl 2] (a0, a1, a2, ()) [v0, v1, v2] := ⟨v0, _, rfl, m0, ⟨v1, _, rfl, m1, ⟨v2, _, rfl, m2, rfl⟩⟩⟩
 have hwalk := law_callsG (E := E) hc hG true rfl hargs2 (convoyBest_ok b0 b1 b2)
 refine hwalk.mono fun e W' ⟨he, hb⟩ => ?_
 subst he
 exact ⟨_, rfl, post_law hW' rfl rfl rfl Tryz.underlying4 (by kernel_rfl) hb⟩
theorem convoyBest_said : Rows.ConvoyBestSaid :=
 OpenClaim.holds_of_wide 3 Tryz.f3 rfl rfl rfl rfl rfl rfl rfl ⟨rfl, rfl, rfl, rfl, rfl⟩ rfl rfl rfl rfl rfl (by kernel_rfl) Tryz.func3 (by kernel_rfl)
  (of_decide_eq_true (by kernel_rfl)) (by unfold Func.isWrapper; first | (rw [if_pos (by decide +kernel)]; kernel_rfl) | (rw [if_neg (by decide +kernel)]; exact ⟨rfl, rfl⟩))
  (fun os started H enc _ => convoyBest_lifted os started H enc)
theorem convoyBest_holds : Rows.ConvoyBestCardSaid :=
 Claim7.holds_tied_plain_at .later [] [.data] true (true, "9a47b44f093893ab6c9d6c05322c0f51c72d944763446fbc47aad465dc3fe1c2") false
  convoyBest_said (fun _ h => by cases h) (by kernel_rfl) (fun _ h => by cases h) convoyBest_row_tie rfl ⟨rfl, rfl⟩ (by kernel_rfl) rfl
  (fun f fn hf hfn => by
   obtain rfl : f = 3 := Option.some.inj ((show Tryz.prog.funcNamed "polynya/polynyalaw05.ConvoyBest" = some 3 by kernel_rfl).symm.trans hf) |>.symm
   obtain rfl : fn = Tryz.f3 := (Option.some.inj (Tryz.func3.symm.trans hfn)).symm
   exact ⟨by kernel_rfl, fun j t ht => by
    rw [Tryz.params3] at ht
    have hm : t ∈ [22, 22, 22] := by simpa using Array.mem_of_getElem? ht
    have hall : ([22, 22, 22].all fun u => !Tryz.prog.wantsStandIn u) = true := by kernel_rfl
    exact (show Tryz.prog.wantsStandIn t = false by simpa using List.all_eq_true.1 hall t hm)⟩)
  (by kernel_rfl)
#print axioms convoyBest_holds
end Go.Proofs.YtopinlndbbikdaaGreatDoor
