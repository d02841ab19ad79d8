/-
  The law HullSmall answers true for every input and leaves what was there alone. Conditions: none but those of the given card (the variable that it lists is tied to the program's text).
-/
import Derived.Test.YtniblbonhicekaaGreatDoorHs4
import Derived.Test.YtniblbonhicekaaGreatDoorRows
import Derived.Test.YtniblbonhicekaaGreatDoorTie
import Derived.Test.YtniblbonhicekaaGreatDoorCards
namespace Go.Proofs.YtniblbonhicekaaGreatDoor
open Go Go.KX Go.ChangeShapes Go.WideShapes Go.ChangeAt Go.RowKit Hm
set_option maxRecDepth 100000 in
set_option maxHeartbeats 4000000 in
theorem hullSmall_lifted (os : Os) (started : os.Started) (H : Type) (enc : TypeId × Value → H) :
  ReturnsInHanded {} Tryz.checked os 3 .any (fun w args => (Rows.hullSmallSpec.pre enc Tryz.prog Tryz.f3 [] false w args ∧ laidMetH Tryz.prog laid1 w) ∧ sizedMet enc Tryz.prog Tryz.f3 (OpenSpec.ofChange Rows.hullSmallSpec) false w args)
   (Rows.hullSmallSpec.post enc Tryz.prog Tryz.f3 false true false false) := by
 refine returnsInHanded_of_change_and (C := Tryz.checked) (X := fun w _ => laidMetH Tryz.prog laid1 w) (fun _ _ _ hh h => h.of_heap hh) own started (by kernel_rfl) Tryz.func3
  (ChangeSpec.witness_shaped (enc := enc) (C := Tryz.checked) (os := os) (X := fun w _ => laidMetH Tryz.prog laid1 w) false (World.doorLaid Tryz.prog 400 os) #[] 8 rfl (World.shaped_of_RefB (by kernel_rfl) (by kernel_rfl)) (by kernel_rfl) (by kernel_rfl) (by kernel_rfl) (door_met os _)) ?_
 intro W base args ds gs before hval0 hW _ _ hL _
 have hval : ∀ (j : Nat) t v, Tryz.f3.params[j]? = some t → args[j]? = some v → Value.okWide Tryz.prog W .any base t v := hval0
 have hW' := hW
 obtain ⟨p, q, hA0, hV, rfl, hfz, hnd⟩ := hW
 have hA : DataW.TrodAll enc Tryz.prog W 0 (fun _ => true) true Tryz.f3.params.toList args.toList ds p := hA0
 rw [Tryz.params3] at hA hval
 obtain ⟨hargs, rfl, rfl⟩ := trodAll_nil hA
 obtain rfl : args = #[] := by cases args; simp_all
 obtain ⟨rfl, rfl⟩ := trodVars_none hV
 have hG := of_laid hL
 clear hA0 hval0
 have hc : CSok E gl ⟨3, [], [.v 1 false []], fun x => law03_HullSmall 1000000000000000⟩ := c3 1000000000000000
 have hargs2 : ArgsAre E (IsCells W) W [] (()) [] := rfl
 have hwalk := law_callsG (E := E) hc hG true rfl hargs2 (small_ok)
 refine hwalk.mono fun e W' ⟨he, hb⟩ => ?_
 subst he
 exact ⟨_, rfl, post_law hW' rfl rfl rfl Tryz.underlying4 (by kernel_rfl) hb⟩
theorem hullSmall_said : Rows.HullSmallSaid :=
 OpenClaim.holds_of_wide 3 Tryz.f3 rfl rfl rfl rfl rfl rfl rfl ⟨rfl, rfl, rfl, rfl, rfl⟩ rfl rfl rfl rfl rfl (by kernel_rfl) Tryz.func3 (by kernel_rfl)
  (of_decide_eq_true (by kernel_rfl)) (by unfold Func.isWrapper; first | (rw [if_pos (by decide +kernel)]; kernel_rfl) | (rw [if_neg (by decide +kernel)]; exact ⟨rfl, rfl⟩))
  (fun os started H enc _ => hullSmall_lifted os started H enc)
theorem hullSmall_holds : Rows.HullSmallCardSaid :=
 Claim7.holds_tied_plain_at .later [] [.data] true (true, "00efa2c3f6400b451d3f3350e30e0bfdb54017c81a9b9dc59a66d07bde9a2935") false
  hullSmall_said (fun _ h => by cases h) (by kernel_rfl) (fun _ h => by cases h) hullSmall_row_tie rfl ⟨rfl, rfl⟩ (by kernel_rfl) rfl
  (fun f fn hf hfn => by
   obtain rfl : f = 3 := Option.some.inj ((show Tryz.prog.funcNamed "polynya/polynyalaw03.HullSmall" = some 3 by kernel_rfl).symm.trans hf) |>.symm
   obtain rfl : fn = Tryz.f3 := (Option.some.inj (Tryz.func3.symm.trans hfn)).symm
   exact ⟨by kernel_rfl, fun j t ht => by
    rw [Tryz.params3] at ht
    have hm : t ∈ [] := by simpa using Array.mem_of_getElem? ht
    have hall : ([].all fun u => !Tryz.prog.wantsStandIn u) = true := by kernel_rfl
    exact (show Tryz.prog.wantsStandIn t = false by simpa using List.all_eq_true.1 hall t hm)⟩)
  (by kernel_rfl)
#print axioms hullSmall_holds
end Go.Proofs.YtniblbonhicekaaGreatDoor
