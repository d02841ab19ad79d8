/-
  The law BreakerTable answers true for every input and leaves what was there alone. Conditions: none but those of the given card (the variable that it lists is tied to the program's text).
-/
import Derived.Test.YtmfbcbbefepnpaaGreatDoorTb5
import Derived.Test.YtmfbcbbefepnpaaGreatDoorRows
import Derived.Test.YtmfbcbbefepnpaaGreatDoorTie
import Derived.Test.YtmfbcbbefepnpaaGreatDoorCards
namespace Go.Proofs.YtmfbcbbefepnpaaGreatDoor
open Go Go.KX Go.ChangeShapes Go.WideShapes Go.ChangeAt Go.RowKit Bk
def In2 (x : Int) : Prop := 0 ≤ x ∧ x ≤ 255
theorem hr5 : HReads E 5 2 In2 := hreads_int (E := E) (c := 2) (k := .u8) (fun n => n) (fun _ => rfl) Tryz.underlying5 (by kernel_rfl) (fun n h => wf_u8 h)
set_option maxRecDepth 100000 in
set_option maxHeartbeats 4000000 in
theorem breakerTable_lifted (os : Os) (started : os.Started) (H : Type) (enc : TypeId × Value → H) :
  ReturnsInHanded {} Tryz.checked os 4 .any (fun w args => (Rows.breakerTableSpec.pre enc Tryz.prog Tryz.f4 [] false w args ∧ laidMetH Tryz.prog laid1 w) ∧ sizedMet enc Tryz.prog Tryz.f4 (OpenSpec.ofChange Rows.breakerTableSpec) false w args)
   (Rows.breakerTableSpec.post enc Tryz.prog Tryz.f4 false true false false) := by
 refine returnsInHanded_of_change_and (C := Tryz.checked) (X := fun w _ => laidMetH Tryz.prog laid1 w) (fun _ _ _ hh h => h.of_heap hh) own started (by kernel_rfl) Tryz.func4
  (ChangeSpec.witness_shaped (enc := enc) (C := Tryz.checked) (os := os) (X := fun w _ => laidMetH Tryz.prog laid1 w) false (World.doorLaid Tryz.prog 400 os) #[.slice none 0 0, .slice none 0 0, .slice none 0 0] 8 rfl (World.shaped_of_RefB (by kernel_rfl) (by kernel_rfl)) (by kernel_rfl) (by kernel_rfl) (by kernel_rfl) (door_met os _)) ?_
 intro W base args ds gs before hval0 hW _ _ hL _
 have hval : ∀ (j : Nat) t v, Tryz.f4.params[j]? = some t → args[j]? = some v → Value.okWide Tryz.prog W .any base t v := hval0
 have hW' := hW
 obtain ⟨p, q, hA0, hV, rfl, hfz, hnd⟩ := hW
 have hA : DataW.TrodAll enc Tryz.prog W 0 (fun _ => true) true Tryz.f4.params.toList args.toList ds p := hA0
 rw [Tryz.params4] at hA hval
 obtain ⟨v0, vs0, d0, ds0, p0, q0, hargs, rfl, rfl, h0, r0⟩ := trodAll_cons hA
 obtain ⟨v1, vs1, d1, ds1, p1, q1, rfl, rfl, rfl, h1, r1⟩ := trodAll_cons r0
 obtain ⟨v2, vs2, d2, ds2, p2, q2, rfl, rfl, rfl, h2, r2⟩ := trodAll_cons r1
 obtain ⟨rfl, rfl, rfl⟩ := trodAll_nil r2
 obtain rfl : args = #[v0, v1, v2] := by cases args; simp_all
 obtain ⟨rfl, rfl⟩ := trodVars_none hV
 obtain ⟨a0, m0, b0⟩ := harg_sl (E := E) Tryz.underlying62 hr5 (by decide) (hval 0 62 v0 rfl rfl) h0
 obtain ⟨a1, m1, b1⟩ := harg_sl (E := E) Tryz.underlying62 hr5 (by decide) (hval 1 62 v1 rfl rfl) h1
 obtain ⟨a2, m2, b2⟩ := harg_sl (E := E) Tryz.underlying62 hr5 (by decide) (hval 2 62 v2 rfl rfl) h2
 have hG := of_laid hL
 clear hA0 hval0
 have hc : CSok E gl ⟨4, [.sl 2, .sl 2, .sl 2], [.v 1 false []], fun x => law06_BreakerTable 1000000000000000 x.1 x.2.1 x.2.2.1⟩ := c4 1000000000000000
 have hargs2 : ArgsAre E (IsCells W) W [.sl 2, .sl 2, .sl 2] (a0, a1, a2, ()) [v0, v1, v2] := ⟨v0, _, rfl, m0, ⟨v1, _, rfl, m1, ⟨v2, _, rfl, m2, rfl⟩⟩⟩
 have hwalk := law_callsG (E := E) hc hG true rfl hargs2 (table_law b0 b1 b2)
 refine hwalk.mono fun e W' ⟨he, hb⟩ => ?_
 subst he
 exact ⟨_, rfl, post_law hW' rfl rfl rfl Tryz.underlying4 (by kernel_rfl) hb⟩
theorem breakerTable_said : Rows.BreakerTableSaid :=
 OpenClaim.holds_of_wide 4 Tryz.f4 rfl rfl rfl rfl rfl rfl rfl ⟨rfl, rfl, rfl, rfl, rfl⟩ rfl rfl rfl rfl rfl (by kernel_rfl) Tryz.func4 (by kernel_rfl)
  (of_decide_eq_true (by kernel_rfl)) (by unfold Func.isWrapper; first | (rw [if_pos (by decide +kernel)]; kernel_rfl) | (rw [if_neg (by decide +kernel)]; exact ⟨rfl, rfl⟩))
  (fun os started H enc _ => breakerTable_lifted os started H enc)
theorem breakerTable_holds : Rows.BreakerTableCardSaid :=
 Claim7.holds_tied_plain_at .later [] [.data] true (true, "8c831d787102e846bb59bd008775cb017b38f63c378d1641e89bc7eee043a578") false
  breakerTable_said (fun _ h => by cases h) (by kernel_rfl) (fun _ h => by cases h) breakerTable_row_tie rfl ⟨rfl, rfl⟩ (by kernel_rfl) rfl
  (fun f fn hf hfn => by
   obtain rfl : f = 4 := Option.some.inj ((show Tryz.prog.funcNamed "polynya/polynyalaw06.BreakerTable" = some 4 by kernel_rfl).symm.trans hf) |>.symm
   obtain rfl : fn = Tryz.f4 := (Option.some.inj (Tryz.func4.symm.trans hfn)).symm
   exact ⟨by kernel_rfl, fun j t ht => by
    rw [Tryz.params4] at ht
    have hm : t ∈ [62, 62, 62] := by simpa using Array.mem_of_getElem? ht
    have hall : ([62, 62, 62].all fun u => !Tryz.prog.wantsStandIn u) = true := by kernel_rfl
    exact (show Tryz.prog.wantsStandIn t = false by simpa using List.all_eq_true.1 hall t hm)⟩)
  (by kernel_rfl)
#print axioms breakerTable_holds
end Go.Proofs.YtmfbcbbefepnpaaGreatDoor
