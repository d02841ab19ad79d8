/-
  The law ConvoyLeft answers true for every input and leaves what was there alone. Conditions: none but those of the given card (the variable that it lists is tied to the program's text).
-/
import Derived.Test.YtoomdjnnfciobaaDoorLf5
import Derived.Test.YtoomdjnnfciobaaDoorRows
import Derived.Test.YtoomdjnnfciobaaDoorTie
import Derived.Test.YtoomdjnnfciobaaDoorCards
namespace Go.Proofs.YtoomdjnnfciobaaDoor
open Go Go.KX Go.ChangeShapes Go.WideShapes Go.ChangeAt Go.RowKit Cl
def In2 (x : Int) : Prop := 0 ≤ x ∧ x ≤ 255
theorem hr5 : HReads E 5 2 In2 := hreads_int (E := E) (c := 2) (k := .u8) (fun n => n) (fun _ => rfl) Tryd.underlying5 (by kernel_rfl) (fun n h => wf_u8 h)
set_option maxRecDepth 100000 in
set_option maxHeartbeats 4000000 in
theorem convoyLeft_lifted (os : Os) (started : os.Started) (H : Type) (enc : TypeId × Value → H) :
  ReturnsInHanded {} Tryd.checked os 3 .any (fun w args => (Rows.convoyLeftSpec.pre enc Tryd.prog Tryd.f3 [] false w args ∧ laidMetH Tryd.prog laid1 w) ∧ sizedMet enc Tryd.prog Tryd.f3 (OpenSpec.ofChange Rows.convoyLeftSpec) false w args)
   (Rows.convoyLeftSpec.post enc Tryd.prog Tryd.f3 false true false false) := by
 refine returnsInHanded_of_change_and (C := Tryd.checked) (X := fun w _ => laidMetH Tryd.prog laid1 w) (fun _ _ _ hh h => h.of_heap hh) own started (by kernel_rfl) Tryd.func3
  (ChangeSpec.witness_shaped (enc := enc) (C := Tryd.checked) (os := os) (X := fun w _ => laidMetH Tryd.prog laid1 w) false (World.doorLaid Tryd.prog 400 os) #[.slice none 0 0, .slice none 0 0, .int .u8 0, .int .u8 0] 8 rfl (World.shaped_of_RefB (by kernel_rfl) (by kernel_rfl)) (by kernel_rfl) (by kernel_rfl) (by kernel_rfl) (door_met os _)) ?_
 intro W base args ds gs before hval0 hW _ _ hL _
 have hval : ∀ (j : Nat) t v, Tryd.f3.params[j]? = some t → args[j]? = some v → Value.okWide Tryd.prog W .any base t v := hval0
 have hW' := hW
 obtain ⟨p, q, hA0, hV, rfl, hfz, hnd⟩ := hW
 have hA : DataW.TrodAll enc Tryd.prog W 0 (fun _ => true) true Tryd.f3.params.toList args.toList ds p := hA0
 rw [Tryd.params3] at hA hval
 obtain ⟨v0, vs0, d0, ds0, p0, q0, hargs, rfl, rfl, h0, r0⟩ := trodAll_cons hA
 obtain ⟨v1, vs1, d1, ds1, p1, q1, rfl, rfl, rfl, h1, r1⟩ := trodAll_cons r0
 obtain ⟨v2, vs2, d2, ds2, p2, q2, rfl, rfl, rfl, h2, r2⟩ := trodAll_cons r1
 obtain ⟨v3, vs3, d3, ds3, p3, q3, rfl, rfl, rfl, h3, r3⟩ := trodAll_cons r2
 obtain ⟨rfl, rfl, rfl⟩ := trodAll_nil r3
 obtain rfl : args = #[v0, v1, v2, v3] := by cases args; simp_all
 obtain ⟨rfl, rfl⟩ := trodVars_none hV
 obtain ⟨a0, m0, b0⟩ := harg_sl (E := E) Tryd.underlying22 hr5 (by decide) (hval 0 22 v0 rfl rfl) h0
 obtain ⟨a1, m1, b1⟩ := harg_sl (E := E) Tryd.underlying22 hr5 (by decide) (hval 1 22 v1 rfl rfl) h1
 obtain ⟨a2, m2, b2⟩ := harg_int hr5 Tryd.underlying5 (hval 2 5 v2 rfl rfl) h2
 obtain ⟨a3, m3, b3⟩ := harg_int hr5 Tryd.underlying5 (hval 3 5 v3 rfl rfl) h3
 have hG := of_laid hL
 clear hA0 hval0
 have hc : CSok E gl ⟨3, [.sl 2, .sl 2, .v 2 false, .v 2 false], [.v 1 false []], fun x => law05_ConvoyLeft 1000000000000000 x.1 x.2.1 x.2.2.1 x.2.2.2.1⟩ := c3 1000000000000000
 have hargs2 : ArgsAre E (IsCells W) W [.sl 2, .sl 2, .v 2 false, .v 2 false] (a0, a1, a2, a3, ()) [v0, v1, v2, v3] := ⟨v0, _, rfl, m0, ⟨v1, _, rfl, m1, ⟨v2, _, rfl, m2, ⟨v3, _, rfl, m3, rfl⟩⟩⟩⟩
 have hwalk := law_callsG (E := E) hc hG true rfl hargs2 (convoyLeft_ok b0 b1 b2 b3)
 refine hwalk.mono fun e W' ⟨he, hb⟩ => ?_
 subst he
 exact ⟨_, rfl, post_law hW' rfl rfl rfl Tryd.underlying4 (by kernel_rfl) hb⟩
theorem convoyLeft_said : Rows.ConvoyLeftSaid :=
 OpenClaim.holds_of_wide 3 Tryd.f3 rfl rfl rfl rfl rfl rfl rfl ⟨rfl, rfl, rfl, rfl, rfl⟩ rfl rfl rfl rfl rfl (by kernel_rfl) Tryd.func3 (by kernel_rfl)
  (of_decide_eq_true (by kernel_rfl)) (by unfold Func.isWrapper; first | (rw [if_pos (by decide +kernel)]; kernel_rfl) | (rw [if_neg (by decide +kernel)]; exact ⟨rfl, rfl⟩))
  (fun os started H enc _ => convoyLeft_lifted os started H enc)
theorem convoyLeft_holds : Rows.ConvoyLeftCardSaid :=
 Claim7.holds_tied_plain_at .later [] [.data] true (true, "f56f3ac4f38ed274299e7293977fdf0b1191aada64fbc4a07334ba4f21e8946c") false
  convoyLeft_said (fun _ h => by cases h) (by kernel_rfl) (fun _ h => by cases h) convoyLeft_row_tie rfl ⟨rfl, rfl⟩ (by kernel_rfl) rfl
  (fun f fn hf hfn => by
   obtain rfl : f = 3 := Option.some.inj ((show Tryd.prog.funcNamed "polynya/polynyalaw05.ConvoyLeft" = some 3 by kernel_rfl).symm.trans hf) |>.symm
   obtain rfl : fn = Tryd.f3 := (Option.some.inj (Tryd.func3.symm.trans hfn)).symm
   exact ⟨by kernel_rfl, fun j t ht => by
    rw [Tryd.params3] at ht
    have hm : t ∈ [22, 22, 5, 5] := by simpa using Array.mem_of_getElem? ht
    have hall : ([22, 22, 5, 5].all fun u => !Tryd.prog.wantsStandIn u) = true := by kernel_rfl
    exact (show Tryd.prog.wantsStandIn t = false by simpa using List.all_eq_true.1 hall t hm)⟩)
  (by kernel_rfl)
#print axioms convoyLeft_holds
end Go.Proofs.YtoomdjnnfciobaaDoor
