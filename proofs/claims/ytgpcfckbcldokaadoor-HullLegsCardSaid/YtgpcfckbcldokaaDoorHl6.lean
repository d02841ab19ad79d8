/-
  This file has contracts of functions of the program: where the mirror gives a value, the call returns it. Conditions: those that each theorem names.
-/
import Derived.Test.YtgpcfckbcldokaaDoorHl5
namespace Go.Proofs.T
open Go Go.AX Go.RowKit Hull
theorem af_154 : appFact Tryd.prog 154 = some (108, 4, 32) := by kernel_rfl
theorem en_95 : Proofs.Enters Tryd.prog 95 := Proofs.enters_of Tryd.func95 (by kernel_rfl) rfl
theorem ss_154 : sliceSz Tryd.prog 154 = some 4 := by kernel_rfl
theorem en_97 : Proofs.Enters Tryd.prog 97 := Proofs.enters_of Tryd.func97 (by kernel_rfl) rfl
theorem en_98 : Proofs.Enters Tryd.prog 98 := Proofs.enters_of Tryd.func98 (by kernel_rfl) rfl
theorem en_101 : Proofs.Enters Tryd.prog 101 := Proofs.enters_of Tryd.func101 (by kernel_rfl) rfl
theorem en_94 : Proofs.Enters Tryd.prog 94 := Proofs.enters_of Tryd.func94 (by kernel_rfl) rfl
theorem en_63 : Proofs.Enters Tryd.prog 63 := Proofs.enters_of Tryd.func63 (by kernel_rfl) rfl
theorem en_64 : Proofs.Enters Tryd.prog 64 := Proofs.enters_of Tryd.func64 (by kernel_rfl) rfl
theorem ss_66 : sliceSz Tryd.prog 66 = some 10 := by kernel_rfl
theorem fo_152_2 : fieldOff Tryd.prog 152 2 = some 9 := by kernel_rfl
theorem fo_152_0 : fieldOff Tryd.prog 152 0 = some 0 := by kernel_rfl
theorem fo_152_1 : fieldOff Tryd.prog 152 1 = some 8 := by kernel_rfl
theorem en_99 : Proofs.Enters Tryd.prog 99 := Proofs.enters_of Tryd.func99 (by kernel_rfl) rfl

def m95 (F : Nat) (a0 : Cell) : Option (List Ice) :=
  join (fun (x1 : List Ice) => some x1) (fun k1 => loopC (fun (x2 : List Ice × Int) n2 => brk (decide (x2.2 < 16)) (join (fun (x3 : Int) => join (fun (x4 : Int) => join (fun (x5 : Int) => join (fun (x6 : Int) => chk (x2.1.length ≤ 1000000) (chk (InR (x2.2 + 1)) (n2 ((x2.1 ++ [(⟨x3, x4, x5, x6⟩ : Ice)]), x2.2 + 1)))) (fun k6 => chk (0 ≤ x2.2 ∧ x2.2 ≤ 9223372036854775807) (brk ((x2.2 / 8) == 1) (k6 a0.Press.Hi) (k6 a0.Press.Lo)))) (fun k5 => chk (0 ≤ x2.2 ∧ x2.2 ≤ 9223372036854775807) (chk (0 ≤ (x2.2 / 4) ∧ (x2.2 / 4) ≤ 9223372036854775807) (brk (((x2.2 / 4) % 2) == 1) (k5 a0.Ridge.Hi) (k5 a0.Ridge.Lo))))) (fun k4 => chk (0 ≤ x2.2 ∧ x2.2 ≤ 9223372036854775807) (chk (0 ≤ (x2.2 / 2) ∧ (x2.2 / 2) ≤ 9223372036854775807) (brk (((x2.2 / 2) % 2) == 1) (k4 a0.Thick.Hi) (k4 a0.Thick.Lo))))) (fun k3 => chk (0 ≤ x2.2 ∧ x2.2 ≤ 9223372036854775807) (brk ((x2.2 % 2) == 1) (k3 a0.Conc.Hi) (k3 a0.Conc.Lo)))) (k1 x2.1)) F ([], 0))

theorem c95 (F : Nat) (a0 : Cell) (w : World)  (r : List Ice) (hm : m95 F a0 = some r) : Calls Tryd.prog 95 #[.agg #[.int .i64 a0.Conc.Lo, .int .i64 a0.Conc.Hi, .int .i64 a0.Thick.Lo, .int .i64 a0.Thick.Hi, .int .i64 a0.Ridge.Lo, .int .i64 a0.Ridge.Hi, .int .i64 a0.Press.Lo, .int .i64 a0.Press.Hi]] w fun e w' => ∃ sl : List SlV, e = .returned ((fun vs => (vs.getD 0 (.bool false))) (sl.map SlV.val)) ∧ NewRowsD w w' sl [(r.length, 108, 4, r.flatMap encIce)] ∧ Below w.heap.size w w' := by
  unfold m95 at hm
  refine enter (args := [.g [.i a0.Conc.Lo, .i a0.Conc.Hi, .i a0.Thick.Lo, .i a0.Thick.Hi, .i a0.Ridge.Lo, .i a0.Ridge.Hi, .i a0.Press.Lo, .i a0.Press.Hi]]) Tryd.func95 rfl (N := 58) rfl (Nat.le_of_ble_eq_true rfl) ?_
  refine aw_seq ?_
  refine aw_text (rows := [_, _]) rfl (by kernel_rfl) ⟨
    ok_plain rfl rfl (op_boxN (L := 1) (ltN rfl) rfl rfl rfl),
    ok_plain rfl rfl (op_assign (ltN rfl) rfl),
    trivial⟩ ?_
  refine fin_keep (s' := [kt 1 (.p 1 0), kb 1 72 8, kc 1 0 (.i a0.Conc.Lo), kc 1 1 (.i a0.Conc.Hi), kc 1 2 (.i a0.Thick.Lo), kc 1 3 (.i a0.Thick.Hi), kc 1 4 (.i a0.Ridge.Lo), kc 1 5 (.i a0.Ridge.Hi), kc 1 6 (.i a0.Press.Lo), kc 1 7 (.i a0.Press.Hi)]) ?_ (kp rfl) rfl
  refine fin_then ?_
  refine aw_seq ?_
  refine aw_text (rows := [_]) rfl (by kernel_rfl) ⟨
    ok_plain rfl rfl (op_assign (ltN rfl) rfl),
    trivial⟩ ?_
  refine fin_keep (s' := [kt 1 (.p 1 0), kt 3 (.v (.slice none 0 0)), kb 1 72 8, kc 1 0 (.i a0.Conc.Lo), kc 1 1 (.i a0.Conc.Hi), kc 1 2 (.i a0.Thick.Lo), kc 1 3 (.i a0.Thick.Hi), kc 1 4 (.i a0.Ridge.Lo), kc 1 5 (.i a0.Ridge.Hi), kc 1 6 (.i a0.Press.Lo), kc 1 7 (.i a0.Press.Hi)]) ?_ (kp rfl) rfl
  refine fin_then ?_
  refine aw_cutM (ι := List Ice) hm (fun x1 => [kt 3 (.o 300 301 x1.length), (.r 300, some (.vec true 301 108 4 (x1.flatMap encIce)))]) (fun hm => ?_) (fun x1 hm => ?_)
  · have _z := hm
    refine aw_seq ?_
    refine aw_text (rows := [_]) rfl (by kernel_rfl) ⟨
      ok_plain rfl rfl (op_assign (ltN rfl) rfl),
      trivial⟩ ?_
    refine fin_keep (s' := [kt 1 (.p 1 0), kt 3 (.v (.slice none 0 0)), kt 4 (.i 0), kb 1 72 8, kc 1 0 (.i a0.Conc.Lo), kc 1 1 (.i a0.Conc.Hi), kc 1 2 (.i a0.Thick.Lo), kc 1 3 (.i a0.Thick.Hi), kc 1 4 (.i a0.Ridge.Lo), kc 1 5 (.i a0.Ridge.Hi), kc 1 6 (.i a0.Press.Lo), kc 1 7 (.i a0.Press.Hi)]) ?_ (kp rfl) rfl
    refine fin_then ?_
    refine aw_block ?_
    refine aw_nilRowK (.t 3) 2 3 108 4 rfl rfl rfl (by decide) ?_
    refine aw_swp [(2, 300), (3, 301)] rfl ?_
    refine aw_loopC hm (fun x2 => [kt 1 (.p 1 0), kt 3 (.o 300 301 x2.1.length), kt 4 (.i x2.2), kb 1 72 8, (.r 300, some (.vec true 301 108 4 (x2.1.flatMap encIce))), kc 1 0 (.i a0.Conc.Lo), kc 1 1 (.i a0.Conc.Hi), kc 1 2 (.i a0.Thick.Lo), kc 1 3 (.i a0.Thick.Hi), kc 1 4 (.i a0.Ridge.Lo), kc 1 5 (.i a0.Ridge.Hi), kc 1 6 (.i a0.Press.Lo), kc 1 7 (.i a0.Press.Hi)]) ⟨rfl, rfl, rfl, rfl, rfl, rfl, rfl, rfl, rfl, rfl, rfl, rfl, rfl, trivial⟩ rfl (fun x2 n2 hm => ?_)
    refine aw_seq ?_
    refine aw_seq ?_
    refine aw_text (rows := [_, _]) rfl (by kernel_rfl) ⟨
      ok_plain rfl rfl (op_move (ltN rfl) rfl),
      ok_plain rfl rfl (op_bin (ltN rfl) rfl rfl rfl),
      trivial⟩ ?_
    refine fin_keep (s' := [kt 1 (.p 1 0), kt 3 (.o 300 301 x2.1.length), kt 4 (.i x2.2), kt 7 (.B (decide (x2.2 < 16))), kb 1 72 8, (.r 300, some (.vec true 301 108 4 (x2.1.flatMap encIce))), kc 1 0 (.i a0.Conc.Lo), kc 1 1 (.i a0.Conc.Hi), kc 1 2 (.i a0.Thick.Lo), kc 1 3 (.i a0.Thick.Hi), kc 1 4 (.i a0.Ridge.Lo), kc 1 5 (.i a0.Ridge.Hi), kc 1 6 (.i a0.Press.Lo), kc 1 7 (.i a0.Press.Hi)]) ?_ (kp rfl) rfl
    refine fin_then ?_
    refine aw_cond rfl (fun hz1 => ?_) (fun hz1 => ?_)
    · have hm := brk_t hz1 hm
      refine aw_skip ?_
      refine fin_then ?_
      refine aw_seq ?_
      refine aw_block ?_
      refine aw_seq ?_
      refine aw_text (rows := [_, _, _, _, _, _, _, _, _, _, _, _, _, _, _]) rfl (by kernel_rfl) ⟨
        ok_plain rfl rfl (op_fieldAddr (ltN rfl) rfl fo_72_0),
        ok_plain rfl rfl (op_fieldAddr (ltN rfl) rfl fo_32_0),
        ok_plain rfl rfl (op_load1 (ltN rfl) sh_3 rfl rfl),
        ok_plain rfl rfl (op_fieldAddr (ltN rfl) rfl fo_72_1),
        ok_plain rfl rfl (op_fieldAddr (ltN rfl) rfl fo_32_0),
        ok_plain rfl rfl (op_load1 (ltN rfl) sh_3 rfl rfl),
        ok_plain rfl rfl (op_fieldAddr (ltN rfl) rfl fo_72_2),
        ok_plain rfl rfl (op_fieldAddr (ltN rfl) rfl fo_32_0),
        ok_plain rfl rfl (op_load1 (ltN rfl) sh_3 rfl rfl),
        ok_plain rfl rfl (op_fieldAddr (ltN rfl) rfl fo_72_3),
        ok_plain rfl rfl (op_fieldAddr (ltN rfl) rfl fo_32_0),
        ok_plain rfl rfl (op_load1 (ltN rfl) sh_3 rfl rfl),
        ok_plain rfl rfl (op_build (x := .g [.i a0.Conc.Lo, .i a0.Thick.Lo, .i a0.Ridge.Lo, .i a0.Press.Lo]) (ltN rfl) (EvL.cons rfl (EvL.cons rfl (EvL.cons rfl (EvL.cons rfl EvL.nil)))) (fun m w => by kernel_rfl)),
        ok_plain rfl rfl (op_alloc (L := 4) (ltN rfl) zl_108),
        ok_plain rfl rfl (op_storeN sz_108 rfl rfl rfl rfl rfl (by decide)),
        trivial⟩ ?_
      refine fin_keep (s' := [kt 1 (.p 1 0), kt 3 (.o 300 301 x2.1.length), kt 4 (.i x2.2), kt 5 (.p 4 0), kb 1 72 8, kb 4 108 4, (.r 300, some (.vec true 301 108 4 (x2.1.flatMap encIce))), kc 1 0 (.i a0.Conc.Lo), kc 1 1 (.i a0.Conc.Hi), kc 1 2 (.i a0.Thick.Lo), kc 1 3 (.i a0.Thick.Hi), kc 1 4 (.i a0.Ridge.Lo), kc 1 5 (.i a0.Ridge.Hi), kc 1 6 (.i a0.Press.Lo), kc 1 7 (.i a0.Press.Hi), kc 4 0 (.i a0.Conc.Lo), kc 4 1 (.i a0.Thick.Lo), kc 4 2 (.i a0.Ridge.Lo), kc 4 3 (.i a0.Press.Lo)]) ?_ (kp rfl) rfl
      refine fin_then ?_
      refine aw_cutM (ι := Int) hm (fun x3 => [kt 1 (.p 1 0), kt 3 (.o 300 301 x2.1.length), kt 4 (.i x2.2), kt 5 (.p 4 0), kb 1 72 8, kb 4 108 4, (.r 300, some (.vec true 301 108 4 (x2.1.flatMap encIce))), kc 1 0 (.i a0.Conc.Lo), kc 1 1 (.i a0.Conc.Hi), kc 1 2 (.i a0.Thick.Lo), kc 1 3 (.i a0.Thick.Hi), kc 1 4 (.i a0.Ridge.Lo), kc 1 5 (.i a0.Ridge.Hi), kc 1 6 (.i a0.Press.Lo), kc 1 7 (.i a0.Press.Hi), kc 4 0 (.i x3), kc 4 1 (.i a0.Thick.Lo), kc 4 2 (.i a0.Ridge.Lo), kc 4 3 (.i a0.Press.Lo)]) (fun hm => ?_) (fun x3 hm => ?_)
      · have _z := hm
        refine aw_seq ?_
        obtain ⟨hp2, hm⟩ := chk_some hm
        refine aw_text (rows := [_, _, _]) rfl (by kernel_rfl) ⟨
          ok_plain rfl rfl (op_move (ltN rfl) rfl),
          ok_plain rfl rfl (op_rem (ltN rfl) rfl rfl (by decide) (rem_nn hp2.1 (by decide) hp2.2)),
          ok_plain rfl rfl (op_bin (ltN rfl) rfl rfl rfl),
          trivial⟩ ?_
        refine fin_keep (s' := [kt 1 (.p 1 0), kt 3 (.o 300 301 x2.1.length), kt 4 (.i x2.2), kt 5 (.p 4 0), kt 25 (.B ((x2.2 % 2) == 1)), kb 1 72 8, kb 4 108 4, (.r 300, some (.vec true 301 108 4 (x2.1.flatMap encIce))), kc 1 0 (.i a0.Conc.Lo), kc 1 1 (.i a0.Conc.Hi), kc 1 2 (.i a0.Thick.Lo), kc 1 3 (.i a0.Thick.Hi), kc 1 4 (.i a0.Ridge.Lo), kc 1 5 (.i a0.Ridge.Hi), kc 1 6 (.i a0.Press.Lo), kc 1 7 (.i a0.Press.Hi), kc 4 0 (.i a0.Conc.Lo), kc 4 1 (.i a0.Thick.Lo), kc 4 2 (.i a0.Ridge.Lo), kc 4 3 (.i a0.Press.Lo)]) ?_ (kp rfl) rfl
        refine fin_then ?_
        refine aw_cond rfl (fun hz3 => ?_) (fun hz3 => ?_)
        · have hm := brk_t hz3 hm
          refine aw_text (rows := [_, _, _, _, _]) rfl (by kernel_rfl) ⟨
            ok_plain rfl rfl (op_fieldAddr (ltN rfl) rfl fo_72_0),
            ok_plain rfl rfl (op_fieldAddr (ltN rfl) rfl fo_32_1),
            ok_plain rfl rfl (op_load1 (ltN rfl) sh_3 rfl rfl),
            ok_plain rfl rfl (op_fieldAddr (ltN rfl) rfl fo_108_0),
            ok_plain rfl rfl (op_store1 sz_3 rfl rfl rfl rfl (ltN rfl)),
            trivial⟩ ?_
          refine fin_keep (s' := [kt 1 (.p 1 0), kt 3 (.o 300 301 x2.1.length), kt 4 (.i x2.2), kt 5 (.p 4 0), kb 1 72 8, kb 4 108 4, (.r 300, some (.vec true 301 108 4 (x2.1.flatMap encIce))), kc 1 0 (.i a0.Conc.Lo), kc 1 1 (.i a0.Conc.Hi), kc 1 2 (.i a0.Thick.Lo), kc 1 3 (.i a0.Thick.Hi), kc 1 4 (.i a0.Ridge.Lo), kc 1 5 (.i a0.Ridge.Hi), kc 1 6 (.i a0.Press.Lo), kc 1 7 (.i a0.Press.Hi), kc 4 0 (.i a0.Conc.Hi), kc 4 1 (.i a0.Thick.Lo), kc 4 2 (.i a0.Ridge.Lo), kc 4 3 (.i a0.Press.Lo)]) ?_ (kp rfl) rfl
          exact fin_cut a0.Conc.Hi hm ⟨rfl, rfl, rfl, rfl, rfl, rfl, rfl, rfl, rfl, rfl, rfl, rfl, rfl, rfl, rfl, rfl, rfl, rfl, rfl, trivial⟩ rfl
        · have hm := brk_f hz3 hm
          refine aw_skip ?_
          exact fin_cut a0.Conc.Lo hm ⟨rfl, rfl, rfl, rfl, rfl, rfl, rfl, rfl, rfl, rfl, rfl, rfl, rfl, rfl, rfl, rfl, rfl, rfl, rfl, trivial⟩ rfl
      · have _z := hm
        refine aw_cutM (ι := Int) hm (fun x4 => [kt 1 (.p 1 0), kt 3 (.o 300 301 x2.1.length), kt 4 (.i x2.2), kt 5 (.p 4 0), kb 1 72 8, kb 4 108 4, (.r 300, some (.vec true 301 108 4 (x2.1.flatMap encIce))), kc 1 0 (.i a0.Conc.Lo), kc 1 1 (.i a0.Conc.Hi), kc 1 2 (.i a0.Thick.Lo), kc 1 3 (.i a0.Thick.Hi), kc 1 4 (.i a0.Ridge.Lo), kc 1 5 (.i a0.Ridge.Hi), kc 1 6 (.i a0.Press.Lo), kc 1 7 (.i a0.Press.Hi), kc 4 0 (.i x3), kc 4 1 (.i x4), kc 4 2 (.i a0.Ridge.Lo), kc 4 3 (.i a0.Press.Lo)]) (fun hm => ?_) (fun x4 hm => ?_)
        · have _z := hm
          refine aw_seq ?_
          obtain ⟨hp4, hm⟩ := chk_some hm
          obtain ⟨hp5, hm⟩ := chk_some hm
          refine aw_text (rows := [_, _, _, _]) rfl (by kernel_rfl) ⟨
            ok_plain rfl rfl (op_move (ltN rfl) rfl),
            ok_plain rfl rfl (op_quo (ltN rfl) rfl rfl (by decide) (quo_nn hp4.1 (by decide) hp4.2)),
            ok_plain rfl rfl (op_rem (ltN rfl) rfl rfl (by decide) (rem_nn hp5.1 (by decide) hp5.2)),
            ok_plain rfl rfl (op_bin (ltN rfl) rfl rfl rfl),
            trivial⟩ ?_
          refine fin_keep (s' := [kt 1 (.p 1 0), kt 3 (.o 300 301 x2.1.length), kt 4 (.i x2.2), kt 5 (.p 4 0), kt 33 (.B (((x2.2 / 2) % 2) == 1)), kb 1 72 8, kb 4 108 4, (.r 300, some (.vec true 301 108 4 (x2.1.flatMap encIce))), kc 1 0 (.i a0.Conc.Lo), kc 1 1 (.i a0.Conc.Hi), kc 1 2 (.i a0.Thick.Lo), kc 1 3 (.i a0.Thick.Hi), kc 1 4 (.i a0.Ridge.Lo), kc 1 5 (.i a0.Ridge.Hi), kc 1 6 (.i a0.Press.Lo), kc 1 7 (.i a0.Press.Hi), kc 4 0 (.i x3), kc 4 1 (.i a0.Thick.Lo), kc 4 2 (.i a0.Ridge.Lo), kc 4 3 (.i a0.Press.Lo)]) ?_ (kp rfl) rfl
          refine fin_then ?_
          refine aw_cond rfl (fun hz6 => ?_) (fun hz6 => ?_)
          · have hm := brk_t hz6 hm
            refine aw_text (rows := [_, _, _, _, _]) rfl (by kernel_rfl) ⟨
              ok_plain rfl rfl (op_fieldAddr (ltN rfl) rfl fo_72_1),
              ok_plain rfl rfl (op_fieldAddr (ltN rfl) rfl fo_32_1),
              ok_plain rfl rfl (op_load1 (ltN rfl) sh_3 rfl rfl),
              ok_plain rfl rfl (op_fieldAddr (ltN rfl) rfl fo_108_1),
              ok_plain rfl rfl (op_store1 sz_3 rfl rfl rfl rfl (ltN rfl)),
              trivial⟩ ?_
            refine fin_keep (s' := [kt 1 (.p 1 0), kt 3 (.o 300 301 x2.1.length), kt 4 (.i x2.2), kt 5 (.p 4 0), kb 1 72 8, kb 4 108 4, (.r 300, some (.vec true 301 108 4 (x2.1.flatMap encIce))), kc 1 0 (.i a0.Conc.Lo), kc 1 1 (.i a0.Conc.Hi), kc 1 2 (.i a0.Thick.Lo), kc 1 3 (.i a0.Thick.Hi), kc 1 4 (.i a0.Ridge.Lo), kc 1 5 (.i a0.Ridge.Hi), kc 1 6 (.i a0.Press.Lo), kc 1 7 (.i a0.Press.Hi), kc 4 0 (.i x3), kc 4 1 (.i a0.Thick.Hi), kc 4 2 (.i a0.Ridge.Lo), kc 4 3 (.i a0.Press.Lo)]) ?_ (kp rfl) rfl
            exact fin_cut a0.Thick.Hi hm ⟨rfl, rfl, rfl, rfl, rfl, rfl, rfl, rfl, rfl, rfl, rfl, rfl, rfl, rfl, rfl, rfl, rfl, rfl, rfl, trivial⟩ rfl
          · have hm := brk_f hz6 hm
            refine aw_skip ?_
            exact fin_cut a0.Thick.Lo hm ⟨rfl, rfl, rfl, rfl, rfl, rfl, rfl, rfl, rfl, rfl, rfl, rfl, rfl, rfl, rfl, rfl, rfl, rfl, rfl, trivial⟩ rfl
        · have _z := hm
          refine aw_cutM (ι := Int) hm (fun x5 => [kt 1 (.p 1 0), kt 3 (.o 300 301 x2.1.length), kt 4 (.i x2.2), kt 5 (.p 4 0), kb 1 72 8, kb 4 108 4, (.r 300, some (.vec true 301 108 4 (x2.1.flatMap encIce))), kc 1 0 (.i a0.Conc.Lo), kc 1 1 (.i a0.Conc.Hi), kc 1 2 (.i a0.Thick.Lo), kc 1 3 (.i a0.Thick.Hi), kc 1 4 (.i a0.Ridge.Lo), kc 1 5 (.i a0.Ridge.Hi), kc 1 6 (.i a0.Press.Lo), kc 1 7 (.i a0.Press.Hi), kc 4 0 (.i x3), kc 4 1 (.i x4), kc 4 2 (.i x5), kc 4 3 (.i a0.Press.Lo)]) (fun hm => ?_) (fun x5 hm => ?_)
          · have _z := hm
            refine aw_seq ?_
            obtain ⟨hp7, hm⟩ := chk_some hm
            obtain ⟨hp8, hm⟩ := chk_some hm
            refine aw_text (rows := [_, _, _, _]) rfl (by kernel_rfl) ⟨
              ok_plain rfl rfl (op_move (ltN rfl) rfl),
              ok_plain rfl rfl (op_quo (ltN rfl) rfl rfl (by decide) (quo_nn hp7.1 (by decide) hp7.2)),
              ok_plain rfl rfl (op_rem (ltN rfl) rfl rfl (by decide) (rem_nn hp8.1 (by decide) hp8.2)),
              ok_plain rfl rfl (op_bin (ltN rfl) rfl rfl rfl),
              trivial⟩ ?_
            refine fin_keep (s' := [kt 1 (.p 1 0), kt 3 (.o 300 301 x2.1.length), kt 4 (.i x2.2), kt 5 (.p 4 0), kt 41 (.B (((x2.2 / 4) % 2) == 1)), kb 1 72 8, kb 4 108 4, (.r 300, some (.vec true 301 108 4 (x2.1.flatMap encIce))), kc 1 0 (.i a0.Conc.Lo), kc 1 1 (.i a0.Conc.Hi), kc 1 2 (.i a0.Thick.Lo), kc 1 3 (.i a0.Thick.Hi), kc 1 4 (.i a0.Ridge.Lo), kc 1 5 (.i a0.Ridge.Hi), kc 1 6 (.i a0.Press.Lo), kc 1 7 (.i a0.Press.Hi), kc 4 0 (.i x3), kc 4 1 (.i x4), kc 4 2 (.i a0.Ridge.Lo), kc 4 3 (.i a0.Press.Lo)]) ?_ (kp rfl) rfl
            refine fin_then ?_
            refine aw_cond rfl (fun hz9 => ?_) (fun hz9 => ?_)
            · have hm := brk_t hz9 hm
              refine aw_text (rows := [_, _, _, _, _]) rfl (by kernel_rfl) ⟨
                ok_plain rfl rfl (op_fieldAddr (ltN rfl) rfl fo_72_2),
                ok_plain rfl rfl (op_fieldAddr (ltN rfl) rfl fo_32_1),
                ok_plain rfl rfl (op_load1 (ltN rfl) sh_3 rfl rfl),
                ok_plain rfl rfl (op_fieldAddr (ltN rfl) rfl fo_108_2),
                ok_plain rfl rfl (op_store1 sz_3 rfl rfl rfl rfl (ltN rfl)),
                trivial⟩ ?_
              refine fin_keep (s' := [kt 1 (.p 1 0), kt 3 (.o 300 301 x2.1.length), kt 4 (.i x2.2), kt 5 (.p 4 0), kb 1 72 8, kb 4 108 4, (.r 300, some (.vec true 301 108 4 (x2.1.flatMap encIce))), kc 1 0 (.i a0.Conc.Lo), kc 1 1 (.i a0.Conc.Hi), kc 1 2 (.i a0.Thick.Lo), kc 1 3 (.i a0.Thick.Hi), kc 1 4 (.i a0.Ridge.Lo), kc 1 5 (.i a0.Ridge.Hi), kc 1 6 (.i a0.Press.Lo), kc 1 7 (.i a0.Press.Hi), kc 4 0 (.i x3), kc 4 1 (.i x4), kc 4 2 (.i a0.Ridge.Hi), kc 4 3 (.i a0.Press.Lo)]) ?_ (kp rfl) rfl
              exact fin_cut a0.Ridge.Hi hm ⟨rfl, rfl, rfl, rfl, rfl, rfl, rfl, rfl, rfl, rfl, rfl, rfl, rfl, rfl, rfl, rfl, rfl, rfl, rfl, trivial⟩ rfl
            · have hm := brk_f hz9 hm
              refine aw_skip ?_
              exact fin_cut a0.Ridge.Lo hm ⟨rfl, rfl, rfl, rfl, rfl, rfl, rfl, rfl, rfl, rfl, rfl, rfl, rfl, rfl, rfl, rfl, rfl, rfl, rfl, trivial⟩ rfl
          · have _z := hm
            refine aw_cutM (ι := Int) hm (fun x6 => [kt 1 (.p 1 0), kt 3 (.o 300 301 x2.1.length), kt 4 (.i x2.2), kt 5 (.p 4 0), kb 1 72 8, kb 4 108 4, (.r 300, some (.vec true 301 108 4 (x2.1.flatMap encIce))), kc 1 0 (.i a0.Conc.Lo), kc 1 1 (.i a0.Conc.Hi), kc 1 2 (.i a0.Thick.Lo), kc 1 3 (.i a0.Thick.Hi), kc 1 4 (.i a0.Ridge.Lo), kc 1 5 (.i a0.Ridge.Hi), kc 1 6 (.i a0.Press.Lo), kc 1 7 (.i a0.Press.Hi), kc 4 0 (.i x3), kc 4 1 (.i x4), kc 4 2 (.i x5), kc 4 3 (.i x6)]) (fun hm => ?_) (fun x6 hm => ?_)
            · have _z := hm
              refine aw_seq ?_
              obtain ⟨hp10, hm⟩ := chk_some hm
              refine aw_text (rows := [_, _, _]) rfl (by kernel_rfl) ⟨
                ok_plain rfl rfl (op_move (ltN rfl) rfl),
                ok_plain rfl rfl (op_quo (ltN rfl) rfl rfl (by decide) (quo_nn hp10.1 (by decide) hp10.2)),
                ok_plain rfl rfl (op_bin (ltN rfl) rfl rfl rfl),
                trivial⟩ ?_
              refine fin_keep (s' := [kt 1 (.p 1 0), kt 3 (.o 300 301 x2.1.length), kt 4 (.i x2.2), kt 5 (.p 4 0), kt 48 (.B ((x2.2 / 8) == 1)), kb 1 72 8, kb 4 108 4, (.r 300, some (.vec true 301 108 4 (x2.1.flatMap encIce))), kc 1 0 (.i a0.Conc.Lo), kc 1 1 (.i a0.Conc.Hi), kc 1 2 (.i a0.Thick.Lo), kc 1 3 (.i a0.Thick.Hi), kc 1 4 (.i a0.Ridge.Lo), kc 1 5 (.i a0.Ridge.Hi), kc 1 6 (.i a0.Press.Lo), kc 1 7 (.i a0.Press.Hi), kc 4 0 (.i x3), kc 4 1 (.i x4), kc 4 2 (.i x5), kc 4 3 (.i a0.Press.Lo)]) ?_ (kp rfl) rfl
              refine fin_then ?_
              refine aw_cond rfl (fun hz11 => ?_) (fun hz11 => ?_)
              · have hm := brk_t hz11 hm
                refine aw_text (rows := [_, _, _, _, _]) rfl (by kernel_rfl) ⟨
                  ok_plain rfl rfl (op_fieldAddr (ltN rfl) rfl fo_72_3),
                  ok_plain rfl rfl (op_fieldAddr (ltN rfl) rfl fo_32_1),
                  ok_plain rfl rfl (op_load1 (ltN rfl) sh_3 rfl rfl),
                  ok_plain rfl rfl (op_fieldAddr (ltN rfl) rfl fo_108_3),
                  ok_plain rfl rfl (op_store1 sz_3 rfl rfl rfl rfl (ltN rfl)),
                  trivial⟩ ?_
                refine fin_keep (s' := [kt 1 (.p 1 0), kt 3 (.o 300 301 x2.1.length), kt 4 (.i x2.2), kt 5 (.p 4 0), kb 1 72 8, kb 4 108 4, (.r 300, some (.vec true 301 108 4 (x2.1.flatMap encIce))), kc 1 0 (.i a0.Conc.Lo), kc 1 1 (.i a0.Conc.Hi), kc 1 2 (.i a0.Thick.Lo), kc 1 3 (.i a0.Thick.Hi), kc 1 4 (.i a0.Ridge.Lo), kc 1 5 (.i a0.Ridge.Hi), kc 1 6 (.i a0.Press.Lo), kc 1 7 (.i a0.Press.Hi), kc 4 0 (.i x3), kc 4 1 (.i x4), kc 4 2 (.i x5), kc 4 3 (.i a0.Press.Hi)]) ?_ (kp rfl) rfl
                exact fin_cut a0.Press.Hi hm ⟨rfl, rfl, rfl, rfl, rfl, rfl, rfl, rfl, rfl, rfl, rfl, rfl, rfl, rfl, rfl, rfl, rfl, rfl, rfl, trivial⟩ rfl
              · have hm := brk_f hz11 hm
                refine aw_skip ?_
                exact fin_cut a0.Press.Lo hm ⟨rfl, rfl, rfl, rfl, rfl, rfl, rfl, rfl, rfl, rfl, rfl, rfl, rfl, rfl, rfl, rfl, rfl, rfl, rfl, trivial⟩ rfl
            · have _z := hm
              obtain ⟨hp12, hm⟩ := chk_some hm
              refine aw_text (rows := [_, _, _, _, _]) rfl (by kernel_rfl) ⟨
                ok_plain rfl rfl (op_move (ltN rfl) rfl),
                ok_plain rfl rfl (op_loadN (ys := [.i x3, .i x4, .i x5, .i x6]) (ltN rfl) sh_108 rfl rfl ⟨rfl, rfl, rfl, rfl, trivial⟩),
                ok_plain rfl rfl (op_buildSlice (L := 5) (ety := 108) (cs := [.i x3, .i x4, .i x5, .i x6]) (ltN rfl) (EvL.cons rfl EvL.nil) rfl (fun m w => by kernel_rfl)),
                ok_plain rfl rfl (op_append (L' := 6) (C' := 7) (vs := [(.int .i64 x3), (.int .i64 x4), (.int .i64 x5), (.int .i64 x6)]) (ltN rfl) af_154 rfl rfl (flat_length (enc := encIce) (fun _ => rfl) x2.1) rfl ⟨rfl, rfl, rfl, rfl, trivial⟩ rfl rfl (by decide) (by have := hp12; omega) (by have := hp12; omega) (by decide)),
                ok_plain rfl rfl (op_assign (ltN rfl) rfl),
                trivial⟩ ?_
              refine fin_keep (s' := [kt 1 (.p 1 0), kt 3 (.o 6 7 ((x2.1 ++ [(⟨x3, x4, x5, x6⟩ : Ice)]).length)), kt 4 (.i x2.2), kb 1 72 8, (.r 6, some (.vec true 7 108 4 ((x2.1 ++ [(⟨x3, x4, x5, x6⟩ : Ice)]).flatMap encIce))), kc 1 0 (.i a0.Conc.Lo), kc 1 1 (.i a0.Conc.Hi), kc 1 2 (.i a0.Thick.Lo), kc 1 3 (.i a0.Thick.Hi), kc 1 4 (.i a0.Ridge.Lo), kc 1 5 (.i a0.Ridge.Hi), kc 1 6 (.i a0.Press.Lo), kc 1 7 (.i a0.Press.Hi)]) ?_ ⟨rfl, (congrArg (fun q => some (Val.x (SV.o 6 7 q))) (len_snoc x2.1 ((⟨x3, x4, x5, x6⟩ : Ice)))), rfl, rfl, (Eq.trans (b := some (Val.vec true 7 108 4 (x2.1.flatMap encIce ++ [(.int .i64 x3), (.int .i64 x4), (.int .i64 x5), (.int .i64 x6)]))) rfl (congrArg (fun q => some (Val.vec true 7 108 4 q)) (flat_snoc (enc := encIce) x2.1 ((⟨x3, x4, x5, x6⟩ : Ice))))), rfl, rfl, rfl, rfl, rfl, rfl, rfl, rfl, trivial⟩ rfl
              refine fin_block ?_
              refine fin_then ?_
              obtain ⟨hp13, hm⟩ := chk_some hm
              refine aw_text (rows := [_, _, _]) rfl (by kernel_rfl) ⟨
                ok_plain rfl rfl (op_move (ltN rfl) rfl),
                ok_plain rfl rfl (op_bin (ltN rfl) rfl rfl (nw_add hp13)),
                ok_plain rfl rfl (op_assign (ltN rfl) rfl),
                trivial⟩ ?_
              refine fin_keep (s' := [kt 1 (.p 1 0), kt 3 (.o 6 7 ((x2.1 ++ [(⟨x3, x4, x5, x6⟩ : Ice)]).length)), kt 4 (.i (x2.2 + 1)), kb 1 72 8, (.r 6, some (.vec true 7 108 4 ((x2.1 ++ [(⟨x3, x4, x5, x6⟩ : Ice)]).flatMap encIce))), kc 1 0 (.i a0.Conc.Lo), kc 1 1 (.i a0.Conc.Hi), kc 1 2 (.i a0.Thick.Lo), kc 1 3 (.i a0.Thick.Hi), kc 1 4 (.i a0.Ridge.Lo), kc 1 5 (.i a0.Ridge.Hi), kc 1 6 (.i a0.Press.Lo), kc 1 7 (.i a0.Press.Hi)]) ?_ (kp rfl) rfl
              refine fin_swp [(6, 300), (7, 301)] rfl ?_
              exact fin_cut ((x2.1 ++ [(⟨x3, x4, x5, x6⟩ : Ice)]), x2.2 + 1) hm ⟨rfl, rfl, rfl, rfl, rfl, rfl, rfl, rfl, rfl, rfl, rfl, rfl, rfl, trivial⟩ rfl
    · have hm := brk_f hz1 hm
      refine aw_exit ?_
      refine fin_then_exit ?_
      refine fin_then_exit ?_
      refine fin_block_exit ?_
      exact fin_cut x2.1 hm ⟨rfl, rfl, trivial⟩ rfl
  · have _z := hm
    refine aw_seq ?_
    refine aw_text (rows := [_, _]) rfl (by kernel_rfl) ⟨
      ok_plain rfl rfl (op_move (ltN rfl) rfl),
      ok_plain rfl rfl (op_assign (ltN rfl) rfl),
      trivial⟩ ?_
    refine fin_keep (s' := [kt 2 (.o 300 301 x1.length), (.r 300, some (.vec true 301 108 4 (x1.flatMap encIce)))]) ?_ (kp rfl) rfl
    refine fin_then ?_
    refine aw_ret ?_
    refine post_ret (x := .o 300 301 x1.length) rfl rfl (resOK_tmp rfl resOK_nil) rfl (fun mm aa ww hr => ?_)
    have hm := Option.some.inj hm
    subst hm
    exact ⟨[⟨ptr0 (mm 300) (mm 301), x1.length, mm 301⟩], rfl, ⟨⟨rfl, newAt_row hr mine_nil rfl (flat_length (enc := encIce) (fun _ => rfl) _), trivial⟩, ⟨trivial, trivial⟩⟩, hr.below⟩

def m99 (_F : Nat) (a0 : Int) (a1 : Int) : Option (Int) :=
  chk (InR (60 * a0)) (chk ((0 ≤ (60 * a0) ∧ (60 * a0) ≤ 9223372036854775807) ∧ 0 < a1) (join (fun (x1 : Int) => some x1) (fun k1 => chk (InR (((60 * a0) / a1) * a1)) (brk (decide ((((60 * a0) / a1) * a1) < (60 * a0))) (chk (InR (((60 * a0) / a1) + 1)) (k1 (((60 * a0) / a1) + 1))) (k1 ((60 * a0) / a1))))))

theorem c99 (F : Nat) (a0 : Int) (a1 : Int) (w : World)  (r : Int) (hm : m99 F a0 a1 = some r) : Calls Tryd.prog 99 #[.int .i64 a0, .int .i64 a1] w fun e w' => e = .returned (.int .i64 r) ∧ Below w.heap.size w w' := by
  unfold m99 at hm
  refine enter (args := [.i a0, .i a1]) Tryd.func99 rfl (N := 19) rfl (Nat.le_of_ble_eq_true rfl) ?_
  refine aw_seq ?_
  refine aw_text (rows := [_]) rfl (by kernel_rfl) ⟨
    ok_plain rfl rfl (op_assign (ltN rfl) rfl),
    trivial⟩ ?_
  refine fin_keep (s' := [kt 0 (.i a0), kt 1 (.i a1)]) ?_ (kp rfl) rfl
  refine fin_then ?_
  refine aw_seq ?_
  obtain ⟨hp1, hm⟩ := chk_some hm
  obtain ⟨hp2, hm⟩ := chk_some hm
  refine aw_text (rows := [_, _, _, _, _]) rfl (by kernel_rfl) ⟨
    ok_plain rfl rfl (op_move (ltN rfl) rfl),
    ok_plain rfl rfl (op_bin (ltN rfl) rfl rfl (nw_mul hp1)),
    ok_plain rfl rfl (op_move (ltN rfl) rfl),
    ok_plain rfl rfl (op_quo (ltN rfl) rfl rfl (Int.ne_of_gt hp2.2) (quo_nn hp2.1.1 hp2.2 hp2.1.2)),
    ok_plain rfl rfl (op_assign (ltN rfl) rfl),
    trivial⟩ ?_
  refine fin_keep (s' := [kt 0 (.i a0), kt 1 (.i a1), kt 5 (.i ((60 * a0) / a1))]) ?_ (kp rfl) rfl
  refine fin_then ?_
  refine aw_cutM (ι := Int) hm (fun x1 => [kt 5 (.i x1)]) (fun hm => ?_) (fun x1 hm => ?_)
  · have _z := hm
    refine aw_seq ?_
    obtain ⟨hp3, hm⟩ := chk_some hm
    refine aw_text (rows := [_, _, _, _, _, _]) rfl (by kernel_rfl) ⟨
      ok_plain rfl rfl (op_move (ltN rfl) rfl),
      ok_plain rfl rfl (op_move (ltN rfl) rfl),
      ok_plain rfl rfl (op_bin (ltN rfl) rfl rfl (nw_mul hp3)),
      ok_plain rfl rfl (op_move (ltN rfl) rfl),
      ok_plain rfl rfl (op_bin (ltN rfl) rfl rfl (nw_mul hp1)),
      ok_plain rfl rfl (op_bin (ltN rfl) rfl rfl rfl),
      trivial⟩ ?_
    refine fin_keep (s' := [kt 5 (.i ((60 * a0) / a1)), kt 15 (.B (decide ((((60 * a0) / a1) * a1) < (60 * a0))))]) ?_ (kp rfl) rfl
    refine fin_then ?_
    refine aw_cond rfl (fun hz4 => ?_) (fun hz4 => ?_)
    · have hm := brk_t hz4 hm
      obtain ⟨hp5, hm⟩ := chk_some hm
      refine aw_text (rows := [_, _, _]) rfl (by kernel_rfl) ⟨
        ok_plain rfl rfl (op_move (ltN rfl) rfl),
        ok_plain rfl rfl (op_bin (ltN rfl) rfl rfl (nw_add hp5)),
        ok_plain rfl rfl (op_assign (ltN rfl) rfl),
        trivial⟩ ?_
      refine fin_keep (s' := [kt 5 (.i (((60 * a0) / a1) + 1))]) ?_ (kp rfl) rfl
      exact fin_cut (((60 * a0) / a1) + 1) hm ⟨rfl, trivial⟩ rfl
    · have hm := brk_f hz4 hm
      refine aw_skip ?_
      exact fin_cut ((60 * a0) / a1) hm ⟨rfl, trivial⟩ rfl
  · have _z := hm
    refine aw_seq ?_
    refine aw_text (rows := [_, _]) rfl (by kernel_rfl) ⟨
      ok_plain rfl rfl (op_move (ltN rfl) rfl),
      ok_plain rfl rfl (op_assign (ltN rfl) rfl),
      trivial⟩ ?_
    refine fin_keep (s' := [kt 4 (.i x1)]) ?_ (kp rfl) rfl
    refine fin_then ?_
    refine aw_ret ?_
    refine post_ret (x := .i x1) rfl rfl (resOK_tmp rfl resOK_nil) rfl (fun mm aa ww hr => ?_)
    have hm := Option.some.inj hm
    subst hm
    exact ⟨rfl, hr.below⟩

def m94 (F : Nat) (a0 : Ship) (a1 : Cell) (a2 : Bool) : Option (Int × Int) :=
  bnd (m95 F a1) (fun v1 => join (fun (_ : Unit) => join (fun (_ : Unit) => join (fun (x5 : Int) => some (x5, 0)) (fun k5 => loopC (fun (x6 : Int × Int) n6 => brk (decide (x6.2 ≤ 250)) (join (fun (x7 : Int) => chk (InR (x6.2 + 1)) (n6 (x7, x6.2 + 1))) (fun k7 => join (fun (x8 : Bool) => brk (x8) (k7 x6.2) (k7 x6.1)) (fun k8 => loopC (fun (x9 : Bool × Int) n9 => brk (decide (x9.2 < (((v1.length : Nat) : Int)))) (chk (x9.1 = true → 0 ≤ x9.2 ∧ x9.2 < ((v1.length : Nat) : Int)) (bnd (brk (x9.1) (m96 F a0 ((v1.getD x9.2.toNat default)) x6.2 a2) (some default)) (fun v5 => chk ((x9.1 && v5) = true → 0 ≤ x9.2 ∧ x9.2 < ((v1.length : Nat) : Int)) (bnd (brk ((x9.1 && v5)) (m97 F ((v1.getD x9.2.toNat default)) x6.2 a2) (some default)) (fun v6 => bnd (brk ((x9.1 && v5)) (m98 F a0.Class) (some default)) (fun v7 => chk (InR (x9.2 + 1)) (n9 ((x9.1 && v5) && (decide (v6 ≤ v7)), x9.2 + 1)))))))) (k8 x9.1)) F (true, 0)))) (k5 x6.1)) F (0, 0))) (fun k3 => loopC (fun (x4 : Int) n4 => brk (decide (x4 < (((v1.length : Nat) : Int)))) (chk (0 ≤ x4 ∧ x4 < ((v1.length : Nat) : Int)) (bnd (m97 F ((v1.getD x4.toNat default)) 10 a2) (fun v3 => bnd (m98 F a0.Class) (fun v4 => brk (decide (v3 > v4)) (some (0, 41)) (chk (InR (x4 + 1)) (n4 (x4 + 1))))))) (k3 ())) F 0)) (fun k1 => loopC (fun (x2 : Int) n2 => brk (decide (x2 < (((v1.length : Nat) : Int)))) (chk (0 ≤ x2 ∧ x2 < ((v1.length : Nat) : Int)) (bnd (m117 F a0 ((v1.getD x2.toNat default)) a2) (fun v2 => brk (decide (v2 < 10)) (some (0, 4)) (chk (InR (x2 + 1)) (n2 (x2 + 1)))))) (k1 ())) F 0))

theorem c94 (F : Nat) (a0 : Ship) (a0_Thrust_s : SlV) (a0_Water_s : SlV) (a0_Ice_s : SlV) (a1 : Cell) (a2 : Bool) (w : World) (ha0_Thrust : SlIs encPt 2 w a0_Thrust_s a0.Thrust) (ha0_Water : SlIs encPt 2 w a0_Water_s a0.Water) (ha0_Ice : SlIs encPt 2 w a0_Ice_s a0.Ice) (r : Int × Int) (hm : m94 F a0 a1 a2 = some r) : Calls Tryd.prog 94 #[.agg #[.int .i64 a0.Class, .int .i64 a0.Power, .int .i64 a0.Draught, .int .i64 a0.Tonnes, .slice a0_Thrust_s.p a0_Thrust_s.n a0_Thrust_s.c, .slice a0_Water_s.p a0_Water_s.n a0_Water_s.c, .slice a0_Ice_s.p a0_Ice_s.n a0_Ice_s.c, .int .i64 a0.Slow, .int .i64 a0.Brash, .int .i64 a0.Ridge, .int .i64 a0.Press], .agg #[.int .i64 a1.Conc.Lo, .int .i64 a1.Conc.Hi, .int .i64 a1.Thick.Lo, .int .i64 a1.Thick.Hi, .int .i64 a1.Ridge.Lo, .int .i64 a1.Ridge.Hi, .int .i64 a1.Press.Lo, .int .i64 a1.Press.Hi], .bool a2] w fun e w' => e = .returned (.tuple #[.int .i64 r.1, .int .i64 r.2]) ∧ Below w.heap.size w w' := by
  obtain ⟨a0_Thrust_p, a0_Thrust_n, a0_Thrust_c⟩ := a0_Thrust_s
  have ha0_Thrust_l : a0_Thrust_n = a0.Thrust.length := ha0_Thrust.1
  subst ha0_Thrust_l
  obtain ⟨a0_Thrust_b, a0_Thrust_o, ha0_Thrust_p, ha0_Thrust_L⟩ := SlAt.lies' ha0_Thrust
  obtain ⟨a0_Water_p, a0_Water_n, a0_Water_c⟩ := a0_Water_s
  have ha0_Water_l : a0_Water_n = a0.Water.length := ha0_Water.1
  subst ha0_Water_l
  obtain ⟨a0_Water_b, a0_Water_o, ha0_Water_p, ha0_Water_L⟩ := SlAt.lies' ha0_Water
  obtain ⟨a0_Ice_p, a0_Ice_n, a0_Ice_c⟩ := a0_Ice_s
  have ha0_Ice_l : a0_Ice_n = a0.Ice.length := ha0_Ice.1
  subst ha0_Ice_l
  obtain ⟨a0_Ice_b, a0_Ice_o, ha0_Ice_p, ha0_Ice_L⟩ := SlAt.lies' ha0_Ice
  unfold m94 at hm
  refine enter (args := [.g [.i a0.Class, .i a0.Power, .i a0.Draught, .i a0.Tonnes, .v (.slice a0_Thrust_p a0.Thrust.length a0_Thrust_c), .v (.slice a0_Water_p a0.Water.length a0_Water_c), .v (.slice a0_Ice_p a0.Ice.length a0_Ice_c), .i a0.Slow, .i a0.Brash, .i a0.Ridge, .i a0.Press], .g [.i a1.Conc.Lo, .i a1.Conc.Hi, .i a1.Thick.Lo, .i a1.Thick.Hi, .i a1.Ridge.Lo, .i a1.Ridge.Hi, .i a1.Press.Lo, .i a1.Press.Hi], .B a2]) Tryd.func94 rfl (N := 84) rfl (Nat.le_of_ble_eq_true rfl) ?_
  refine aw_seq ?_
  refine aw_text (rows := [_, _, _, _]) rfl (by kernel_rfl) ⟨
    ok_plain rfl rfl (op_boxN (L := 1) (ltN rfl) rfl rfl rfl),
    ok_plain rfl rfl (op_boxN (L := 2) (ltN rfl) rfl rfl rfl),
    ok_plain rfl rfl (op_assign (ltN rfl) rfl),
    ok_plain rfl rfl (op_assign (ltN rfl) rfl),
    trivial⟩ ?_
  refine fin_keep (s' := [kt 2 (.B a2), kt 3 (.p 1 0), kt 4 (.p 2 0), kb 1 64 11, kb 2 72 8, kc 1 0 (.i a0.Class), kc 1 1 (.i a0.Power), kc 1 2 (.i a0.Draught), kc 1 3 (.i a0.Tonnes), kc 1 4 (.v (.slice a0_Thrust_p a0.Thrust.length a0_Thrust_c)), kc 1 5 (.v (.slice a0_Water_p a0.Water.length a0_Water_c)), kc 1 6 (.v (.slice a0_Ice_p a0.Ice.length a0_Ice_c)), kc 1 7 (.i a0.Slow), kc 1 8 (.i a0.Brash), kc 1 9 (.i a0.Ridge), kc 1 10 (.i a0.Press), kc 2 0 (.i a1.Conc.Lo), kc 2 1 (.i a1.Conc.Hi), kc 2 2 (.i a1.Thick.Lo), kc 2 3 (.i a1.Thick.Hi), kc 2 4 (.i a1.Ridge.Lo), kc 2 5 (.i a1.Ridge.Hi), kc 2 6 (.i a1.Press.Lo), kc 2 7 (.i a1.Press.Hi)]) ?_ (kp rfl) rfl
  refine fin_then ?_
  refine aw_seq ?_
  obtain ⟨v1, hv1, hm⟩ := bnd_some hm
  refine aw_text (rows := [_, _, _]) rfl (by kernel_rfl) ⟨
    ok_plain rfl rfl (op_loadN (ys := [.i a1.Conc.Lo, .i a1.Conc.Hi, .i a1.Thick.Lo, .i a1.Thick.Hi, .i a1.Ridge.Lo, .i a1.Ridge.Hi, .i a1.Press.Lo, .i a1.Press.Hi]) (ltN rfl) sh_72 rfl rfl ⟨rfl, rfl, rfl, rfl, rfl, rfl, rfl, rfl, trivial⟩),
    ok_plain rfl rfl (op_callRowsD (x := .o 3 4 v1.length) (R := (fun vs => (vs.getD 0 (.bool false)))) (ls := [(3, 4)]) (ds := [(v1.length, 108, 4, v1.flatMap encIce)]) (fs := []) (caps := []) (extra := []) (ltN rfl) en_95 rfl ⟨rfl, rfl, rfl⟩ (EvL.cons rfl EvL.nil) rfl rfl (fun _ => rfl) (fun mm aa ww gg hr hrel => (c95 F a1 ww v1 hv1))),
    ok_plain rfl rfl (op_assign (ltN rfl) rfl),
    trivial⟩ ?_
  refine fin_keep (s' := [kt 2 (.B a2), kt 3 (.p 1 0), kt 8 (.o 3 4 v1.length), kb 1 64 11, (.r 3, some (.vec true 4 108 4 (v1.flatMap encIce))), kc 1 0 (.i a0.Class), kc 1 1 (.i a0.Power), kc 1 2 (.i a0.Draught), kc 1 3 (.i a0.Tonnes), kc 1 4 (.v (.slice a0_Thrust_p a0.Thrust.length a0_Thrust_c)), kc 1 5 (.v (.slice a0_Water_p a0.Water.length a0_Water_c)), kc 1 6 (.v (.slice a0_Ice_p a0.Ice.length a0_Ice_c)), kc 1 7 (.i a0.Slow), kc 1 8 (.i a0.Brash), kc 1 9 (.i a0.Ridge), kc 1 10 (.i a0.Press)]) ?_ (kp rfl) rfl
  refine fin_then ?_
  refine aw_cutM (ι := Unit) hm (fun x1 => [kt 2 (.B a2), kt 3 (.p 1 0), kt 8 (.o 3 4 v1.length), kb 1 64 11, (.r 3, some (.vec true 4 108 4 (v1.flatMap encIce))), kc 1 0 (.i a0.Class), kc 1 1 (.i a0.Power), kc 1 2 (.i a0.Draught), kc 1 3 (.i a0.Tonnes), kc 1 4 (.v (.slice a0_Thrust_p a0.Thrust.length a0_Thrust_c)), kc 1 5 (.v (.slice a0_Water_p a0.Water.length a0_Water_c)), kc 1 6 (.v (.slice a0_Ice_p a0.Ice.length a0_Ice_c)), kc 1 7 (.i a0.Slow), kc 1 8 (.i a0.Brash), kc 1 9 (.i a0.Ridge), kc 1 10 (.i a0.Press)]) (fun hm => ?_) (fun x1 hm => ?_)
  · have _z := hm
    refine aw_seq ?_
    refine aw_text (rows := [_]) rfl (by kernel_rfl) ⟨
      ok_plain rfl rfl (op_assign (ltN rfl) rfl),
      trivial⟩ ?_
    refine fin_keep (s' := [kt 2 (.B a2), kt 3 (.p 1 0), kt 8 (.o 3 4 v1.length), kt 9 (.i 0), kb 1 64 11, (.r 3, some (.vec true 4 108 4 (v1.flatMap encIce))), kc 1 0 (.i a0.Class), kc 1 1 (.i a0.Power), kc 1 2 (.i a0.Draught), kc 1 3 (.i a0.Tonnes), kc 1 4 (.v (.slice a0_Thrust_p a0.Thrust.length a0_Thrust_c)), kc 1 5 (.v (.slice a0_Water_p a0.Water.length a0_Water_c)), kc 1 6 (.v (.slice a0_Ice_p a0.Ice.length a0_Ice_c)), kc 1 7 (.i a0.Slow), kc 1 8 (.i a0.Brash), kc 1 9 (.i a0.Ridge), kc 1 10 (.i a0.Press)]) ?_ (kp rfl) rfl
    refine fin_then ?_
    refine aw_block ?_
    refine aw_loopC hm (fun x2 => [kt 2 (.B a2), kt 3 (.p 1 0), kt 8 (.o 3 4 v1.length), kt 9 (.i x2), kb 1 64 11, (.r 3, some (.vec true 4 108 4 (v1.flatMap encIce))), kc 1 0 (.i a0.Class), kc 1 1 (.i a0.Power), kc 1 2 (.i a0.Draught), kc 1 3 (.i a0.Tonnes), kc 1 4 (.v (.slice a0_Thrust_p a0.Thrust.length a0_Thrust_c)), kc 1 5 (.v (.slice a0_Water_p a0.Water.length a0_Water_c)), kc 1 6 (.v (.slice a0_Ice_p a0.Ice.length a0_Ice_c)), kc 1 7 (.i a0.Slow), kc 1 8 (.i a0.Brash), kc 1 9 (.i a0.Ridge), kc 1 10 (.i a0.Press)]) ⟨rfl, rfl, rfl, rfl, rfl, rfl, rfl, rfl, rfl, rfl, rfl, rfl, rfl, rfl, rfl, rfl, rfl, trivial⟩ rfl (fun x2 n2 hm => ?_)
    refine aw_seq ?_
    refine aw_seq ?_
    refine aw_text (rows := [_, _, _, _]) rfl (by kernel_rfl) ⟨
      ok_plain rfl rfl (op_move (ltN rfl) rfl),
      ok_plain rfl rfl (op_move (ltN rfl) rfl),
      ok_plain rfl rfl (op_lenO (n := v1.length) (ltN rfl) (by rw [ss_154]; rfl) rfl),
      ok_plain rfl rfl (op_bin (ltN rfl) rfl rfl rfl),
      trivial⟩ ?_
    refine fin_keep (s' := [kt 2 (.B a2), kt 3 (.p 1 0), kt 8 (.o 3 4 v1.length), kt 9 (.i x2), kt 20 (.B (decide (x2 < (((v1.length : Nat) : Int))))), kb 1 64 11, (.r 3, some (.vec true 4 108 4 (v1.flatMap encIce))), kc 1 0 (.i a0.Class), kc 1 1 (.i a0.Power), kc 1 2 (.i a0.Draught), kc 1 3 (.i a0.Tonnes), kc 1 4 (.v (.slice a0_Thrust_p a0.Thrust.length a0_Thrust_c)), kc 1 5 (.v (.slice a0_Water_p a0.Water.length a0_Water_c)), kc 1 6 (.v (.slice a0_Ice_p a0.Ice.length a0_Ice_c)), kc 1 7 (.i a0.Slow), kc 1 8 (.i a0.Brash), kc 1 9 (.i a0.Ridge), kc 1 10 (.i a0.Press)]) ?_ (kp rfl) rfl
    refine fin_then ?_
    refine aw_cond rfl (fun hz1 => ?_) (fun hz1 => ?_)
    · have hm := brk_t hz1 hm
      refine aw_skip ?_
      refine fin_then ?_
      refine aw_seq ?_
      refine aw_block ?_
      refine aw_seq ?_
      obtain ⟨hp2, hm⟩ := chk_some hm
      obtain ⟨v2, hv2, hm⟩ := bnd_some hm
      refine aw_any (rows := [_, _, _, _, _, _, _, _]) (M := [0, 0, 0, 6, 14, 0, 63, 127]) Tryd_mixed (by kernel_rfl) rfl (by kernel_rfl) ⟨
        ok_plain rfl rfl (op_loadN (ys := [.i a0.Class, .i a0.Power, .i a0.Draught, .i a0.Tonnes, .v (.slice a0_Thrust_p a0.Thrust.length a0_Thrust_c), .v (.slice a0_Water_p a0.Water.length a0_Water_c), .v (.slice a0_Ice_p a0.Ice.length a0_Ice_c), .i a0.Slow, .i a0.Brash, .i a0.Ridge, .i a0.Press]) (ltN rfl) sh_64 rfl rfl ⟨rfl, rfl, rfl, rfl, rfl, rfl, rfl, rfl, rfl, rfl, rfl, trivial⟩),
        ok_plain rfl rfl (op_move (ltN rfl) rfl),
        ok_plain rfl rfl (op_move (ltN rfl) rfl),
        ok_plain rfl rfl (op_ixO (ltN rfl) rfl rfl ss_154 rfl (flat_ne (enc := encIce) (k := 4) (fun _ => rfl) (by decide) (i := x2) hp2.1 hp2.2) hp2.1 hp2.2),
        ok_plain rfl rfl (op_loadON (vs := [(.int .i64 (((v1.getD x2.toNat default)).Conc)), (.int .i64 (((v1.getD x2.toNat default)).Thick)), (.int .i64 (((v1.getD x2.toNat default)).Ridge)), (.int .i64 (((v1.getD x2.toNat default)).Press))]) (ltN rfl) sh_108 rfl rfl rfl (fun zq zv zh => flat_sub (k := 4) (l := v1) (enc := encIce) (fun _ => rfl) default (i := x2) hp2.1 hp2.2 0 (vs := [(.int .i64 (((v1.getD x2.toNat default)).Conc)), (.int .i64 (((v1.getD x2.toNat default)).Thick)), (.int .i64 (((v1.getD x2.toNat default)).Ridge)), (.int .i64 (((v1.getD x2.toNat default)).Press))]) rfl zh)),
        ok_plain rfl rfl (op_move (ltN rfl) rfl),
        ok_plain rfl rfl (op_call (x := .i v2) (fs := []) (caps := []) (extra := []) (ltN rfl) en_117 rfl ⟨rfl, rfl, rfl⟩ (EvL.cons rfl (EvL.cons rfl (EvL.cons rfl EvL.nil))) (fun mm aa ww gg hr hrel => (c117 F a0 ⟨a0_Thrust_p, a0.Thrust.length, a0_Thrust_c⟩ ⟨a0_Water_p, a0.Water.length, a0_Water_c⟩ ⟨a0_Ice_p, a0.Ice.length, a0_Ice_c⟩ ((v1.getD x2.toNat default)) a2 ww (SlIs.mono ha0_Thrust hrel.below) (SlIs.mono ha0_Water hrel.below) (SlIs.mono ha0_Ice hrel.below) v2 hv2))),
        ok_plain rfl rfl (op_bin (ltN rfl) rfl rfl rfl),
        trivial⟩ ?_
      refine fin_keep (s' := [kt 2 (.B a2), kt 3 (.p 1 0), kt 8 (.o 3 4 v1.length), kt 9 (.i x2), kt 30 (.B (decide (v2 < 10))), kb 1 64 11, (.r 3, some (.vec true 4 108 4 (v1.flatMap encIce))), kc 1 0 (.i a0.Class), kc 1 1 (.i a0.Power), kc 1 2 (.i a0.Draught), kc 1 3 (.i a0.Tonnes), kc 1 4 (.v (.slice a0_Thrust_p a0.Thrust.length a0_Thrust_c)), kc 1 5 (.v (.slice a0_Water_p a0.Water.length a0_Water_c)), kc 1 6 (.v (.slice a0_Ice_p a0.Ice.length a0_Ice_c)), kc 1 7 (.i a0.Slow), kc 1 8 (.i a0.Brash), kc 1 9 (.i a0.Ridge), kc 1 10 (.i a0.Press)]) ?_ (kp rfl) rfl
      refine fin_then ?_
      refine aw_cond rfl (fun hz3 => ?_) (fun hz3 => ?_)
      · have hm := brk_t hz3 hm
        refine aw_seq ?_
        refine aw_text (rows := [_, _]) rfl (by kernel_rfl) ⟨
          ok_plain rfl rfl (op_assign (ltN rfl) rfl),
          ok_plain rfl rfl (op_assign (ltN rfl) rfl),
          trivial⟩ ?_
        refine fin_keep (s' := [kt 6 (.i 0), kt 7 (.i 4)]) ?_ (kp rfl) rfl
        refine fin_then ?_
        refine aw_ret ?_
        refine fin_block_ret ?_
        refine fin_then_ret ?_
        refine fin_then_ret ?_
        refine fin_block_ret ?_
        refine fin_then_ret ?_
        refine post_ret (x := .t [.i 0, .i 4]) rfl rfl (resOK_tmp rfl (resOK_tmp rfl resOK_nil)) rfl (fun mm aa ww hr => ?_)
        have hm := Option.some.inj hm
        subst hm
        exact ⟨rfl, hr.below⟩
      · have hm := brk_f hz3 hm
        refine aw_skip ?_
        refine fin_block ?_
        refine fin_then ?_
        obtain ⟨hp4, hm⟩ := chk_some hm
        refine aw_text (rows := [_, _, _]) rfl (by kernel_rfl) ⟨
          ok_plain rfl rfl (op_move (ltN rfl) rfl),
          ok_plain rfl rfl (op_bin (ltN rfl) rfl rfl (nw_add hp4)),
          ok_plain rfl rfl (op_assign (ltN rfl) rfl),
          trivial⟩ ?_
        refine fin_keep (s' := [kt 2 (.B a2), kt 3 (.p 1 0), kt 8 (.o 3 4 v1.length), kt 9 (.i (x2 + 1)), kb 1 64 11, (.r 3, some (.vec true 4 108 4 (v1.flatMap encIce))), kc 1 0 (.i a0.Class), kc 1 1 (.i a0.Power), kc 1 2 (.i a0.Draught), kc 1 3 (.i a0.Tonnes), kc 1 4 (.v (.slice a0_Thrust_p a0.Thrust.length a0_Thrust_c)), kc 1 5 (.v (.slice a0_Water_p a0.Water.length a0_Water_c)), kc 1 6 (.v (.slice a0_Ice_p a0.Ice.length a0_Ice_c)), kc 1 7 (.i a0.Slow), kc 1 8 (.i a0.Brash), kc 1 9 (.i a0.Ridge), kc 1 10 (.i a0.Press)]) ?_ (kp rfl) rfl
        exact fin_cut (x2 + 1) hm ⟨rfl, rfl, rfl, rfl, rfl, rfl, rfl, rfl, rfl, rfl, rfl, rfl, rfl, rfl, rfl, rfl, rfl, trivial⟩ rfl
    · have hm := brk_f hz1 hm
      refine aw_exit ?_
      refine fin_then_exit ?_
      refine fin_then_exit ?_
      refine fin_block_exit ?_
      exact fin_cut () hm ⟨rfl, rfl, rfl, rfl, rfl, rfl, rfl, rfl, rfl, rfl, rfl, rfl, rfl, rfl, rfl, rfl, trivial⟩ rfl
  · have _z := hm
    refine aw_cutM (ι := Unit) hm (fun x3 => [kt 2 (.B a2), kt 3 (.p 1 0), kt 8 (.o 3 4 v1.length), kb 1 64 11, (.r 3, some (.vec true 4 108 4 (v1.flatMap encIce))), kc 1 0 (.i a0.Class), kc 1 1 (.i a0.Power), kc 1 2 (.i a0.Draught), kc 1 3 (.i a0.Tonnes), kc 1 4 (.v (.slice a0_Thrust_p a0.Thrust.length a0_Thrust_c)), kc 1 5 (.v (.slice a0_Water_p a0.Water.length a0_Water_c)), kc 1 6 (.v (.slice a0_Ice_p a0.Ice.length a0_Ice_c)), kc 1 7 (.i a0.Slow), kc 1 8 (.i a0.Brash), kc 1 9 (.i a0.Ridge), kc 1 10 (.i a0.Press)]) (fun hm => ?_) (fun x3 hm => ?_)
    · have _z := hm
      refine aw_seq ?_
      refine aw_text (rows := [_]) rfl (by kernel_rfl) ⟨
        ok_plain rfl rfl (op_assign (ltN rfl) rfl),
        trivial⟩ ?_
      refine fin_keep (s' := [kt 2 (.B a2), kt 3 (.p 1 0), kt 8 (.o 3 4 v1.length), kt 10 (.i 0), kb 1 64 11, (.r 3, some (.vec true 4 108 4 (v1.flatMap encIce))), kc 1 0 (.i a0.Class), kc 1 1 (.i a0.Power), kc 1 2 (.i a0.Draught), kc 1 3 (.i a0.Tonnes), kc 1 4 (.v (.slice a0_Thrust_p a0.Thrust.length a0_Thrust_c)), kc 1 5 (.v (.slice a0_Water_p a0.Water.length a0_Water_c)), kc 1 6 (.v (.slice a0_Ice_p a0.Ice.length a0_Ice_c)), kc 1 7 (.i a0.Slow), kc 1 8 (.i a0.Brash), kc 1 9 (.i a0.Ridge), kc 1 10 (.i a0.Press)]) ?_ (kp rfl) rfl
      refine fin_then ?_
      refine aw_block ?_
      refine aw_loopC hm (fun x4 => [kt 2 (.B a2), kt 3 (.p 1 0), kt 8 (.o 3 4 v1.length), kt 10 (.i x4), kb 1 64 11, (.r 3, some (.vec true 4 108 4 (v1.flatMap encIce))), kc 1 0 (.i a0.Class), kc 1 1 (.i a0.Power), kc 1 2 (.i a0.Draught), kc 1 3 (.i a0.Tonnes), kc 1 4 (.v (.slice a0_Thrust_p a0.Thrust.length a0_Thrust_c)), kc 1 5 (.v (.slice a0_Water_p a0.Water.length a0_Water_c)), kc 1 6 (.v (.slice a0_Ice_p a0.Ice.length a0_Ice_c)), kc 1 7 (.i a0.Slow), kc 1 8 (.i a0.Brash), kc 1 9 (.i a0.Ridge), kc 1 10 (.i a0.Press)]) ⟨rfl, rfl, rfl, rfl, rfl, rfl, rfl, rfl, rfl, rfl, rfl, rfl, rfl, rfl, rfl, rfl, rfl, trivial⟩ rfl (fun x4 n4 hm => ?_)
      refine aw_seq ?_
      refine aw_seq ?_
      refine aw_text (rows := [_, _, _, _]) rfl (by kernel_rfl) ⟨
        ok_plain rfl rfl (op_move (ltN rfl) rfl),
        ok_plain rfl rfl (op_move (ltN rfl) rfl),
        ok_plain rfl rfl (op_lenO (n := v1.length) (ltN rfl) (by rw [ss_154]; rfl) rfl),
        ok_plain rfl rfl (op_bin (ltN rfl) rfl rfl rfl),
        trivial⟩ ?_
      refine fin_keep (s' := [kt 2 (.B a2), kt 3 (.p 1 0), kt 8 (.o 3 4 v1.length), kt 10 (.i x4), kt 34 (.B (decide (x4 < (((v1.length : Nat) : Int))))), kb 1 64 11, (.r 3, some (.vec true 4 108 4 (v1.flatMap encIce))), kc 1 0 (.i a0.Class), kc 1 1 (.i a0.Power), kc 1 2 (.i a0.Draught), kc 1 3 (.i a0.Tonnes), kc 1 4 (.v (.slice a0_Thrust_p a0.Thrust.length a0_Thrust_c)), kc 1 5 (.v (.slice a0_Water_p a0.Water.length a0_Water_c)), kc 1 6 (.v (.slice a0_Ice_p a0.Ice.length a0_Ice_c)), kc 1 7 (.i a0.Slow), kc 1 8 (.i a0.Brash), kc 1 9 (.i a0.Ridge), kc 1 10 (.i a0.Press)]) ?_ (kp rfl) rfl
      refine fin_then ?_
      refine aw_cond rfl (fun hz5 => ?_) (fun hz5 => ?_)
      · have hm := brk_t hz5 hm
        refine aw_skip ?_
        refine fin_then ?_
        refine aw_seq ?_
        refine aw_block ?_
        refine aw_seq ?_
        obtain ⟨hp6, hm⟩ := chk_some hm
        obtain ⟨v3, hv3, hm⟩ := bnd_some hm
        obtain ⟨v4, hv4, hm⟩ := bnd_some hm
        refine aw_any (rows := [_, _, _, _, _, _, _, _, _, _]) (M := [0, 0, 3, 7, 0, 31, 0, 64, 255, 511]) Tryd_mixed (by kernel_rfl) rfl (by kernel_rfl) ⟨
          ok_plain rfl rfl (op_move (ltN rfl) rfl),
          ok_plain rfl rfl (op_move (ltN rfl) rfl),
          ok_plain rfl rfl (op_ixO (ltN rfl) rfl rfl ss_154 rfl (flat_ne (enc := encIce) (k := 4) (fun _ => rfl) (by decide) (i := x4) hp6.1 hp6.2) hp6.1 hp6.2),
          ok_plain rfl rfl (op_loadON (vs := [(.int .i64 (((v1.getD x4.toNat default)).Conc)), (.int .i64 (((v1.getD x4.toNat default)).Thick)), (.int .i64 (((v1.getD x4.toNat default)).Ridge)), (.int .i64 (((v1.getD x4.toNat default)).Press))]) (ltN rfl) sh_108 rfl rfl rfl (fun zq zv zh => flat_sub (k := 4) (l := v1) (enc := encIce) (fun _ => rfl) default (i := x4) hp6.1 hp6.2 0 (vs := [(.int .i64 (((v1.getD x4.toNat default)).Conc)), (.int .i64 (((v1.getD x4.toNat default)).Thick)), (.int .i64 (((v1.getD x4.toNat default)).Ridge)), (.int .i64 (((v1.getD x4.toNat default)).Press))]) rfl zh)),
          ok_plain rfl rfl (op_move (ltN rfl) rfl),
          ok_plain rfl rfl (op_call (x := .i v3) (fs := []) (caps := []) (extra := []) (ltN rfl) en_97 rfl ⟨rfl, rfl, rfl⟩ (EvL.cons rfl (EvL.cons rfl (EvL.cons rfl EvL.nil))) (fun mm aa ww gg hr hrel => (c97 F ((v1.getD x4.toNat default)) 10 a2 ww v3 hv3))),
          ok_plain rfl rfl (op_fieldAddr (ltN rfl) rfl fo_64_0),
          ok_plain rfl rfl (op_load1 (ltN rfl) sh_3 rfl rfl),
          ok_plain rfl rfl (op_call (x := .i v4) (fs := []) (caps := []) (extra := []) (ltN rfl) en_98 rfl ⟨rfl, rfl, rfl⟩ (EvL.cons rfl EvL.nil) (fun mm aa ww gg hr hrel => (c98 F a0.Class ww v4 hv4))),
          ok_plain rfl rfl (op_bin (ltN rfl) rfl rfl rfl),
          trivial⟩ ?_
        refine fin_keep (s' := [kt 2 (.B a2), kt 3 (.p 1 0), kt 8 (.o 3 4 v1.length), kt 10 (.i x4), kt 46 (.B (decide (v3 > v4))), kb 1 64 11, (.r 3, some (.vec true 4 108 4 (v1.flatMap encIce))), kc 1 0 (.i a0.Class), kc 1 1 (.i a0.Power), kc 1 2 (.i a0.Draught), kc 1 3 (.i a0.Tonnes), kc 1 4 (.v (.slice a0_Thrust_p a0.Thrust.length a0_Thrust_c)), kc 1 5 (.v (.slice a0_Water_p a0.Water.length a0_Water_c)), kc 1 6 (.v (.slice a0_Ice_p a0.Ice.length a0_Ice_c)), kc 1 7 (.i a0.Slow), kc 1 8 (.i a0.Brash), kc 1 9 (.i a0.Ridge), kc 1 10 (.i a0.Press)]) ?_ (kp rfl) rfl
        refine fin_then ?_
        refine aw_cond rfl (fun hz7 => ?_) (fun hz7 => ?_)
        · have hm := brk_t hz7 hm
          refine aw_seq ?_
          refine aw_text (rows := [_, _]) rfl (by kernel_rfl) ⟨
            ok_plain rfl rfl (op_assign (ltN rfl) rfl),
            ok_plain rfl rfl (op_assign (ltN rfl) rfl),
            trivial⟩ ?_
          refine fin_keep (s' := [kt 6 (.i 0), kt 7 (.i 41)]) ?_ (kp rfl) rfl
          refine fin_then ?_
          refine aw_ret ?_
          refine fin_block_ret ?_
          refine fin_then_ret ?_
          refine fin_then_ret ?_
          refine fin_block_ret ?_
          refine fin_then_ret ?_
          refine post_ret (x := .t [.i 0, .i 41]) rfl rfl (resOK_tmp rfl (resOK_tmp rfl resOK_nil)) rfl (fun mm aa ww hr => ?_)
          have hm := Option.some.inj hm
          subst hm
          exact ⟨rfl, hr.below⟩
        · have hm := brk_f hz7 hm
          refine aw_skip ?_
          refine fin_block ?_
          refine fin_then ?_
          obtain ⟨hp8, hm⟩ := chk_some hm
          refine aw_text (rows := [_, _, _]) rfl (by kernel_rfl) ⟨
            ok_plain rfl rfl (op_move (ltN rfl) rfl),
            ok_plain rfl rfl (op_bin (ltN rfl) rfl rfl (nw_add hp8)),
            ok_plain rfl rfl (op_assign (ltN rfl) rfl),
            trivial⟩ ?_
          refine fin_keep (s' := [kt 2 (.B a2), kt 3 (.p 1 0), kt 8 (.o 3 4 v1.length), kt 10 (.i (x4 + 1)), kb 1 64 11, (.r 3, some (.vec true 4 108 4 (v1.flatMap encIce))), kc 1 0 (.i a0.Class), kc 1 1 (.i a0.Power), kc 1 2 (.i a0.Draught), kc 1 3 (.i a0.Tonnes), kc 1 4 (.v (.slice a0_Thrust_p a0.Thrust.length a0_Thrust_c)), kc 1 5 (.v (.slice a0_Water_p a0.Water.length a0_Water_c)), kc 1 6 (.v (.slice a0_Ice_p a0.Ice.length a0_Ice_c)), kc 1 7 (.i a0.Slow), kc 1 8 (.i a0.Brash), kc 1 9 (.i a0.Ridge), kc 1 10 (.i a0.Press)]) ?_ (kp rfl) rfl
          exact fin_cut (x4 + 1) hm ⟨rfl, rfl, rfl, rfl, rfl, rfl, rfl, rfl, rfl, rfl, rfl, rfl, rfl, rfl, rfl, rfl, rfl, trivial⟩ rfl
      · have hm := brk_f hz5 hm
        refine aw_exit ?_
        refine fin_then_exit ?_
        refine fin_then_exit ?_
        refine fin_block_exit ?_
        exact fin_cut () hm ⟨rfl, rfl, rfl, rfl, rfl, rfl, rfl, rfl, rfl, rfl, rfl, rfl, rfl, rfl, rfl, rfl, trivial⟩ rfl
    · have _z := hm
      refine aw_seq ?_
      refine aw_text (rows := [_]) rfl (by kernel_rfl) ⟨
        ok_plain rfl rfl (op_assign (ltN rfl) rfl),
        trivial⟩ ?_
      refine fin_keep (s' := [kt 2 (.B a2), kt 3 (.p 1 0), kt 8 (.o 3 4 v1.length), kt 11 (.i 0), kb 1 64 11, (.r 3, some (.vec true 4 108 4 (v1.flatMap encIce))), kc 1 0 (.i a0.Class), kc 1 1 (.i a0.Power), kc 1 2 (.i a0.Draught), kc 1 3 (.i a0.Tonnes), kc 1 4 (.v (.slice a0_Thrust_p a0.Thrust.length a0_Thrust_c)), kc 1 5 (.v (.slice a0_Water_p a0.Water.length a0_Water_c)), kc 1 6 (.v (.slice a0_Ice_p a0.Ice.length a0_Ice_c)), kc 1 7 (.i a0.Slow), kc 1 8 (.i a0.Brash), kc 1 9 (.i a0.Ridge), kc 1 10 (.i a0.Press)]) ?_ (kp rfl) rfl
      refine fin_then ?_
      refine aw_cutM (ι := Int) hm (fun x5 => [kt 11 (.i x5)]) (fun hm => ?_) (fun x5 hm => ?_)
      · have _z := hm
        refine aw_seq ?_
        refine aw_text (rows := [_]) rfl (by kernel_rfl) ⟨
          ok_plain rfl rfl (op_assign (ltN rfl) rfl),
          trivial⟩ ?_
        refine fin_keep (s' := [kt 2 (.B a2), kt 3 (.p 1 0), kt 8 (.o 3 4 v1.length), kt 11 (.i 0), kt 12 (.i 0), kb 1 64 11, (.r 3, some (.vec true 4 108 4 (v1.flatMap encIce))), kc 1 0 (.i a0.Class), kc 1 1 (.i a0.Power), kc 1 2 (.i a0.Draught), kc 1 3 (.i a0.Tonnes), kc 1 4 (.v (.slice a0_Thrust_p a0.Thrust.length a0_Thrust_c)), kc 1 5 (.v (.slice a0_Water_p a0.Water.length a0_Water_c)), kc 1 6 (.v (.slice a0_Ice_p a0.Ice.length a0_Ice_c)), kc 1 7 (.i a0.Slow), kc 1 8 (.i a0.Brash), kc 1 9 (.i a0.Ridge), kc 1 10 (.i a0.Press)]) ?_ (kp rfl) rfl
        refine fin_then ?_
        refine aw_block ?_
        refine aw_loopC hm (fun x6 => [kt 2 (.B a2), kt 3 (.p 1 0), kt 8 (.o 3 4 v1.length), kt 11 (.i x6.1), kt 12 (.i x6.2), kb 1 64 11, (.r 3, some (.vec true 4 108 4 (v1.flatMap encIce))), kc 1 0 (.i a0.Class), kc 1 1 (.i a0.Power), kc 1 2 (.i a0.Draught), kc 1 3 (.i a0.Tonnes), kc 1 4 (.v (.slice a0_Thrust_p a0.Thrust.length a0_Thrust_c)), kc 1 5 (.v (.slice a0_Water_p a0.Water.length a0_Water_c)), kc 1 6 (.v (.slice a0_Ice_p a0.Ice.length a0_Ice_c)), kc 1 7 (.i a0.Slow), kc 1 8 (.i a0.Brash), kc 1 9 (.i a0.Ridge), kc 1 10 (.i a0.Press)]) ⟨rfl, rfl, rfl, rfl, rfl, rfl, rfl, rfl, rfl, rfl, rfl, rfl, rfl, rfl, rfl, rfl, rfl, rfl, trivial⟩ rfl (fun x6 n6 hm => ?_)
        refine aw_seq ?_
        refine aw_seq ?_
        refine aw_text (rows := [_, _]) rfl (by kernel_rfl) ⟨
          ok_plain rfl rfl (op_move (ltN rfl) rfl),
          ok_plain rfl rfl (op_bin (ltN rfl) rfl rfl rfl),
          trivial⟩ ?_
        refine fin_keep (s' := [kt 2 (.B a2), kt 3 (.p 1 0), kt 8 (.o 3 4 v1.length), kt 11 (.i x6.1), kt 12 (.i x6.2), kt 48 (.B (decide (x6.2 ≤ 250))), kb 1 64 11, (.r 3, some (.vec true 4 108 4 (v1.flatMap encIce))), kc 1 0 (.i a0.Class), kc 1 1 (.i a0.Power), kc 1 2 (.i a0.Draught), kc 1 3 (.i a0.Tonnes), kc 1 4 (.v (.slice a0_Thrust_p a0.Thrust.length a0_Thrust_c)), kc 1 5 (.v (.slice a0_Water_p a0.Water.length a0_Water_c)), kc 1 6 (.v (.slice a0_Ice_p a0.Ice.length a0_Ice_c)), kc 1 7 (.i a0.Slow), kc 1 8 (.i a0.Brash), kc 1 9 (.i a0.Ridge), kc 1 10 (.i a0.Press)]) ?_ (kp rfl) rfl
        refine fin_then ?_
        refine aw_cond rfl (fun hz9 => ?_) (fun hz9 => ?_)
        · have hm := brk_t hz9 hm
          refine aw_skip ?_
          refine fin_then ?_
          refine aw_cutM (ι := Int) hm (fun x7 => [kt 2 (.B a2), kt 3 (.p 1 0), kt 8 (.o 3 4 v1.length), kt 11 (.i x7), kt 12 (.i x6.2), kb 1 64 11, (.r 3, some (.vec true 4 108 4 (v1.flatMap encIce))), kc 1 0 (.i a0.Class), kc 1 1 (.i a0.Power), kc 1 2 (.i a0.Draught), kc 1 3 (.i a0.Tonnes), kc 1 4 (.v (.slice a0_Thrust_p a0.Thrust.length a0_Thrust_c)), kc 1 5 (.v (.slice a0_Water_p a0.Water.length a0_Water_c)), kc 1 6 (.v (.slice a0_Ice_p a0.Ice.length a0_Ice_c)), kc 1 7 (.i a0.Slow), kc 1 8 (.i a0.Brash), kc 1 9 (.i a0.Ridge), kc 1 10 (.i a0.Press)]) (fun hm => ?_) (fun x7 hm => ?_)
          · have _z := hm
            refine aw_block ?_
            refine aw_seq ?_
            refine aw_text (rows := [_]) rfl (by kernel_rfl) ⟨
              ok_plain rfl rfl (op_assign (ltN rfl) rfl),
              trivial⟩ ?_
            refine fin_keep (s' := [kt 2 (.B a2), kt 3 (.p 1 0), kt 8 (.o 3 4 v1.length), kt 11 (.i x6.1), kt 12 (.i x6.2), kt 13 (.B true), kb 1 64 11, (.r 3, some (.vec true 4 108 4 (v1.flatMap encIce))), kc 1 0 (.i a0.Class), kc 1 1 (.i a0.Power), kc 1 2 (.i a0.Draught), kc 1 3 (.i a0.Tonnes), kc 1 4 (.v (.slice a0_Thrust_p a0.Thrust.length a0_Thrust_c)), kc 1 5 (.v (.slice a0_Water_p a0.Water.length a0_Water_c)), kc 1 6 (.v (.slice a0_Ice_p a0.Ice.length a0_Ice_c)), kc 1 7 (.i a0.Slow), kc 1 8 (.i a0.Brash), kc 1 9 (.i a0.Ridge), kc 1 10 (.i a0.Press)]) ?_ (kp rfl) rfl
            refine fin_then ?_
            refine aw_cutM (ι := Bool) hm (fun x8 => [kt 2 (.B a2), kt 3 (.p 1 0), kt 8 (.o 3 4 v1.length), kt 11 (.i x6.1), kt 12 (.i x6.2), kt 13 (.B x8), kb 1 64 11, (.r 3, some (.vec true 4 108 4 (v1.flatMap encIce))), kc 1 0 (.i a0.Class), kc 1 1 (.i a0.Power), kc 1 2 (.i a0.Draught), kc 1 3 (.i a0.Tonnes), kc 1 4 (.v (.slice a0_Thrust_p a0.Thrust.length a0_Thrust_c)), kc 1 5 (.v (.slice a0_Water_p a0.Water.length a0_Water_c)), kc 1 6 (.v (.slice a0_Ice_p a0.Ice.length a0_Ice_c)), kc 1 7 (.i a0.Slow), kc 1 8 (.i a0.Brash), kc 1 9 (.i a0.Ridge), kc 1 10 (.i a0.Press)]) (fun hm => ?_) (fun x8 hm => ?_)
            · have _z := hm
              refine aw_seq ?_
              refine aw_text (rows := [_]) rfl (by kernel_rfl) ⟨
                ok_plain rfl rfl (op_assign (ltN rfl) rfl),
                trivial⟩ ?_
              refine fin_keep (s' := [kt 2 (.B a2), kt 3 (.p 1 0), kt 8 (.o 3 4 v1.length), kt 11 (.i x6.1), kt 12 (.i x6.2), kt 13 (.B true), kt 14 (.i 0), kb 1 64 11, (.r 3, some (.vec true 4 108 4 (v1.flatMap encIce))), kc 1 0 (.i a0.Class), kc 1 1 (.i a0.Power), kc 1 2 (.i a0.Draught), kc 1 3 (.i a0.Tonnes), kc 1 4 (.v (.slice a0_Thrust_p a0.Thrust.length a0_Thrust_c)), kc 1 5 (.v (.slice a0_Water_p a0.Water.length a0_Water_c)), kc 1 6 (.v (.slice a0_Ice_p a0.Ice.length a0_Ice_c)), kc 1 7 (.i a0.Slow), kc 1 8 (.i a0.Brash), kc 1 9 (.i a0.Ridge), kc 1 10 (.i a0.Press)]) ?_ (kp rfl) rfl
              refine fin_then ?_
              refine aw_block ?_
              refine aw_loopC hm (fun x9 => [kt 2 (.B a2), kt 3 (.p 1 0), kt 8 (.o 3 4 v1.length), kt 11 (.i x6.1), kt 12 (.i x6.2), kt 13 (.B x9.1), kt 14 (.i x9.2), kb 1 64 11, (.r 3, some (.vec true 4 108 4 (v1.flatMap encIce))), kc 1 0 (.i a0.Class), kc 1 1 (.i a0.Power), kc 1 2 (.i a0.Draught), kc 1 3 (.i a0.Tonnes), kc 1 4 (.v (.slice a0_Thrust_p a0.Thrust.length a0_Thrust_c)), kc 1 5 (.v (.slice a0_Water_p a0.Water.length a0_Water_c)), kc 1 6 (.v (.slice a0_Ice_p a0.Ice.length a0_Ice_c)), kc 1 7 (.i a0.Slow), kc 1 8 (.i a0.Brash), kc 1 9 (.i a0.Ridge), kc 1 10 (.i a0.Press)]) ⟨rfl, rfl, rfl, rfl, rfl, rfl, rfl, rfl, rfl, rfl, rfl, rfl, rfl, rfl, rfl, rfl, rfl, rfl, rfl, rfl, trivial⟩ rfl (fun x9 n9 hm => ?_)
              refine aw_seq ?_
              refine aw_seq ?_
              refine aw_text (rows := [_, _, _, _]) rfl (by kernel_rfl) ⟨
                ok_plain rfl rfl (op_move (ltN rfl) rfl),
                ok_plain rfl rfl (op_move (ltN rfl) rfl),
                ok_plain rfl rfl (op_lenO (n := v1.length) (ltN rfl) (by rw [ss_154]; rfl) rfl),
                ok_plain rfl rfl (op_bin (ltN rfl) rfl rfl rfl),
                trivial⟩ ?_
              refine fin_keep (s' := [kt 2 (.B a2), kt 3 (.p 1 0), kt 8 (.o 3 4 v1.length), kt 11 (.i x6.1), kt 12 (.i x6.2), kt 13 (.B x9.1), kt 14 (.i x9.2), kt 54 (.B (decide (x9.2 < (((v1.length : Nat) : Int))))), kb 1 64 11, (.r 3, some (.vec true 4 108 4 (v1.flatMap encIce))), kc 1 0 (.i a0.Class), kc 1 1 (.i a0.Power), kc 1 2 (.i a0.Draught), kc 1 3 (.i a0.Tonnes), kc 1 4 (.v (.slice a0_Thrust_p a0.Thrust.length a0_Thrust_c)), kc 1 5 (.v (.slice a0_Water_p a0.Water.length a0_Water_c)), kc 1 6 (.v (.slice a0_Ice_p a0.Ice.length a0_Ice_c)), kc 1 7 (.i a0.Slow), kc 1 8 (.i a0.Brash), kc 1 9 (.i a0.Ridge), kc 1 10 (.i a0.Press)]) ?_ (kp rfl) rfl
              refine fin_then ?_
              refine aw_cond rfl (fun hz10 => ?_) (fun hz10 => ?_)
              · have hm := brk_t hz10 hm
                refine aw_skip ?_
                refine fin_then ?_
                refine aw_seq ?_
                refine aw_block ?_
                obtain ⟨hp15, hm⟩ := chk_some hm
                obtain ⟨v5, hv5, hm⟩ := bnd_some hm
                obtain ⟨hp23, hm⟩ := chk_some hm
                obtain ⟨v6, hv6, hm⟩ := bnd_some hm
                obtain ⟨v7, hv7, hm⟩ := bnd_some hm
                refine aw_any (rows := [_, _, _, _, _, _, _, _, _, _, _, _, _, _, _, _, _, _, _, _, _, _, _, _, _]) (M := [0, 1, 3, 3, 3, 27, 59, 3, 3, 511, 1023, 2047, 4095, 4095, 16383, 32767, 4095, 4095, 262143, 4095, 528383, 2097151, 4194303, 8388607, 16777215]) Tryd_mixed (by kernel_rfl) rfl (by kernel_rfl) ⟨
                  ok_plain rfl rfl (op_move (ltN rfl) rfl),
                  ok_plain rfl rfl (op_move (ltN rfl) rfl),
                  ok_if (ltN rfl) rfl rfl rfl rfl rfl rfl (fun hg11 => op_loadN (ys := [.i a0.Class, .i a0.Power, .i a0.Draught, .i a0.Tonnes, .v (.slice a0_Thrust_p a0.Thrust.length a0_Thrust_c), .v (.slice a0_Water_p a0.Water.length a0_Water_c), .v (.slice a0_Ice_p a0.Ice.length a0_Ice_c), .i a0.Slow, .i a0.Brash, .i a0.Ridge, .i a0.Press]) (ltN rfl) sh_64 (force_x rfl) rfl ⟨rfl, rfl, rfl, rfl, rfl, rfl, rfl, rfl, rfl, rfl, rfl, trivial⟩),
                  ok_if (ltN rfl) rfl rfl rfl rfl rfl rfl (fun hg12 => op_move (ltN rfl) (force_x rfl)),
                  ok_if (ltN rfl) rfl rfl rfl rfl rfl rfl (fun hg13 => op_move (ltN rfl) (force_x rfl)),
                  ok_if (ltN rfl) rfl rfl rfl rfl rfl rfl (fun hg14 => op_ixO (ltN rfl) (force_eq (beq_iff_eq.2 hg14) rfl) (force_eq (beq_iff_eq.2 hg14) rfl) ss_154 rfl (flat_ne (enc := encIce) (k := 4) (fun _ => rfl) (by decide) (i := x9.2) (hp15 hg14).1 (hp15 hg14).2) (hp15 hg14).1 (hp15 hg14).2),
                  ok_if (ltN rfl) rfl rfl rfl rfl rfl rfl (fun hg16 => op_loadON (vs := [(.int .i64 (((v1.getD x9.2.toNat default)).Conc)), (.int .i64 (((v1.getD x9.2.toNat default)).Thick)), (.int .i64 (((v1.getD x9.2.toNat default)).Ridge)), (.int .i64 (((v1.getD x9.2.toNat default)).Press))]) (ltN rfl) sh_108 (force_eq (beq_iff_eq.2 hg16) rfl) rfl rfl (fun zq zv zh => flat_sub (k := 4) (l := v1) (enc := encIce) (fun _ => rfl) default (i := x9.2) (hp15 hg16).1 (hp15 hg16).2 0 (vs := [(.int .i64 (((v1.getD x9.2.toNat default)).Conc)), (.int .i64 (((v1.getD x9.2.toNat default)).Thick)), (.int .i64 (((v1.getD x9.2.toNat default)).Ridge)), (.int .i64 (((v1.getD x9.2.toNat default)).Press))]) rfl zh)),
                  ok_if (ltN rfl) rfl rfl rfl rfl rfl rfl (fun hg17 => op_move (ltN rfl) (force_x rfl)),
                  ok_if (ltN rfl) rfl rfl rfl rfl rfl rfl (fun hg18 => op_move (ltN rfl) (force_x rfl)),
                  ok_if (ltN rfl) rfl rfl rfl rfl rfl rfl (fun hg19 => op_call (x := .B v5) (fs := []) (caps := []) (extra := []) (ltN rfl) en_96 rfl ⟨rfl, rfl, rfl⟩ (EvL.cons (force_eq (beq_iff_eq.2 hg19) rfl) (EvL.cons (force_eq (beq_iff_eq.2 hg19) rfl) (EvL.cons (force_eq (beq_iff_eq.2 hg19) rfl) (EvL.cons (force_eq (beq_iff_eq.2 hg19) rfl) EvL.nil)))) (fun mm aa ww gg hr hrel => (c96 F a0 ⟨a0_Thrust_p, a0.Thrust.length, a0_Thrust_c⟩ ⟨a0_Water_p, a0.Water.length, a0_Water_c⟩ ⟨a0_Ice_p, a0.Ice.length, a0_Ice_c⟩ ((v1.getD x9.2.toNat default)) x6.2 a2 ww (SlIs.mono ha0_Thrust hrel.below) (SlIs.mono ha0_Water hrel.below) (SlIs.mono ha0_Ice hrel.below) v5 (brk_t hg19 hv5)))),
                  ok_plain rfl rfl (op_and (ltN rfl) rfl rfl),
                  ok_plain rfl rfl (op_move (ltN rfl) rfl),
                  ok_if (ltN rfl) rfl rfl rfl rfl rfl rfl (fun hg20 => op_move (ltN rfl) (force_x rfl)),
                  ok_if (ltN rfl) rfl rfl rfl rfl rfl rfl (fun hg21 => op_move (ltN rfl) (force_x rfl)),
                  ok_if (ltN rfl) rfl rfl rfl rfl rfl rfl (fun hg22 => op_ixO (ltN rfl) (force_eq (beq_iff_eq.2 hg22) rfl) (force_eq (beq_iff_eq.2 hg22) rfl) ss_154 rfl (flat_ne (enc := encIce) (k := 4) (fun _ => rfl) (by decide) (i := x9.2) (hp23 hg22).1 (hp23 hg22).2) (hp23 hg22).1 (hp23 hg22).2),
                  ok_if (ltN rfl) rfl rfl rfl rfl rfl rfl (fun hg24 => op_loadON (vs := [(.int .i64 (((v1.getD x9.2.toNat default)).Conc)), (.int .i64 (((v1.getD x9.2.toNat default)).Thick)), (.int .i64 (((v1.getD x9.2.toNat default)).Ridge)), (.int .i64 (((v1.getD x9.2.toNat default)).Press))]) (ltN rfl) sh_108 (force_eq (beq_iff_eq.2 hg24) rfl) rfl rfl (fun zq zv zh => flat_sub (k := 4) (l := v1) (enc := encIce) (fun _ => rfl) default (i := x9.2) (hp23 hg24).1 (hp23 hg24).2 0 (vs := [(.int .i64 (((v1.getD x9.2.toNat default)).Conc)), (.int .i64 (((v1.getD x9.2.toNat default)).Thick)), (.int .i64 (((v1.getD x9.2.toNat default)).Ridge)), (.int .i64 (((v1.getD x9.2.toNat default)).Press))]) rfl zh)),
                  ok_if (ltN rfl) rfl rfl rfl rfl rfl rfl (fun hg25 => op_move (ltN rfl) (force_x rfl)),
                  ok_if (ltN rfl) rfl rfl rfl rfl rfl rfl (fun hg26 => op_move (ltN rfl) (force_x rfl)),
                  ok_if (ltN rfl) rfl rfl rfl rfl rfl rfl (fun hg27 => op_call (x := .i v6) (fs := []) (caps := []) (extra := []) (ltN rfl) en_97 rfl ⟨rfl, rfl, rfl⟩ (EvL.cons (force_eq (beq_iff_eq.2 hg27) rfl) (EvL.cons (force_eq (beq_iff_eq.2 hg27) rfl) (EvL.cons (force_eq (beq_iff_eq.2 hg27) rfl) EvL.nil))) (fun mm aa ww gg hr hrel => (c97 F ((v1.getD x9.2.toNat default)) x6.2 a2 ww v6 (brk_t hg27 hv6)))),
                  ok_if (ltN rfl) rfl rfl rfl rfl rfl rfl (fun hg28 => op_fieldAddr (ltN rfl) (force_x rfl) fo_64_0),
                  ok_if (ltN rfl) rfl rfl rfl rfl rfl rfl (fun hg29 => op_load1 (ltN rfl) sh_3 (force_eq (beq_iff_eq.2 hg29) rfl) rfl),
                  ok_if (ltN rfl) rfl rfl rfl rfl rfl rfl (fun hg30 => op_call (x := .i v7) (fs := []) (caps := []) (extra := []) (ltN rfl) en_98 rfl ⟨rfl, rfl, rfl⟩ (EvL.cons (force_eq (beq_iff_eq.2 hg30) rfl) EvL.nil) (fun mm aa ww gg hr hrel => (c98 F a0.Class ww v7 (brk_t hg30 hv7)))),
                  ok_if (ltN rfl) rfl rfl rfl rfl rfl rfl (fun hg31 => op_bin (ltN rfl) (force_eq (beq_iff_eq.2 hg31) rfl) (force_eq (beq_iff_eq.2 hg31) rfl) rfl),
                  ok_plain rfl rfl (op_and (ltN rfl) rfl rfl),
                  ok_plain rfl rfl (op_assign (ltN rfl) rfl),
                  trivial⟩ ?_
                refine fin_keep (s' := [kt 2 (.B a2), kt 3 (.p 1 0), kt 8 (.o 3 4 v1.length), kt 11 (.i x6.1), kt 12 (.i x6.2), kt 13 (.B ((x9.1 && v5) && (decide (v6 ≤ v7)))), kt 14 (.i x9.2), kb 1 64 11, (.r 3, some (.vec true 4 108 4 (v1.flatMap encIce))), kc 1 0 (.i a0.Class), kc 1 1 (.i a0.Power), kc 1 2 (.i a0.Draught), kc 1 3 (.i a0.Tonnes), kc 1 4 (.v (.slice a0_Thrust_p a0.Thrust.length a0_Thrust_c)), kc 1 5 (.v (.slice a0_Water_p a0.Water.length a0_Water_c)), kc 1 6 (.v (.slice a0_Ice_p a0.Ice.length a0_Ice_c)), kc 1 7 (.i a0.Slow), kc 1 8 (.i a0.Brash), kc 1 9 (.i a0.Ridge), kc 1 10 (.i a0.Press)]) ?_ (kp rfl) rfl
                refine fin_block ?_
                refine fin_then ?_
                obtain ⟨hp32, hm⟩ := chk_some hm
                refine aw_text (rows := [_, _, _]) rfl (by kernel_rfl) ⟨
                  ok_plain rfl rfl (op_move (ltN rfl) rfl),
                  ok_plain rfl rfl (op_bin (ltN rfl) rfl rfl (nw_add hp32)),
                  ok_plain rfl rfl (op_assign (ltN rfl) rfl),
                  trivial⟩ ?_
                refine fin_keep (s' := [kt 2 (.B a2), kt 3 (.p 1 0), kt 8 (.o 3 4 v1.length), kt 11 (.i x6.1), kt 12 (.i x6.2), kt 13 (.B ((x9.1 && v5) && (decide (v6 ≤ v7)))), kt 14 (.i (x9.2 + 1)), kb 1 64 11, (.r 3, some (.vec true 4 108 4 (v1.flatMap encIce))), kc 1 0 (.i a0.Class), kc 1 1 (.i a0.Power), kc 1 2 (.i a0.Draught), kc 1 3 (.i a0.Tonnes), kc 1 4 (.v (.slice a0_Thrust_p a0.Thrust.length a0_Thrust_c)), kc 1 5 (.v (.slice a0_Water_p a0.Water.length a0_Water_c)), kc 1 6 (.v (.slice a0_Ice_p a0.Ice.length a0_Ice_c)), kc 1 7 (.i a0.Slow), kc 1 8 (.i a0.Brash), kc 1 9 (.i a0.Ridge), kc 1 10 (.i a0.Press)]) ?_ (kp rfl) rfl
                exact fin_cut ((x9.1 && v5) && (decide (v6 ≤ v7)), x9.2 + 1) hm ⟨rfl, rfl, rfl, rfl, rfl, rfl, rfl, rfl, rfl, rfl, rfl, rfl, rfl, rfl, rfl, rfl, rfl, rfl, rfl, rfl, trivial⟩ rfl
              · have hm := brk_f hz10 hm
                refine aw_exit ?_
                refine fin_then_exit ?_
                refine fin_then_exit ?_
                refine fin_block_exit ?_
                exact fin_cut x9.1 hm ⟨rfl, rfl, rfl, rfl, rfl, rfl, rfl, rfl, rfl, rfl, rfl, rfl, rfl, rfl, rfl, rfl, rfl, rfl, rfl, trivial⟩ rfl
            · have _z := hm
              refine aw_seq ?_
              refine aw_text (rows := [_]) rfl (by kernel_rfl) ⟨
                ok_plain rfl rfl (op_move (ltN rfl) rfl),
                trivial⟩ ?_
              refine fin_keep (s' := [kt 2 (.B a2), kt 3 (.p 1 0), kt 8 (.o 3 4 v1.length), kt 11 (.i x6.1), kt 12 (.i x6.2), kt 81 (.B x8), kb 1 64 11, (.r 3, some (.vec true 4 108 4 (v1.flatMap encIce))), kc 1 0 (.i a0.Class), kc 1 1 (.i a0.Power), kc 1 2 (.i a0.Draught), kc 1 3 (.i a0.Tonnes), kc 1 4 (.v (.slice a0_Thrust_p a0.Thrust.length a0_Thrust_c)), kc 1 5 (.v (.slice a0_Water_p a0.Water.length a0_Water_c)), kc 1 6 (.v (.slice a0_Ice_p a0.Ice.length a0_Ice_c)), kc 1 7 (.i a0.Slow), kc 1 8 (.i a0.Brash), kc 1 9 (.i a0.Ridge), kc 1 10 (.i a0.Press)]) ?_ (kp rfl) rfl
              refine fin_then ?_
              refine aw_cond rfl (fun hz33 => ?_) (fun hz33 => ?_)
              · have hm := brk_t hz33 hm
                refine aw_text (rows := [_, _]) rfl (by kernel_rfl) ⟨
                  ok_plain rfl rfl (op_move (ltN rfl) rfl),
                  ok_plain rfl rfl (op_assign (ltN rfl) rfl),
                  trivial⟩ ?_
                refine fin_keep (s' := [kt 2 (.B a2), kt 3 (.p 1 0), kt 8 (.o 3 4 v1.length), kt 11 (.i x6.2), kt 12 (.i x6.2), kb 1 64 11, (.r 3, some (.vec true 4 108 4 (v1.flatMap encIce))), kc 1 0 (.i a0.Class), kc 1 1 (.i a0.Power), kc 1 2 (.i a0.Draught), kc 1 3 (.i a0.Tonnes), kc 1 4 (.v (.slice a0_Thrust_p a0.Thrust.length a0_Thrust_c)), kc 1 5 (.v (.slice a0_Water_p a0.Water.length a0_Water_c)), kc 1 6 (.v (.slice a0_Ice_p a0.Ice.length a0_Ice_c)), kc 1 7 (.i a0.Slow), kc 1 8 (.i a0.Brash), kc 1 9 (.i a0.Ridge), kc 1 10 (.i a0.Press)]) ?_ (kp rfl) rfl
                refine fin_block ?_
                exact fin_cut x6.2 hm ⟨rfl, rfl, rfl, rfl, rfl, rfl, rfl, rfl, rfl, rfl, rfl, rfl, rfl, rfl, rfl, rfl, rfl, rfl, trivial⟩ rfl
              · have hm := brk_f hz33 hm
                refine aw_skip ?_
                refine fin_block ?_
                exact fin_cut x6.1 hm ⟨rfl, rfl, rfl, rfl, rfl, rfl, rfl, rfl, rfl, rfl, rfl, rfl, rfl, rfl, rfl, rfl, rfl, rfl, trivial⟩ rfl
          · have _z := hm
            obtain ⟨hp34, hm⟩ := chk_some hm
            refine aw_text (rows := [_, _, _]) rfl (by kernel_rfl) ⟨
              ok_plain rfl rfl (op_move (ltN rfl) rfl),
              ok_plain rfl rfl (op_bin (ltN rfl) rfl rfl (nw_add hp34)),
              ok_plain rfl rfl (op_assign (ltN rfl) rfl),
              trivial⟩ ?_
            refine fin_keep (s' := [kt 2 (.B a2), kt 3 (.p 1 0), kt 8 (.o 3 4 v1.length), kt 11 (.i x7), kt 12 (.i (x6.2 + 1)), kb 1 64 11, (.r 3, some (.vec true 4 108 4 (v1.flatMap encIce))), kc 1 0 (.i a0.Class), kc 1 1 (.i a0.Power), kc 1 2 (.i a0.Draught), kc 1 3 (.i a0.Tonnes), kc 1 4 (.v (.slice a0_Thrust_p a0.Thrust.length a0_Thrust_c)), kc 1 5 (.v (.slice a0_Water_p a0.Water.length a0_Water_c)), kc 1 6 (.v (.slice a0_Ice_p a0.Ice.length a0_Ice_c)), kc 1 7 (.i a0.Slow), kc 1 8 (.i a0.Brash), kc 1 9 (.i a0.Ridge), kc 1 10 (.i a0.Press)]) ?_ (kp rfl) rfl
            exact fin_cut (x7, x6.2 + 1) hm ⟨rfl, rfl, rfl, rfl, rfl, rfl, rfl, rfl, rfl, rfl, rfl, rfl, rfl, rfl, rfl, rfl, rfl, rfl, trivial⟩ rfl
        · have hm := brk_f hz9 hm
          refine aw_exit ?_
          refine fin_then_exit ?_
          refine fin_then_exit ?_
          refine fin_block_exit ?_
          exact fin_cut x6.1 hm ⟨rfl, trivial⟩ rfl
      · have _z := hm
        refine aw_seq ?_
        refine aw_text (rows := [_, _, _]) rfl (by kernel_rfl) ⟨
          ok_plain rfl rfl (op_move (ltN rfl) rfl),
          ok_plain rfl rfl (op_assign (ltN rfl) rfl),
          ok_plain rfl rfl (op_assign (ltN rfl) rfl),
          trivial⟩ ?_
        refine fin_keep (s' := [kt 6 (.i x5), kt 7 (.i 0)]) ?_ (kp rfl) rfl
        refine fin_then ?_
        refine aw_ret ?_
        refine post_ret (x := .t [.i x5, .i 0]) rfl rfl (resOK_tmp rfl (resOK_tmp rfl resOK_nil)) rfl (fun mm aa ww hr => ?_)
        have hm := Option.some.inj hm
        subst hm
        exact ⟨rfl, hr.below⟩

def m63 (F : Nat) (a0 : Ship) (a1 : Cell) (a2 : Bool) : Option (Span × Int) :=
  bnd (m101 F a0 a1) (fun v1 => brk (v1 != 0) (some ((⟨0, 0⟩ : Span), v1)) (bnd (m95 F a1) (fun v2 => join (fun (x1 : Int × Int) => some ((⟨x1.1, x1.2⟩ : Span), 0)) (fun k1 => loopC (fun (x2 : Int × Int × Int) n2 => brk (decide (x2.1 < (((v2.length : Nat) : Int)))) (chk (0 ≤ x2.1 ∧ x2.1 < ((v2.length : Nat) : Int)) (bnd (m117 F a0 ((v2.getD x2.1.toNat default)) a2) (fun v3 => chk (InR (x2.1 + 1)) (n2 (x2.1 + 1, if v3 < x2.2.1 then v3 else x2.2.1, if v3 > x2.2.2 then v3 else x2.2.2))))) (k1 (x2.2.1, x2.2.2))) F (0, 250, 0)))))

theorem c63 (F : Nat) (a0 : Ship) (a0_Thrust_s : SlV) (a0_Water_s : SlV) (a0_Ice_s : SlV) (a1 : Cell) (a2 : Bool) (w : World) (ha0_Thrust : SlIs encPt 2 w a0_Thrust_s a0.Thrust) (ha0_Water : SlIs encPt 2 w a0_Water_s a0.Water) (ha0_Ice : SlIs encPt 2 w a0_Ice_s a0.Ice) (r : Span × Int) (hm : m63 F a0 a1 a2 = some r) : Calls Tryd.prog 63 #[.agg #[.int .i64 a0.Class, .int .i64 a0.Power, .int .i64 a0.Draught, .int .i64 a0.Tonnes, .slice a0_Thrust_s.p a0_Thrust_s.n a0_Thrust_s.c, .slice a0_Water_s.p a0_Water_s.n a0_Water_s.c, .slice a0_Ice_s.p a0_Ice_s.n a0_Ice_s.c, .int .i64 a0.Slow, .int .i64 a0.Brash, .int .i64 a0.Ridge, .int .i64 a0.Press], .agg #[.int .i64 a1.Conc.Lo, .int .i64 a1.Conc.Hi, .int .i64 a1.Thick.Lo, .int .i64 a1.Thick.Hi, .int .i64 a1.Ridge.Lo, .int .i64 a1.Ridge.Hi, .int .i64 a1.Press.Lo, .int .i64 a1.Press.Hi], .bool a2] w fun e w' => e = .returned (.tuple #[.agg #[.int .i64 r.1.Lo, .int .i64 r.1.Hi], .int .i64 r.2]) ∧ Below w.heap.size w w' := by
  obtain ⟨a0_Thrust_p, a0_Thrust_n, a0_Thrust_c⟩ := a0_Thrust_s
  have ha0_Thrust_l : a0_Thrust_n = a0.Thrust.length := ha0_Thrust.1
  subst ha0_Thrust_l
  obtain ⟨a0_Thrust_b, a0_Thrust_o, ha0_Thrust_p, ha0_Thrust_L⟩ := SlAt.lies' ha0_Thrust
  obtain ⟨a0_Water_p, a0_Water_n, a0_Water_c⟩ := a0_Water_s
  have ha0_Water_l : a0_Water_n = a0.Water.length := ha0_Water.1
  subst ha0_Water_l
  obtain ⟨a0_Water_b, a0_Water_o, ha0_Water_p, ha0_Water_L⟩ := SlAt.lies' ha0_Water
  obtain ⟨a0_Ice_p, a0_Ice_n, a0_Ice_c⟩ := a0_Ice_s
  have ha0_Ice_l : a0_Ice_n = a0.Ice.length := ha0_Ice.1
  subst ha0_Ice_l
  obtain ⟨a0_Ice_b, a0_Ice_o, ha0_Ice_p, ha0_Ice_L⟩ := SlAt.lies' ha0_Ice
  unfold m63 at hm
  refine enter (args := [.g [.i a0.Class, .i a0.Power, .i a0.Draught, .i a0.Tonnes, .v (.slice a0_Thrust_p a0.Thrust.length a0_Thrust_c), .v (.slice a0_Water_p a0.Water.length a0_Water_c), .v (.slice a0_Ice_p a0.Ice.length a0_Ice_c), .i a0.Slow, .i a0.Brash, .i a0.Ridge, .i a0.Press], .g [.i a1.Conc.Lo, .i a1.Conc.Hi, .i a1.Thick.Lo, .i a1.Thick.Hi, .i a1.Ridge.Lo, .i a1.Ridge.Hi, .i a1.Press.Lo, .i a1.Press.Hi], .B a2]) Tryd.func63 rfl (N := 47) rfl (Nat.le_of_ble_eq_true rfl) ?_
  refine aw_seq ?_
  refine aw_text (rows := [_, _, _, _]) rfl (by kernel_rfl) ⟨
    ok_plain rfl rfl (op_boxN (L := 1) (ltN rfl) rfl rfl rfl),
    ok_plain rfl rfl (op_boxN (L := 2) (ltN rfl) rfl rfl rfl),
    ok_plain rfl rfl (op_alloc (L := 3) (ltN rfl) zl_32),
    ok_plain rfl rfl (op_assign (ltN rfl) rfl),
    trivial⟩ ?_
  refine fin_keep (s' := [kt 2 (.B a2), kt 3 (.p 1 0), kt 4 (.p 2 0), kt 6 (.p 3 0), kb 1 64 11, kb 2 72 8, kb 3 32 2, kc 1 0 (.i a0.Class), kc 1 1 (.i a0.Power), kc 1 2 (.i a0.Draught), kc 1 3 (.i a0.Tonnes), kc 1 4 (.v (.slice a0_Thrust_p a0.Thrust.length a0_Thrust_c)), kc 1 5 (.v (.slice a0_Water_p a0.Water.length a0_Water_c)), kc 1 6 (.v (.slice a0_Ice_p a0.Ice.length a0_Ice_c)), kc 1 7 (.i a0.Slow), kc 1 8 (.i a0.Brash), kc 1 9 (.i a0.Ridge), kc 1 10 (.i a0.Press), kc 2 0 (.i a1.Conc.Lo), kc 2 1 (.i a1.Conc.Hi), kc 2 2 (.i a1.Thick.Lo), kc 2 3 (.i a1.Thick.Hi), kc 2 4 (.i a1.Ridge.Lo), kc 2 5 (.i a1.Ridge.Hi), kc 2 6 (.i a1.Press.Lo), kc 2 7 (.i a1.Press.Hi), kc 3 0 (.i 0), kc 3 1 (.i 0)]) ?_ (kp rfl) rfl
  refine fin_then ?_
  refine aw_seq ?_
  refine aw_seq ?_
  obtain ⟨v1, hv1, hm⟩ := bnd_some hm
  refine aw_text (rows := [_, _, _, _]) rfl (by kernel_rfl) ⟨
    ok_plain rfl rfl (op_loadN (ys := [.i a0.Class, .i a0.Power, .i a0.Draught, .i a0.Tonnes, .v (.slice a0_Thrust_p a0.Thrust.length a0_Thrust_c), .v (.slice a0_Water_p a0.Water.length a0_Water_c), .v (.slice a0_Ice_p a0.Ice.length a0_Ice_c), .i a0.Slow, .i a0.Brash, .i a0.Ridge, .i a0.Press]) (ltN rfl) sh_64 rfl rfl ⟨rfl, rfl, rfl, rfl, rfl, rfl, rfl, rfl, rfl, rfl, rfl, trivial⟩),
    ok_plain rfl rfl (op_loadN (ys := [.i a1.Conc.Lo, .i a1.Conc.Hi, .i a1.Thick.Lo, .i a1.Thick.Hi, .i a1.Ridge.Lo, .i a1.Ridge.Hi, .i a1.Press.Lo, .i a1.Press.Hi]) (ltN rfl) sh_72 rfl rfl ⟨rfl, rfl, rfl, rfl, rfl, rfl, rfl, rfl, trivial⟩),
    ok_plain rfl rfl (op_call (x := .i v1) (fs := []) (caps := []) (extra := []) (ltN rfl) en_101 rfl ⟨rfl, rfl, rfl⟩ (EvL.cons rfl (EvL.cons rfl EvL.nil)) (fun mm aa ww gg hr hrel => (c101 F a0 ⟨a0_Thrust_p, a0.Thrust.length, a0_Thrust_c⟩ ⟨a0_Water_p, a0.Water.length, a0_Water_c⟩ ⟨a0_Ice_p, a0.Ice.length, a0_Ice_c⟩ a1 ww (SlIs.mono ha0_Thrust hrel.below) (SlIs.mono ha0_Water hrel.below) (SlIs.mono ha0_Ice hrel.below) v1 hv1))),
    ok_plain rfl rfl (op_assign (ltN rfl) rfl),
    trivial⟩ ?_
  refine fin_keep (s' := [kt 2 (.B a2), kt 3 (.p 1 0), kt 4 (.p 2 0), kt 6 (.p 3 0), kt 8 (.i v1), kb 1 64 11, kb 2 72 8, kb 3 32 2, kc 1 0 (.i a0.Class), kc 1 1 (.i a0.Power), kc 1 2 (.i a0.Draught), kc 1 3 (.i a0.Tonnes), kc 1 4 (.v (.slice a0_Thrust_p a0.Thrust.length a0_Thrust_c)), kc 1 5 (.v (.slice a0_Water_p a0.Water.length a0_Water_c)), kc 1 6 (.v (.slice a0_Ice_p a0.Ice.length a0_Ice_c)), kc 1 7 (.i a0.Slow), kc 1 8 (.i a0.Brash), kc 1 9 (.i a0.Ridge), kc 1 10 (.i a0.Press), kc 2 0 (.i a1.Conc.Lo), kc 2 1 (.i a1.Conc.Hi), kc 2 2 (.i a1.Thick.Lo), kc 2 3 (.i a1.Thick.Hi), kc 2 4 (.i a1.Ridge.Lo), kc 2 5 (.i a1.Ridge.Hi), kc 2 6 (.i a1.Press.Lo), kc 2 7 (.i a1.Press.Hi), kc 3 0 (.i 0), kc 3 1 (.i 0)]) ?_ (kp rfl) rfl
  refine fin_then ?_
  refine aw_seq ?_
  refine aw_text (rows := [_, _]) rfl (by kernel_rfl) ⟨
    ok_plain rfl rfl (op_move (ltN rfl) rfl),
    ok_plain rfl rfl (op_bin (ltN rfl) rfl rfl rfl),
    trivial⟩ ?_
  refine fin_keep (s' := [kt 2 (.B a2), kt 3 (.p 1 0), kt 4 (.p 2 0), kt 6 (.p 3 0), kt 8 (.i v1), kt 17 (.B (v1 != 0)), kb 1 64 11, kb 2 72 8, kb 3 32 2, kc 1 0 (.i a0.Class), kc 1 1 (.i a0.Power), kc 1 2 (.i a0.Draught), kc 1 3 (.i a0.Tonnes), kc 1 4 (.v (.slice a0_Thrust_p a0.Thrust.length a0_Thrust_c)), kc 1 5 (.v (.slice a0_Water_p a0.Water.length a0_Water_c)), kc 1 6 (.v (.slice a0_Ice_p a0.Ice.length a0_Ice_c)), kc 1 7 (.i a0.Slow), kc 1 8 (.i a0.Brash), kc 1 9 (.i a0.Ridge), kc 1 10 (.i a0.Press), kc 2 0 (.i a1.Conc.Lo), kc 2 1 (.i a1.Conc.Hi), kc 2 2 (.i a1.Thick.Lo), kc 2 3 (.i a1.Thick.Hi), kc 2 4 (.i a1.Ridge.Lo), kc 2 5 (.i a1.Ridge.Hi), kc 2 6 (.i a1.Press.Lo), kc 2 7 (.i a1.Press.Hi), kc 3 0 (.i 0), kc 3 1 (.i 0)]) ?_ (kp rfl) rfl
  refine fin_then ?_
  refine aw_cond rfl (fun hz1 => ?_) (fun hz1 => ?_)
  · have hm := brk_t hz1 hm
    refine aw_seq ?_
    refine aw_text (rows := [_, _, _, _]) rfl (by kernel_rfl) ⟨
      ok_plain rfl rfl (op_build (x := .g [.i 0, .i 0]) (ltN rfl) EvL.nil (fun m w => by kernel_rfl)),
      ok_plain rfl rfl (op_move (ltN rfl) rfl),
      ok_plain rfl rfl (op_storeN sz_32 rfl rfl rfl rfl rfl (by decide)),
      ok_plain rfl rfl (op_assign (ltN rfl) rfl),
      trivial⟩ ?_
    refine fin_keep (s' := [kt 6 (.p 3 0), kt 7 (.i v1), kb 3 32 2, kc 3 0 (.i 0), kc 3 1 (.i 0)]) ?_ (kp rfl) rfl
    refine fin_then ?_
    refine aw_ret ?_
    refine fin_then_ret ?_
    refine post_ret (x := .t [.g [.i 0, .i 0], .i v1]) rfl rfl (resOK_cellN (ys := [.i 0, .i 0]) rfl sh_32 rfl ⟨rfl, rfl, trivial⟩ (resOK_tmp rfl resOK_nil)) rfl (fun mm aa ww hr => ?_)
    have hm := Option.some.inj hm
    subst hm
    exact ⟨rfl, hr.below⟩
  · have hm := brk_f hz1 hm
    refine aw_skip ?_
    refine fin_then ?_
    refine aw_seq ?_
    obtain ⟨v2, hv2, hm⟩ := bnd_some hm
    refine aw_text (rows := [_, _, _]) rfl (by kernel_rfl) ⟨
      ok_plain rfl rfl (op_loadN (ys := [.i a1.Conc.Lo, .i a1.Conc.Hi, .i a1.Thick.Lo, .i a1.Thick.Hi, .i a1.Ridge.Lo, .i a1.Ridge.Hi, .i a1.Press.Lo, .i a1.Press.Hi]) (ltN rfl) sh_72 rfl rfl ⟨rfl, rfl, rfl, rfl, rfl, rfl, rfl, rfl, trivial⟩),
      ok_plain rfl rfl (op_callRowsD (x := .o 4 5 v2.length) (R := (fun vs => (vs.getD 0 (.bool false)))) (ls := [(4, 5)]) (ds := [(v2.length, 108, 4, v2.flatMap encIce)]) (fs := []) (caps := []) (extra := []) (ltN rfl) en_95 rfl ⟨rfl, rfl, rfl⟩ (EvL.cons rfl EvL.nil) rfl rfl (fun _ => rfl) (fun mm aa ww gg hr hrel => (c95 F a1 ww v2 hv2))),
      ok_plain rfl rfl (op_assign (ltN rfl) rfl),
      trivial⟩ ?_
    refine fin_keep (s' := [kt 2 (.B a2), kt 3 (.p 1 0), kt 6 (.p 3 0), kt 9 (.o 4 5 v2.length), kb 1 64 11, kb 3 32 2, (.r 4, some (.vec true 5 108 4 (v2.flatMap encIce))), kc 1 0 (.i a0.Class), kc 1 1 (.i a0.Power), kc 1 2 (.i a0.Draught), kc 1 3 (.i a0.Tonnes), kc 1 4 (.v (.slice a0_Thrust_p a0.Thrust.length a0_Thrust_c)), kc 1 5 (.v (.slice a0_Water_p a0.Water.length a0_Water_c)), kc 1 6 (.v (.slice a0_Ice_p a0.Ice.length a0_Ice_c)), kc 1 7 (.i a0.Slow), kc 1 8 (.i a0.Brash), kc 1 9 (.i a0.Ridge), kc 1 10 (.i a0.Press), kc 3 0 (.i 0), kc 3 1 (.i 0)]) ?_ (kp rfl) rfl
    refine fin_then ?_
    refine aw_seq ?_
    refine aw_text (rows := [_, _, _]) rfl (by kernel_rfl) ⟨
      ok_plain rfl rfl (op_build (x := .g [.i 250, .i 0]) (ltN rfl) (EvL.cons rfl EvL.nil) (fun m w => by kernel_rfl)),
      ok_plain rfl rfl (op_alloc (L := 6) (ltN rfl) zl_32),
      ok_plain rfl rfl (op_storeN sz_32 rfl rfl rfl rfl rfl (by decide)),
      trivial⟩ ?_
    refine fin_keep (s' := [kt 2 (.B a2), kt 3 (.p 1 0), kt 6 (.p 3 0), kt 9 (.o 4 5 v2.length), kt 10 (.p 6 0), kb 1 64 11, kb 3 32 2, kb 6 32 2, (.r 4, some (.vec true 5 108 4 (v2.flatMap encIce))), kc 1 0 (.i a0.Class), kc 1 1 (.i a0.Power), kc 1 2 (.i a0.Draught), kc 1 3 (.i a0.Tonnes), kc 1 4 (.v (.slice a0_Thrust_p a0.Thrust.length a0_Thrust_c)), kc 1 5 (.v (.slice a0_Water_p a0.Water.length a0_Water_c)), kc 1 6 (.v (.slice a0_Ice_p a0.Ice.length a0_Ice_c)), kc 1 7 (.i a0.Slow), kc 1 8 (.i a0.Brash), kc 1 9 (.i a0.Ridge), kc 1 10 (.i a0.Press), kc 3 0 (.i 0), kc 3 1 (.i 0), kc 6 0 (.i 250), kc 6 1 (.i 0)]) ?_ (kp rfl) rfl
    refine fin_then ?_
    refine aw_cutM (ι := Int × Int) hm (fun x1 => [kt 6 (.p 3 0), kt 10 (.p 6 0), kb 3 32 2, kb 6 32 2, kc 3 0 (.i 0), kc 3 1 (.i 0), kc 6 0 (.i x1.1), kc 6 1 (.i x1.2)]) (fun hm => ?_) (fun x1 hm => ?_)
    · have _z := hm
      refine aw_seq ?_
      refine aw_text (rows := [_]) rfl (by kernel_rfl) ⟨
        ok_plain rfl rfl (op_assign (ltN rfl) rfl),
        trivial⟩ ?_
      refine fin_keep (s' := [kt 2 (.B a2), kt 3 (.p 1 0), kt 6 (.p 3 0), kt 9 (.o 4 5 v2.length), kt 10 (.p 6 0), kt 11 (.i 0), kb 1 64 11, kb 3 32 2, kb 6 32 2, (.r 4, some (.vec true 5 108 4 (v2.flatMap encIce))), kc 1 0 (.i a0.Class), kc 1 1 (.i a0.Power), kc 1 2 (.i a0.Draught), kc 1 3 (.i a0.Tonnes), kc 1 4 (.v (.slice a0_Thrust_p a0.Thrust.length a0_Thrust_c)), kc 1 5 (.v (.slice a0_Water_p a0.Water.length a0_Water_c)), kc 1 6 (.v (.slice a0_Ice_p a0.Ice.length a0_Ice_c)), kc 1 7 (.i a0.Slow), kc 1 8 (.i a0.Brash), kc 1 9 (.i a0.Ridge), kc 1 10 (.i a0.Press), kc 3 0 (.i 0), kc 3 1 (.i 0), kc 6 0 (.i 250), kc 6 1 (.i 0)]) ?_ (kp rfl) rfl
      refine fin_then ?_
      refine aw_block ?_
      refine aw_loopC hm (fun x2 => [kt 2 (.B a2), kt 3 (.p 1 0), kt 6 (.p 3 0), kt 9 (.o 4 5 v2.length), kt 10 (.p 6 0), kt 11 (.i x2.1), kb 1 64 11, kb 3 32 2, kb 6 32 2, (.r 4, some (.vec true 5 108 4 (v2.flatMap encIce))), kc 1 0 (.i a0.Class), kc 1 1 (.i a0.Power), kc 1 2 (.i a0.Draught), kc 1 3 (.i a0.Tonnes), kc 1 4 (.v (.slice a0_Thrust_p a0.Thrust.length a0_Thrust_c)), kc 1 5 (.v (.slice a0_Water_p a0.Water.length a0_Water_c)), kc 1 6 (.v (.slice a0_Ice_p a0.Ice.length a0_Ice_c)), kc 1 7 (.i a0.Slow), kc 1 8 (.i a0.Brash), kc 1 9 (.i a0.Ridge), kc 1 10 (.i a0.Press), kc 3 0 (.i 0), kc 3 1 (.i 0), kc 6 0 (.i x2.2.1), kc 6 1 (.i x2.2.2)]) ⟨rfl, rfl, rfl, rfl, rfl, rfl, rfl, rfl, rfl, rfl, rfl, rfl, rfl, rfl, rfl, rfl, rfl, rfl, rfl, rfl, rfl, rfl, rfl, rfl, rfl, trivial⟩ rfl (fun x2 n2 hm => ?_)
      refine aw_seq ?_
      refine aw_seq ?_
      refine aw_text (rows := [_, _, _, _]) rfl (by kernel_rfl) ⟨
        ok_plain rfl rfl (op_move (ltN rfl) rfl),
        ok_plain rfl rfl (op_move (ltN rfl) rfl),
        ok_plain rfl rfl (op_lenO (n := v2.length) (ltN rfl) (by rw [ss_154]; rfl) rfl),
        ok_plain rfl rfl (op_bin (ltN rfl) rfl rfl rfl),
        trivial⟩ ?_
      refine fin_keep (s' := [kt 2 (.B a2), kt 3 (.p 1 0), kt 6 (.p 3 0), kt 9 (.o 4 5 v2.length), kt 10 (.p 6 0), kt 11 (.i x2.1), kt 26 (.B (decide (x2.1 < (((v2.length : Nat) : Int))))), kb 1 64 11, kb 3 32 2, kb 6 32 2, (.r 4, some (.vec true 5 108 4 (v2.flatMap encIce))), kc 1 0 (.i a0.Class), kc 1 1 (.i a0.Power), kc 1 2 (.i a0.Draught), kc 1 3 (.i a0.Tonnes), kc 1 4 (.v (.slice a0_Thrust_p a0.Thrust.length a0_Thrust_c)), kc 1 5 (.v (.slice a0_Water_p a0.Water.length a0_Water_c)), kc 1 6 (.v (.slice a0_Ice_p a0.Ice.length a0_Ice_c)), kc 1 7 (.i a0.Slow), kc 1 8 (.i a0.Brash), kc 1 9 (.i a0.Ridge), kc 1 10 (.i a0.Press), kc 3 0 (.i 0), kc 3 1 (.i 0), kc 6 0 (.i x2.2.1), kc 6 1 (.i x2.2.2)]) ?_ (kp rfl) rfl
      refine fin_then ?_
      refine aw_cond rfl (fun hz2 => ?_) (fun hz2 => ?_)
      · have hm := brk_t hz2 hm
        refine aw_skip ?_
        refine fin_then ?_
        refine aw_seq ?_
        refine aw_block ?_
        refine aw_seq ?_
        obtain ⟨hp3, hm⟩ := chk_some hm
        obtain ⟨v3, hv3, hm⟩ := bnd_some hm
        refine aw_any (rows := [_, _, _, _, _, _, _, _]) (M := [0, 0, 0, 6, 14, 0, 63, 127]) Tryd_mixed (by kernel_rfl) rfl (by kernel_rfl) ⟨
          ok_plain rfl rfl (op_loadN (ys := [.i a0.Class, .i a0.Power, .i a0.Draught, .i a0.Tonnes, .v (.slice a0_Thrust_p a0.Thrust.length a0_Thrust_c), .v (.slice a0_Water_p a0.Water.length a0_Water_c), .v (.slice a0_Ice_p a0.Ice.length a0_Ice_c), .i a0.Slow, .i a0.Brash, .i a0.Ridge, .i a0.Press]) (ltN rfl) sh_64 rfl rfl ⟨rfl, rfl, rfl, rfl, rfl, rfl, rfl, rfl, rfl, rfl, rfl, trivial⟩),
          ok_plain rfl rfl (op_move (ltN rfl) rfl),
          ok_plain rfl rfl (op_move (ltN rfl) rfl),
          ok_plain rfl rfl (op_ixO (ltN rfl) rfl rfl ss_154 rfl (flat_ne (enc := encIce) (k := 4) (fun _ => rfl) (by decide) (i := x2.1) hp3.1 hp3.2) hp3.1 hp3.2),
          ok_plain rfl rfl (op_loadON (vs := [(.int .i64 (((v2.getD x2.1.toNat default)).Conc)), (.int .i64 (((v2.getD x2.1.toNat default)).Thick)), (.int .i64 (((v2.getD x2.1.toNat default)).Ridge)), (.int .i64 (((v2.getD x2.1.toNat default)).Press))]) (ltN rfl) sh_108 rfl rfl rfl (fun zq zv zh => flat_sub (k := 4) (l := v2) (enc := encIce) (fun _ => rfl) default (i := x2.1) hp3.1 hp3.2 0 (vs := [(.int .i64 (((v2.getD x2.1.toNat default)).Conc)), (.int .i64 (((v2.getD x2.1.toNat default)).Thick)), (.int .i64 (((v2.getD x2.1.toNat default)).Ridge)), (.int .i64 (((v2.getD x2.1.toNat default)).Press))]) rfl zh)),
          ok_plain rfl rfl (op_move (ltN rfl) rfl),
          ok_plain rfl rfl (op_call (x := .i v3) (fs := []) (caps := []) (extra := []) (ltN rfl) en_117 rfl ⟨rfl, rfl, rfl⟩ (EvL.cons rfl (EvL.cons rfl (EvL.cons rfl EvL.nil))) (fun mm aa ww gg hr hrel => (c117 F a0 ⟨a0_Thrust_p, a0.Thrust.length, a0_Thrust_c⟩ ⟨a0_Water_p, a0.Water.length, a0_Water_c⟩ ⟨a0_Ice_p, a0.Ice.length, a0_Ice_c⟩ ((v2.getD x2.1.toNat default)) a2 ww (SlIs.mono ha0_Thrust hrel.below) (SlIs.mono ha0_Water hrel.below) (SlIs.mono ha0_Ice hrel.below) v3 hv3))),
          ok_plain rfl rfl (op_assign (ltN rfl) rfl),
          trivial⟩ ?_
        refine fin_keep (s' := [kt 2 (.B a2), kt 3 (.p 1 0), kt 6 (.p 3 0), kt 9 (.o 4 5 v2.length), kt 10 (.p 6 0), kt 11 (.i x2.1), kt 12 (.i v3), kb 1 64 11, kb 3 32 2, kb 6 32 2, (.r 4, some (.vec true 5 108 4 (v2.flatMap encIce))), kc 1 0 (.i a0.Class), kc 1 1 (.i a0.Power), kc 1 2 (.i a0.Draught), kc 1 3 (.i a0.Tonnes), kc 1 4 (.v (.slice a0_Thrust_p a0.Thrust.length a0_Thrust_c)), kc 1 5 (.v (.slice a0_Water_p a0.Water.length a0_Water_c)), kc 1 6 (.v (.slice a0_Ice_p a0.Ice.length a0_Ice_c)), kc 1 7 (.i a0.Slow), kc 1 8 (.i a0.Brash), kc 1 9 (.i a0.Ridge), kc 1 10 (.i a0.Press), kc 3 0 (.i 0), kc 3 1 (.i 0), kc 6 0 (.i x2.2.1), kc 6 1 (.i x2.2.2)]) ?_ (kp rfl) rfl
        refine fin_then ?_
        refine aw_seq ?_
        refine aw_text (rows := [_, _, _, _, _, _]) rfl (by kernel_rfl) ⟨
          ok_plain rfl rfl (op_fieldAddr (ltN rfl) rfl fo_32_0),
          ok_plain rfl rfl (op_load1 (ltN rfl) sh_3 rfl rfl),
          ok_plain rfl rfl (op_move (ltN rfl) rfl),
          ok_plain rfl rfl (op_min (ltN rfl) rfl rfl),
          ok_plain rfl rfl (op_fieldAddr (ltN rfl) rfl fo_32_0),
          ok_plain rfl rfl (op_store1 sz_3 rfl rfl rfl rfl (ltN rfl)),
          trivial⟩ ?_
        refine fin_keep (s' := [kt 2 (.B a2), kt 3 (.p 1 0), kt 6 (.p 3 0), kt 9 (.o 4 5 v2.length), kt 10 (.p 6 0), kt 11 (.i x2.1), kt 12 (.i v3), kb 1 64 11, kb 3 32 2, kb 6 32 2, (.r 4, some (.vec true 5 108 4 (v2.flatMap encIce))), kc 1 0 (.i a0.Class), kc 1 1 (.i a0.Power), kc 1 2 (.i a0.Draught), kc 1 3 (.i a0.Tonnes), kc 1 4 (.v (.slice a0_Thrust_p a0.Thrust.length a0_Thrust_c)), kc 1 5 (.v (.slice a0_Water_p a0.Water.length a0_Water_c)), kc 1 6 (.v (.slice a0_Ice_p a0.Ice.length a0_Ice_c)), kc 1 7 (.i a0.Slow), kc 1 8 (.i a0.Brash), kc 1 9 (.i a0.Ridge), kc 1 10 (.i a0.Press), kc 3 0 (.i 0), kc 3 1 (.i 0), kc 6 0 (.i (if v3 < x2.2.1 then v3 else x2.2.1)), kc 6 1 (.i x2.2.2)]) ?_ (kp rfl) rfl
        refine fin_then ?_
        refine aw_text (rows := [_, _, _, _, _, _]) rfl (by kernel_rfl) ⟨
          ok_plain rfl rfl (op_fieldAddr (ltN rfl) rfl fo_32_1),
          ok_plain rfl rfl (op_load1 (ltN rfl) sh_3 rfl rfl),
          ok_plain rfl rfl (op_move (ltN rfl) rfl),
          ok_plain rfl rfl (op_max (ltN rfl) rfl rfl),
          ok_plain rfl rfl (op_fieldAddr (ltN rfl) rfl fo_32_1),
          ok_plain rfl rfl (op_store1 sz_3 rfl rfl rfl rfl (ltN rfl)),
          trivial⟩ ?_
        refine fin_keep (s' := [kt 2 (.B a2), kt 3 (.p 1 0), kt 6 (.p 3 0), kt 9 (.o 4 5 v2.length), kt 10 (.p 6 0), kt 11 (.i x2.1), kb 1 64 11, kb 3 32 2, kb 6 32 2, (.r 4, some (.vec true 5 108 4 (v2.flatMap encIce))), kc 1 0 (.i a0.Class), kc 1 1 (.i a0.Power), kc 1 2 (.i a0.Draught), kc 1 3 (.i a0.Tonnes), kc 1 4 (.v (.slice a0_Thrust_p a0.Thrust.length a0_Thrust_c)), kc 1 5 (.v (.slice a0_Water_p a0.Water.length a0_Water_c)), kc 1 6 (.v (.slice a0_Ice_p a0.Ice.length a0_Ice_c)), kc 1 7 (.i a0.Slow), kc 1 8 (.i a0.Brash), kc 1 9 (.i a0.Ridge), kc 1 10 (.i a0.Press), kc 3 0 (.i 0), kc 3 1 (.i 0), kc 6 0 (.i (if v3 < x2.2.1 then v3 else x2.2.1)), kc 6 1 (.i (if v3 > x2.2.2 then v3 else x2.2.2))]) ?_ (kp rfl) rfl
        refine fin_block ?_
        refine fin_then ?_
        obtain ⟨hp4, hm⟩ := chk_some hm
        refine aw_text (rows := [_, _, _]) rfl (by kernel_rfl) ⟨
          ok_plain rfl rfl (op_move (ltN rfl) rfl),
          ok_plain rfl rfl (op_bin (ltN rfl) rfl rfl (nw_add hp4)),
          ok_plain rfl rfl (op_assign (ltN rfl) rfl),
          trivial⟩ ?_
        refine fin_keep (s' := [kt 2 (.B a2), kt 3 (.p 1 0), kt 6 (.p 3 0), kt 9 (.o 4 5 v2.length), kt 10 (.p 6 0), kt 11 (.i (x2.1 + 1)), kb 1 64 11, kb 3 32 2, kb 6 32 2, (.r 4, some (.vec true 5 108 4 (v2.flatMap encIce))), kc 1 0 (.i a0.Class), kc 1 1 (.i a0.Power), kc 1 2 (.i a0.Draught), kc 1 3 (.i a0.Tonnes), kc 1 4 (.v (.slice a0_Thrust_p a0.Thrust.length a0_Thrust_c)), kc 1 5 (.v (.slice a0_Water_p a0.Water.length a0_Water_c)), kc 1 6 (.v (.slice a0_Ice_p a0.Ice.length a0_Ice_c)), kc 1 7 (.i a0.Slow), kc 1 8 (.i a0.Brash), kc 1 9 (.i a0.Ridge), kc 1 10 (.i a0.Press), kc 3 0 (.i 0), kc 3 1 (.i 0), kc 6 0 (.i (if v3 < x2.2.1 then v3 else x2.2.1)), kc 6 1 (.i (if v3 > x2.2.2 then v3 else x2.2.2))]) ?_ (kp rfl) rfl
        exact fin_cut (x2.1 + 1, if v3 < x2.2.1 then v3 else x2.2.1, if v3 > x2.2.2 then v3 else x2.2.2) hm ⟨rfl, rfl, rfl, rfl, rfl, rfl, rfl, rfl, rfl, rfl, rfl, rfl, rfl, rfl, rfl, rfl, rfl, rfl, rfl, rfl, rfl, rfl, rfl, rfl, rfl, trivial⟩ rfl
      · have hm := brk_f hz2 hm
        refine aw_exit ?_
        refine fin_then_exit ?_
        refine fin_then_exit ?_
        refine fin_block_exit ?_
        exact fin_cut (x2.2.1, x2.2.2) hm ⟨rfl, rfl, rfl, rfl, rfl, rfl, rfl, rfl, trivial⟩ rfl
    · have _z := hm
      refine aw_seq ?_
      refine aw_text (rows := [_, _, _]) rfl (by kernel_rfl) ⟨
        ok_plain rfl rfl (op_loadN (ys := [.i x1.1, .i x1.2]) (ltN rfl) sh_32 rfl rfl ⟨rfl, rfl, trivial⟩),
        ok_plain rfl rfl (op_storeN sz_32 rfl rfl rfl rfl rfl (by decide)),
        ok_plain rfl rfl (op_assign (ltN rfl) rfl),
        trivial⟩ ?_
      refine fin_keep (s' := [kt 6 (.p 3 0), kt 7 (.i 0), kb 3 32 2, kc 3 0 (.i x1.1), kc 3 1 (.i x1.2)]) ?_ (kp rfl) rfl
      refine fin_then ?_
      refine aw_ret ?_
      refine post_ret (x := .t [.g [.i x1.1, .i x1.2], .i 0]) rfl rfl (resOK_cellN (ys := [.i x1.1, .i x1.2]) rfl sh_32 rfl ⟨rfl, rfl, trivial⟩ (resOK_tmp rfl resOK_nil)) rfl (fun mm aa ww hr => ?_)
      have hm := Option.some.inj hm
      subst hm
      exact ⟨rfl, hr.below⟩

def m64 (F : Nat) (a0 : Ship) (a1 : Cell) (a2 : Bool) : Option (Bool × Bool × Int) :=
  bnd (m63 F a0 a1 a2) (fun v1 => brk (v1.2 != 0) (some (false, false, v1.2)) (some (decide (v1.1.Lo < 10), decide (v1.1.Hi < 10), 0)))

theorem c64 (F : Nat) (a0 : Ship) (a0_Thrust_s : SlV) (a0_Water_s : SlV) (a0_Ice_s : SlV) (a1 : Cell) (a2 : Bool) (w : World) (ha0_Thrust : SlIs encPt 2 w a0_Thrust_s a0.Thrust) (ha0_Water : SlIs encPt 2 w a0_Water_s a0.Water) (ha0_Ice : SlIs encPt 2 w a0_Ice_s a0.Ice) (r : Bool × Bool × Int) (hm : m64 F a0 a1 a2 = some r) : Calls Tryd.prog 64 #[.agg #[.int .i64 a0.Class, .int .i64 a0.Power, .int .i64 a0.Draught, .int .i64 a0.Tonnes, .slice a0_Thrust_s.p a0_Thrust_s.n a0_Thrust_s.c, .slice a0_Water_s.p a0_Water_s.n a0_Water_s.c, .slice a0_Ice_s.p a0_Ice_s.n a0_Ice_s.c, .int .i64 a0.Slow, .int .i64 a0.Brash, .int .i64 a0.Ridge, .int .i64 a0.Press], .agg #[.int .i64 a1.Conc.Lo, .int .i64 a1.Conc.Hi, .int .i64 a1.Thick.Lo, .int .i64 a1.Thick.Hi, .int .i64 a1.Ridge.Lo, .int .i64 a1.Ridge.Hi, .int .i64 a1.Press.Lo, .int .i64 a1.Press.Hi], .bool a2] w fun e w' => e = .returned (.tuple #[.bool r.1, .bool r.2.1, .int .i64 r.2.2]) ∧ Below w.heap.size w w' := by
  obtain ⟨a0_Thrust_p, a0_Thrust_n, a0_Thrust_c⟩ := a0_Thrust_s
  have ha0_Thrust_l : a0_Thrust_n = a0.Thrust.length := ha0_Thrust.1
  subst ha0_Thrust_l
  obtain ⟨a0_Thrust_b, a0_Thrust_o, ha0_Thrust_p, ha0_Thrust_L⟩ := SlAt.lies' ha0_Thrust
  obtain ⟨a0_Water_p, a0_Water_n, a0_Water_c⟩ := a0_Water_s
  have ha0_Water_l : a0_Water_n = a0.Water.length := ha0_Water.1
  subst ha0_Water_l
  obtain ⟨a0_Water_b, a0_Water_o, ha0_Water_p, ha0_Water_L⟩ := SlAt.lies' ha0_Water
  obtain ⟨a0_Ice_p, a0_Ice_n, a0_Ice_c⟩ := a0_Ice_s
  have ha0_Ice_l : a0_Ice_n = a0.Ice.length := ha0_Ice.1
  subst ha0_Ice_l
  obtain ⟨a0_Ice_b, a0_Ice_o, ha0_Ice_p, ha0_Ice_L⟩ := SlAt.lies' ha0_Ice
  unfold m64 at hm
  refine enter (args := [.g [.i a0.Class, .i a0.Power, .i a0.Draught, .i a0.Tonnes, .v (.slice a0_Thrust_p a0.Thrust.length a0_Thrust_c), .v (.slice a0_Water_p a0.Water.length a0_Water_c), .v (.slice a0_Ice_p a0.Ice.length a0_Ice_c), .i a0.Slow, .i a0.Brash, .i a0.Ridge, .i a0.Press], .g [.i a1.Conc.Lo, .i a1.Conc.Hi, .i a1.Thick.Lo, .i a1.Thick.Hi, .i a1.Ridge.Lo, .i a1.Ridge.Hi, .i a1.Press.Lo, .i a1.Press.Hi], .B a2]) Tryd.func64 rfl (N := 27) rfl (Nat.le_of_ble_eq_true rfl) ?_
  refine aw_seq ?_
  refine aw_text (rows := [_, _, _, _, _]) rfl (by kernel_rfl) ⟨
    ok_plain rfl rfl (op_boxN (L := 1) (ltN rfl) rfl rfl rfl),
    ok_plain rfl rfl (op_boxN (L := 2) (ltN rfl) rfl rfl rfl),
    ok_plain rfl rfl (op_assign (ltN rfl) rfl),
    ok_plain rfl rfl (op_assign (ltN rfl) rfl),
    ok_plain rfl rfl (op_assign (ltN rfl) rfl),
    trivial⟩ ?_
  refine fin_keep (s' := [kt 2 (.B a2), kt 3 (.p 1 0), kt 4 (.p 2 0), kb 1 64 11, kb 2 72 8, kc 1 0 (.i a0.Class), kc 1 1 (.i a0.Power), kc 1 2 (.i a0.Draught), kc 1 3 (.i a0.Tonnes), kc 1 4 (.v (.slice a0_Thrust_p a0.Thrust.length a0_Thrust_c)), kc 1 5 (.v (.slice a0_Water_p a0.Water.length a0_Water_c)), kc 1 6 (.v (.slice a0_Ice_p a0.Ice.length a0_Ice_c)), kc 1 7 (.i a0.Slow), kc 1 8 (.i a0.Brash), kc 1 9 (.i a0.Ridge), kc 1 10 (.i a0.Press), kc 2 0 (.i a1.Conc.Lo), kc 2 1 (.i a1.Conc.Hi), kc 2 2 (.i a1.Thick.Lo), kc 2 3 (.i a1.Thick.Hi), kc 2 4 (.i a1.Ridge.Lo), kc 2 5 (.i a1.Ridge.Hi), kc 2 6 (.i a1.Press.Lo), kc 2 7 (.i a1.Press.Hi)]) ?_ (kp rfl) rfl
  refine fin_then ?_
  refine aw_seq ?_
  obtain ⟨v1, hv1, hm⟩ := bnd_some hm
  refine aw_text (rows := [_, _, _, _, _, _, _, _, _, _]) rfl (by kernel_rfl) ⟨
    ok_plain rfl rfl (op_loadN (ys := [.i a0.Class, .i a0.Power, .i a0.Draught, .i a0.Tonnes, .v (.slice a0_Thrust_p a0.Thrust.length a0_Thrust_c), .v (.slice a0_Water_p a0.Water.length a0_Water_c), .v (.slice a0_Ice_p a0.Ice.length a0_Ice_c), .i a0.Slow, .i a0.Brash, .i a0.Ridge, .i a0.Press]) (ltN rfl) sh_64 rfl rfl ⟨rfl, rfl, rfl, rfl, rfl, rfl, rfl, rfl, rfl, rfl, rfl, trivial⟩),
    ok_plain rfl rfl (op_loadN (ys := [.i a1.Conc.Lo, .i a1.Conc.Hi, .i a1.Thick.Lo, .i a1.Thick.Hi, .i a1.Ridge.Lo, .i a1.Ridge.Hi, .i a1.Press.Lo, .i a1.Press.Hi]) (ltN rfl) sh_72 rfl rfl ⟨rfl, rfl, rfl, rfl, rfl, rfl, rfl, rfl, trivial⟩),
    ok_plain rfl rfl (op_move (ltN rfl) rfl),
    ok_plain rfl rfl (op_call (x := .t [.g [.i v1.1.Lo, .i v1.1.Hi], .i v1.2]) (fs := []) (caps := []) (extra := []) (ltN rfl) en_63 rfl ⟨rfl, rfl, rfl⟩ (EvL.cons rfl (EvL.cons rfl (EvL.cons rfl EvL.nil))) (fun mm aa ww gg hr hrel => (c63 F a0 ⟨a0_Thrust_p, a0.Thrust.length, a0_Thrust_c⟩ ⟨a0_Water_p, a0.Water.length, a0_Water_c⟩ ⟨a0_Ice_p, a0.Ice.length, a0_Ice_c⟩ a1 a2 ww (SlIs.mono ha0_Thrust hrel.below) (SlIs.mono ha0_Water hrel.below) (SlIs.mono ha0_Ice hrel.below) v1 hv1))),
    ok_plain rfl rfl (op_move (ltN rfl) rfl),
    ok_plain rfl rfl (op_extract (ltN rfl) rfl rfl),
    ok_plain rfl rfl (op_extract (ltN rfl) rfl rfl),
    ok_plain rfl rfl (op_alloc (L := 3) (ltN rfl) zl_32),
    ok_plain rfl rfl (op_storeN sz_32 rfl rfl rfl rfl rfl (by decide)),
    ok_plain rfl rfl (op_assign (ltN rfl) rfl),
    trivial⟩ ?_
  refine fin_keep (s' := [kt 9 (.p 3 0), kt 10 (.i v1.2), kb 3 32 2, kc 3 0 (.i v1.1.Lo), kc 3 1 (.i v1.1.Hi)]) ?_ (kp rfl) rfl
  refine fin_then ?_
  refine aw_seq ?_
  refine aw_seq ?_
  refine aw_text (rows := [_, _]) rfl (by kernel_rfl) ⟨
    ok_plain rfl rfl (op_move (ltN rfl) rfl),
    ok_plain rfl rfl (op_bin (ltN rfl) rfl rfl rfl),
    trivial⟩ ?_
  refine fin_keep (s' := [kt 9 (.p 3 0), kt 10 (.i v1.2), kt 19 (.B (v1.2 != 0)), kb 3 32 2, kc 3 0 (.i v1.1.Lo), kc 3 1 (.i v1.1.Hi)]) ?_ (kp rfl) rfl
  refine fin_then ?_
  refine aw_cond rfl (fun hz1 => ?_) (fun hz1 => ?_)
  · have hm := brk_t hz1 hm
    refine aw_seq ?_
    refine aw_text (rows := [_, _, _, _]) rfl (by kernel_rfl) ⟨
      ok_plain rfl rfl (op_move (ltN rfl) rfl),
      ok_plain rfl rfl (op_assign (ltN rfl) rfl),
      ok_plain rfl rfl (op_assign (ltN rfl) rfl),
      ok_plain rfl rfl (op_assign (ltN rfl) rfl),
      trivial⟩ ?_
    refine fin_keep (s' := [kt 6 (.B false), kt 7 (.B false), kt 8 (.i v1.2)]) ?_ (kp rfl) rfl
    refine fin_then ?_
    refine aw_ret ?_
    refine fin_then_ret ?_
    refine post_ret (x := .t [.B false, .B false, .i v1.2]) rfl rfl (resOK_tmp rfl (resOK_tmp rfl (resOK_tmp rfl resOK_nil))) rfl (fun mm aa ww hr => ?_)
    have hm := Option.some.inj hm
    subst hm
    exact ⟨rfl, hr.below⟩
  · have hm := brk_f hz1 hm
    refine aw_skip ?_
    refine fin_then ?_
    refine aw_seq ?_
    refine aw_any (rows := [_, _, _, _, _, _, _, _, _]) (M := [0, 1, 3, 0, 8, 24, 7, 127, 255]) Tryd_mixed (by kernel_rfl) rfl (by kernel_rfl) ⟨
      ok_plain rfl rfl (op_fieldAddr (ltN rfl) rfl fo_32_0),
      ok_plain rfl rfl (op_load1 (ltN rfl) sh_3 rfl rfl),
      ok_plain rfl rfl (op_bin (ltN rfl) rfl rfl rfl),
      ok_plain rfl rfl (op_fieldAddr (ltN rfl) rfl fo_32_1),
      ok_plain rfl rfl (op_load1 (ltN rfl) sh_3 rfl rfl),
      ok_plain rfl rfl (op_bin (ltN rfl) rfl rfl rfl),
      ok_plain rfl rfl (op_assign (ltN rfl) rfl),
      ok_plain rfl rfl (op_assign (ltN rfl) rfl),
      ok_plain rfl rfl (op_assign (ltN rfl) rfl),
      trivial⟩ ?_
    refine fin_keep (s' := [kt 6 (.B (decide (v1.1.Lo < 10))), kt 7 (.B (decide (v1.1.Hi < 10))), kt 8 (.i 0)]) ?_ (kp rfl) rfl
    refine fin_then ?_
    refine aw_ret ?_
    refine post_ret (x := .t [.B (decide (v1.1.Lo < 10)), .B (decide (v1.1.Hi < 10)), .i 0]) rfl rfl (resOK_tmp rfl (resOK_tmp rfl (resOK_tmp rfl resOK_nil))) rfl (fun mm aa ww hr => ?_)
    have hm := Option.some.inj hm
    subst hm
    exact ⟨rfl, hr.below⟩

def m36 (F : Nat) (a0 : Ship) (a1 : Cell) (a2 : List Span) : Option (Span × Int) :=
  bnd (m101 F a0 a1) (fun v1 => brk (v1 != 0) (some ((⟨0, 0⟩ : Span), v1)) (brk (decide ((((a2.length : Nat) : Int)) > 240)) (some ((⟨0, 0⟩ : Span), 2)) (join (fun (_ : Unit) => join (fun (x3 : Int × Int) => brk (decide (x3.2 < 0)) (some ((⟨0, 0⟩ : Span), 4)) (some ((⟨x3.1, x3.2⟩ : Span), 0))) (fun k3 => loopC (fun (x4 : Int × Int × Int × Int × Int) n4 => brk (decide (x4.2.2.1 < (((a2.length : Nat) : Int)))) (join (fun (x5 : Int × Int × Int × Int) => chk (InR (x4.2.2.1 + 1)) (n4 (x5.1, x5.2.1, x4.2.2.1 + 1, x5.2.2.1, x5.2.2.2))) (fun k5 => chk (0 ≤ x4.2.2.1 ∧ x4.2.2.1 < ((a2.length : Nat) : Int)) (bnd (m64 F a0 ((⟨a1.Conc, a1.Thick, a1.Ridge, (sp a2 x4.2.2.1)⟩ : Cell)) false) (fun v3 => join (fun (x6 : Int) => brk ((decide (x4.2.1 < 0)) && (!v3.1)) (k5 (x6, x4.2.2.1, ((sp a2 x4.2.2.1)).Lo, ((sp a2 x4.2.2.1)).Hi)) (k5 (x6, x4.2.1, ((sp a2 x4.2.2.1)).Lo, ((sp a2 x4.2.2.1)).Hi))) (fun k6 => brk ((decide (x4.1 < 0)) && (!v3.2.1)) (k6 x4.2.2.1) (k6 x4.1)))))) (k3 (x4.1, x4.2.1))) F ((-1), (-1), 0, a1.Press.Lo, a1.Press.Hi))) (fun k1 => loopC (fun (x2 : Int) n2 => brk (decide (x2 < (((a2.length : Nat) : Int)))) (chk (0 ≤ x2 ∧ x2 < ((a2.length : Nat) : Int)) (bnd (m102 F ((sp a2 x2)) 3) (fun v2 => brk (!v2) (some ((⟨0, 0⟩ : Span), 6)) (chk (InR (x2 + 1)) (n2 (x2 + 1)))))) (k1 ())) F 0))))

theorem c36 (F : Nat) (a0 : Ship) (a0_Thrust_s : SlV) (a0_Water_s : SlV) (a0_Ice_s : SlV) (a1 : Cell) (a2 : List Span) (a2_s : SlV) (w : World) (ha0_Thrust : SlIs encPt 2 w a0_Thrust_s a0.Thrust) (ha0_Water : SlIs encPt 2 w a0_Water_s a0.Water) (ha0_Ice : SlIs encPt 2 w a0_Ice_s a0.Ice) (ha2 : SlIs encSpan 2 w a2_s a2) (r : Span × Int) (hm : m36 F a0 a1 a2 = some r) : Calls Tryd.prog 36 #[.agg #[.int .i64 a0.Class, .int .i64 a0.Power, .int .i64 a0.Draught, .int .i64 a0.Tonnes, .slice a0_Thrust_s.p a0_Thrust_s.n a0_Thrust_s.c, .slice a0_Water_s.p a0_Water_s.n a0_Water_s.c, .slice a0_Ice_s.p a0_Ice_s.n a0_Ice_s.c, .int .i64 a0.Slow, .int .i64 a0.Brash, .int .i64 a0.Ridge, .int .i64 a0.Press], .agg #[.int .i64 a1.Conc.Lo, .int .i64 a1.Conc.Hi, .int .i64 a1.Thick.Lo, .int .i64 a1.Thick.Hi, .int .i64 a1.Ridge.Lo, .int .i64 a1.Ridge.Hi, .int .i64 a1.Press.Lo, .int .i64 a1.Press.Hi], .slice a2_s.p a2_s.n a2_s.c] w fun e w' => e = .returned (.tuple #[.agg #[.int .i64 r.1.Lo, .int .i64 r.1.Hi], .int .i64 r.2]) ∧ Below w.heap.size w w' := by
  obtain ⟨a0_Thrust_p, a0_Thrust_n, a0_Thrust_c⟩ := a0_Thrust_s
  have ha0_Thrust_l : a0_Thrust_n = a0.Thrust.length := ha0_Thrust.1
  subst ha0_Thrust_l
  obtain ⟨a0_Thrust_b, a0_Thrust_o, ha0_Thrust_p, ha0_Thrust_L⟩ := SlAt.lies' ha0_Thrust
  obtain ⟨a0_Water_p, a0_Water_n, a0_Water_c⟩ := a0_Water_s
  have ha0_Water_l : a0_Water_n = a0.Water.length := ha0_Water.1
  subst ha0_Water_l
  obtain ⟨a0_Water_b, a0_Water_o, ha0_Water_p, ha0_Water_L⟩ := SlAt.lies' ha0_Water
  obtain ⟨a0_Ice_p, a0_Ice_n, a0_Ice_c⟩ := a0_Ice_s
  have ha0_Ice_l : a0_Ice_n = a0.Ice.length := ha0_Ice.1
  subst ha0_Ice_l
  obtain ⟨a0_Ice_b, a0_Ice_o, ha0_Ice_p, ha0_Ice_L⟩ := SlAt.lies' ha0_Ice
  obtain ⟨a2_p, a2_n, a2_c⟩ := a2_s
  have ha2_l : a2_n = a2.length := ha2.1
  subst ha2_l
  obtain ⟨a2_b, a2_o, ha2_p, ha2_L⟩ := SlAt.lies' ha2
  unfold m36 at hm
  refine enter (args := [.g [.i a0.Class, .i a0.Power, .i a0.Draught, .i a0.Tonnes, .v (.slice a0_Thrust_p a0.Thrust.length a0_Thrust_c), .v (.slice a0_Water_p a0.Water.length a0_Water_c), .v (.slice a0_Ice_p a0.Ice.length a0_Ice_c), .i a0.Slow, .i a0.Brash, .i a0.Ridge, .i a0.Press], .g [.i a1.Conc.Lo, .i a1.Conc.Hi, .i a1.Thick.Lo, .i a1.Thick.Hi, .i a1.Ridge.Lo, .i a1.Ridge.Hi, .i a1.Press.Lo, .i a1.Press.Hi], .v (.slice a2_p a2.length a2_c)]) Tryd.func36 rfl (N := 78) rfl (Nat.le_of_ble_eq_true rfl) ?_
  refine aw_seq ?_
  refine aw_text (rows := [_, _, _, _]) rfl (by kernel_rfl) ⟨
    ok_plain rfl rfl (op_boxN (L := 1) (ltN rfl) rfl rfl rfl),
    ok_plain rfl rfl (op_boxN (L := 2) (ltN rfl) rfl rfl rfl),
    ok_plain rfl rfl (op_alloc (L := 3) (ltN rfl) zl_32),
    ok_plain rfl rfl (op_assign (ltN rfl) rfl),
    trivial⟩ ?_
  refine fin_keep (s' := [kt 2 (.v (.slice a2_p a2.length a2_c)), kt 3 (.p 1 0), kt 4 (.p 2 0), kt 6 (.p 3 0), kb 1 64 11, kb 2 72 8, kb 3 32 2, kc 1 0 (.i a0.Class), kc 1 1 (.i a0.Power), kc 1 2 (.i a0.Draught), kc 1 3 (.i a0.Tonnes), kc 1 4 (.v (.slice a0_Thrust_p a0.Thrust.length a0_Thrust_c)), kc 1 5 (.v (.slice a0_Water_p a0.Water.length a0_Water_c)), kc 1 6 (.v (.slice a0_Ice_p a0.Ice.length a0_Ice_c)), kc 1 7 (.i a0.Slow), kc 1 8 (.i a0.Brash), kc 1 9 (.i a0.Ridge), kc 1 10 (.i a0.Press), kc 2 0 (.i a1.Conc.Lo), kc 2 1 (.i a1.Conc.Hi), kc 2 2 (.i a1.Thick.Lo), kc 2 3 (.i a1.Thick.Hi), kc 2 4 (.i a1.Ridge.Lo), kc 2 5 (.i a1.Ridge.Hi), kc 2 6 (.i a1.Press.Lo), kc 2 7 (.i a1.Press.Hi), kc 3 0 (.i 0), kc 3 1 (.i 0)]) ?_ (kp rfl) rfl
  refine fin_then ?_
  refine aw_seq ?_
  refine aw_seq ?_
  obtain ⟨v1, hv1, hm⟩ := bnd_some hm
  refine aw_text (rows := [_, _, _, _]) rfl (by kernel_rfl) ⟨
    ok_plain rfl rfl (op_loadN (ys := [.i a0.Class, .i a0.Power, .i a0.Draught, .i a0.Tonnes, .v (.slice a0_Thrust_p a0.Thrust.length a0_Thrust_c), .v (.slice a0_Water_p a0.Water.length a0_Water_c), .v (.slice a0_Ice_p a0.Ice.length a0_Ice_c), .i a0.Slow, .i a0.Brash, .i a0.Ridge, .i a0.Press]) (ltN rfl) sh_64 rfl rfl ⟨rfl, rfl, rfl, rfl, rfl, rfl, rfl, rfl, rfl, rfl, rfl, trivial⟩),
    ok_plain rfl rfl (op_loadN (ys := [.i a1.Conc.Lo, .i a1.Conc.Hi, .i a1.Thick.Lo, .i a1.Thick.Hi, .i a1.Ridge.Lo, .i a1.Ridge.Hi, .i a1.Press.Lo, .i a1.Press.Hi]) (ltN rfl) sh_72 rfl rfl ⟨rfl, rfl, rfl, rfl, rfl, rfl, rfl, rfl, trivial⟩),
    ok_plain rfl rfl (op_call (x := .i v1) (fs := []) (caps := []) (extra := []) (ltN rfl) en_101 rfl ⟨rfl, rfl, rfl⟩ (EvL.cons rfl (EvL.cons rfl EvL.nil)) (fun mm aa ww gg hr hrel => (c101 F a0 ⟨a0_Thrust_p, a0.Thrust.length, a0_Thrust_c⟩ ⟨a0_Water_p, a0.Water.length, a0_Water_c⟩ ⟨a0_Ice_p, a0.Ice.length, a0_Ice_c⟩ a1 ww (SlIs.mono ha0_Thrust hrel.below) (SlIs.mono ha0_Water hrel.below) (SlIs.mono ha0_Ice hrel.below) v1 hv1))),
    ok_plain rfl rfl (op_assign (ltN rfl) rfl),
    trivial⟩ ?_
  refine fin_keep (s' := [kt 2 (.v (.slice a2_p a2.length a2_c)), kt 3 (.p 1 0), kt 4 (.p 2 0), kt 6 (.p 3 0), kt 8 (.i v1), kb 1 64 11, kb 2 72 8, kb 3 32 2, kc 1 0 (.i a0.Class), kc 1 1 (.i a0.Power), kc 1 2 (.i a0.Draught), kc 1 3 (.i a0.Tonnes), kc 1 4 (.v (.slice a0_Thrust_p a0.Thrust.length a0_Thrust_c)), kc 1 5 (.v (.slice a0_Water_p a0.Water.length a0_Water_c)), kc 1 6 (.v (.slice a0_Ice_p a0.Ice.length a0_Ice_c)), kc 1 7 (.i a0.Slow), kc 1 8 (.i a0.Brash), kc 1 9 (.i a0.Ridge), kc 1 10 (.i a0.Press), kc 2 0 (.i a1.Conc.Lo), kc 2 1 (.i a1.Conc.Hi), kc 2 2 (.i a1.Thick.Lo), kc 2 3 (.i a1.Thick.Hi), kc 2 4 (.i a1.Ridge.Lo), kc 2 5 (.i a1.Ridge.Hi), kc 2 6 (.i a1.Press.Lo), kc 2 7 (.i a1.Press.Hi), kc 3 0 (.i 0), kc 3 1 (.i 0)]) ?_ (kp rfl) rfl
  refine fin_then ?_
  refine aw_seq ?_
  refine aw_text (rows := [_, _]) rfl (by kernel_rfl) ⟨
    ok_plain rfl rfl (op_move (ltN rfl) rfl),
    ok_plain rfl rfl (op_bin (ltN rfl) rfl rfl rfl),
    trivial⟩ ?_
  refine fin_keep (s' := [kt 2 (.v (.slice a2_p a2.length a2_c)), kt 3 (.p 1 0), kt 4 (.p 2 0), kt 6 (.p 3 0), kt 8 (.i v1), kt 20 (.B (v1 != 0)), kb 1 64 11, kb 2 72 8, kb 3 32 2, kc 1 0 (.i a0.Class), kc 1 1 (.i a0.Power), kc 1 2 (.i a0.Draught), kc 1 3 (.i a0.Tonnes), kc 1 4 (.v (.slice a0_Thrust_p a0.Thrust.length a0_Thrust_c)), kc 1 5 (.v (.slice a0_Water_p a0.Water.length a0_Water_c)), kc 1 6 (.v (.slice a0_Ice_p a0.Ice.length a0_Ice_c)), kc 1 7 (.i a0.Slow), kc 1 8 (.i a0.Brash), kc 1 9 (.i a0.Ridge), kc 1 10 (.i a0.Press), kc 2 0 (.i a1.Conc.Lo), kc 2 1 (.i a1.Conc.Hi), kc 2 2 (.i a1.Thick.Lo), kc 2 3 (.i a1.Thick.Hi), kc 2 4 (.i a1.Ridge.Lo), kc 2 5 (.i a1.Ridge.Hi), kc 2 6 (.i a1.Press.Lo), kc 2 7 (.i a1.Press.Hi), kc 3 0 (.i 0), kc 3 1 (.i 0)]) ?_ (kp rfl) rfl
  refine fin_then ?_
  refine aw_cond rfl (fun hz1 => ?_) (fun hz1 => ?_)
  · have hm := brk_t hz1 hm
    refine aw_seq ?_
    refine aw_text (rows := [_, _, _, _]) rfl (by kernel_rfl) ⟨
      ok_plain rfl rfl (op_build (x := .g [.i 0, .i 0]) (ltN rfl) EvL.nil (fun m w => by kernel_rfl)),
      ok_plain rfl rfl (op_move (ltN rfl) rfl),
      ok_plain rfl rfl (op_storeN sz_32 rfl rfl rfl rfl rfl (by decide)),
      ok_plain rfl rfl (op_assign (ltN rfl) rfl),
      trivial⟩ ?_
    refine fin_keep (s' := [kt 6 (.p 3 0), kt 7 (.i v1), kb 3 32 2, kc 3 0 (.i 0), kc 3 1 (.i 0)]) ?_ (kp rfl) rfl
    refine fin_then ?_
    refine aw_ret ?_
    refine fin_then_ret ?_
    refine post_ret (x := .t [.g [.i 0, .i 0], .i v1]) rfl rfl (resOK_cellN (ys := [.i 0, .i 0]) rfl sh_32 rfl ⟨rfl, rfl, trivial⟩ (resOK_tmp rfl resOK_nil)) rfl (fun mm aa ww hr => ?_)
    have hm := Option.some.inj hm
    subst hm
    exact ⟨rfl, hr.below⟩
  · have hm := brk_f hz1 hm
    refine aw_skip ?_
    refine fin_then ?_
    refine aw_seq ?_
    refine aw_seq ?_
    refine aw_text (rows := [_, _, _]) rfl (by kernel_rfl) ⟨
      ok_plain rfl rfl (op_move (ltN rfl) rfl),
      ok_plain rfl rfl (op_len (n := a2.length) (ltN rfl) (by rw [ss_56]; rfl) rfl rfl),
      ok_plain rfl rfl (op_bin (ltN rfl) rfl rfl rfl),
      trivial⟩ ?_
    refine fin_keep (s' := [kt 2 (.v (.slice a2_p a2.length a2_c)), kt 3 (.p 1 0), kt 4 (.p 2 0), kt 6 (.p 3 0), kt 25 (.B (decide ((((a2.length : Nat) : Int)) > 240))), kb 1 64 11, kb 2 72 8, kb 3 32 2, kc 1 0 (.i a0.Class), kc 1 1 (.i a0.Power), kc 1 2 (.i a0.Draught), kc 1 3 (.i a0.Tonnes), kc 1 4 (.v (.slice a0_Thrust_p a0.Thrust.length a0_Thrust_c)), kc 1 5 (.v (.slice a0_Water_p a0.Water.length a0_Water_c)), kc 1 6 (.v (.slice a0_Ice_p a0.Ice.length a0_Ice_c)), kc 1 7 (.i a0.Slow), kc 1 8 (.i a0.Brash), kc 1 9 (.i a0.Ridge), kc 1 10 (.i a0.Press), kc 2 0 (.i a1.Conc.Lo), kc 2 1 (.i a1.Conc.Hi), kc 2 2 (.i a1.Thick.Lo), kc 2 3 (.i a1.Thick.Hi), kc 2 4 (.i a1.Ridge.Lo), kc 2 5 (.i a1.Ridge.Hi), kc 2 6 (.i a1.Press.Lo), kc 2 7 (.i a1.Press.Hi), kc 3 0 (.i 0), kc 3 1 (.i 0)]) ?_ (kp rfl) rfl
    refine fin_then ?_
    refine aw_cond rfl (fun hz2 => ?_) (fun hz2 => ?_)
    · have hm := brk_t hz2 hm
      refine aw_seq ?_
      refine aw_text (rows := [_, _, _]) rfl (by kernel_rfl) ⟨
        ok_plain rfl rfl (op_build (x := .g [.i 0, .i 0]) (ltN rfl) EvL.nil (fun m w => by kernel_rfl)),
        ok_plain rfl rfl (op_storeN sz_32 rfl rfl rfl rfl rfl (by decide)),
        ok_plain rfl rfl (op_assign (ltN rfl) rfl),
        trivial⟩ ?_
      refine fin_keep (s' := [kt 6 (.p 3 0), kt 7 (.i 2), kb 3 32 2, kc 3 0 (.i 0), kc 3 1 (.i 0)]) ?_ (kp rfl) rfl
      refine fin_then ?_
      refine aw_ret ?_
      refine fin_then_ret ?_
      refine post_ret (x := .t [.g [.i 0, .i 0], .i 2]) rfl rfl (resOK_cellN (ys := [.i 0, .i 0]) rfl sh_32 rfl ⟨rfl, rfl, trivial⟩ (resOK_tmp rfl resOK_nil)) rfl (fun mm aa ww hr => ?_)
      have hm := Option.some.inj hm
      subst hm
      exact ⟨rfl, hr.below⟩
    · have hm := brk_f hz2 hm
      refine aw_skip ?_
      refine fin_then ?_
      refine aw_cutM (ι := Unit) hm (fun x1 => [kt 2 (.v (.slice a2_p a2.length a2_c)), kt 3 (.p 1 0), kt 4 (.p 2 0), kt 6 (.p 3 0), kb 1 64 11, kb 2 72 8, kb 3 32 2, kc 1 0 (.i a0.Class), kc 1 1 (.i a0.Power), kc 1 2 (.i a0.Draught), kc 1 3 (.i a0.Tonnes), kc 1 4 (.v (.slice a0_Thrust_p a0.Thrust.length a0_Thrust_c)), kc 1 5 (.v (.slice a0_Water_p a0.Water.length a0_Water_c)), kc 1 6 (.v (.slice a0_Ice_p a0.Ice.length a0_Ice_c)), kc 1 7 (.i a0.Slow), kc 1 8 (.i a0.Brash), kc 1 9 (.i a0.Ridge), kc 1 10 (.i a0.Press), kc 2 0 (.i a1.Conc.Lo), kc 2 1 (.i a1.Conc.Hi), kc 2 2 (.i a1.Thick.Lo), kc 2 3 (.i a1.Thick.Hi), kc 2 4 (.i a1.Ridge.Lo), kc 2 5 (.i a1.Ridge.Hi), kc 2 6 (.i a1.Press.Lo), kc 2 7 (.i a1.Press.Hi), kc 3 0 (.i 0), kc 3 1 (.i 0)]) (fun hm => ?_) (fun x1 hm => ?_)
      · have _z := hm
        refine aw_seq ?_
        refine aw_text (rows := [_]) rfl (by kernel_rfl) ⟨
          ok_plain rfl rfl (op_assign (ltN rfl) rfl),
          trivial⟩ ?_
        refine fin_keep (s' := [kt 2 (.v (.slice a2_p a2.length a2_c)), kt 3 (.p 1 0), kt 4 (.p 2 0), kt 6 (.p 3 0), kt 9 (.i 0), kb 1 64 11, kb 2 72 8, kb 3 32 2, kc 1 0 (.i a0.Class), kc 1 1 (.i a0.Power), kc 1 2 (.i a0.Draught), kc 1 3 (.i a0.Tonnes), kc 1 4 (.v (.slice a0_Thrust_p a0.Thrust.length a0_Thrust_c)), kc 1 5 (.v (.slice a0_Water_p a0.Water.length a0_Water_c)), kc 1 6 (.v (.slice a0_Ice_p a0.Ice.length a0_Ice_c)), kc 1 7 (.i a0.Slow), kc 1 8 (.i a0.Brash), kc 1 9 (.i a0.Ridge), kc 1 10 (.i a0.Press), kc 2 0 (.i a1.Conc.Lo), kc 2 1 (.i a1.Conc.Hi), kc 2 2 (.i a1.Thick.Lo), kc 2 3 (.i a1.Thick.Hi), kc 2 4 (.i a1.Ridge.Lo), kc 2 5 (.i a1.Ridge.Hi), kc 2 6 (.i a1.Press.Lo), kc 2 7 (.i a1.Press.Hi), kc 3 0 (.i 0), kc 3 1 (.i 0)]) ?_ (kp rfl) rfl
        refine fin_then ?_
        refine aw_block ?_
        refine aw_loopC hm (fun x2 => [kt 2 (.v (.slice a2_p a2.length a2_c)), kt 3 (.p 1 0), kt 4 (.p 2 0), kt 6 (.p 3 0), kt 9 (.i x2), kb 1 64 11, kb 2 72 8, kb 3 32 2, kc 1 0 (.i a0.Class), kc 1 1 (.i a0.Power), kc 1 2 (.i a0.Draught), kc 1 3 (.i a0.Tonnes), kc 1 4 (.v (.slice a0_Thrust_p a0.Thrust.length a0_Thrust_c)), kc 1 5 (.v (.slice a0_Water_p a0.Water.length a0_Water_c)), kc 1 6 (.v (.slice a0_Ice_p a0.Ice.length a0_Ice_c)), kc 1 7 (.i a0.Slow), kc 1 8 (.i a0.Brash), kc 1 9 (.i a0.Ridge), kc 1 10 (.i a0.Press), kc 2 0 (.i a1.Conc.Lo), kc 2 1 (.i a1.Conc.Hi), kc 2 2 (.i a1.Thick.Lo), kc 2 3 (.i a1.Thick.Hi), kc 2 4 (.i a1.Ridge.Lo), kc 2 5 (.i a1.Ridge.Hi), kc 2 6 (.i a1.Press.Lo), kc 2 7 (.i a1.Press.Hi), kc 3 0 (.i 0), kc 3 1 (.i 0)]) ⟨rfl, rfl, rfl, rfl, rfl, rfl, rfl, rfl, rfl, rfl, rfl, rfl, rfl, rfl, rfl, rfl, rfl, rfl, rfl, rfl, rfl, rfl, rfl, rfl, rfl, rfl, rfl, rfl, rfl, trivial⟩ rfl (fun x2 n2 hm => ?_)
        refine aw_seq ?_
        refine aw_seq ?_
        refine aw_text (rows := [_, _, _, _]) rfl (by kernel_rfl) ⟨
          ok_plain rfl rfl (op_move (ltN rfl) rfl),
          ok_plain rfl rfl (op_move (ltN rfl) rfl),
          ok_plain rfl rfl (op_len (n := a2.length) (ltN rfl) (by rw [ss_56]; rfl) rfl rfl),
          ok_plain rfl rfl (op_bin (ltN rfl) rfl rfl rfl),
          trivial⟩ ?_
        refine fin_keep (s' := [kt 2 (.v (.slice a2_p a2.length a2_c)), kt 3 (.p 1 0), kt 4 (.p 2 0), kt 6 (.p 3 0), kt 9 (.i x2), kt 30 (.B (decide (x2 < (((a2.length : Nat) : Int))))), kb 1 64 11, kb 2 72 8, kb 3 32 2, kc 1 0 (.i a0.Class), kc 1 1 (.i a0.Power), kc 1 2 (.i a0.Draught), kc 1 3 (.i a0.Tonnes), kc 1 4 (.v (.slice a0_Thrust_p a0.Thrust.length a0_Thrust_c)), kc 1 5 (.v (.slice a0_Water_p a0.Water.length a0_Water_c)), kc 1 6 (.v (.slice a0_Ice_p a0.Ice.length a0_Ice_c)), kc 1 7 (.i a0.Slow), kc 1 8 (.i a0.Brash), kc 1 9 (.i a0.Ridge), kc 1 10 (.i a0.Press), kc 2 0 (.i a1.Conc.Lo), kc 2 1 (.i a1.Conc.Hi), kc 2 2 (.i a1.Thick.Lo), kc 2 3 (.i a1.Thick.Hi), kc 2 4 (.i a1.Ridge.Lo), kc 2 5 (.i a1.Ridge.Hi), kc 2 6 (.i a1.Press.Lo), kc 2 7 (.i a1.Press.Hi), kc 3 0 (.i 0), kc 3 1 (.i 0)]) ?_ (kp rfl) rfl
        refine fin_then ?_
        refine aw_cond rfl (fun hz3 => ?_) (fun hz3 => ?_)
        · have hm := brk_t hz3 hm
          refine aw_skip ?_
          refine fin_then ?_
          refine aw_seq ?_
          refine aw_block ?_
          refine aw_seq ?_
          obtain ⟨hp4, hm⟩ := chk_some hm
          obtain ⟨v2, hv2, hm⟩ := bnd_some hm
          refine aw_text (rows := [_, _, _, _, _, _]) rfl (by kernel_rfl) ⟨
            ok_plain rfl rfl (op_move (ltN rfl) rfl),
            ok_plain rfl rfl (op_move (ltN rfl) rfl),
            ok_plain rfl rfl (op_ixB (ltN rfl) rfl rfl ss_56 (ha2_p (ne_of_ix (i := x2) hp4.1 hp4.2)) hp4.1 hp4.2),
            ok_plain rfl rfl (op_loadB (y := .g [.i (((sp a2 x2)).Lo), .i (((sp a2 x2)).Hi)]) (ltN rfl) rfl (ldN (ha2_L (ne_of_ix (i := x2) hp4.1 hp4.2)) ⟨0, 0⟩ (i := x2) hp4.1 hp4.2 0 (vs := [(.int .i64 (((sp a2 x2)).Lo)), (.int .i64 (((sp a2 x2)).Hi))]) (fun zq zv zh => sub_get (vs := [(.int .i64 (((sp a2 x2)).Lo)), (.int .i64 (((sp a2 x2)).Hi))]) rfl zh) rfl sh_32 rfl)),
            ok_plain rfl rfl (op_call (x := .B v2) (fs := []) (caps := []) (extra := []) (ltN rfl) en_102 rfl ⟨rfl, rfl, rfl⟩ (EvL.cons rfl (EvL.cons rfl EvL.nil)) (fun mm aa ww gg hr hrel => (c102 F ((sp a2 x2)) 3 ww v2 hv2))),
            ok_plain rfl rfl (op_not (ltN rfl) rfl),
            trivial⟩ ?_
          refine fin_keep (s' := [kt 2 (.v (.slice a2_p a2.length a2_c)), kt 3 (.p 1 0), kt 4 (.p 2 0), kt 6 (.p 3 0), kt 9 (.i x2), kt 38 (.B (!v2)), kb 1 64 11, kb 2 72 8, kb 3 32 2, kc 1 0 (.i a0.Class), kc 1 1 (.i a0.Power), kc 1 2 (.i a0.Draught), kc 1 3 (.i a0.Tonnes), kc 1 4 (.v (.slice a0_Thrust_p a0.Thrust.length a0_Thrust_c)), kc 1 5 (.v (.slice a0_Water_p a0.Water.length a0_Water_c)), kc 1 6 (.v (.slice a0_Ice_p a0.Ice.length a0_Ice_c)), kc 1 7 (.i a0.Slow), kc 1 8 (.i a0.Brash), kc 1 9 (.i a0.Ridge), kc 1 10 (.i a0.Press), kc 2 0 (.i a1.Conc.Lo), kc 2 1 (.i a1.Conc.Hi), kc 2 2 (.i a1.Thick.Lo), kc 2 3 (.i a1.Thick.Hi), kc 2 4 (.i a1.Ridge.Lo), kc 2 5 (.i a1.Ridge.Hi), kc 2 6 (.i a1.Press.Lo), kc 2 7 (.i a1.Press.Hi), kc 3 0 (.i 0), kc 3 1 (.i 0)]) ?_ (kp rfl) rfl
          refine fin_then ?_
          refine aw_cond rfl (fun hz5 => ?_) (fun hz5 => ?_)
          · have hm := brk_t hz5 hm
            refine aw_seq ?_
            refine aw_text (rows := [_, _, _]) rfl (by kernel_rfl) ⟨
              ok_plain rfl rfl (op_build (x := .g [.i 0, .i 0]) (ltN rfl) EvL.nil (fun m w => by kernel_rfl)),
              ok_plain rfl rfl (op_storeN sz_32 rfl rfl rfl rfl rfl (by decide)),
              ok_plain rfl rfl (op_assign (ltN rfl) rfl),
              trivial⟩ ?_
            refine fin_keep (s' := [kt 6 (.p 3 0), kt 7 (.i 6), kb 3 32 2, kc 3 0 (.i 0), kc 3 1 (.i 0)]) ?_ (kp rfl) rfl
            refine fin_then ?_
            refine aw_ret ?_
            refine fin_block_ret ?_
            refine fin_then_ret ?_
            refine fin_then_ret ?_
            refine fin_block_ret ?_
            refine fin_then_ret ?_
            refine post_ret (x := .t [.g [.i 0, .i 0], .i 6]) rfl rfl (resOK_cellN (ys := [.i 0, .i 0]) rfl sh_32 rfl ⟨rfl, rfl, trivial⟩ (resOK_tmp rfl resOK_nil)) rfl (fun mm aa ww hr => ?_)
            have hm := Option.some.inj hm
            subst hm
            exact ⟨rfl, hr.below⟩
          · have hm := brk_f hz5 hm
            refine aw_skip ?_
            refine fin_block ?_
            refine fin_then ?_
            obtain ⟨hp6, hm⟩ := chk_some hm
            refine aw_text (rows := [_, _, _]) rfl (by kernel_rfl) ⟨
              ok_plain rfl rfl (op_move (ltN rfl) rfl),
              ok_plain rfl rfl (op_bin (ltN rfl) rfl rfl (nw_add hp6)),
              ok_plain rfl rfl (op_assign (ltN rfl) rfl),
              trivial⟩ ?_
            refine fin_keep (s' := [kt 2 (.v (.slice a2_p a2.length a2_c)), kt 3 (.p 1 0), kt 4 (.p 2 0), kt 6 (.p 3 0), kt 9 (.i (x2 + 1)), kb 1 64 11, kb 2 72 8, kb 3 32 2, kc 1 0 (.i a0.Class), kc 1 1 (.i a0.Power), kc 1 2 (.i a0.Draught), kc 1 3 (.i a0.Tonnes), kc 1 4 (.v (.slice a0_Thrust_p a0.Thrust.length a0_Thrust_c)), kc 1 5 (.v (.slice a0_Water_p a0.Water.length a0_Water_c)), kc 1 6 (.v (.slice a0_Ice_p a0.Ice.length a0_Ice_c)), kc 1 7 (.i a0.Slow), kc 1 8 (.i a0.Brash), kc 1 9 (.i a0.Ridge), kc 1 10 (.i a0.Press), kc 2 0 (.i a1.Conc.Lo), kc 2 1 (.i a1.Conc.Hi), kc 2 2 (.i a1.Thick.Lo), kc 2 3 (.i a1.Thick.Hi), kc 2 4 (.i a1.Ridge.Lo), kc 2 5 (.i a1.Ridge.Hi), kc 2 6 (.i a1.Press.Lo), kc 2 7 (.i a1.Press.Hi), kc 3 0 (.i 0), kc 3 1 (.i 0)]) ?_ (kp rfl) rfl
            exact fin_cut (x2 + 1) hm ⟨rfl, rfl, rfl, rfl, rfl, rfl, rfl, rfl, rfl, rfl, rfl, rfl, rfl, rfl, rfl, rfl, rfl, rfl, rfl, rfl, rfl, rfl, rfl, rfl, rfl, rfl, rfl, rfl, rfl, trivial⟩ rfl
        · have hm := brk_f hz3 hm
          refine aw_exit ?_
          refine fin_then_exit ?_
          refine fin_then_exit ?_
          refine fin_block_exit ?_
          exact fin_cut () hm ⟨rfl, rfl, rfl, rfl, rfl, rfl, rfl, rfl, rfl, rfl, rfl, rfl, rfl, rfl, rfl, rfl, rfl, rfl, rfl, rfl, rfl, rfl, rfl, rfl, rfl, rfl, rfl, rfl, trivial⟩ rfl
      · have _z := hm
        refine aw_seq ?_
        refine aw_text (rows := [_, _]) rfl (by kernel_rfl) ⟨
          ok_plain rfl rfl (op_assign (ltN rfl) rfl),
          ok_plain rfl rfl (op_assign (ltN rfl) rfl),
          trivial⟩ ?_
        refine fin_keep (s' := [kt 2 (.v (.slice a2_p a2.length a2_c)), kt 3 (.p 1 0), kt 4 (.p 2 0), kt 6 (.p 3 0), kt 10 (.i ((-1))), kt 11 (.i ((-1))), kb 1 64 11, kb 2 72 8, kb 3 32 2, kc 1 0 (.i a0.Class), kc 1 1 (.i a0.Power), kc 1 2 (.i a0.Draught), kc 1 3 (.i a0.Tonnes), kc 1 4 (.v (.slice a0_Thrust_p a0.Thrust.length a0_Thrust_c)), kc 1 5 (.v (.slice a0_Water_p a0.Water.length a0_Water_c)), kc 1 6 (.v (.slice a0_Ice_p a0.Ice.length a0_Ice_c)), kc 1 7 (.i a0.Slow), kc 1 8 (.i a0.Brash), kc 1 9 (.i a0.Ridge), kc 1 10 (.i a0.Press), kc 2 0 (.i a1.Conc.Lo), kc 2 1 (.i a1.Conc.Hi), kc 2 2 (.i a1.Thick.Lo), kc 2 3 (.i a1.Thick.Hi), kc 2 4 (.i a1.Ridge.Lo), kc 2 5 (.i a1.Ridge.Hi), kc 2 6 (.i a1.Press.Lo), kc 2 7 (.i a1.Press.Hi), kc 3 0 (.i 0), kc 3 1 (.i 0)]) ?_ (kp rfl) rfl
        refine fin_then ?_
        refine aw_cutM (ι := Int × Int) hm (fun x3 => [kt 6 (.p 3 0), kt 10 (.i x3.1), kt 11 (.i x3.2), kb 3 32 2, kc 3 0 (.i 0), kc 3 1 (.i 0)]) (fun hm => ?_) (fun x3 hm => ?_)
        · have _z := hm
          refine aw_seq ?_
          refine aw_text (rows := [_]) rfl (by kernel_rfl) ⟨
            ok_plain rfl rfl (op_assign (ltN rfl) rfl),
            trivial⟩ ?_
          refine fin_keep (s' := [kt 2 (.v (.slice a2_p a2.length a2_c)), kt 3 (.p 1 0), kt 4 (.p 2 0), kt 6 (.p 3 0), kt 10 (.i ((-1))), kt 11 (.i ((-1))), kt 12 (.i 0), kb 1 64 11, kb 2 72 8, kb 3 32 2, kc 1 0 (.i a0.Class), kc 1 1 (.i a0.Power), kc 1 2 (.i a0.Draught), kc 1 3 (.i a0.Tonnes), kc 1 4 (.v (.slice a0_Thrust_p a0.Thrust.length a0_Thrust_c)), kc 1 5 (.v (.slice a0_Water_p a0.Water.length a0_Water_c)), kc 1 6 (.v (.slice a0_Ice_p a0.Ice.length a0_Ice_c)), kc 1 7 (.i a0.Slow), kc 1 8 (.i a0.Brash), kc 1 9 (.i a0.Ridge), kc 1 10 (.i a0.Press), kc 2 0 (.i a1.Conc.Lo), kc 2 1 (.i a1.Conc.Hi), kc 2 2 (.i a1.Thick.Lo), kc 2 3 (.i a1.Thick.Hi), kc 2 4 (.i a1.Ridge.Lo), kc 2 5 (.i a1.Ridge.Hi), kc 2 6 (.i a1.Press.Lo), kc 2 7 (.i a1.Press.Hi), kc 3 0 (.i 0), kc 3 1 (.i 0)]) ?_ (kp rfl) rfl
          refine fin_then ?_
          refine aw_block ?_
          refine aw_loopC hm (fun x4 => [kt 2 (.v (.slice a2_p a2.length a2_c)), kt 3 (.p 1 0), kt 4 (.p 2 0), kt 6 (.p 3 0), kt 10 (.i x4.1), kt 11 (.i x4.2.1), kt 12 (.i x4.2.2.1), kb 1 64 11, kb 2 72 8, kb 3 32 2, kc 1 0 (.i a0.Class), kc 1 1 (.i a0.Power), kc 1 2 (.i a0.Draught), kc 1 3 (.i a0.Tonnes), kc 1 4 (.v (.slice a0_Thrust_p a0.Thrust.length a0_Thrust_c)), kc 1 5 (.v (.slice a0_Water_p a0.Water.length a0_Water_c)), kc 1 6 (.v (.slice a0_Ice_p a0.Ice.length a0_Ice_c)), kc 1 7 (.i a0.Slow), kc 1 8 (.i a0.Brash), kc 1 9 (.i a0.Ridge), kc 1 10 (.i a0.Press), kc 2 0 (.i a1.Conc.Lo), kc 2 1 (.i a1.Conc.Hi), kc 2 2 (.i a1.Thick.Lo), kc 2 3 (.i a1.Thick.Hi), kc 2 4 (.i a1.Ridge.Lo), kc 2 5 (.i a1.Ridge.Hi), kc 2 6 (.i x4.2.2.2.1), kc 2 7 (.i x4.2.2.2.2), kc 3 0 (.i 0), kc 3 1 (.i 0)]) ⟨rfl, rfl, rfl, rfl, rfl, rfl, rfl, rfl, rfl, rfl, rfl, rfl, rfl, rfl, rfl, rfl, rfl, rfl, rfl, rfl, rfl, rfl, rfl, rfl, rfl, rfl, rfl, rfl, rfl, rfl, rfl, trivial⟩ rfl (fun x4 n4 hm => ?_)
          refine aw_seq ?_
          refine aw_seq ?_
          refine aw_text (rows := [_, _, _, _]) rfl (by kernel_rfl) ⟨
            ok_plain rfl rfl (op_move (ltN rfl) rfl),
            ok_plain rfl rfl (op_move (ltN rfl) rfl),
            ok_plain rfl rfl (op_len (n := a2.length) (ltN rfl) (by rw [ss_56]; rfl) rfl rfl),
            ok_plain rfl rfl (op_bin (ltN rfl) rfl rfl rfl),
            trivial⟩ ?_
          refine fin_keep (s' := [kt 2 (.v (.slice a2_p a2.length a2_c)), kt 3 (.p 1 0), kt 4 (.p 2 0), kt 6 (.p 3 0), kt 10 (.i x4.1), kt 11 (.i x4.2.1), kt 12 (.i x4.2.2.1), kt 43 (.B (decide (x4.2.2.1 < (((a2.length : Nat) : Int))))), kb 1 64 11, kb 2 72 8, kb 3 32 2, kc 1 0 (.i a0.Class), kc 1 1 (.i a0.Power), kc 1 2 (.i a0.Draught), kc 1 3 (.i a0.Tonnes), kc 1 4 (.v (.slice a0_Thrust_p a0.Thrust.length a0_Thrust_c)), kc 1 5 (.v (.slice a0_Water_p a0.Water.length a0_Water_c)), kc 1 6 (.v (.slice a0_Ice_p a0.Ice.length a0_Ice_c)), kc 1 7 (.i a0.Slow), kc 1 8 (.i a0.Brash), kc 1 9 (.i a0.Ridge), kc 1 10 (.i a0.Press), kc 2 0 (.i a1.Conc.Lo), kc 2 1 (.i a1.Conc.Hi), kc 2 2 (.i a1.Thick.Lo), kc 2 3 (.i a1.Thick.Hi), kc 2 4 (.i a1.Ridge.Lo), kc 2 5 (.i a1.Ridge.Hi), kc 2 6 (.i x4.2.2.2.1), kc 2 7 (.i x4.2.2.2.2), kc 3 0 (.i 0), kc 3 1 (.i 0)]) ?_ (kp rfl) rfl
          refine fin_then ?_
          refine aw_cond rfl (fun hz7 => ?_) (fun hz7 => ?_)
          · have hm := brk_t hz7 hm
            refine aw_skip ?_
            refine fin_then ?_
            refine aw_cutM (ι := Int × Int × Int × Int) hm (fun x5 => [kt 2 (.v (.slice a2_p a2.length a2_c)), kt 3 (.p 1 0), kt 4 (.p 2 0), kt 6 (.p 3 0), kt 10 (.i x5.1), kt 11 (.i x5.2.1), kt 12 (.i x4.2.2.1), kb 1 64 11, kb 2 72 8, kb 3 32 2, kc 1 0 (.i a0.Class), kc 1 1 (.i a0.Power), kc 1 2 (.i a0.Draught), kc 1 3 (.i a0.Tonnes), kc 1 4 (.v (.slice a0_Thrust_p a0.Thrust.length a0_Thrust_c)), kc 1 5 (.v (.slice a0_Water_p a0.Water.length a0_Water_c)), kc 1 6 (.v (.slice a0_Ice_p a0.Ice.length a0_Ice_c)), kc 1 7 (.i a0.Slow), kc 1 8 (.i a0.Brash), kc 1 9 (.i a0.Ridge), kc 1 10 (.i a0.Press), kc 2 0 (.i a1.Conc.Lo), kc 2 1 (.i a1.Conc.Hi), kc 2 2 (.i a1.Thick.Lo), kc 2 3 (.i a1.Thick.Hi), kc 2 4 (.i a1.Ridge.Lo), kc 2 5 (.i a1.Ridge.Hi), kc 2 6 (.i x5.2.2.1), kc 2 7 (.i x5.2.2.2), kc 3 0 (.i 0), kc 3 1 (.i 0)]) (fun hm => ?_) (fun x5 hm => ?_)
            · have _z := hm
              refine aw_block ?_
              refine aw_seq ?_
              obtain ⟨hp8, hm⟩ := chk_some hm
              refine aw_text (rows := [_, _, _, _, _, _]) rfl (by kernel_rfl) ⟨
                ok_plain rfl rfl (op_move (ltN rfl) rfl),
                ok_plain rfl rfl (op_move (ltN rfl) rfl),
                ok_plain rfl rfl (op_ixB (ltN rfl) rfl rfl ss_56 (ha2_p (ne_of_ix (i := x4.2.2.1) hp8.1 hp8.2)) hp8.1 hp8.2),
                ok_plain rfl rfl (op_loadB (y := .g [.i (((sp a2 x4.2.2.1)).Lo), .i (((sp a2 x4.2.2.1)).Hi)]) (ltN rfl) rfl (ldN (ha2_L (ne_of_ix (i := x4.2.2.1) hp8.1 hp8.2)) ⟨0, 0⟩ (i := x4.2.2.1) hp8.1 hp8.2 0 (vs := [(.int .i64 (((sp a2 x4.2.2.1)).Lo)), (.int .i64 (((sp a2 x4.2.2.1)).Hi))]) (fun zq zv zh => sub_get (vs := [(.int .i64 (((sp a2 x4.2.2.1)).Lo)), (.int .i64 (((sp a2 x4.2.2.1)).Hi))]) rfl zh) rfl sh_32 rfl)),
                ok_plain rfl rfl (op_fieldAddr (ltN rfl) rfl fo_72_3),
                ok_plain rfl rfl (op_storeN sz_32 rfl rfl rfl rfl rfl (by decide)),
                trivial⟩ ?_
              refine fin_keep (s' := [kt 2 (.v (.slice a2_p a2.length a2_c)), kt 3 (.p 1 0), kt 4 (.p 2 0), kt 6 (.p 3 0), kt 10 (.i x4.1), kt 11 (.i x4.2.1), kt 12 (.i x4.2.2.1), kb 1 64 11, kb 2 72 8, kb 3 32 2, kc 1 0 (.i a0.Class), kc 1 1 (.i a0.Power), kc 1 2 (.i a0.Draught), kc 1 3 (.i a0.Tonnes), kc 1 4 (.v (.slice a0_Thrust_p a0.Thrust.length a0_Thrust_c)), kc 1 5 (.v (.slice a0_Water_p a0.Water.length a0_Water_c)), kc 1 6 (.v (.slice a0_Ice_p a0.Ice.length a0_Ice_c)), kc 1 7 (.i a0.Slow), kc 1 8 (.i a0.Brash), kc 1 9 (.i a0.Ridge), kc 1 10 (.i a0.Press), kc 2 0 (.i a1.Conc.Lo), kc 2 1 (.i a1.Conc.Hi), kc 2 2 (.i a1.Thick.Lo), kc 2 3 (.i a1.Thick.Hi), kc 2 4 (.i a1.Ridge.Lo), kc 2 5 (.i a1.Ridge.Hi), kc 2 6 (.i (((sp a2 x4.2.2.1)).Lo)), kc 2 7 (.i (((sp a2 x4.2.2.1)).Hi)), kc 3 0 (.i 0), kc 3 1 (.i 0)]) ?_ (kp rfl) rfl
              refine fin_then ?_
              refine aw_seq ?_
              obtain ⟨v3, hv3, hm⟩ := bnd_some hm
              refine aw_text (rows := [_, _, _, _, _, _, _, _, _, _]) rfl (by kernel_rfl) ⟨
                ok_plain rfl rfl (op_loadN (ys := [.i a0.Class, .i a0.Power, .i a0.Draught, .i a0.Tonnes, .v (.slice a0_Thrust_p a0.Thrust.length a0_Thrust_c), .v (.slice a0_Water_p a0.Water.length a0_Water_c), .v (.slice a0_Ice_p a0.Ice.length a0_Ice_c), .i a0.Slow, .i a0.Brash, .i a0.Ridge, .i a0.Press]) (ltN rfl) sh_64 rfl rfl ⟨rfl, rfl, rfl, rfl, rfl, rfl, rfl, rfl, rfl, rfl, rfl, trivial⟩),
                ok_plain rfl rfl (op_loadN (ys := [.i a1.Conc.Lo, .i a1.Conc.Hi, .i a1.Thick.Lo, .i a1.Thick.Hi, .i a1.Ridge.Lo, .i a1.Ridge.Hi, .i (((sp a2 x4.2.2.1)).Lo), .i (((sp a2 x4.2.2.1)).Hi)]) (ltN rfl) sh_72 rfl rfl ⟨rfl, rfl, rfl, rfl, rfl, rfl, rfl, rfl, trivial⟩),
                ok_plain rfl rfl (op_call (x := .t [.B v3.1, .B v3.2.1, .i v3.2.2]) (fs := []) (caps := []) (extra := []) (ltN rfl) en_64 rfl ⟨rfl, rfl, rfl⟩ (EvL.cons rfl (EvL.cons rfl (EvL.cons rfl EvL.nil))) (fun mm aa ww gg hr hrel => (c64 F a0 ⟨a0_Thrust_p, a0.Thrust.length, a0_Thrust_c⟩ ⟨a0_Water_p, a0.Water.length, a0_Water_c⟩ ⟨a0_Ice_p, a0.Ice.length, a0_Ice_c⟩ ((⟨a1.Conc, a1.Thick, a1.Ridge, (sp a2 x4.2.2.1)⟩ : Cell)) false ww (SlIs.mono ha0_Thrust hrel.below) (SlIs.mono ha0_Water hrel.below) (SlIs.mono ha0_Ice hrel.below) v3 hv3))),
                ok_plain rfl rfl (op_move (ltN rfl) rfl),
                ok_plain rfl rfl (op_extract (ltN rfl) rfl rfl),
                ok_plain rfl rfl (op_extract (ltN rfl) rfl rfl),
                ok_plain rfl rfl (op_extract (ltN rfl) rfl rfl),
                ok_plain rfl rfl (op_assign (ltN rfl) rfl),
                ok_plain rfl rfl (op_assign (ltN rfl) rfl),
                ok_plain rfl rfl (op_assign (ltN rfl) rfl),
                trivial⟩ ?_
              refine fin_keep (s' := [kt 2 (.v (.slice a2_p a2.length a2_c)), kt 3 (.p 1 0), kt 4 (.p 2 0), kt 6 (.p 3 0), kt 10 (.i x4.1), kt 11 (.i x4.2.1), kt 12 (.i x4.2.2.1), kt 13 (.B v3.1), kt 14 (.B v3.2.1), kb 1 64 11, kb 2 72 8, kb 3 32 2, kc 1 0 (.i a0.Class), kc 1 1 (.i a0.Power), kc 1 2 (.i a0.Draught), kc 1 3 (.i a0.Tonnes), kc 1 4 (.v (.slice a0_Thrust_p a0.Thrust.length a0_Thrust_c)), kc 1 5 (.v (.slice a0_Water_p a0.Water.length a0_Water_c)), kc 1 6 (.v (.slice a0_Ice_p a0.Ice.length a0_Ice_c)), kc 1 7 (.i a0.Slow), kc 1 8 (.i a0.Brash), kc 1 9 (.i a0.Ridge), kc 1 10 (.i a0.Press), kc 2 0 (.i a1.Conc.Lo), kc 2 1 (.i a1.Conc.Hi), kc 2 2 (.i a1.Thick.Lo), kc 2 3 (.i a1.Thick.Hi), kc 2 4 (.i a1.Ridge.Lo), kc 2 5 (.i a1.Ridge.Hi), kc 2 6 (.i (((sp a2 x4.2.2.1)).Lo)), kc 2 7 (.i (((sp a2 x4.2.2.1)).Hi)), kc 3 0 (.i 0), kc 3 1 (.i 0)]) ?_ (kp rfl) rfl
              refine fin_then ?_
              refine aw_cutM (ι := Int) hm (fun x6 => [kt 2 (.v (.slice a2_p a2.length a2_c)), kt 3 (.p 1 0), kt 4 (.p 2 0), kt 6 (.p 3 0), kt 10 (.i x6), kt 11 (.i x4.2.1), kt 12 (.i x4.2.2.1), kt 13 (.B v3.1), kb 1 64 11, kb 2 72 8, kb 3 32 2, kc 1 0 (.i a0.Class), kc 1 1 (.i a0.Power), kc 1 2 (.i a0.Draught), kc 1 3 (.i a0.Tonnes), kc 1 4 (.v (.slice a0_Thrust_p a0.Thrust.length a0_Thrust_c)), kc 1 5 (.v (.slice a0_Water_p a0.Water.length a0_Water_c)), kc 1 6 (.v (.slice a0_Ice_p a0.Ice.length a0_Ice_c)), kc 1 7 (.i a0.Slow), kc 1 8 (.i a0.Brash), kc 1 9 (.i a0.Ridge), kc 1 10 (.i a0.Press), kc 2 0 (.i a1.Conc.Lo), kc 2 1 (.i a1.Conc.Hi), kc 2 2 (.i a1.Thick.Lo), kc 2 3 (.i a1.Thick.Hi), kc 2 4 (.i a1.Ridge.Lo), kc 2 5 (.i a1.Ridge.Hi), kc 2 6 (.i (((sp a2 x4.2.2.1)).Lo)), kc 2 7 (.i (((sp a2 x4.2.2.1)).Hi)), kc 3 0 (.i 0), kc 3 1 (.i 0)]) (fun hm => ?_) (fun x6 hm => ?_)
              · have _z := hm
                refine aw_seq ?_
                refine aw_text (rows := [_, _, _, _, _, _]) rfl (by kernel_rfl) ⟨
                  ok_plain rfl rfl (op_move (ltN rfl) rfl),
                  ok_plain rfl rfl (op_bin (ltN rfl) rfl rfl rfl),
                  ok_plain rfl rfl (op_move (ltN rfl) rfl),
                  ok_if (ltN rfl) rfl rfl rfl rfl rfl rfl (fun hg9 => op_move (ltN rfl) (force_x rfl)),
                  ok_if (ltN rfl) rfl rfl rfl rfl rfl rfl (fun hg10 => op_not (ltN rfl) (force_eq (beq_iff_eq.2 hg10) rfl)),
                  ok_plain rfl rfl (op_and (ltN rfl) rfl rfl),
                  trivial⟩ ?_
                refine fin_keep (s' := [kt 2 (.v (.slice a2_p a2.length a2_c)), kt 3 (.p 1 0), kt 4 (.p 2 0), kt 6 (.p 3 0), kt 10 (.i x4.1), kt 11 (.i x4.2.1), kt 12 (.i x4.2.2.1), kt 13 (.B v3.1), kt 63 (.B ((decide (x4.1 < 0)) && (!v3.2.1))), kb 1 64 11, kb 2 72 8, kb 3 32 2, kc 1 0 (.i a0.Class), kc 1 1 (.i a0.Power), kc 1 2 (.i a0.Draught), kc 1 3 (.i a0.Tonnes), kc 1 4 (.v (.slice a0_Thrust_p a0.Thrust.length a0_Thrust_c)), kc 1 5 (.v (.slice a0_Water_p a0.Water.length a0_Water_c)), kc 1 6 (.v (.slice a0_Ice_p a0.Ice.length a0_Ice_c)), kc 1 7 (.i a0.Slow), kc 1 8 (.i a0.Brash), kc 1 9 (.i a0.Ridge), kc 1 10 (.i a0.Press), kc 2 0 (.i a1.Conc.Lo), kc 2 1 (.i a1.Conc.Hi), kc 2 2 (.i a1.Thick.Lo), kc 2 3 (.i a1.Thick.Hi), kc 2 4 (.i a1.Ridge.Lo), kc 2 5 (.i a1.Ridge.Hi), kc 2 6 (.i (((sp a2 x4.2.2.1)).Lo)), kc 2 7 (.i (((sp a2 x4.2.2.1)).Hi)), kc 3 0 (.i 0), kc 3 1 (.i 0)]) ?_ (kp rfl) rfl
                refine fin_then ?_
                refine aw_cond rfl (fun hz11 => ?_) (fun hz11 => ?_)
                · have hm := brk_t hz11 hm
                  refine aw_text (rows := [_, _]) rfl (by kernel_rfl) ⟨
                    ok_plain rfl rfl (op_move (ltN rfl) rfl),
                    ok_plain rfl rfl (op_assign (ltN rfl) rfl),
                    trivial⟩ ?_
                  refine fin_keep (s' := [kt 2 (.v (.slice a2_p a2.length a2_c)), kt 3 (.p 1 0), kt 4 (.p 2 0), kt 6 (.p 3 0), kt 10 (.i x4.2.2.1), kt 11 (.i x4.2.1), kt 12 (.i x4.2.2.1), kt 13 (.B v3.1), kb 1 64 11, kb 2 72 8, kb 3 32 2, kc 1 0 (.i a0.Class), kc 1 1 (.i a0.Power), kc 1 2 (.i a0.Draught), kc 1 3 (.i a0.Tonnes), kc 1 4 (.v (.slice a0_Thrust_p a0.Thrust.length a0_Thrust_c)), kc 1 5 (.v (.slice a0_Water_p a0.Water.length a0_Water_c)), kc 1 6 (.v (.slice a0_Ice_p a0.Ice.length a0_Ice_c)), kc 1 7 (.i a0.Slow), kc 1 8 (.i a0.Brash), kc 1 9 (.i a0.Ridge), kc 1 10 (.i a0.Press), kc 2 0 (.i a1.Conc.Lo), kc 2 1 (.i a1.Conc.Hi), kc 2 2 (.i a1.Thick.Lo), kc 2 3 (.i a1.Thick.Hi), kc 2 4 (.i a1.Ridge.Lo), kc 2 5 (.i a1.Ridge.Hi), kc 2 6 (.i (((sp a2 x4.2.2.1)).Lo)), kc 2 7 (.i (((sp a2 x4.2.2.1)).Hi)), kc 3 0 (.i 0), kc 3 1 (.i 0)]) ?_ (kp rfl) rfl
                  exact fin_cut x4.2.2.1 hm ⟨rfl, rfl, rfl, rfl, rfl, rfl, rfl, rfl, rfl, rfl, rfl, rfl, rfl, rfl, rfl, rfl, rfl, rfl, rfl, rfl, rfl, rfl, rfl, rfl, rfl, rfl, rfl, rfl, rfl, rfl, rfl, rfl, trivial⟩ rfl
                · have hm := brk_f hz11 hm
                  refine aw_skip ?_
                  exact fin_cut x4.1 hm ⟨rfl, rfl, rfl, rfl, rfl, rfl, rfl, rfl, rfl, rfl, rfl, rfl, rfl, rfl, rfl, rfl, rfl, rfl, rfl, rfl, rfl, rfl, rfl, rfl, rfl, rfl, rfl, rfl, rfl, rfl, rfl, rfl, trivial⟩ rfl
              · have _z := hm
                refine aw_seq ?_
                refine aw_text (rows := [_, _, _, _, _, _]) rfl (by kernel_rfl) ⟨
                  ok_plain rfl rfl (op_move (ltN rfl) rfl),
                  ok_plain rfl rfl (op_bin (ltN rfl) rfl rfl rfl),
                  ok_plain rfl rfl (op_move (ltN rfl) rfl),
                  ok_if (ltN rfl) rfl rfl rfl rfl rfl rfl (fun hg12 => op_move (ltN rfl) (force_x rfl)),
                  ok_if (ltN rfl) rfl rfl rfl rfl rfl rfl (fun hg13 => op_not (ltN rfl) (force_eq (beq_iff_eq.2 hg13) rfl)),
                  ok_plain rfl rfl (op_and (ltN rfl) rfl rfl),
                  trivial⟩ ?_
                refine fin_keep (s' := [kt 2 (.v (.slice a2_p a2.length a2_c)), kt 3 (.p 1 0), kt 4 (.p 2 0), kt 6 (.p 3 0), kt 10 (.i x6), kt 11 (.i x4.2.1), kt 12 (.i x4.2.2.1), kt 70 (.B ((decide (x4.2.1 < 0)) && (!v3.1))), kb 1 64 11, kb 2 72 8, kb 3 32 2, kc 1 0 (.i a0.Class), kc 1 1 (.i a0.Power), kc 1 2 (.i a0.Draught), kc 1 3 (.i a0.Tonnes), kc 1 4 (.v (.slice a0_Thrust_p a0.Thrust.length a0_Thrust_c)), kc 1 5 (.v (.slice a0_Water_p a0.Water.length a0_Water_c)), kc 1 6 (.v (.slice a0_Ice_p a0.Ice.length a0_Ice_c)), kc 1 7 (.i a0.Slow), kc 1 8 (.i a0.Brash), kc 1 9 (.i a0.Ridge), kc 1 10 (.i a0.Press), kc 2 0 (.i a1.Conc.Lo), kc 2 1 (.i a1.Conc.Hi), kc 2 2 (.i a1.Thick.Lo), kc 2 3 (.i a1.Thick.Hi), kc 2 4 (.i a1.Ridge.Lo), kc 2 5 (.i a1.Ridge.Hi), kc 2 6 (.i (((sp a2 x4.2.2.1)).Lo)), kc 2 7 (.i (((sp a2 x4.2.2.1)).Hi)), kc 3 0 (.i 0), kc 3 1 (.i 0)]) ?_ (kp rfl) rfl
                refine fin_then ?_
                refine aw_cond rfl (fun hz14 => ?_) (fun hz14 => ?_)
                · have hm := brk_t hz14 hm
                  refine aw_text (rows := [_, _]) rfl (by kernel_rfl) ⟨
                    ok_plain rfl rfl (op_move (ltN rfl) rfl),
                    ok_plain rfl rfl (op_assign (ltN rfl) rfl),
                    trivial⟩ ?_
                  refine fin_keep (s' := [kt 2 (.v (.slice a2_p a2.length a2_c)), kt 3 (.p 1 0), kt 4 (.p 2 0), kt 6 (.p 3 0), kt 10 (.i x6), kt 11 (.i x4.2.2.1), kt 12 (.i x4.2.2.1), kb 1 64 11, kb 2 72 8, kb 3 32 2, kc 1 0 (.i a0.Class), kc 1 1 (.i a0.Power), kc 1 2 (.i a0.Draught), kc 1 3 (.i a0.Tonnes), kc 1 4 (.v (.slice a0_Thrust_p a0.Thrust.length a0_Thrust_c)), kc 1 5 (.v (.slice a0_Water_p a0.Water.length a0_Water_c)), kc 1 6 (.v (.slice a0_Ice_p a0.Ice.length a0_Ice_c)), kc 1 7 (.i a0.Slow), kc 1 8 (.i a0.Brash), kc 1 9 (.i a0.Ridge), kc 1 10 (.i a0.Press), kc 2 0 (.i a1.Conc.Lo), kc 2 1 (.i a1.Conc.Hi), kc 2 2 (.i a1.Thick.Lo), kc 2 3 (.i a1.Thick.Hi), kc 2 4 (.i a1.Ridge.Lo), kc 2 5 (.i a1.Ridge.Hi), kc 2 6 (.i (((sp a2 x4.2.2.1)).Lo)), kc 2 7 (.i (((sp a2 x4.2.2.1)).Hi)), kc 3 0 (.i 0), kc 3 1 (.i 0)]) ?_ (kp rfl) rfl
                  refine fin_block ?_
                  exact fin_cut (x6, x4.2.2.1, ((sp a2 x4.2.2.1)).Lo, ((sp a2 x4.2.2.1)).Hi) hm ⟨rfl, rfl, rfl, rfl, rfl, rfl, rfl, rfl, rfl, rfl, rfl, rfl, rfl, rfl, rfl, rfl, rfl, rfl, rfl, rfl, rfl, rfl, rfl, rfl, rfl, rfl, rfl, rfl, rfl, rfl, rfl, trivial⟩ rfl
                · have hm := brk_f hz14 hm
                  refine aw_skip ?_
                  refine fin_block ?_
                  exact fin_cut (x6, x4.2.1, ((sp a2 x4.2.2.1)).Lo, ((sp a2 x4.2.2.1)).Hi) hm ⟨rfl, rfl, rfl, rfl, rfl, rfl, rfl, rfl, rfl, rfl, rfl, rfl, rfl, rfl, rfl, rfl, rfl, rfl, rfl, rfl, rfl, rfl, rfl, rfl, rfl, rfl, rfl, rfl, rfl, rfl, rfl, trivial⟩ rfl
            · have _z := hm
              obtain ⟨hp15, hm⟩ := chk_some hm
              refine aw_text (rows := [_, _, _]) rfl (by kernel_rfl) ⟨
                ok_plain rfl rfl (op_move (ltN rfl) rfl),
                ok_plain rfl rfl (op_bin (ltN rfl) rfl rfl (nw_add hp15)),
                ok_plain rfl rfl (op_assign (ltN rfl) rfl),
                trivial⟩ ?_
              refine fin_keep (s' := [kt 2 (.v (.slice a2_p a2.length a2_c)), kt 3 (.p 1 0), kt 4 (.p 2 0), kt 6 (.p 3 0), kt 10 (.i x5.1), kt 11 (.i x5.2.1), kt 12 (.i (x4.2.2.1 + 1)), kb 1 64 11, kb 2 72 8, kb 3 32 2, kc 1 0 (.i a0.Class), kc 1 1 (.i a0.Power), kc 1 2 (.i a0.Draught), kc 1 3 (.i a0.Tonnes), kc 1 4 (.v (.slice a0_Thrust_p a0.Thrust.length a0_Thrust_c)), kc 1 5 (.v (.slice a0_Water_p a0.Water.length a0_Water_c)), kc 1 6 (.v (.slice a0_Ice_p a0.Ice.length a0_Ice_c)), kc 1 7 (.i a0.Slow), kc 1 8 (.i a0.Brash), kc 1 9 (.i a0.Ridge), kc 1 10 (.i a0.Press), kc 2 0 (.i a1.Conc.Lo), kc 2 1 (.i a1.Conc.Hi), kc 2 2 (.i a1.Thick.Lo), kc 2 3 (.i a1.Thick.Hi), kc 2 4 (.i a1.Ridge.Lo), kc 2 5 (.i a1.Ridge.Hi), kc 2 6 (.i x5.2.2.1), kc 2 7 (.i x5.2.2.2), kc 3 0 (.i 0), kc 3 1 (.i 0)]) ?_ (kp rfl) rfl
              exact fin_cut (x5.1, x5.2.1, x4.2.2.1 + 1, x5.2.2.1, x5.2.2.2) hm ⟨rfl, rfl, rfl, rfl, rfl, rfl, rfl, rfl, rfl, rfl, rfl, rfl, rfl, rfl, rfl, rfl, rfl, rfl, rfl, rfl, rfl, rfl, rfl, rfl, rfl, rfl, rfl, rfl, rfl, rfl, rfl, trivial⟩ rfl
          · have hm := brk_f hz7 hm
            refine aw_exit ?_
            refine fin_then_exit ?_
            refine fin_then_exit ?_
            refine fin_block_exit ?_
            exact fin_cut (x4.1, x4.2.1) hm ⟨rfl, rfl, rfl, rfl, rfl, rfl, trivial⟩ rfl
        · have _z := hm
          refine aw_seq ?_
          refine aw_seq ?_
          refine aw_text (rows := [_, _]) rfl (by kernel_rfl) ⟨
            ok_plain rfl rfl (op_move (ltN rfl) rfl),
            ok_plain rfl rfl (op_bin (ltN rfl) rfl rfl rfl),
            trivial⟩ ?_
          refine fin_keep (s' := [kt 6 (.p 3 0), kt 10 (.i x3.1), kt 11 (.i x3.2), kt 73 (.B (decide (x3.2 < 0))), kb 3 32 2, kc 3 0 (.i 0), kc 3 1 (.i 0)]) ?_ (kp rfl) rfl
          refine fin_then ?_
          refine aw_cond rfl (fun hz16 => ?_) (fun hz16 => ?_)
          · have hm := brk_t hz16 hm
            refine aw_seq ?_
            refine aw_text (rows := [_, _, _]) rfl (by kernel_rfl) ⟨
              ok_plain rfl rfl (op_build (x := .g [.i 0, .i 0]) (ltN rfl) EvL.nil (fun m w => by kernel_rfl)),
              ok_plain rfl rfl (op_storeN sz_32 rfl rfl rfl rfl rfl (by decide)),
              ok_plain rfl rfl (op_assign (ltN rfl) rfl),
              trivial⟩ ?_
            refine fin_keep (s' := [kt 6 (.p 3 0), kt 7 (.i 4), kb 3 32 2, kc 3 0 (.i 0), kc 3 1 (.i 0)]) ?_ (kp rfl) rfl
            refine fin_then ?_
            refine aw_ret ?_
            refine fin_then_ret ?_
            refine post_ret (x := .t [.g [.i 0, .i 0], .i 4]) rfl rfl (resOK_cellN (ys := [.i 0, .i 0]) rfl sh_32 rfl ⟨rfl, rfl, trivial⟩ (resOK_tmp rfl resOK_nil)) rfl (fun mm aa ww hr => ?_)
            have hm := Option.some.inj hm
            subst hm
            exact ⟨rfl, hr.below⟩
          · have hm := brk_f hz16 hm
            refine aw_skip ?_
            refine fin_then ?_
            refine aw_seq ?_
            refine aw_text (rows := [_, _, _, _, _]) rfl (by kernel_rfl) ⟨
              ok_plain rfl rfl (op_move (ltN rfl) rfl),
              ok_plain rfl rfl (op_move (ltN rfl) rfl),
              ok_plain rfl rfl (op_build (x := .g [.i x3.1, .i x3.2]) (ltN rfl) (EvL.cons rfl (EvL.cons rfl EvL.nil)) (fun m w => by kernel_rfl)),
              ok_plain rfl rfl (op_storeN sz_32 rfl rfl rfl rfl rfl (by decide)),
              ok_plain rfl rfl (op_assign (ltN rfl) rfl),
              trivial⟩ ?_
            refine fin_keep (s' := [kt 6 (.p 3 0), kt 7 (.i 0), kb 3 32 2, kc 3 0 (.i x3.1), kc 3 1 (.i x3.2)]) ?_ (kp rfl) rfl
            refine fin_then ?_
            refine aw_ret ?_
            refine post_ret (x := .t [.g [.i x3.1, .i x3.2], .i 0]) rfl rfl (resOK_cellN (ys := [.i x3.1, .i x3.2]) rfl sh_32 rfl ⟨rfl, rfl, trivial⟩ (resOK_tmp rfl resOK_nil)) rfl (fun mm aa ww hr => ?_)
            have hm := Option.some.inj hm
            subst hm
            exact ⟨rfl, hr.below⟩

def m31 (F : Nat) (a0 : Ship) (a1 : List Part) : Option (List Int × Span × Int) :=
  bnd (m47 F a0) (fun v1 => brk (v1 != 0) (some ([], (⟨0, 0⟩ : Span), v1)) (bnd (m92 F (((a1.length : Nat) : Int)) 1 100) (fun v2 => brk (!v2) (some ([], (⟨0, 0⟩ : Span), 2)) (join (fun (_ : Unit) => join (fun (x3 : List Int × Int × Int) => some (x3.1, (⟨x3.2.1, x3.2.2⟩ : Span), 0)) (fun k3 => loopC (fun (x4 : List Int × Int × Int × Int) n4 => brk (decide (x4.2.1 < (((a1.length : Nat) : Int)))) (join (fun (x5 : List Int × Int × Int) => chk (InR (x4.2.1 + 1)) (n4 (x5.1, x4.2.1 + 1, x5.2.1, x5.2.2))) (fun k5 => chk (0 ≤ x4.2.1 ∧ x4.2.1 < ((a1.length : Nat) : Int)) (bnd (m94 F a0 ((((prt a1 x4.2.1)).Cell)) (((prt a1 x4.2.1)).Channel)) (fun v5 => brk (v5.2 != 0) (some ([], (⟨x4.2.1, 0⟩ : Span), v5.2)) (bnd (m95 F ((((prt a1 x4.2.1)).Cell))) (fun v6 => join (fun (x6 : Int) => chk (x4.1.length ≤ 1000000) (bnd (m99 F (((prt a1 x4.2.1)).Length) x6) (fun v10 => chk (InR (x4.2.2.1 + v10)) (bnd (m99 F (((prt a1 x4.2.1)).Length) v5.1) (fun v11 => chk (InR (x4.2.2.2 + v11)) (k5 ((x4.1 ++ [v5.1]), x4.2.2.1 + v10, x4.2.2.2 + v11))))))) (fun k6 => loopC (fun (x7 : Int × Int) n7 => brk (decide (x7.2 ≤ 250)) (join (fun (x8 : Int) => chk (InR (x7.2 + 1)) (n7 (x8, x7.2 + 1))) (fun k8 => loopC (fun (x9 : Int × Int) n9 => brk (decide (x9.2 < (((v6.length : Nat) : Int)))) (join (fun (x10 : Int) => chk (InR (x9.2 + 1)) (n9 (x10, x9.2 + 1))) (fun k10 => chk (0 ≤ x9.2 ∧ x9.2 < ((v6.length : Nat) : Int)) (bnd (m96 F a0 ((v6.getD x9.2.toNat default)) x7.2 (((prt a1 x4.2.1)).Channel)) (fun v7 => bnd (brk (v7) (m97 F ((v6.getD x9.2.toNat default)) x7.2 (((prt a1 x4.2.1)).Channel)) (some default)) (fun v8 => bnd (brk (v7) (m98 F a0.Class) (some default)) (fun v9 => brk (v7 && (decide (v8 ≤ v9))) (k10 x7.2) (k10 x9.1))))))) (k8 x9.1)) F (x7.1, 0))) (k6 x7.1)) F (v5.1, v5.1)))))))) (k3 (x4.1, x4.2.2.1, x4.2.2.2))) F ([], 0, 0, 0))) (fun k1 => loopC (fun (x2 : Int) n2 => brk (decide (x2 < (((a1.length : Nat) : Int)))) (chk (0 ≤ x2 ∧ x2 < ((a1.length : Nat) : Int)) (bnd (m92 F (((prt a1 x2)).Length) 1 10000) (fun v3 => brk (!v3) (some ([], (⟨0, 0⟩ : Span), 6)) (bnd (m93 F ((((prt a1 x2)).Cell))) (fun v4 => brk (!v4) (some ([], (⟨0, 0⟩ : Span), 20)) (chk (InR (x2 + 1)) (n2 (x2 + 1)))))))) (k1 ())) F 0)))))

theorem c31 (F : Nat) (a0 : Ship) (a0_Thrust_s : SlV) (a0_Water_s : SlV) (a0_Ice_s : SlV) (a1 : List Part) (a1_s : SlV) (w : World) (ha0_Thrust : SlIs encPt 2 w a0_Thrust_s a0.Thrust) (ha0_Water : SlIs encPt 2 w a0_Water_s a0.Water) (ha0_Ice : SlIs encPt 2 w a0_Ice_s a0.Ice) (ha1 : SlIs encPart 10 w a1_s a1) (r : List Int × Span × Int) (hm : m31 F a0 a1 = some r) : Calls Tryd.prog 31 #[.agg #[.int .i64 a0.Class, .int .i64 a0.Power, .int .i64 a0.Draught, .int .i64 a0.Tonnes, .slice a0_Thrust_s.p a0_Thrust_s.n a0_Thrust_s.c, .slice a0_Water_s.p a0_Water_s.n a0_Water_s.c, .slice a0_Ice_s.p a0_Ice_s.n a0_Ice_s.c, .int .i64 a0.Slow, .int .i64 a0.Brash, .int .i64 a0.Ridge, .int .i64 a0.Press], .slice a1_s.p a1_s.n a1_s.c] w fun e w' => ∃ sl : List SlV, e = .returned ((fun vs => .tuple #[(vs.getD 0 (.bool false)), .agg #[.int .i64 r.2.1.Lo, .int .i64 r.2.1.Hi], .int .i64 r.2.2]) (sl.map SlV.val)) ∧ NewRowsD w w' sl [(r.1.length, 3, 1, r.1.flatMap encInt)] ∧ Below w.heap.size w w' := by
  obtain ⟨a0_Thrust_p, a0_Thrust_n, a0_Thrust_c⟩ := a0_Thrust_s
  have ha0_Thrust_l : a0_Thrust_n = a0.Thrust.length := ha0_Thrust.1
  subst ha0_Thrust_l
  obtain ⟨a0_Thrust_b, a0_Thrust_o, ha0_Thrust_p, ha0_Thrust_L⟩ := SlAt.lies' ha0_Thrust
  obtain ⟨a0_Water_p, a0_Water_n, a0_Water_c⟩ := a0_Water_s
  have ha0_Water_l : a0_Water_n = a0.Water.length := ha0_Water.1
  subst ha0_Water_l
  obtain ⟨a0_Water_b, a0_Water_o, ha0_Water_p, ha0_Water_L⟩ := SlAt.lies' ha0_Water
  obtain ⟨a0_Ice_p, a0_Ice_n, a0_Ice_c⟩ := a0_Ice_s
  have ha0_Ice_l : a0_Ice_n = a0.Ice.length := ha0_Ice.1
  subst ha0_Ice_l
  obtain ⟨a0_Ice_b, a0_Ice_o, ha0_Ice_p, ha0_Ice_L⟩ := SlAt.lies' ha0_Ice
  obtain ⟨a1_p, a1_n, a1_c⟩ := a1_s
  have ha1_l : a1_n = a1.length := ha1.1
  subst ha1_l
  obtain ⟨a1_b, a1_o, ha1_p, ha1_L⟩ := SlAt.lies' ha1
  unfold m31 at hm
  refine enter (args := [.g [.i a0.Class, .i a0.Power, .i a0.Draught, .i a0.Tonnes, .v (.slice a0_Thrust_p a0.Thrust.length a0_Thrust_c), .v (.slice a0_Water_p a0.Water.length a0_Water_c), .v (.slice a0_Ice_p a0.Ice.length a0_Ice_c), .i a0.Slow, .i a0.Brash, .i a0.Ridge, .i a0.Press], .v (.slice a1_p a1.length a1_c)]) Tryd.func31 rfl (N := 153) rfl (Nat.le_of_ble_eq_true rfl) ?_
  refine aw_seq ?_
  refine aw_text (rows := [_, _, _, _]) rfl (by kernel_rfl) ⟨
    ok_plain rfl rfl (op_boxN (L := 1) (ltN rfl) rfl rfl rfl),
    ok_plain rfl rfl (op_assign (ltN rfl) rfl),
    ok_plain rfl rfl (op_alloc (L := 2) (ltN rfl) zl_32),
    ok_plain rfl rfl (op_assign (ltN rfl) rfl),
    trivial⟩ ?_
  refine fin_keep (s' := [kt 1 (.v (.slice a1_p a1.length a1_c)), kt 2 (.p 1 0), kt 5 (.p 2 0), kb 1 64 11, kb 2 32 2, kc 1 0 (.i a0.Class), kc 1 1 (.i a0.Power), kc 1 2 (.i a0.Draught), kc 1 3 (.i a0.Tonnes), kc 1 4 (.v (.slice a0_Thrust_p a0.Thrust.length a0_Thrust_c)), kc 1 5 (.v (.slice a0_Water_p a0.Water.length a0_Water_c)), kc 1 6 (.v (.slice a0_Ice_p a0.Ice.length a0_Ice_c)), kc 1 7 (.i a0.Slow), kc 1 8 (.i a0.Brash), kc 1 9 (.i a0.Ridge), kc 1 10 (.i a0.Press), kc 2 0 (.i 0), kc 2 1 (.i 0)]) ?_ (kp rfl) rfl
  refine fin_then ?_
  refine aw_seq ?_
  refine aw_seq ?_
  obtain ⟨v1, hv1, hm⟩ := bnd_some hm
  refine aw_text (rows := [_, _, _]) rfl (by kernel_rfl) ⟨
    ok_plain rfl rfl (op_loadN (ys := [.i a0.Class, .i a0.Power, .i a0.Draught, .i a0.Tonnes, .v (.slice a0_Thrust_p a0.Thrust.length a0_Thrust_c), .v (.slice a0_Water_p a0.Water.length a0_Water_c), .v (.slice a0_Ice_p a0.Ice.length a0_Ice_c), .i a0.Slow, .i a0.Brash, .i a0.Ridge, .i a0.Press]) (ltN rfl) sh_64 rfl rfl ⟨rfl, rfl, rfl, rfl, rfl, rfl, rfl, rfl, rfl, rfl, rfl, trivial⟩),
    ok_plain rfl rfl (op_call (x := .i v1) (fs := []) (caps := []) (extra := []) (ltN rfl) en_47 rfl ⟨rfl, rfl, rfl⟩ (EvL.cons rfl EvL.nil) (fun mm aa ww gg hr hrel => (c47 F a0 ⟨a0_Thrust_p, a0.Thrust.length, a0_Thrust_c⟩ ⟨a0_Water_p, a0.Water.length, a0_Water_c⟩ ⟨a0_Ice_p, a0.Ice.length, a0_Ice_c⟩ ww (SlIs.mono ha0_Thrust hrel.below) (SlIs.mono ha0_Water hrel.below) (SlIs.mono ha0_Ice hrel.below) v1 hv1))),
    ok_plain rfl rfl (op_assign (ltN rfl) rfl),
    trivial⟩ ?_
  refine fin_keep (s' := [kt 1 (.v (.slice a1_p a1.length a1_c)), kt 2 (.p 1 0), kt 5 (.p 2 0), kt 7 (.i v1), kb 1 64 11, kb 2 32 2, kc 1 0 (.i a0.Class), kc 1 1 (.i a0.Power), kc 1 2 (.i a0.Draught), kc 1 3 (.i a0.Tonnes), kc 1 4 (.v (.slice a0_Thrust_p a0.Thrust.length a0_Thrust_c)), kc 1 5 (.v (.slice a0_Water_p a0.Water.length a0_Water_c)), kc 1 6 (.v (.slice a0_Ice_p a0.Ice.length a0_Ice_c)), kc 1 7 (.i a0.Slow), kc 1 8 (.i a0.Brash), kc 1 9 (.i a0.Ridge), kc 1 10 (.i a0.Press), kc 2 0 (.i 0), kc 2 1 (.i 0)]) ?_ (kp rfl) rfl
  refine fin_then ?_
  refine aw_seq ?_
  refine aw_text (rows := [_, _]) rfl (by kernel_rfl) ⟨
    ok_plain rfl rfl (op_move (ltN rfl) rfl),
    ok_plain rfl rfl (op_bin (ltN rfl) rfl rfl rfl),
    trivial⟩ ?_
  refine fin_keep (s' := [kt 1 (.v (.slice a1_p a1.length a1_c)), kt 2 (.p 1 0), kt 5 (.p 2 0), kt 7 (.i v1), kt 21 (.B (v1 != 0)), kb 1 64 11, kb 2 32 2, kc 1 0 (.i a0.Class), kc 1 1 (.i a0.Power), kc 1 2 (.i a0.Draught), kc 1 3 (.i a0.Tonnes), kc 1 4 (.v (.slice a0_Thrust_p a0.Thrust.length a0_Thrust_c)), kc 1 5 (.v (.slice a0_Water_p a0.Water.length a0_Water_c)), kc 1 6 (.v (.slice a0_Ice_p a0.Ice.length a0_Ice_c)), kc 1 7 (.i a0.Slow), kc 1 8 (.i a0.Brash), kc 1 9 (.i a0.Ridge), kc 1 10 (.i a0.Press), kc 2 0 (.i 0), kc 2 1 (.i 0)]) ?_ (kp rfl) rfl
  refine fin_then ?_
  refine aw_cond rfl (fun hz1 => ?_) (fun hz1 => ?_)
  · have hm := brk_t hz1 hm
    refine aw_seq ?_
    refine aw_text (rows := [_, _, _, _, _]) rfl (by kernel_rfl) ⟨
      ok_plain rfl rfl (op_build (x := .g [.i 0, .i 0]) (ltN rfl) EvL.nil (fun m w => by kernel_rfl)),
      ok_plain rfl rfl (op_move (ltN rfl) rfl),
      ok_plain rfl rfl (op_assign (ltN rfl) rfl),
      ok_plain rfl rfl (op_storeN sz_32 rfl rfl rfl rfl rfl (by decide)),
      ok_plain rfl rfl (op_assign (ltN rfl) rfl),
      trivial⟩ ?_
    refine fin_keep (s' := [kt 4 (.v (.slice none 0 0)), kt 5 (.p 2 0), kt 6 (.i v1), kb 2 32 2, kc 2 0 (.i 0), kc 2 1 (.i 0)]) ?_ (kp rfl) rfl
    refine fin_then ?_
    refine aw_ret ?_
    refine fin_then_ret ?_
    refine post_ret (x := .t [.v (.slice none 0 0), .g [.i 0, .i 0], .i v1]) rfl rfl (resOK_tmp rfl (resOK_cellN (ys := [.i 0, .i 0]) rfl sh_32 rfl ⟨rfl, rfl, trivial⟩ (resOK_tmp rfl resOK_nil))) rfl (fun mm aa ww hr => ?_)
    have hm := Option.some.inj hm
    subst hm
    exact ⟨[⟨none, 0, 0⟩], rfl, ⟨⟨rfl, newAt_nil, trivial⟩, ⟨trivial, trivial⟩⟩, hr.below⟩
  · have hm := brk_f hz1 hm
    refine aw_skip ?_
    refine fin_then ?_
    refine aw_seq ?_
    refine aw_seq ?_
    obtain ⟨v2, hv2, hm⟩ := bnd_some hm
    refine aw_text (rows := [_, _, _, _]) rfl (by kernel_rfl) ⟨
      ok_plain rfl rfl (op_move (ltN rfl) rfl),
      ok_plain rfl rfl (op_len (n := a1.length) (ltN rfl) (by rw [ss_66]; rfl) rfl rfl),
      ok_plain rfl rfl (op_call (x := .B v2) (fs := []) (caps := []) (extra := []) (ltN rfl) en_92 rfl ⟨rfl, rfl, rfl⟩ (EvL.cons rfl (EvL.cons rfl (EvL.cons rfl EvL.nil))) (fun mm aa ww gg hr hrel => (c92 F (((a1.length : Nat) : Int)) 1 100 ww v2 hv2))),
      ok_plain rfl rfl (op_not (ltN rfl) rfl),
      trivial⟩ ?_
    refine fin_keep (s' := [kt 1 (.v (.slice a1_p a1.length a1_c)), kt 2 (.p 1 0), kt 5 (.p 2 0), kt 27 (.B (!v2)), kb 1 64 11, kb 2 32 2, kc 1 0 (.i a0.Class), kc 1 1 (.i a0.Power), kc 1 2 (.i a0.Draught), kc 1 3 (.i a0.Tonnes), kc 1 4 (.v (.slice a0_Thrust_p a0.Thrust.length a0_Thrust_c)), kc 1 5 (.v (.slice a0_Water_p a0.Water.length a0_Water_c)), kc 1 6 (.v (.slice a0_Ice_p a0.Ice.length a0_Ice_c)), kc 1 7 (.i a0.Slow), kc 1 8 (.i a0.Brash), kc 1 9 (.i a0.Ridge), kc 1 10 (.i a0.Press), kc 2 0 (.i 0), kc 2 1 (.i 0)]) ?_ (kp rfl) rfl
    refine fin_then ?_
    refine aw_cond rfl (fun hz2 => ?_) (fun hz2 => ?_)
    · have hm := brk_t hz2 hm
      refine aw_seq ?_
      refine aw_text (rows := [_, _, _, _]) rfl (by kernel_rfl) ⟨
        ok_plain rfl rfl (op_build (x := .g [.i 0, .i 0]) (ltN rfl) EvL.nil (fun m w => by kernel_rfl)),
        ok_plain rfl rfl (op_assign (ltN rfl) rfl),
        ok_plain rfl rfl (op_storeN sz_32 rfl rfl rfl rfl rfl (by decide)),
        ok_plain rfl rfl (op_assign (ltN rfl) rfl),
        trivial⟩ ?_
      refine fin_keep (s' := [kt 4 (.v (.slice none 0 0)), kt 5 (.p 2 0), kt 6 (.i 2), kb 2 32 2, kc 2 0 (.i 0), kc 2 1 (.i 0)]) ?_ (kp rfl) rfl
      refine fin_then ?_
      refine aw_ret ?_
      refine fin_then_ret ?_
      refine post_ret (x := .t [.v (.slice none 0 0), .g [.i 0, .i 0], .i 2]) rfl rfl (resOK_tmp rfl (resOK_cellN (ys := [.i 0, .i 0]) rfl sh_32 rfl ⟨rfl, rfl, trivial⟩ (resOK_tmp rfl resOK_nil))) rfl (fun mm aa ww hr => ?_)
      have hm := Option.some.inj hm
      subst hm
      exact ⟨[⟨none, 0, 0⟩], rfl, ⟨⟨rfl, newAt_nil, trivial⟩, ⟨trivial, trivial⟩⟩, hr.below⟩
    · have hm := brk_f hz2 hm
      refine aw_skip ?_
      refine fin_then ?_
      refine aw_cutM (ι := Unit) hm (fun x1 => [kt 1 (.v (.slice a1_p a1.length a1_c)), kt 2 (.p 1 0), kt 5 (.p 2 0), kb 1 64 11, kb 2 32 2, kc 1 0 (.i a0.Class), kc 1 1 (.i a0.Power), kc 1 2 (.i a0.Draught), kc 1 3 (.i a0.Tonnes), kc 1 4 (.v (.slice a0_Thrust_p a0.Thrust.length a0_Thrust_c)), kc 1 5 (.v (.slice a0_Water_p a0.Water.length a0_Water_c)), kc 1 6 (.v (.slice a0_Ice_p a0.Ice.length a0_Ice_c)), kc 1 7 (.i a0.Slow), kc 1 8 (.i a0.Brash), kc 1 9 (.i a0.Ridge), kc 1 10 (.i a0.Press), kc 2 0 (.i 0), kc 2 1 (.i 0)]) (fun hm => ?_) (fun x1 hm => ?_)
      · have _z := hm
        refine aw_seq ?_
        refine aw_text (rows := [_]) rfl (by kernel_rfl) ⟨
          ok_plain rfl rfl (op_assign (ltN rfl) rfl),
          trivial⟩ ?_
        refine fin_keep (s' := [kt 1 (.v (.slice a1_p a1.length a1_c)), kt 2 (.p 1 0), kt 5 (.p 2 0), kt 8 (.i 0), kb 1 64 11, kb 2 32 2, kc 1 0 (.i a0.Class), kc 1 1 (.i a0.Power), kc 1 2 (.i a0.Draught), kc 1 3 (.i a0.Tonnes), kc 1 4 (.v (.slice a0_Thrust_p a0.Thrust.length a0_Thrust_c)), kc 1 5 (.v (.slice a0_Water_p a0.Water.length a0_Water_c)), kc 1 6 (.v (.slice a0_Ice_p a0.Ice.length a0_Ice_c)), kc 1 7 (.i a0.Slow), kc 1 8 (.i a0.Brash), kc 1 9 (.i a0.Ridge), kc 1 10 (.i a0.Press), kc 2 0 (.i 0), kc 2 1 (.i 0)]) ?_ (kp rfl) rfl
        refine fin_then ?_
        refine aw_block ?_
        refine aw_loopC hm (fun x2 => [kt 1 (.v (.slice a1_p a1.length a1_c)), kt 2 (.p 1 0), kt 5 (.p 2 0), kt 8 (.i x2), kb 1 64 11, kb 2 32 2, kc 1 0 (.i a0.Class), kc 1 1 (.i a0.Power), kc 1 2 (.i a0.Draught), kc 1 3 (.i a0.Tonnes), kc 1 4 (.v (.slice a0_Thrust_p a0.Thrust.length a0_Thrust_c)), kc 1 5 (.v (.slice a0_Water_p a0.Water.length a0_Water_c)), kc 1 6 (.v (.slice a0_Ice_p a0.Ice.length a0_Ice_c)), kc 1 7 (.i a0.Slow), kc 1 8 (.i a0.Brash), kc 1 9 (.i a0.Ridge), kc 1 10 (.i a0.Press), kc 2 0 (.i 0), kc 2 1 (.i 0)]) ⟨rfl, rfl, rfl, rfl, rfl, rfl, rfl, rfl, rfl, rfl, rfl, rfl, rfl, rfl, rfl, rfl, rfl, rfl, rfl, trivial⟩ rfl (fun x2 n2 hm => ?_)
        refine aw_seq ?_
        refine aw_seq ?_
        refine aw_text (rows := [_, _, _, _]) rfl (by kernel_rfl) ⟨
          ok_plain rfl rfl (op_move (ltN rfl) rfl),
          ok_plain rfl rfl (op_move (ltN rfl) rfl),
          ok_plain rfl rfl (op_len (n := a1.length) (ltN rfl) (by rw [ss_66]; rfl) rfl rfl),
          ok_plain rfl rfl (op_bin (ltN rfl) rfl rfl rfl),
          trivial⟩ ?_
        refine fin_keep (s' := [kt 1 (.v (.slice a1_p a1.length a1_c)), kt 2 (.p 1 0), kt 5 (.p 2 0), kt 8 (.i x2), kt 32 (.B (decide (x2 < (((a1.length : Nat) : Int))))), kb 1 64 11, kb 2 32 2, kc 1 0 (.i a0.Class), kc 1 1 (.i a0.Power), kc 1 2 (.i a0.Draught), kc 1 3 (.i a0.Tonnes), kc 1 4 (.v (.slice a0_Thrust_p a0.Thrust.length a0_Thrust_c)), kc 1 5 (.v (.slice a0_Water_p a0.Water.length a0_Water_c)), kc 1 6 (.v (.slice a0_Ice_p a0.Ice.length a0_Ice_c)), kc 1 7 (.i a0.Slow), kc 1 8 (.i a0.Brash), kc 1 9 (.i a0.Ridge), kc 1 10 (.i a0.Press), kc 2 0 (.i 0), kc 2 1 (.i 0)]) ?_ (kp rfl) rfl
        refine fin_then ?_
        refine aw_cond rfl (fun hz3 => ?_) (fun hz3 => ?_)
        · have hm := brk_t hz3 hm
          refine aw_skip ?_
          refine fin_then ?_
          refine aw_seq ?_
          refine aw_block ?_
          refine aw_seq ?_
          refine aw_seq ?_
          obtain ⟨hp4, hm⟩ := chk_some hm
          obtain ⟨v3, hv3, hm⟩ := bnd_some hm
          refine aw_text (rows := [_, _, _, _, _, _, _]) rfl (by kernel_rfl) ⟨
            ok_plain rfl rfl (op_move (ltN rfl) rfl),
            ok_plain rfl rfl (op_move (ltN rfl) rfl),
            ok_plain rfl rfl (op_ixB (ltN rfl) rfl rfl ss_66 (ha1_p (ne_of_ix (i := x2) hp4.1 hp4.2)) hp4.1 hp4.2),
            ok_plain rfl rfl (op_fieldAddrB (ltN rfl) rfl fo_152_2),
            ok_plain rfl rfl (op_loadB (y := .i (((prt a1 x2)).Length)) (ltN rfl) rfl (ld1 (ha1_L (ne_of_ix (i := x2) hp4.1 hp4.2)) default (i := x2) hp4.1 hp4.2 9 rfl rfl sh_3)),
            ok_plain rfl rfl (op_call (x := .B v3) (fs := []) (caps := []) (extra := []) (ltN rfl) en_92 rfl ⟨rfl, rfl, rfl⟩ (EvL.cons rfl (EvL.cons rfl (EvL.cons rfl EvL.nil))) (fun mm aa ww gg hr hrel => (c92 F (((prt a1 x2)).Length) 1 10000 ww v3 hv3))),
            ok_plain rfl rfl (op_not (ltN rfl) rfl),
            trivial⟩ ?_
          refine fin_keep (s' := [kt 1 (.v (.slice a1_p a1.length a1_c)), kt 2 (.p 1 0), kt 5 (.p 2 0), kt 8 (.i x2), kt 41 (.B (!v3)), kb 1 64 11, kb 2 32 2, kc 1 0 (.i a0.Class), kc 1 1 (.i a0.Power), kc 1 2 (.i a0.Draught), kc 1 3 (.i a0.Tonnes), kc 1 4 (.v (.slice a0_Thrust_p a0.Thrust.length a0_Thrust_c)), kc 1 5 (.v (.slice a0_Water_p a0.Water.length a0_Water_c)), kc 1 6 (.v (.slice a0_Ice_p a0.Ice.length a0_Ice_c)), kc 1 7 (.i a0.Slow), kc 1 8 (.i a0.Brash), kc 1 9 (.i a0.Ridge), kc 1 10 (.i a0.Press), kc 2 0 (.i 0), kc 2 1 (.i 0)]) ?_ (kp rfl) rfl
          refine fin_then ?_
          refine aw_cond rfl (fun hz5 => ?_) (fun hz5 => ?_)
          · have hm := brk_t hz5 hm
            refine aw_seq ?_
            refine aw_text (rows := [_, _, _, _]) rfl (by kernel_rfl) ⟨
              ok_plain rfl rfl (op_build (x := .g [.i 0, .i 0]) (ltN rfl) EvL.nil (fun m w => by kernel_rfl)),
              ok_plain rfl rfl (op_assign (ltN rfl) rfl),
              ok_plain rfl rfl (op_storeN sz_32 rfl rfl rfl rfl rfl (by decide)),
              ok_plain rfl rfl (op_assign (ltN rfl) rfl),
              trivial⟩ ?_
            refine fin_keep (s' := [kt 4 (.v (.slice none 0 0)), kt 5 (.p 2 0), kt 6 (.i 6), kb 2 32 2, kc 2 0 (.i 0), kc 2 1 (.i 0)]) ?_ (kp rfl) rfl
            refine fin_then ?_
            refine aw_ret ?_
            refine fin_then_ret ?_
            refine fin_block_ret ?_
            refine fin_then_ret ?_
            refine fin_then_ret ?_
            refine fin_block_ret ?_
            refine fin_then_ret ?_
            refine post_ret (x := .t [.v (.slice none 0 0), .g [.i 0, .i 0], .i 6]) rfl rfl (resOK_tmp rfl (resOK_cellN (ys := [.i 0, .i 0]) rfl sh_32 rfl ⟨rfl, rfl, trivial⟩ (resOK_tmp rfl resOK_nil))) rfl (fun mm aa ww hr => ?_)
            have hm := Option.some.inj hm
            subst hm
            exact ⟨[⟨none, 0, 0⟩], rfl, ⟨⟨rfl, newAt_nil, trivial⟩, ⟨trivial, trivial⟩⟩, hr.below⟩
          · have hm := brk_f hz5 hm
            refine aw_skip ?_
            refine fin_then ?_
            refine aw_seq ?_
            obtain ⟨v4, hv4, hm⟩ := bnd_some hm
            refine aw_text (rows := [_, _, _, _, _, _, _]) rfl (by kernel_rfl) ⟨
              ok_plain rfl rfl (op_move (ltN rfl) rfl),
              ok_plain rfl rfl (op_move (ltN rfl) rfl),
              ok_plain rfl rfl (op_ixB (ltN rfl) rfl rfl ss_66 (ha1_p (ne_of_ix (i := x2) hp4.1 hp4.2)) hp4.1 hp4.2),
              ok_plain rfl rfl (op_fieldAddrB (ltN rfl) rfl fo_152_0),
              ok_plain rfl rfl (op_loadB (y := .g [.i (((((prt a1 x2)).Cell).Conc).Lo), .i (((((prt a1 x2)).Cell).Conc).Hi), .i (((((prt a1 x2)).Cell).Thick).Lo), .i (((((prt a1 x2)).Cell).Thick).Hi), .i (((((prt a1 x2)).Cell).Ridge).Lo), .i (((((prt a1 x2)).Cell).Ridge).Hi), .i (((((prt a1 x2)).Cell).Press).Lo), .i (((((prt a1 x2)).Cell).Press).Hi)]) (ltN rfl) rfl (ldN (ha1_L (ne_of_ix (i := x2) hp4.1 hp4.2)) default (i := x2) hp4.1 hp4.2 0 (vs := [(.int .i64 (((((prt a1 x2)).Cell).Conc).Lo)), (.int .i64 (((((prt a1 x2)).Cell).Conc).Hi)), (.int .i64 (((((prt a1 x2)).Cell).Thick).Lo)), (.int .i64 (((((prt a1 x2)).Cell).Thick).Hi)), (.int .i64 (((((prt a1 x2)).Cell).Ridge).Lo)), (.int .i64 (((((prt a1 x2)).Cell).Ridge).Hi)), (.int .i64 (((((prt a1 x2)).Cell).Press).Lo)), (.int .i64 (((((prt a1 x2)).Cell).Press).Hi))]) (fun zq zv zh => sub_get (vs := [(.int .i64 (((((prt a1 x2)).Cell).Conc).Lo)), (.int .i64 (((((prt a1 x2)).Cell).Conc).Hi)), (.int .i64 (((((prt a1 x2)).Cell).Thick).Lo)), (.int .i64 (((((prt a1 x2)).Cell).Thick).Hi)), (.int .i64 (((((prt a1 x2)).Cell).Ridge).Lo)), (.int .i64 (((((prt a1 x2)).Cell).Ridge).Hi)), (.int .i64 (((((prt a1 x2)).Cell).Press).Lo)), (.int .i64 (((((prt a1 x2)).Cell).Press).Hi))]) rfl zh) rfl sh_72 rfl)),
              ok_plain rfl rfl (op_call (x := .B v4) (fs := []) (caps := []) (extra := []) (ltN rfl) en_93 rfl ⟨rfl, rfl, rfl⟩ (EvL.cons rfl EvL.nil) (fun mm aa ww gg hr hrel => (c93 F ((((prt a1 x2)).Cell)) ww v4 hv4))),
              ok_plain rfl rfl (op_not (ltN rfl) rfl),
              trivial⟩ ?_
            refine fin_keep (s' := [kt 1 (.v (.slice a1_p a1.length a1_c)), kt 2 (.p 1 0), kt 5 (.p 2 0), kt 8 (.i x2), kt 49 (.B (!v4)), kb 1 64 11, kb 2 32 2, kc 1 0 (.i a0.Class), kc 1 1 (.i a0.Power), kc 1 2 (.i a0.Draught), kc 1 3 (.i a0.Tonnes), kc 1 4 (.v (.slice a0_Thrust_p a0.Thrust.length a0_Thrust_c)), kc 1 5 (.v (.slice a0_Water_p a0.Water.length a0_Water_c)), kc 1 6 (.v (.slice a0_Ice_p a0.Ice.length a0_Ice_c)), kc 1 7 (.i a0.Slow), kc 1 8 (.i a0.Brash), kc 1 9 (.i a0.Ridge), kc 1 10 (.i a0.Press), kc 2 0 (.i 0), kc 2 1 (.i 0)]) ?_ (kp rfl) rfl
            refine fin_then ?_
            refine aw_cond rfl (fun hz6 => ?_) (fun hz6 => ?_)
            · have hm := brk_t hz6 hm
              refine aw_seq ?_
              refine aw_text (rows := [_, _, _, _]) rfl (by kernel_rfl) ⟨
                ok_plain rfl rfl (op_build (x := .g [.i 0, .i 0]) (ltN rfl) EvL.nil (fun m w => by kernel_rfl)),
                ok_plain rfl rfl (op_assign (ltN rfl) rfl),
                ok_plain rfl rfl (op_storeN sz_32 rfl rfl rfl rfl rfl (by decide)),
                ok_plain rfl rfl (op_assign (ltN rfl) rfl),
                trivial⟩ ?_
              refine fin_keep (s' := [kt 4 (.v (.slice none 0 0)), kt 5 (.p 2 0), kt 6 (.i 20), kb 2 32 2, kc 2 0 (.i 0), kc 2 1 (.i 0)]) ?_ (kp rfl) rfl
              refine fin_then ?_
              refine aw_ret ?_
              refine fin_block_ret ?_
              refine fin_then_ret ?_
              refine fin_then_ret ?_
              refine fin_block_ret ?_
              refine fin_then_ret ?_
              refine post_ret (x := .t [.v (.slice none 0 0), .g [.i 0, .i 0], .i 20]) rfl rfl (resOK_tmp rfl (resOK_cellN (ys := [.i 0, .i 0]) rfl sh_32 rfl ⟨rfl, rfl, trivial⟩ (resOK_tmp rfl resOK_nil))) rfl (fun mm aa ww hr => ?_)
              have hm := Option.some.inj hm
              subst hm
              exact ⟨[⟨none, 0, 0⟩], rfl, ⟨⟨rfl, newAt_nil, trivial⟩, ⟨trivial, trivial⟩⟩, hr.below⟩
            · have hm := brk_f hz6 hm
              refine aw_skip ?_
              refine fin_block ?_
              refine fin_then ?_
              obtain ⟨hp7, hm⟩ := chk_some hm
              refine aw_text (rows := [_, _, _]) rfl (by kernel_rfl) ⟨
                ok_plain rfl rfl (op_move (ltN rfl) rfl),
                ok_plain rfl rfl (op_bin (ltN rfl) rfl rfl (nw_add hp7)),
                ok_plain rfl rfl (op_assign (ltN rfl) rfl),
                trivial⟩ ?_
              refine fin_keep (s' := [kt 1 (.v (.slice a1_p a1.length a1_c)), kt 2 (.p 1 0), kt 5 (.p 2 0), kt 8 (.i (x2 + 1)), kb 1 64 11, kb 2 32 2, kc 1 0 (.i a0.Class), kc 1 1 (.i a0.Power), kc 1 2 (.i a0.Draught), kc 1 3 (.i a0.Tonnes), kc 1 4 (.v (.slice a0_Thrust_p a0.Thrust.length a0_Thrust_c)), kc 1 5 (.v (.slice a0_Water_p a0.Water.length a0_Water_c)), kc 1 6 (.v (.slice a0_Ice_p a0.Ice.length a0_Ice_c)), kc 1 7 (.i a0.Slow), kc 1 8 (.i a0.Brash), kc 1 9 (.i a0.Ridge), kc 1 10 (.i a0.Press), kc 2 0 (.i 0), kc 2 1 (.i 0)]) ?_ (kp rfl) rfl
              exact fin_cut (x2 + 1) hm ⟨rfl, rfl, rfl, rfl, rfl, rfl, rfl, rfl, rfl, rfl, rfl, rfl, rfl, rfl, rfl, rfl, rfl, rfl, rfl, trivial⟩ rfl
        · have hm := brk_f hz3 hm
          refine aw_exit ?_
          refine fin_then_exit ?_
          refine fin_then_exit ?_
          refine fin_block_exit ?_
          exact fin_cut () hm ⟨rfl, rfl, rfl, rfl, rfl, rfl, rfl, rfl, rfl, rfl, rfl, rfl, rfl, rfl, rfl, rfl, rfl, rfl, trivial⟩ rfl
      · have _z := hm
        refine aw_seq ?_
        refine aw_text (rows := [_]) rfl (by kernel_rfl) ⟨
          ok_plain rfl rfl (op_assign (ltN rfl) rfl),
          trivial⟩ ?_
        refine fin_keep (s' := [kt 1 (.v (.slice a1_p a1.length a1_c)), kt 2 (.p 1 0), kt 5 (.p 2 0), kt 9 (.v (.slice none 0 0)), kb 1 64 11, kb 2 32 2, kc 1 0 (.i a0.Class), kc 1 1 (.i a0.Power), kc 1 2 (.i a0.Draught), kc 1 3 (.i a0.Tonnes), kc 1 4 (.v (.slice a0_Thrust_p a0.Thrust.length a0_Thrust_c)), kc 1 5 (.v (.slice a0_Water_p a0.Water.length a0_Water_c)), kc 1 6 (.v (.slice a0_Ice_p a0.Ice.length a0_Ice_c)), kc 1 7 (.i a0.Slow), kc 1 8 (.i a0.Brash), kc 1 9 (.i a0.Ridge), kc 1 10 (.i a0.Press), kc 2 0 (.i 0), kc 2 1 (.i 0)]) ?_ (kp rfl) rfl
        refine fin_then ?_
        refine aw_seq ?_
        refine aw_text (rows := [_]) rfl (by kernel_rfl) ⟨
          ok_plain rfl rfl (op_alloc (L := 3) (ltN rfl) zl_32),
          trivial⟩ ?_
        refine fin_keep (s' := [kt 1 (.v (.slice a1_p a1.length a1_c)), kt 2 (.p 1 0), kt 5 (.p 2 0), kt 9 (.v (.slice none 0 0)), kt 10 (.p 3 0), kb 1 64 11, kb 2 32 2, kb 3 32 2, kc 1 0 (.i a0.Class), kc 1 1 (.i a0.Power), kc 1 2 (.i a0.Draught), kc 1 3 (.i a0.Tonnes), kc 1 4 (.v (.slice a0_Thrust_p a0.Thrust.length a0_Thrust_c)), kc 1 5 (.v (.slice a0_Water_p a0.Water.length a0_Water_c)), kc 1 6 (.v (.slice a0_Ice_p a0.Ice.length a0_Ice_c)), kc 1 7 (.i a0.Slow), kc 1 8 (.i a0.Brash), kc 1 9 (.i a0.Ridge), kc 1 10 (.i a0.Press), kc 2 0 (.i 0), kc 2 1 (.i 0), kc 3 0 (.i 0), kc 3 1 (.i 0)]) ?_ (kp rfl) rfl
        refine fin_then ?_
        refine aw_cutM (ι := List Int × Int × Int) hm (fun x3 => [kt 5 (.p 2 0), kt 9 (.o 300 301 x3.1.length), kt 10 (.p 3 0), kb 2 32 2, kb 3 32 2, (.r 300, some (.vec true 301 3 1 (x3.1.flatMap encInt))), kc 2 0 (.i 0), kc 2 1 (.i 0), kc 3 0 (.i x3.2.1), kc 3 1 (.i x3.2.2)]) (fun hm => ?_) (fun x3 hm => ?_)
        · have _z := hm
          refine aw_seq ?_
          refine aw_text (rows := [_]) rfl (by kernel_rfl) ⟨
            ok_plain rfl rfl (op_assign (ltN rfl) rfl),
            trivial⟩ ?_
          refine fin_keep (s' := [kt 1 (.v (.slice a1_p a1.length a1_c)), kt 2 (.p 1 0), kt 5 (.p 2 0), kt 9 (.v (.slice none 0 0)), kt 10 (.p 3 0), kt 11 (.i 0), kb 1 64 11, kb 2 32 2, kb 3 32 2, kc 1 0 (.i a0.Class), kc 1 1 (.i a0.Power), kc 1 2 (.i a0.Draught), kc 1 3 (.i a0.Tonnes), kc 1 4 (.v (.slice a0_Thrust_p a0.Thrust.length a0_Thrust_c)), kc 1 5 (.v (.slice a0_Water_p a0.Water.length a0_Water_c)), kc 1 6 (.v (.slice a0_Ice_p a0.Ice.length a0_Ice_c)), kc 1 7 (.i a0.Slow), kc 1 8 (.i a0.Brash), kc 1 9 (.i a0.Ridge), kc 1 10 (.i a0.Press), kc 2 0 (.i 0), kc 2 1 (.i 0), kc 3 0 (.i 0), kc 3 1 (.i 0)]) ?_ (kp rfl) rfl
          refine fin_then ?_
          refine aw_block ?_
          refine aw_nilRowK (.t 9) 4 5 3 1 rfl rfl rfl (by decide) ?_
          refine aw_swp [(4, 300), (5, 301)] rfl ?_
          refine aw_loopC hm (fun x4 => [kt 1 (.v (.slice a1_p a1.length a1_c)), kt 2 (.p 1 0), kt 5 (.p 2 0), kt 9 (.o 300 301 x4.1.length), kt 10 (.p 3 0), kt 11 (.i x4.2.1), kb 1 64 11, kb 2 32 2, kb 3 32 2, (.r 300, some (.vec true 301 3 1 (x4.1.flatMap encInt))), kc 1 0 (.i a0.Class), kc 1 1 (.i a0.Power), kc 1 2 (.i a0.Draught), kc 1 3 (.i a0.Tonnes), kc 1 4 (.v (.slice a0_Thrust_p a0.Thrust.length a0_Thrust_c)), kc 1 5 (.v (.slice a0_Water_p a0.Water.length a0_Water_c)), kc 1 6 (.v (.slice a0_Ice_p a0.Ice.length a0_Ice_c)), kc 1 7 (.i a0.Slow), kc 1 8 (.i a0.Brash), kc 1 9 (.i a0.Ridge), kc 1 10 (.i a0.Press), kc 2 0 (.i 0), kc 2 1 (.i 0), kc 3 0 (.i x4.2.2.1), kc 3 1 (.i x4.2.2.2)]) ⟨rfl, rfl, rfl, rfl, rfl, rfl, rfl, rfl, rfl, rfl, rfl, rfl, rfl, rfl, rfl, rfl, rfl, rfl, rfl, rfl, rfl, rfl, rfl, rfl, rfl, trivial⟩ rfl (fun x4 n4 hm => ?_)
          refine aw_seq ?_
          refine aw_seq ?_
          refine aw_text (rows := [_, _, _, _]) rfl (by kernel_rfl) ⟨
            ok_plain rfl rfl (op_move (ltN rfl) rfl),
            ok_plain rfl rfl (op_move (ltN rfl) rfl),
            ok_plain rfl rfl (op_len (n := a1.length) (ltN rfl) (by rw [ss_66]; rfl) rfl rfl),
            ok_plain rfl rfl (op_bin (ltN rfl) rfl rfl rfl),
            trivial⟩ ?_
          refine fin_keep (s' := [kt 1 (.v (.slice a1_p a1.length a1_c)), kt 2 (.p 1 0), kt 5 (.p 2 0), kt 9 (.o 300 301 x4.1.length), kt 10 (.p 3 0), kt 11 (.i x4.2.1), kt 54 (.B (decide (x4.2.1 < (((a1.length : Nat) : Int))))), kb 1 64 11, kb 2 32 2, kb 3 32 2, (.r 300, some (.vec true 301 3 1 (x4.1.flatMap encInt))), kc 1 0 (.i a0.Class), kc 1 1 (.i a0.Power), kc 1 2 (.i a0.Draught), kc 1 3 (.i a0.Tonnes), kc 1 4 (.v (.slice a0_Thrust_p a0.Thrust.length a0_Thrust_c)), kc 1 5 (.v (.slice a0_Water_p a0.Water.length a0_Water_c)), kc 1 6 (.v (.slice a0_Ice_p a0.Ice.length a0_Ice_c)), kc 1 7 (.i a0.Slow), kc 1 8 (.i a0.Brash), kc 1 9 (.i a0.Ridge), kc 1 10 (.i a0.Press), kc 2 0 (.i 0), kc 2 1 (.i 0), kc 3 0 (.i x4.2.2.1), kc 3 1 (.i x4.2.2.2)]) ?_ (kp rfl) rfl
          refine fin_then ?_
          refine aw_cond rfl (fun hz8 => ?_) (fun hz8 => ?_)
          · have hm := brk_t hz8 hm
            refine aw_skip ?_
            refine fin_then ?_
            refine aw_cutM (ι := List Int × Int × Int) hm (fun x5 => [kt 1 (.v (.slice a1_p a1.length a1_c)), kt 2 (.p 1 0), kt 5 (.p 2 0), kt 9 (.o 300 301 x5.1.length), kt 10 (.p 3 0), kt 11 (.i x4.2.1), kb 1 64 11, kb 2 32 2, kb 3 32 2, (.r 300, some (.vec true 301 3 1 (x5.1.flatMap encInt))), kc 1 0 (.i a0.Class), kc 1 1 (.i a0.Power), kc 1 2 (.i a0.Draught), kc 1 3 (.i a0.Tonnes), kc 1 4 (.v (.slice a0_Thrust_p a0.Thrust.length a0_Thrust_c)), kc 1 5 (.v (.slice a0_Water_p a0.Water.length a0_Water_c)), kc 1 6 (.v (.slice a0_Ice_p a0.Ice.length a0_Ice_c)), kc 1 7 (.i a0.Slow), kc 1 8 (.i a0.Brash), kc 1 9 (.i a0.Ridge), kc 1 10 (.i a0.Press), kc 2 0 (.i 0), kc 2 1 (.i 0), kc 3 0 (.i x5.2.1), kc 3 1 (.i x5.2.2)]) (fun hm => ?_) (fun x5 hm => ?_)
            · have _z := hm
              refine aw_block ?_
              refine aw_seq ?_
              obtain ⟨hp9, hm⟩ := chk_some hm
              obtain ⟨v5, hv5, hm⟩ := bnd_some hm
              refine aw_any (rows := [_, _, _, _, _, _, _, _, _, _, _, _, _, _, _, _, _]) (M := [0, 0, 0, 6, 14, 30, 0, 0, 192, 448, 960, 2047, 4095, 8191, 8191, 16383, 65535]) Tryd_mixed (by kernel_rfl) rfl (by kernel_rfl) ⟨
                ok_plain rfl rfl (op_loadN (ys := [.i a0.Class, .i a0.Power, .i a0.Draught, .i a0.Tonnes, .v (.slice a0_Thrust_p a0.Thrust.length a0_Thrust_c), .v (.slice a0_Water_p a0.Water.length a0_Water_c), .v (.slice a0_Ice_p a0.Ice.length a0_Ice_c), .i a0.Slow, .i a0.Brash, .i a0.Ridge, .i a0.Press]) (ltN rfl) sh_64 rfl rfl ⟨rfl, rfl, rfl, rfl, rfl, rfl, rfl, rfl, rfl, rfl, rfl, trivial⟩),
                ok_plain rfl rfl (op_move (ltN rfl) rfl),
                ok_plain rfl rfl (op_move (ltN rfl) rfl),
                ok_plain rfl rfl (op_ixB (ltN rfl) rfl rfl ss_66 (ha1_p (ne_of_ix (i := x4.2.1) hp9.1 hp9.2)) hp9.1 hp9.2),
                ok_plain rfl rfl (op_fieldAddrB (ltN rfl) rfl fo_152_0),
                ok_plain rfl rfl (op_loadB (y := .g [.i (((((prt a1 x4.2.1)).Cell).Conc).Lo), .i (((((prt a1 x4.2.1)).Cell).Conc).Hi), .i (((((prt a1 x4.2.1)).Cell).Thick).Lo), .i (((((prt a1 x4.2.1)).Cell).Thick).Hi), .i (((((prt a1 x4.2.1)).Cell).Ridge).Lo), .i (((((prt a1 x4.2.1)).Cell).Ridge).Hi), .i (((((prt a1 x4.2.1)).Cell).Press).Lo), .i (((((prt a1 x4.2.1)).Cell).Press).Hi)]) (ltN rfl) rfl (ldN (ha1_L (ne_of_ix (i := x4.2.1) hp9.1 hp9.2)) default (i := x4.2.1) hp9.1 hp9.2 0 (vs := [(.int .i64 (((((prt a1 x4.2.1)).Cell).Conc).Lo)), (.int .i64 (((((prt a1 x4.2.1)).Cell).Conc).Hi)), (.int .i64 (((((prt a1 x4.2.1)).Cell).Thick).Lo)), (.int .i64 (((((prt a1 x4.2.1)).Cell).Thick).Hi)), (.int .i64 (((((prt a1 x4.2.1)).Cell).Ridge).Lo)), (.int .i64 (((((prt a1 x4.2.1)).Cell).Ridge).Hi)), (.int .i64 (((((prt a1 x4.2.1)).Cell).Press).Lo)), (.int .i64 (((((prt a1 x4.2.1)).Cell).Press).Hi))]) (fun zq zv zh => sub_get (vs := [(.int .i64 (((((prt a1 x4.2.1)).Cell).Conc).Lo)), (.int .i64 (((((prt a1 x4.2.1)).Cell).Conc).Hi)), (.int .i64 (((((prt a1 x4.2.1)).Cell).Thick).Lo)), (.int .i64 (((((prt a1 x4.2.1)).Cell).Thick).Hi)), (.int .i64 (((((prt a1 x4.2.1)).Cell).Ridge).Lo)), (.int .i64 (((((prt a1 x4.2.1)).Cell).Ridge).Hi)), (.int .i64 (((((prt a1 x4.2.1)).Cell).Press).Lo)), (.int .i64 (((((prt a1 x4.2.1)).Cell).Press).Hi))]) rfl zh) rfl sh_72 rfl)),
                ok_plain rfl rfl (op_move (ltN rfl) rfl),
                ok_plain rfl rfl (op_move (ltN rfl) rfl),
                ok_plain rfl rfl (op_ixB (ltN rfl) rfl rfl ss_66 (ha1_p (ne_of_ix (i := x4.2.1) hp9.1 hp9.2)) hp9.1 hp9.2),
                ok_plain rfl rfl (op_fieldAddrB (ltN rfl) rfl fo_152_1),
                ok_plain rfl rfl (op_loadB (y := .B (((prt a1 x4.2.1)).Channel)) (ltN rfl) rfl (ld1 (ha1_L (ne_of_ix (i := x4.2.1) hp9.1 hp9.2)) default (i := x4.2.1) hp9.1 hp9.2 8 rfl rfl sh_4)),
                ok_plain rfl rfl (op_call (x := .t [.i v5.1, .i v5.2]) (fs := []) (caps := []) (extra := []) (ltN rfl) en_94 rfl ⟨rfl, rfl, rfl⟩ (EvL.cons rfl (EvL.cons rfl (EvL.cons rfl EvL.nil))) (fun mm aa ww gg hr hrel => (c94 F a0 ⟨a0_Thrust_p, a0.Thrust.length, a0_Thrust_c⟩ ⟨a0_Water_p, a0.Water.length, a0_Water_c⟩ ⟨a0_Ice_p, a0.Ice.length, a0_Ice_c⟩ ((((prt a1 x4.2.1)).Cell)) (((prt a1 x4.2.1)).Channel) ww (SlIs.mono ha0_Thrust hrel.below) (SlIs.mono ha0_Water hrel.below) (SlIs.mono ha0_Ice hrel.below) v5 hv5))),
                ok_plain rfl rfl (op_move (ltN rfl) rfl),
                ok_plain rfl rfl (op_extract (ltN rfl) rfl rfl),
                ok_plain rfl rfl (op_extract (ltN rfl) rfl rfl),
                ok_plain rfl rfl (op_assign (ltN rfl) rfl),
                ok_plain rfl rfl (op_assign (ltN rfl) rfl),
                trivial⟩ ?_
              refine fin_keep (s' := [kt 1 (.v (.slice a1_p a1.length a1_c)), kt 2 (.p 1 0), kt 5 (.p 2 0), kt 9 (.o 300 301 x4.1.length), kt 10 (.p 3 0), kt 11 (.i x4.2.1), kt 12 (.i v5.1), kt 13 (.i v5.2), kb 1 64 11, kb 2 32 2, kb 3 32 2, (.r 300, some (.vec true 301 3 1 (x4.1.flatMap encInt))), kc 1 0 (.i a0.Class), kc 1 1 (.i a0.Power), kc 1 2 (.i a0.Draught), kc 1 3 (.i a0.Tonnes), kc 1 4 (.v (.slice a0_Thrust_p a0.Thrust.length a0_Thrust_c)), kc 1 5 (.v (.slice a0_Water_p a0.Water.length a0_Water_c)), kc 1 6 (.v (.slice a0_Ice_p a0.Ice.length a0_Ice_c)), kc 1 7 (.i a0.Slow), kc 1 8 (.i a0.Brash), kc 1 9 (.i a0.Ridge), kc 1 10 (.i a0.Press), kc 2 0 (.i 0), kc 2 1 (.i 0), kc 3 0 (.i x4.2.2.1), kc 3 1 (.i x4.2.2.2)]) ?_ (kp rfl) rfl
              refine fin_then ?_
              refine aw_seq ?_
              refine aw_seq ?_
              refine aw_text (rows := [_, _]) rfl (by kernel_rfl) ⟨
                ok_plain rfl rfl (op_move (ltN rfl) rfl),
                ok_plain rfl rfl (op_bin (ltN rfl) rfl rfl rfl),
                trivial⟩ ?_
              refine fin_keep (s' := [kt 1 (.v (.slice a1_p a1.length a1_c)), kt 2 (.p 1 0), kt 5 (.p 2 0), kt 9 (.o 300 301 x4.1.length), kt 10 (.p 3 0), kt 11 (.i x4.2.1), kt 12 (.i v5.1), kt 13 (.i v5.2), kt 73 (.B (v5.2 != 0)), kb 1 64 11, kb 2 32 2, kb 3 32 2, (.r 300, some (.vec true 301 3 1 (x4.1.flatMap encInt))), kc 1 0 (.i a0.Class), kc 1 1 (.i a0.Power), kc 1 2 (.i a0.Draught), kc 1 3 (.i a0.Tonnes), kc 1 4 (.v (.slice a0_Thrust_p a0.Thrust.length a0_Thrust_c)), kc 1 5 (.v (.slice a0_Water_p a0.Water.length a0_Water_c)), kc 1 6 (.v (.slice a0_Ice_p a0.Ice.length a0_Ice_c)), kc 1 7 (.i a0.Slow), kc 1 8 (.i a0.Brash), kc 1 9 (.i a0.Ridge), kc 1 10 (.i a0.Press), kc 2 0 (.i 0), kc 2 1 (.i 0), kc 3 0 (.i x4.2.2.1), kc 3 1 (.i x4.2.2.2)]) ?_ (kp rfl) rfl
              refine fin_then ?_
              refine aw_cond rfl (fun hz10 => ?_) (fun hz10 => ?_)
              · have hm := brk_t hz10 hm
                refine aw_seq ?_
                refine aw_text (rows := [_, _, _, _, _, _]) rfl (by kernel_rfl) ⟨
                  ok_plain rfl rfl (op_move (ltN rfl) rfl),
                  ok_plain rfl rfl (op_build (x := .g [.i x4.2.1, .i 0]) (ltN rfl) (EvL.cons rfl EvL.nil) (fun m w => by kernel_rfl)),
                  ok_plain rfl rfl (op_move (ltN rfl) rfl),
                  ok_plain rfl rfl (op_assign (ltN rfl) rfl),
                  ok_plain rfl rfl (op_storeN sz_32 rfl rfl rfl rfl rfl (by decide)),
                  ok_plain rfl rfl (op_assign (ltN rfl) rfl),
                  trivial⟩ ?_
                refine fin_keep (s' := [kt 4 (.v (.slice none 0 0)), kt 5 (.p 2 0), kt 6 (.i v5.2), kb 2 32 2, kc 2 0 (.i x4.2.1), kc 2 1 (.i 0)]) ?_ (kp rfl) rfl
                refine fin_then ?_
                refine aw_ret ?_
                refine fin_then_ret ?_
                refine fin_block_ret ?_
                refine fin_then_ret ?_
                refine fin_then_ret ?_
                refine fin_block_ret ?_
                refine fin_then_ret ?_
                refine post_ret (x := .t [.v (.slice none 0 0), .g [.i x4.2.1, .i 0], .i v5.2]) rfl rfl (resOK_tmp rfl (resOK_cellN (ys := [.i x4.2.1, .i 0]) rfl sh_32 rfl ⟨rfl, rfl, trivial⟩ (resOK_tmp rfl resOK_nil))) rfl (fun mm aa ww hr => ?_)
                have hm := Option.some.inj hm
                subst hm
                exact ⟨[⟨none, 0, 0⟩], rfl, ⟨⟨rfl, newAt_nil, trivial⟩, ⟨trivial, trivial⟩⟩, hr.below⟩
              · have hm := brk_f hz10 hm
                refine aw_skip ?_
                refine fin_then ?_
                refine aw_seq ?_
                refine aw_text (rows := [_, _]) rfl (by kernel_rfl) ⟨
                  ok_plain rfl rfl (op_move (ltN rfl) rfl),
                  ok_plain rfl rfl (op_assign (ltN rfl) rfl),
                  trivial⟩ ?_
                refine fin_keep (s' := [kt 1 (.v (.slice a1_p a1.length a1_c)), kt 2 (.p 1 0), kt 5 (.p 2 0), kt 9 (.o 300 301 x4.1.length), kt 10 (.p 3 0), kt 11 (.i x4.2.1), kt 12 (.i v5.1), kt 14 (.i v5.1), kb 1 64 11, kb 2 32 2, kb 3 32 2, (.r 300, some (.vec true 301 3 1 (x4.1.flatMap encInt))), kc 1 0 (.i a0.Class), kc 1 1 (.i a0.Power), kc 1 2 (.i a0.Draught), kc 1 3 (.i a0.Tonnes), kc 1 4 (.v (.slice a0_Thrust_p a0.Thrust.length a0_Thrust_c)), kc 1 5 (.v (.slice a0_Water_p a0.Water.length a0_Water_c)), kc 1 6 (.v (.slice a0_Ice_p a0.Ice.length a0_Ice_c)), kc 1 7 (.i a0.Slow), kc 1 8 (.i a0.Brash), kc 1 9 (.i a0.Ridge), kc 1 10 (.i a0.Press), kc 2 0 (.i 0), kc 2 1 (.i 0), kc 3 0 (.i x4.2.2.1), kc 3 1 (.i x4.2.2.2)]) ?_ (kp rfl) rfl
                refine fin_then ?_
                refine aw_seq ?_
                obtain ⟨v6, hv6, hm⟩ := bnd_some hm
                refine aw_text (rows := [_, _, _, _, _, _, _]) rfl (by kernel_rfl) ⟨
                  ok_plain rfl rfl (op_move (ltN rfl) rfl),
                  ok_plain rfl rfl (op_move (ltN rfl) rfl),
                  ok_plain rfl rfl (op_ixB (ltN rfl) rfl rfl ss_66 (ha1_p (ne_of_ix (i := x4.2.1) hp9.1 hp9.2)) hp9.1 hp9.2),
                  ok_plain rfl rfl (op_fieldAddrB (ltN rfl) rfl fo_152_0),
                  ok_plain rfl rfl (op_loadB (y := .g [.i (((((prt a1 x4.2.1)).Cell).Conc).Lo), .i (((((prt a1 x4.2.1)).Cell).Conc).Hi), .i (((((prt a1 x4.2.1)).Cell).Thick).Lo), .i (((((prt a1 x4.2.1)).Cell).Thick).Hi), .i (((((prt a1 x4.2.1)).Cell).Ridge).Lo), .i (((((prt a1 x4.2.1)).Cell).Ridge).Hi), .i (((((prt a1 x4.2.1)).Cell).Press).Lo), .i (((((prt a1 x4.2.1)).Cell).Press).Hi)]) (ltN rfl) rfl (ldN (ha1_L (ne_of_ix (i := x4.2.1) hp9.1 hp9.2)) default (i := x4.2.1) hp9.1 hp9.2 0 (vs := [(.int .i64 (((((prt a1 x4.2.1)).Cell).Conc).Lo)), (.int .i64 (((((prt a1 x4.2.1)).Cell).Conc).Hi)), (.int .i64 (((((prt a1 x4.2.1)).Cell).Thick).Lo)), (.int .i64 (((((prt a1 x4.2.1)).Cell).Thick).Hi)), (.int .i64 (((((prt a1 x4.2.1)).Cell).Ridge).Lo)), (.int .i64 (((((prt a1 x4.2.1)).Cell).Ridge).Hi)), (.int .i64 (((((prt a1 x4.2.1)).Cell).Press).Lo)), (.int .i64 (((((prt a1 x4.2.1)).Cell).Press).Hi))]) (fun zq zv zh => sub_get (vs := [(.int .i64 (((((prt a1 x4.2.1)).Cell).Conc).Lo)), (.int .i64 (((((prt a1 x4.2.1)).Cell).Conc).Hi)), (.int .i64 (((((prt a1 x4.2.1)).Cell).Thick).Lo)), (.int .i64 (((((prt a1 x4.2.1)).Cell).Thick).Hi)), (.int .i64 (((((prt a1 x4.2.1)).Cell).Ridge).Lo)), (.int .i64 (((((prt a1 x4.2.1)).Cell).Ridge).Hi)), (.int .i64 (((((prt a1 x4.2.1)).Cell).Press).Lo)), (.int .i64 (((((prt a1 x4.2.1)).Cell).Press).Hi))]) rfl zh) rfl sh_72 rfl)),
                  ok_plain rfl rfl (op_callRowsD (x := .o 6 7 v6.length) (R := (fun vs => (vs.getD 0 (.bool false)))) (ls := [(6, 7)]) (ds := [(v6.length, 108, 4, v6.flatMap encIce)]) (fs := []) (caps := []) (extra := []) (ltN rfl) en_95 rfl ⟨rfl, rfl, rfl⟩ (EvL.cons rfl EvL.nil) rfl rfl (fun _ => rfl) (fun mm aa ww gg hr hrel => (c95 F ((((prt a1 x4.2.1)).Cell)) ww v6 hv6))),
                  ok_plain rfl rfl (op_assign (ltN rfl) rfl),
                  trivial⟩ ?_
                refine fin_keep (s' := [kt 1 (.v (.slice a1_p a1.length a1_c)), kt 2 (.p 1 0), kt 5 (.p 2 0), kt 9 (.o 300 301 x4.1.length), kt 10 (.p 3 0), kt 11 (.i x4.2.1), kt 12 (.i v5.1), kt 14 (.i v5.1), kt 15 (.o 6 7 v6.length), kb 1 64 11, kb 2 32 2, kb 3 32 2, (.r 6, some (.vec true 7 108 4 (v6.flatMap encIce))), (.r 300, some (.vec true 301 3 1 (x4.1.flatMap encInt))), kc 1 0 (.i a0.Class), kc 1 1 (.i a0.Power), kc 1 2 (.i a0.Draught), kc 1 3 (.i a0.Tonnes), kc 1 4 (.v (.slice a0_Thrust_p a0.Thrust.length a0_Thrust_c)), kc 1 5 (.v (.slice a0_Water_p a0.Water.length a0_Water_c)), kc 1 6 (.v (.slice a0_Ice_p a0.Ice.length a0_Ice_c)), kc 1 7 (.i a0.Slow), kc 1 8 (.i a0.Brash), kc 1 9 (.i a0.Ridge), kc 1 10 (.i a0.Press), kc 2 0 (.i 0), kc 2 1 (.i 0), kc 3 0 (.i x4.2.2.1), kc 3 1 (.i x4.2.2.2)]) ?_ (kp rfl) rfl
                refine fin_then ?_
                refine aw_cutM (ι := Int) hm (fun x6 => [kt 1 (.v (.slice a1_p a1.length a1_c)), kt 2 (.p 1 0), kt 5 (.p 2 0), kt 9 (.o 300 301 x4.1.length), kt 10 (.p 3 0), kt 11 (.i x4.2.1), kt 12 (.i v5.1), kt 14 (.i x6), kb 1 64 11, kb 2 32 2, kb 3 32 2, (.r 300, some (.vec true 301 3 1 (x4.1.flatMap encInt))), kc 1 0 (.i a0.Class), kc 1 1 (.i a0.Power), kc 1 2 (.i a0.Draught), kc 1 3 (.i a0.Tonnes), kc 1 4 (.v (.slice a0_Thrust_p a0.Thrust.length a0_Thrust_c)), kc 1 5 (.v (.slice a0_Water_p a0.Water.length a0_Water_c)), kc 1 6 (.v (.slice a0_Ice_p a0.Ice.length a0_Ice_c)), kc 1 7 (.i a0.Slow), kc 1 8 (.i a0.Brash), kc 1 9 (.i a0.Ridge), kc 1 10 (.i a0.Press), kc 2 0 (.i 0), kc 2 1 (.i 0), kc 3 0 (.i x4.2.2.1), kc 3 1 (.i x4.2.2.2)]) (fun hm => ?_) (fun x6 hm => ?_)
                · have _z := hm
                  refine aw_seq ?_
                  refine aw_text (rows := [_, _]) rfl (by kernel_rfl) ⟨
                    ok_plain rfl rfl (op_move (ltN rfl) rfl),
                    ok_plain rfl rfl (op_assign (ltN rfl) rfl),
                    trivial⟩ ?_
                  refine fin_keep (s' := [kt 1 (.v (.slice a1_p a1.length a1_c)), kt 2 (.p 1 0), kt 5 (.p 2 0), kt 9 (.o 300 301 x4.1.length), kt 10 (.p 3 0), kt 11 (.i x4.2.1), kt 12 (.i v5.1), kt 14 (.i v5.1), kt 15 (.o 6 7 v6.length), kt 16 (.i v5.1), kb 1 64 11, kb 2 32 2, kb 3 32 2, (.r 6, some (.vec true 7 108 4 (v6.flatMap encIce))), (.r 300, some (.vec true 301 3 1 (x4.1.flatMap encInt))), kc 1 0 (.i a0.Class), kc 1 1 (.i a0.Power), kc 1 2 (.i a0.Draught), kc 1 3 (.i a0.Tonnes), kc 1 4 (.v (.slice a0_Thrust_p a0.Thrust.length a0_Thrust_c)), kc 1 5 (.v (.slice a0_Water_p a0.Water.length a0_Water_c)), kc 1 6 (.v (.slice a0_Ice_p a0.Ice.length a0_Ice_c)), kc 1 7 (.i a0.Slow), kc 1 8 (.i a0.Brash), kc 1 9 (.i a0.Ridge), kc 1 10 (.i a0.Press), kc 2 0 (.i 0), kc 2 1 (.i 0), kc 3 0 (.i x4.2.2.1), kc 3 1 (.i x4.2.2.2)]) ?_ (kp rfl) rfl
                  refine fin_then ?_
                  refine aw_block ?_
                  refine aw_loopC hm (fun x7 => [kt 1 (.v (.slice a1_p a1.length a1_c)), kt 2 (.p 1 0), kt 5 (.p 2 0), kt 9 (.o 300 301 x4.1.length), kt 10 (.p 3 0), kt 11 (.i x4.2.1), kt 12 (.i v5.1), kt 14 (.i x7.1), kt 15 (.o 6 7 v6.length), kt 16 (.i x7.2), kb 1 64 11, kb 2 32 2, kb 3 32 2, (.r 6, some (.vec true 7 108 4 (v6.flatMap encIce))), (.r 300, some (.vec true 301 3 1 (x4.1.flatMap encInt))), kc 1 0 (.i a0.Class), kc 1 1 (.i a0.Power), kc 1 2 (.i a0.Draught), kc 1 3 (.i a0.Tonnes), kc 1 4 (.v (.slice a0_Thrust_p a0.Thrust.length a0_Thrust_c)), kc 1 5 (.v (.slice a0_Water_p a0.Water.length a0_Water_c)), kc 1 6 (.v (.slice a0_Ice_p a0.Ice.length a0_Ice_c)), kc 1 7 (.i a0.Slow), kc 1 8 (.i a0.Brash), kc 1 9 (.i a0.Ridge), kc 1 10 (.i a0.Press), kc 2 0 (.i 0), kc 2 1 (.i 0), kc 3 0 (.i x4.2.2.1), kc 3 1 (.i x4.2.2.2)]) ⟨rfl, rfl, rfl, rfl, rfl, rfl, rfl, rfl, rfl, rfl, rfl, rfl, rfl, rfl, rfl, rfl, rfl, rfl, rfl, rfl, rfl, rfl, rfl, rfl, rfl, rfl, rfl, rfl, rfl, rfl, trivial⟩ rfl (fun x7 n7 hm => ?_)
                  refine aw_seq ?_
                  refine aw_seq ?_
                  refine aw_text (rows := [_, _]) rfl (by kernel_rfl) ⟨
                    ok_plain rfl rfl (op_move (ltN rfl) rfl),
                    ok_plain rfl rfl (op_bin (ltN rfl) rfl rfl rfl),
                    trivial⟩ ?_
                  refine fin_keep (s' := [kt 1 (.v (.slice a1_p a1.length a1_c)), kt 2 (.p 1 0), kt 5 (.p 2 0), kt 9 (.o 300 301 x4.1.length), kt 10 (.p 3 0), kt 11 (.i x4.2.1), kt 12 (.i v5.1), kt 14 (.i x7.1), kt 15 (.o 6 7 v6.length), kt 16 (.i x7.2), kt 86 (.B (decide (x7.2 ≤ 250))), kb 1 64 11, kb 2 32 2, kb 3 32 2, (.r 6, some (.vec true 7 108 4 (v6.flatMap encIce))), (.r 300, some (.vec true 301 3 1 (x4.1.flatMap encInt))), kc 1 0 (.i a0.Class), kc 1 1 (.i a0.Power), kc 1 2 (.i a0.Draught), kc 1 3 (.i a0.Tonnes), kc 1 4 (.v (.slice a0_Thrust_p a0.Thrust.length a0_Thrust_c)), kc 1 5 (.v (.slice a0_Water_p a0.Water.length a0_Water_c)), kc 1 6 (.v (.slice a0_Ice_p a0.Ice.length a0_Ice_c)), kc 1 7 (.i a0.Slow), kc 1 8 (.i a0.Brash), kc 1 9 (.i a0.Ridge), kc 1 10 (.i a0.Press), kc 2 0 (.i 0), kc 2 1 (.i 0), kc 3 0 (.i x4.2.2.1), kc 3 1 (.i x4.2.2.2)]) ?_ (kp rfl) rfl
                  refine fin_then ?_
                  refine aw_cond rfl (fun hz11 => ?_) (fun hz11 => ?_)
                  · have hm := brk_t hz11 hm
                    refine aw_skip ?_
                    refine fin_then ?_
                    refine aw_cutM (ι := Int) hm (fun x8 => [kt 1 (.v (.slice a1_p a1.length a1_c)), kt 2 (.p 1 0), kt 5 (.p 2 0), kt 9 (.o 300 301 x4.1.length), kt 10 (.p 3 0), kt 11 (.i x4.2.1), kt 12 (.i v5.1), kt 14 (.i x8), kt 15 (.o 6 7 v6.length), kt 16 (.i x7.2), kb 1 64 11, kb 2 32 2, kb 3 32 2, (.r 6, some (.vec true 7 108 4 (v6.flatMap encIce))), (.r 300, some (.vec true 301 3 1 (x4.1.flatMap encInt))), kc 1 0 (.i a0.Class), kc 1 1 (.i a0.Power), kc 1 2 (.i a0.Draught), kc 1 3 (.i a0.Tonnes), kc 1 4 (.v (.slice a0_Thrust_p a0.Thrust.length a0_Thrust_c)), kc 1 5 (.v (.slice a0_Water_p a0.Water.length a0_Water_c)), kc 1 6 (.v (.slice a0_Ice_p a0.Ice.length a0_Ice_c)), kc 1 7 (.i a0.Slow), kc 1 8 (.i a0.Brash), kc 1 9 (.i a0.Ridge), kc 1 10 (.i a0.Press), kc 2 0 (.i 0), kc 2 1 (.i 0), kc 3 0 (.i x4.2.2.1), kc 3 1 (.i x4.2.2.2)]) (fun hm => ?_) (fun x8 hm => ?_)
                    · have _z := hm
                      refine aw_block ?_
                      refine aw_seq ?_
                      refine aw_text (rows := [_]) rfl (by kernel_rfl) ⟨
                        ok_plain rfl rfl (op_assign (ltN rfl) rfl),
                        trivial⟩ ?_
                      refine fin_keep (s' := [kt 1 (.v (.slice a1_p a1.length a1_c)), kt 2 (.p 1 0), kt 5 (.p 2 0), kt 9 (.o 300 301 x4.1.length), kt 10 (.p 3 0), kt 11 (.i x4.2.1), kt 12 (.i v5.1), kt 14 (.i x7.1), kt 15 (.o 6 7 v6.length), kt 16 (.i x7.2), kt 17 (.i 0), kb 1 64 11, kb 2 32 2, kb 3 32 2, (.r 6, some (.vec true 7 108 4 (v6.flatMap encIce))), (.r 300, some (.vec true 301 3 1 (x4.1.flatMap encInt))), kc 1 0 (.i a0.Class), kc 1 1 (.i a0.Power), kc 1 2 (.i a0.Draught), kc 1 3 (.i a0.Tonnes), kc 1 4 (.v (.slice a0_Thrust_p a0.Thrust.length a0_Thrust_c)), kc 1 5 (.v (.slice a0_Water_p a0.Water.length a0_Water_c)), kc 1 6 (.v (.slice a0_Ice_p a0.Ice.length a0_Ice_c)), kc 1 7 (.i a0.Slow), kc 1 8 (.i a0.Brash), kc 1 9 (.i a0.Ridge), kc 1 10 (.i a0.Press), kc 2 0 (.i 0), kc 2 1 (.i 0), kc 3 0 (.i x4.2.2.1), kc 3 1 (.i x4.2.2.2)]) ?_ (kp rfl) rfl
                      refine fin_then ?_
                      refine aw_block ?_
                      refine aw_loopC hm (fun x9 => [kt 1 (.v (.slice a1_p a1.length a1_c)), kt 2 (.p 1 0), kt 5 (.p 2 0), kt 9 (.o 300 301 x4.1.length), kt 10 (.p 3 0), kt 11 (.i x4.2.1), kt 12 (.i v5.1), kt 14 (.i x9.1), kt 15 (.o 6 7 v6.length), kt 16 (.i x7.2), kt 17 (.i x9.2), kb 1 64 11, kb 2 32 2, kb 3 32 2, (.r 6, some (.vec true 7 108 4 (v6.flatMap encIce))), (.r 300, some (.vec true 301 3 1 (x4.1.flatMap encInt))), kc 1 0 (.i a0.Class), kc 1 1 (.i a0.Power), kc 1 2 (.i a0.Draught), kc 1 3 (.i a0.Tonnes), kc 1 4 (.v (.slice a0_Thrust_p a0.Thrust.length a0_Thrust_c)), kc 1 5 (.v (.slice a0_Water_p a0.Water.length a0_Water_c)), kc 1 6 (.v (.slice a0_Ice_p a0.Ice.length a0_Ice_c)), kc 1 7 (.i a0.Slow), kc 1 8 (.i a0.Brash), kc 1 9 (.i a0.Ridge), kc 1 10 (.i a0.Press), kc 2 0 (.i 0), kc 2 1 (.i 0), kc 3 0 (.i x4.2.2.1), kc 3 1 (.i x4.2.2.2)]) ⟨rfl, rfl, rfl, rfl, rfl, rfl, rfl, rfl, rfl, rfl, rfl, rfl, rfl, rfl, rfl, rfl, rfl, rfl, rfl, rfl, rfl, rfl, rfl, rfl, rfl, rfl, rfl, rfl, rfl, rfl, rfl, trivial⟩ rfl (fun x9 n9 hm => ?_)
                      refine aw_seq ?_
                      refine aw_seq ?_
                      refine aw_text (rows := [_, _, _, _]) rfl (by kernel_rfl) ⟨
                        ok_plain rfl rfl (op_move (ltN rfl) rfl),
                        ok_plain rfl rfl (op_move (ltN rfl) rfl),
                        ok_plain rfl rfl (op_lenO (n := v6.length) (ltN rfl) (by rw [ss_154]; rfl) rfl),
                        ok_plain rfl rfl (op_bin (ltN rfl) rfl rfl rfl),
                        trivial⟩ ?_
                      refine fin_keep (s' := [kt 1 (.v (.slice a1_p a1.length a1_c)), kt 2 (.p 1 0), kt 5 (.p 2 0), kt 9 (.o 300 301 x4.1.length), kt 10 (.p 3 0), kt 11 (.i x4.2.1), kt 12 (.i v5.1), kt 14 (.i x9.1), kt 15 (.o 6 7 v6.length), kt 16 (.i x7.2), kt 17 (.i x9.2), kt 92 (.B (decide (x9.2 < (((v6.length : Nat) : Int))))), kb 1 64 11, kb 2 32 2, kb 3 32 2, (.r 6, some (.vec true 7 108 4 (v6.flatMap encIce))), (.r 300, some (.vec true 301 3 1 (x4.1.flatMap encInt))), kc 1 0 (.i a0.Class), kc 1 1 (.i a0.Power), kc 1 2 (.i a0.Draught), kc 1 3 (.i a0.Tonnes), kc 1 4 (.v (.slice a0_Thrust_p a0.Thrust.length a0_Thrust_c)), kc 1 5 (.v (.slice a0_Water_p a0.Water.length a0_Water_c)), kc 1 6 (.v (.slice a0_Ice_p a0.Ice.length a0_Ice_c)), kc 1 7 (.i a0.Slow), kc 1 8 (.i a0.Brash), kc 1 9 (.i a0.Ridge), kc 1 10 (.i a0.Press), kc 2 0 (.i 0), kc 2 1 (.i 0), kc 3 0 (.i x4.2.2.1), kc 3 1 (.i x4.2.2.2)]) ?_ (kp rfl) rfl
                      refine fin_then ?_
                      refine aw_cond rfl (fun hz12 => ?_) (fun hz12 => ?_)
                      · have hm := brk_t hz12 hm
                        refine aw_skip ?_
                        refine fin_then ?_
                        refine aw_cutM (ι := Int) hm (fun x10 => [kt 1 (.v (.slice a1_p a1.length a1_c)), kt 2 (.p 1 0), kt 5 (.p 2 0), kt 9 (.o 300 301 x4.1.length), kt 10 (.p 3 0), kt 11 (.i x4.2.1), kt 12 (.i v5.1), kt 14 (.i x10), kt 15 (.o 6 7 v6.length), kt 16 (.i x7.2), kt 17 (.i x9.2), kb 1 64 11, kb 2 32 2, kb 3 32 2, (.r 6, some (.vec true 7 108 4 (v6.flatMap encIce))), (.r 300, some (.vec true 301 3 1 (x4.1.flatMap encInt))), kc 1 0 (.i a0.Class), kc 1 1 (.i a0.Power), kc 1 2 (.i a0.Draught), kc 1 3 (.i a0.Tonnes), kc 1 4 (.v (.slice a0_Thrust_p a0.Thrust.length a0_Thrust_c)), kc 1 5 (.v (.slice a0_Water_p a0.Water.length a0_Water_c)), kc 1 6 (.v (.slice a0_Ice_p a0.Ice.length a0_Ice_c)), kc 1 7 (.i a0.Slow), kc 1 8 (.i a0.Brash), kc 1 9 (.i a0.Ridge), kc 1 10 (.i a0.Press), kc 2 0 (.i 0), kc 2 1 (.i 0), kc 3 0 (.i x4.2.2.1), kc 3 1 (.i x4.2.2.2)]) (fun hm => ?_) (fun x10 hm => ?_)
                        · have _z := hm
                          refine aw_block ?_
                          refine aw_seq ?_
                          obtain ⟨hp13, hm⟩ := chk_some hm
                          obtain ⟨v7, hv7, hm⟩ := bnd_some hm
                          obtain ⟨v8, hv8, hm⟩ := bnd_some hm
                          obtain ⟨v9, hv9, hm⟩ := bnd_some hm
                          refine aw_any (rows := [_, _, _, _, _, _, _, _, _, _, _, _, _, _, _, _, _, _, _, _, _, _, _, _, _, _, _, _, _]) (M := [0, 0, 0, 6, 14, 0, 0, 0, 192, 448, 960, 2047, 4095, 8191, 8191, 32767, 65535, 8191, 8191, 8191, 794623, 1843199, 3940351, 8388607, 8191, 16785407, 67108863, 134217727, 268435455]) Tryd_mixed (by kernel_rfl) rfl (by kernel_rfl) ⟨
                            ok_plain rfl rfl (op_loadN (ys := [.i a0.Class, .i a0.Power, .i a0.Draught, .i a0.Tonnes, .v (.slice a0_Thrust_p a0.Thrust.length a0_Thrust_c), .v (.slice a0_Water_p a0.Water.length a0_Water_c), .v (.slice a0_Ice_p a0.Ice.length a0_Ice_c), .i a0.Slow, .i a0.Brash, .i a0.Ridge, .i a0.Press]) (ltN rfl) sh_64 rfl rfl ⟨rfl, rfl, rfl, rfl, rfl, rfl, rfl, rfl, rfl, rfl, rfl, trivial⟩),
                            ok_plain rfl rfl (op_move (ltN rfl) rfl),
                            ok_plain rfl rfl (op_move (ltN rfl) rfl),
                            ok_plain rfl rfl (op_ixO (ltN rfl) rfl rfl ss_154 rfl (flat_ne (enc := encIce) (k := 4) (fun _ => rfl) (by decide) (i := x9.2) hp13.1 hp13.2) hp13.1 hp13.2),
                            ok_plain rfl rfl (op_loadON (vs := [(.int .i64 (((v6.getD x9.2.toNat default)).Conc)), (.int .i64 (((v6.getD x9.2.toNat default)).Thick)), (.int .i64 (((v6.getD x9.2.toNat default)).Ridge)), (.int .i64 (((v6.getD x9.2.toNat default)).Press))]) (ltN rfl) sh_108 rfl rfl rfl (fun zq zv zh => flat_sub (k := 4) (l := v6) (enc := encIce) (fun _ => rfl) default (i := x9.2) hp13.1 hp13.2 0 (vs := [(.int .i64 (((v6.getD x9.2.toNat default)).Conc)), (.int .i64 (((v6.getD x9.2.toNat default)).Thick)), (.int .i64 (((v6.getD x9.2.toNat default)).Ridge)), (.int .i64 (((v6.getD x9.2.toNat default)).Press))]) rfl zh)),
                            ok_plain rfl rfl (op_move (ltN rfl) rfl),
                            ok_plain rfl rfl (op_move (ltN rfl) rfl),
                            ok_plain rfl rfl (op_move (ltN rfl) rfl),
                            ok_plain rfl rfl (op_ixB (ltN rfl) rfl rfl ss_66 (ha1_p (ne_of_ix (i := x4.2.1) hp9.1 hp9.2)) hp9.1 hp9.2),
                            ok_plain rfl rfl (op_fieldAddrB (ltN rfl) rfl fo_152_1),
                            ok_plain rfl rfl (op_loadB (y := .B (((prt a1 x4.2.1)).Channel)) (ltN rfl) rfl (ld1 (ha1_L (ne_of_ix (i := x4.2.1) hp9.1 hp9.2)) default (i := x4.2.1) hp9.1 hp9.2 8 rfl rfl sh_4)),
                            ok_plain rfl rfl (op_call (x := .B v7) (fs := []) (caps := []) (extra := []) (ltN rfl) en_96 rfl ⟨rfl, rfl, rfl⟩ (EvL.cons rfl (EvL.cons rfl (EvL.cons rfl (EvL.cons rfl EvL.nil)))) (fun mm aa ww gg hr hrel => (c96 F a0 ⟨a0_Thrust_p, a0.Thrust.length, a0_Thrust_c⟩ ⟨a0_Water_p, a0.Water.length, a0_Water_c⟩ ⟨a0_Ice_p, a0.Ice.length, a0_Ice_c⟩ ((v6.getD x9.2.toNat default)) x7.2 (((prt a1 x4.2.1)).Channel) ww (SlIs.mono ha0_Thrust hrel.below) (SlIs.mono ha0_Water hrel.below) (SlIs.mono ha0_Ice hrel.below) v7 hv7))),
                            ok_plain rfl rfl (op_move (ltN rfl) rfl),
                            ok_if (ltN rfl) rfl rfl rfl rfl rfl rfl (fun hg14 => op_move (ltN rfl) (force_x rfl)),
                            ok_if (ltN rfl) rfl rfl rfl rfl rfl rfl (fun hg15 => op_move (ltN rfl) (force_x rfl)),
                            ok_if (ltN rfl) rfl rfl rfl rfl rfl rfl (fun hg16 => op_ixO (ltN rfl) (force_eq (beq_iff_eq.2 hg16) rfl) (force_eq (beq_iff_eq.2 hg16) rfl) ss_154 rfl (flat_ne (enc := encIce) (k := 4) (fun _ => rfl) (by decide) (i := x9.2) hp13.1 hp13.2) hp13.1 hp13.2),
                            ok_if (ltN rfl) rfl rfl rfl rfl rfl rfl (fun hg17 => op_loadON (vs := [(.int .i64 (((v6.getD x9.2.toNat default)).Conc)), (.int .i64 (((v6.getD x9.2.toNat default)).Thick)), (.int .i64 (((v6.getD x9.2.toNat default)).Ridge)), (.int .i64 (((v6.getD x9.2.toNat default)).Press))]) (ltN rfl) sh_108 (force_eq (beq_iff_eq.2 hg17) rfl) rfl rfl (fun zq zv zh => flat_sub (k := 4) (l := v6) (enc := encIce) (fun _ => rfl) default (i := x9.2) hp13.1 hp13.2 0 (vs := [(.int .i64 (((v6.getD x9.2.toNat default)).Conc)), (.int .i64 (((v6.getD x9.2.toNat default)).Thick)), (.int .i64 (((v6.getD x9.2.toNat default)).Ridge)), (.int .i64 (((v6.getD x9.2.toNat default)).Press))]) rfl zh)),
                            ok_if (ltN rfl) rfl rfl rfl rfl rfl rfl (fun hg18 => op_move (ltN rfl) (force_x rfl)),
                            ok_if (ltN rfl) rfl rfl rfl rfl rfl rfl (fun hg19 => op_move (ltN rfl) (force_x rfl)),
                            ok_if (ltN rfl) rfl rfl rfl rfl rfl rfl (fun hg20 => op_move (ltN rfl) (force_x rfl)),
                            ok_if (ltN rfl) rfl rfl rfl rfl rfl rfl (fun hg21 => op_ixB (ltN rfl) (force_eq (beq_iff_eq.2 hg21) rfl) (force_eq (beq_iff_eq.2 hg21) rfl) ss_66 (ha1_p (ne_of_ix (i := x4.2.1) hp9.1 hp9.2)) hp9.1 hp9.2),
                            ok_if (ltN rfl) rfl rfl rfl rfl rfl rfl (fun hg22 => op_fieldAddrB (ltN rfl) (force_eq (beq_iff_eq.2 hg22) rfl) fo_152_1),
                            ok_if (ltN rfl) rfl rfl rfl rfl rfl rfl (fun hg23 => op_loadB (y := .B (((prt a1 x4.2.1)).Channel)) (ltN rfl) (force_eq (beq_iff_eq.2 hg23) rfl) (ld1 (ha1_L (ne_of_ix (i := x4.2.1) hp9.1 hp9.2)) default (i := x4.2.1) hp9.1 hp9.2 8 rfl rfl sh_4)),
                            ok_if (ltN rfl) rfl rfl rfl rfl rfl rfl (fun hg24 => op_call (x := .i v8) (fs := []) (caps := []) (extra := []) (ltN rfl) en_97 rfl ⟨rfl, rfl, rfl⟩ (EvL.cons (force_eq (beq_iff_eq.2 hg24) rfl) (EvL.cons (force_eq (beq_iff_eq.2 hg24) rfl) (EvL.cons (force_eq (beq_iff_eq.2 hg24) rfl) EvL.nil))) (fun mm aa ww gg hr hrel => (c97 F ((v6.getD x9.2.toNat default)) x7.2 (((prt a1 x4.2.1)).Channel) ww v8 (brk_t hg24 hv8)))),
                            ok_if (ltN rfl) rfl rfl rfl rfl rfl rfl (fun hg25 => op_fieldAddr (ltN rfl) (force_x rfl) fo_64_0),
                            ok_if (ltN rfl) rfl rfl rfl rfl rfl rfl (fun hg26 => op_load1 (ltN rfl) sh_3 (force_eq (beq_iff_eq.2 hg26) rfl) rfl),
                            ok_if (ltN rfl) rfl rfl rfl rfl rfl rfl (fun hg27 => op_call (x := .i v9) (fs := []) (caps := []) (extra := []) (ltN rfl) en_98 rfl ⟨rfl, rfl, rfl⟩ (EvL.cons (force_eq (beq_iff_eq.2 hg27) rfl) EvL.nil) (fun mm aa ww gg hr hrel => (c98 F a0.Class ww v9 (brk_t hg27 hv9)))),
                            ok_if (ltN rfl) rfl rfl rfl rfl rfl rfl (fun hg28 => op_bin (ltN rfl) (force_eq (beq_iff_eq.2 hg28) rfl) (force_eq (beq_iff_eq.2 hg28) rfl) rfl),
                            ok_plain rfl rfl (op_and (ltN rfl) rfl rfl),
                            trivial⟩ ?_
                          refine fin_keep (s' := [kt 1 (.v (.slice a1_p a1.length a1_c)), kt 2 (.p 1 0), kt 5 (.p 2 0), kt 9 (.o 300 301 x4.1.length), kt 10 (.p 3 0), kt 11 (.i x4.2.1), kt 12 (.i v5.1), kt 14 (.i x9.1), kt 15 (.o 6 7 v6.length), kt 16 (.i x7.2), kt 17 (.i x9.2), kt 123 (.B (v7 && (decide (v8 ≤ v9)))), kb 1 64 11, kb 2 32 2, kb 3 32 2, (.r 6, some (.vec true 7 108 4 (v6.flatMap encIce))), (.r 300, some (.vec true 301 3 1 (x4.1.flatMap encInt))), kc 1 0 (.i a0.Class), kc 1 1 (.i a0.Power), kc 1 2 (.i a0.Draught), kc 1 3 (.i a0.Tonnes), kc 1 4 (.v (.slice a0_Thrust_p a0.Thrust.length a0_Thrust_c)), kc 1 5 (.v (.slice a0_Water_p a0.Water.length a0_Water_c)), kc 1 6 (.v (.slice a0_Ice_p a0.Ice.length a0_Ice_c)), kc 1 7 (.i a0.Slow), kc 1 8 (.i a0.Brash), kc 1 9 (.i a0.Ridge), kc 1 10 (.i a0.Press), kc 2 0 (.i 0), kc 2 1 (.i 0), kc 3 0 (.i x4.2.2.1), kc 3 1 (.i x4.2.2.2)]) ?_ (kp rfl) rfl
                          refine fin_then ?_
                          refine aw_cond rfl (fun hz29 => ?_) (fun hz29 => ?_)
                          · have hm := brk_t hz29 hm
                            refine aw_text (rows := [_, _]) rfl (by kernel_rfl) ⟨
                              ok_plain rfl rfl (op_move (ltN rfl) rfl),
                              ok_plain rfl rfl (op_assign (ltN rfl) rfl),
                              trivial⟩ ?_
                            refine fin_keep (s' := [kt 1 (.v (.slice a1_p a1.length a1_c)), kt 2 (.p 1 0), kt 5 (.p 2 0), kt 9 (.o 300 301 x4.1.length), kt 10 (.p 3 0), kt 11 (.i x4.2.1), kt 12 (.i v5.1), kt 14 (.i x7.2), kt 15 (.o 6 7 v6.length), kt 16 (.i x7.2), kt 17 (.i x9.2), kb 1 64 11, kb 2 32 2, kb 3 32 2, (.r 6, some (.vec true 7 108 4 (v6.flatMap encIce))), (.r 300, some (.vec true 301 3 1 (x4.1.flatMap encInt))), kc 1 0 (.i a0.Class), kc 1 1 (.i a0.Power), kc 1 2 (.i a0.Draught), kc 1 3 (.i a0.Tonnes), kc 1 4 (.v (.slice a0_Thrust_p a0.Thrust.length a0_Thrust_c)), kc 1 5 (.v (.slice a0_Water_p a0.Water.length a0_Water_c)), kc 1 6 (.v (.slice a0_Ice_p a0.Ice.length a0_Ice_c)), kc 1 7 (.i a0.Slow), kc 1 8 (.i a0.Brash), kc 1 9 (.i a0.Ridge), kc 1 10 (.i a0.Press), kc 2 0 (.i 0), kc 2 1 (.i 0), kc 3 0 (.i x4.2.2.1), kc 3 1 (.i x4.2.2.2)]) ?_ (kp rfl) rfl
                            refine fin_block ?_
                            exact fin_cut x7.2 hm ⟨rfl, rfl, rfl, rfl, rfl, rfl, rfl, rfl, rfl, rfl, rfl, rfl, rfl, rfl, rfl, rfl, rfl, rfl, rfl, rfl, rfl, rfl, rfl, rfl, rfl, rfl, rfl, rfl, rfl, rfl, rfl, trivial⟩ rfl
                          · have hm := brk_f hz29 hm
                            refine aw_skip ?_
                            refine fin_block ?_
                            exact fin_cut x9.1 hm ⟨rfl, rfl, rfl, rfl, rfl, rfl, rfl, rfl, rfl, rfl, rfl, rfl, rfl, rfl, rfl, rfl, rfl, rfl, rfl, rfl, rfl, rfl, rfl, rfl, rfl, rfl, rfl, rfl, rfl, rfl, rfl, trivial⟩ rfl
                        · have _z := hm
                          obtain ⟨hp30, hm⟩ := chk_some hm
                          refine aw_text (rows := [_, _, _]) rfl (by kernel_rfl) ⟨
                            ok_plain rfl rfl (op_move (ltN rfl) rfl),
                            ok_plain rfl rfl (op_bin (ltN rfl) rfl rfl (nw_add hp30)),
                            ok_plain rfl rfl (op_assign (ltN rfl) rfl),
                            trivial⟩ ?_
                          refine fin_keep (s' := [kt 1 (.v (.slice a1_p a1.length a1_c)), kt 2 (.p 1 0), kt 5 (.p 2 0), kt 9 (.o 300 301 x4.1.length), kt 10 (.p 3 0), kt 11 (.i x4.2.1), kt 12 (.i v5.1), kt 14 (.i x10), kt 15 (.o 6 7 v6.length), kt 16 (.i x7.2), kt 17 (.i (x9.2 + 1)), kb 1 64 11, kb 2 32 2, kb 3 32 2, (.r 6, some (.vec true 7 108 4 (v6.flatMap encIce))), (.r 300, some (.vec true 301 3 1 (x4.1.flatMap encInt))), kc 1 0 (.i a0.Class), kc 1 1 (.i a0.Power), kc 1 2 (.i a0.Draught), kc 1 3 (.i a0.Tonnes), kc 1 4 (.v (.slice a0_Thrust_p a0.Thrust.length a0_Thrust_c)), kc 1 5 (.v (.slice a0_Water_p a0.Water.length a0_Water_c)), kc 1 6 (.v (.slice a0_Ice_p a0.Ice.length a0_Ice_c)), kc 1 7 (.i a0.Slow), kc 1 8 (.i a0.Brash), kc 1 9 (.i a0.Ridge), kc 1 10 (.i a0.Press), kc 2 0 (.i 0), kc 2 1 (.i 0), kc 3 0 (.i x4.2.2.1), kc 3 1 (.i x4.2.2.2)]) ?_ (kp rfl) rfl
                          exact fin_cut (x10, x9.2 + 1) hm ⟨rfl, rfl, rfl, rfl, rfl, rfl, rfl, rfl, rfl, rfl, rfl, rfl, rfl, rfl, rfl, rfl, rfl, rfl, rfl, rfl, rfl, rfl, rfl, rfl, rfl, rfl, rfl, rfl, rfl, rfl, rfl, trivial⟩ rfl
                      · have hm := brk_f hz12 hm
                        refine aw_exit ?_
                        refine fin_then_exit ?_
                        refine fin_then_exit ?_
                        refine fin_block_exit ?_
                        refine fin_block ?_
                        exact fin_cut x9.1 hm ⟨rfl, rfl, rfl, rfl, rfl, rfl, rfl, rfl, rfl, rfl, rfl, rfl, rfl, rfl, rfl, rfl, rfl, rfl, rfl, rfl, rfl, rfl, rfl, rfl, rfl, rfl, rfl, rfl, rfl, rfl, trivial⟩ rfl
                    · have _z := hm
                      obtain ⟨hp31, hm⟩ := chk_some hm
                      refine aw_text (rows := [_, _, _]) rfl (by kernel_rfl) ⟨
                        ok_plain rfl rfl (op_move (ltN rfl) rfl),
                        ok_plain rfl rfl (op_bin (ltN rfl) rfl rfl (nw_add hp31)),
                        ok_plain rfl rfl (op_assign (ltN rfl) rfl),
                        trivial⟩ ?_
                      refine fin_keep (s' := [kt 1 (.v (.slice a1_p a1.length a1_c)), kt 2 (.p 1 0), kt 5 (.p 2 0), kt 9 (.o 300 301 x4.1.length), kt 10 (.p 3 0), kt 11 (.i x4.2.1), kt 12 (.i v5.1), kt 14 (.i x8), kt 15 (.o 6 7 v6.length), kt 16 (.i (x7.2 + 1)), kb 1 64 11, kb 2 32 2, kb 3 32 2, (.r 6, some (.vec true 7 108 4 (v6.flatMap encIce))), (.r 300, some (.vec true 301 3 1 (x4.1.flatMap encInt))), kc 1 0 (.i a0.Class), kc 1 1 (.i a0.Power), kc 1 2 (.i a0.Draught), kc 1 3 (.i a0.Tonnes), kc 1 4 (.v (.slice a0_Thrust_p a0.Thrust.length a0_Thrust_c)), kc 1 5 (.v (.slice a0_Water_p a0.Water.length a0_Water_c)), kc 1 6 (.v (.slice a0_Ice_p a0.Ice.length a0_Ice_c)), kc 1 7 (.i a0.Slow), kc 1 8 (.i a0.Brash), kc 1 9 (.i a0.Ridge), kc 1 10 (.i a0.Press), kc 2 0 (.i 0), kc 2 1 (.i 0), kc 3 0 (.i x4.2.2.1), kc 3 1 (.i x4.2.2.2)]) ?_ (kp rfl) rfl
                      exact fin_cut (x8, x7.2 + 1) hm ⟨rfl, rfl, rfl, rfl, rfl, rfl, rfl, rfl, rfl, rfl, rfl, rfl, rfl, rfl, rfl, rfl, rfl, rfl, rfl, rfl, rfl, rfl, rfl, rfl, rfl, rfl, rfl, rfl, rfl, rfl, trivial⟩ rfl
                  · have hm := brk_f hz11 hm
                    refine aw_exit ?_
                    refine fin_then_exit ?_
                    refine fin_then_exit ?_
                    refine fin_block_exit ?_
                    exact fin_cut x7.1 hm ⟨rfl, rfl, rfl, rfl, rfl, rfl, rfl, rfl, rfl, rfl, rfl, rfl, rfl, rfl, rfl, rfl, rfl, rfl, rfl, rfl, rfl, rfl, rfl, rfl, rfl, rfl, rfl, trivial⟩ rfl
                · have _z := hm
                  refine aw_seq ?_
                  obtain ⟨hp32, hm⟩ := chk_some hm
                  refine aw_text (rows := [_, _, _, _, _]) rfl (by kernel_rfl) ⟨
                    ok_plain rfl rfl (op_move (ltN rfl) rfl),
                    ok_plain rfl rfl (op_move (ltN rfl) rfl),
                    ok_plain rfl rfl (op_buildSlice (L := 8) (ety := 3) (cs := [.i v5.1]) (ltN rfl) (EvL.cons rfl EvL.nil) rfl (fun m w => by kernel_rfl)),
                    ok_plain rfl rfl (op_append (L' := 9) (C' := 10) (vs := [(.int .i64 v5.1)]) (ltN rfl) af_49 rfl rfl (flat_length (enc := encInt) (fun _ => rfl) x4.1) rfl ⟨rfl, trivial⟩ rfl rfl (by decide) (by have := hp32; omega) (by have := hp32; omega) (by decide)),
                    ok_plain rfl rfl (op_assign (ltN rfl) rfl),
                    trivial⟩ ?_
                  refine fin_keep (s' := [kt 1 (.v (.slice a1_p a1.length a1_c)), kt 2 (.p 1 0), kt 5 (.p 2 0), kt 9 (.o 9 10 ((x4.1 ++ [v5.1]).length)), kt 10 (.p 3 0), kt 11 (.i x4.2.1), kt 12 (.i v5.1), kt 14 (.i x6), kb 1 64 11, kb 2 32 2, kb 3 32 2, (.r 9, some (.vec true 10 3 1 ((x4.1 ++ [v5.1]).flatMap encInt))), kc 1 0 (.i a0.Class), kc 1 1 (.i a0.Power), kc 1 2 (.i a0.Draught), kc 1 3 (.i a0.Tonnes), kc 1 4 (.v (.slice a0_Thrust_p a0.Thrust.length a0_Thrust_c)), kc 1 5 (.v (.slice a0_Water_p a0.Water.length a0_Water_c)), kc 1 6 (.v (.slice a0_Ice_p a0.Ice.length a0_Ice_c)), kc 1 7 (.i a0.Slow), kc 1 8 (.i a0.Brash), kc 1 9 (.i a0.Ridge), kc 1 10 (.i a0.Press), kc 2 0 (.i 0), kc 2 1 (.i 0), kc 3 0 (.i x4.2.2.1), kc 3 1 (.i x4.2.2.2)]) ?_ ⟨rfl, rfl, rfl, (congrArg (fun q => some (Val.x (SV.o 9 10 q))) (len_snoc x4.1 v5.1)), rfl, rfl, rfl, rfl, rfl, rfl, rfl, (Eq.trans (b := some (Val.vec true 10 3 1 (x4.1.flatMap encInt ++ [(.int .i64 v5.1)]))) rfl (congrArg (fun q => some (Val.vec true 10 3 1 q)) (flat_snoc (enc := encInt) x4.1 v5.1))), rfl, rfl, rfl, rfl, rfl, rfl, rfl, rfl, rfl, rfl, rfl, rfl, rfl, rfl, rfl, trivial⟩ rfl
                  refine fin_then ?_
                  refine aw_seq ?_
                  obtain ⟨v10, hv10, hm⟩ := bnd_some hm
                  obtain ⟨hp33, hm⟩ := chk_some hm
                  refine aw_any (rows := [_, _, _, _, _, _, _, _, _, _, _, _]) (M := [0, 1, 0, 0, 12, 28, 60, 0, 252, 511, 1023, 2047]) Tryd_mixed (by kernel_rfl) rfl (by kernel_rfl) ⟨
                    ok_plain rfl rfl (op_fieldAddr (ltN rfl) rfl fo_32_0),
                    ok_plain rfl rfl (op_load1 (ltN rfl) sh_3 rfl rfl),
                    ok_plain rfl rfl (op_move (ltN rfl) rfl),
                    ok_plain rfl rfl (op_move (ltN rfl) rfl),
                    ok_plain rfl rfl (op_ixB (ltN rfl) rfl rfl ss_66 (ha1_p (ne_of_ix (i := x4.2.1) hp9.1 hp9.2)) hp9.1 hp9.2),
                    ok_plain rfl rfl (op_fieldAddrB (ltN rfl) rfl fo_152_2),
                    ok_plain rfl rfl (op_loadB (y := .i (((prt a1 x4.2.1)).Length)) (ltN rfl) rfl (ld1 (ha1_L (ne_of_ix (i := x4.2.1) hp9.1 hp9.2)) default (i := x4.2.1) hp9.1 hp9.2 9 rfl rfl sh_3)),
                    ok_plain rfl rfl (op_move (ltN rfl) rfl),
                    ok_plain rfl rfl (op_call (x := .i v10) (fs := []) (caps := []) (extra := []) (ltN rfl) en_99 rfl ⟨rfl, rfl, rfl⟩ (EvL.cons rfl (EvL.cons rfl EvL.nil)) (fun mm aa ww gg hr hrel => (c99 F (((prt a1 x4.2.1)).Length) x6 ww v10 hv10))),
                    ok_plain rfl rfl (op_bin (ltN rfl) rfl rfl (nw_add hp33)),
                    ok_plain rfl rfl (op_fieldAddr (ltN rfl) rfl fo_32_0),
                    ok_plain rfl rfl (op_store1 sz_3 rfl rfl rfl rfl (ltN rfl)),
                    trivial⟩ ?_
                  refine fin_keep (s' := [kt 1 (.v (.slice a1_p a1.length a1_c)), kt 2 (.p 1 0), kt 5 (.p 2 0), kt 9 (.o 9 10 ((x4.1 ++ [v5.1]).length)), kt 10 (.p 3 0), kt 11 (.i x4.2.1), kt 12 (.i v5.1), kb 1 64 11, kb 2 32 2, kb 3 32 2, (.r 9, some (.vec true 10 3 1 ((x4.1 ++ [v5.1]).flatMap encInt))), kc 1 0 (.i a0.Class), kc 1 1 (.i a0.Power), kc 1 2 (.i a0.Draught), kc 1 3 (.i a0.Tonnes), kc 1 4 (.v (.slice a0_Thrust_p a0.Thrust.length a0_Thrust_c)), kc 1 5 (.v (.slice a0_Water_p a0.Water.length a0_Water_c)), kc 1 6 (.v (.slice a0_Ice_p a0.Ice.length a0_Ice_c)), kc 1 7 (.i a0.Slow), kc 1 8 (.i a0.Brash), kc 1 9 (.i a0.Ridge), kc 1 10 (.i a0.Press), kc 2 0 (.i 0), kc 2 1 (.i 0), kc 3 0 (.i (x4.2.2.1 + v10)), kc 3 1 (.i x4.2.2.2)]) ?_ (kp rfl) rfl
                  refine fin_then ?_
                  obtain ⟨v11, hv11, hm⟩ := bnd_some hm
                  obtain ⟨hp34, hm⟩ := chk_some hm
                  refine aw_any (rows := [_, _, _, _, _, _, _, _, _, _, _, _]) (M := [0, 1, 0, 0, 12, 28, 60, 0, 252, 511, 1023, 2047]) Tryd_mixed (by kernel_rfl) rfl (by kernel_rfl) ⟨
                    ok_plain rfl rfl (op_fieldAddr (ltN rfl) rfl fo_32_1),
                    ok_plain rfl rfl (op_load1 (ltN rfl) sh_3 rfl rfl),
                    ok_plain rfl rfl (op_move (ltN rfl) rfl),
                    ok_plain rfl rfl (op_move (ltN rfl) rfl),
                    ok_plain rfl rfl (op_ixB (ltN rfl) rfl rfl ss_66 (ha1_p (ne_of_ix (i := x4.2.1) hp9.1 hp9.2)) hp9.1 hp9.2),
                    ok_plain rfl rfl (op_fieldAddrB (ltN rfl) rfl fo_152_2),
                    ok_plain rfl rfl (op_loadB (y := .i (((prt a1 x4.2.1)).Length)) (ltN rfl) rfl (ld1 (ha1_L (ne_of_ix (i := x4.2.1) hp9.1 hp9.2)) default (i := x4.2.1) hp9.1 hp9.2 9 rfl rfl sh_3)),
                    ok_plain rfl rfl (op_move (ltN rfl) rfl),
                    ok_plain rfl rfl (op_call (x := .i v11) (fs := []) (caps := []) (extra := []) (ltN rfl) en_99 rfl ⟨rfl, rfl, rfl⟩ (EvL.cons rfl (EvL.cons rfl EvL.nil)) (fun mm aa ww gg hr hrel => (c99 F (((prt a1 x4.2.1)).Length) v5.1 ww v11 hv11))),
                    ok_plain rfl rfl (op_bin (ltN rfl) rfl rfl (nw_add hp34)),
                    ok_plain rfl rfl (op_fieldAddr (ltN rfl) rfl fo_32_1),
                    ok_plain rfl rfl (op_store1 sz_3 rfl rfl rfl rfl (ltN rfl)),
                    trivial⟩ ?_
                  refine fin_keep (s' := [kt 1 (.v (.slice a1_p a1.length a1_c)), kt 2 (.p 1 0), kt 5 (.p 2 0), kt 9 (.o 9 10 ((x4.1 ++ [v5.1]).length)), kt 10 (.p 3 0), kt 11 (.i x4.2.1), kb 1 64 11, kb 2 32 2, kb 3 32 2, (.r 9, some (.vec true 10 3 1 ((x4.1 ++ [v5.1]).flatMap encInt))), kc 1 0 (.i a0.Class), kc 1 1 (.i a0.Power), kc 1 2 (.i a0.Draught), kc 1 3 (.i a0.Tonnes), kc 1 4 (.v (.slice a0_Thrust_p a0.Thrust.length a0_Thrust_c)), kc 1 5 (.v (.slice a0_Water_p a0.Water.length a0_Water_c)), kc 1 6 (.v (.slice a0_Ice_p a0.Ice.length a0_Ice_c)), kc 1 7 (.i a0.Slow), kc 1 8 (.i a0.Brash), kc 1 9 (.i a0.Ridge), kc 1 10 (.i a0.Press), kc 2 0 (.i 0), kc 2 1 (.i 0), kc 3 0 (.i (x4.2.2.1 + v10)), kc 3 1 (.i (x4.2.2.2 + v11))]) ?_ (kp rfl) rfl
                  refine fin_block ?_
                  refine fin_swp [(9, 300), (10, 301)] rfl ?_
                  exact fin_cut ((x4.1 ++ [v5.1]), x4.2.2.1 + v10, x4.2.2.2 + v11) hm ⟨rfl, rfl, rfl, rfl, rfl, rfl, rfl, rfl, rfl, rfl, rfl, rfl, rfl, rfl, rfl, rfl, rfl, rfl, rfl, rfl, rfl, rfl, rfl, rfl, rfl, trivial⟩ rfl
            · have _z := hm
              obtain ⟨hp35, hm⟩ := chk_some hm
              refine aw_text (rows := [_, _, _]) rfl (by kernel_rfl) ⟨
                ok_plain rfl rfl (op_move (ltN rfl) rfl),
                ok_plain rfl rfl (op_bin (ltN rfl) rfl rfl (nw_add hp35)),
                ok_plain rfl rfl (op_assign (ltN rfl) rfl),
                trivial⟩ ?_
              refine fin_keep (s' := [kt 1 (.v (.slice a1_p a1.length a1_c)), kt 2 (.p 1 0), kt 5 (.p 2 0), kt 9 (.o 300 301 x5.1.length), kt 10 (.p 3 0), kt 11 (.i (x4.2.1 + 1)), kb 1 64 11, kb 2 32 2, kb 3 32 2, (.r 300, some (.vec true 301 3 1 (x5.1.flatMap encInt))), kc 1 0 (.i a0.Class), kc 1 1 (.i a0.Power), kc 1 2 (.i a0.Draught), kc 1 3 (.i a0.Tonnes), kc 1 4 (.v (.slice a0_Thrust_p a0.Thrust.length a0_Thrust_c)), kc 1 5 (.v (.slice a0_Water_p a0.Water.length a0_Water_c)), kc 1 6 (.v (.slice a0_Ice_p a0.Ice.length a0_Ice_c)), kc 1 7 (.i a0.Slow), kc 1 8 (.i a0.Brash), kc 1 9 (.i a0.Ridge), kc 1 10 (.i a0.Press), kc 2 0 (.i 0), kc 2 1 (.i 0), kc 3 0 (.i x5.2.1), kc 3 1 (.i x5.2.2)]) ?_ (kp rfl) rfl
              exact fin_cut (x5.1, x4.2.1 + 1, x5.2.1, x5.2.2) hm ⟨rfl, rfl, rfl, rfl, rfl, rfl, rfl, rfl, rfl, rfl, rfl, rfl, rfl, rfl, rfl, rfl, rfl, rfl, rfl, rfl, rfl, rfl, rfl, rfl, rfl, trivial⟩ rfl
          · have hm := brk_f hz8 hm
            refine aw_exit ?_
            refine fin_then_exit ?_
            refine fin_then_exit ?_
            refine fin_block_exit ?_
            exact fin_cut (x4.1, x4.2.2.1, x4.2.2.2) hm ⟨rfl, rfl, rfl, rfl, rfl, rfl, rfl, rfl, rfl, rfl, trivial⟩ rfl
        · have _z := hm
          refine aw_seq ?_
          refine aw_any (rows := [_, _, _, _, _]) (M := [0, 0, 1, 7, 15]) Tryd_mixed (by kernel_rfl) rfl (by kernel_rfl) ⟨
            ok_plain rfl rfl (op_move (ltN rfl) rfl),
            ok_plain rfl rfl (op_loadN (ys := [.i x3.2.1, .i x3.2.2]) (ltN rfl) sh_32 rfl rfl ⟨rfl, rfl, trivial⟩),
            ok_plain rfl rfl (op_assign (ltN rfl) rfl),
            ok_plain rfl rfl (op_storeN sz_32 rfl rfl rfl rfl rfl (by decide)),
            ok_plain rfl rfl (op_assign (ltN rfl) rfl),
            trivial⟩ ?_
          refine fin_keep (s' := [kt 4 (.o 300 301 x3.1.length), kt 5 (.p 2 0), kt 6 (.i 0), kb 2 32 2, (.r 300, some (.vec true 301 3 1 (x3.1.flatMap encInt))), kc 2 0 (.i x3.2.1), kc 2 1 (.i x3.2.2)]) ?_ (kp rfl) rfl
          refine fin_then ?_
          refine aw_ret ?_
          refine post_ret (x := .t [.o 300 301 x3.1.length, .g [.i x3.2.1, .i x3.2.2], .i 0]) rfl rfl (resOK_tmp rfl (resOK_cellN (ys := [.i x3.2.1, .i x3.2.2]) rfl sh_32 rfl ⟨rfl, rfl, trivial⟩ (resOK_tmp rfl resOK_nil))) rfl (fun mm aa ww hr => ?_)
          have hm := Option.some.inj hm
          subst hm
          exact ⟨[⟨ptr0 (mm 300) (mm 301), x3.1.length, mm 301⟩], rfl, ⟨⟨rfl, newAt_row hr mine_nil rfl (flat_length (enc := encInt) (fun _ => rfl) _), trivial⟩, ⟨trivial, trivial⟩⟩, hr.below⟩

end Go.Proofs.T

namespace Go.Proofs.T
open Go Go.AX Go.RowKit Hull
theorem en_27 : Proofs.Enters Tryd.prog 27 := Proofs.enters_of Tryd.func27 (by kernel_rfl) rfl
theorem en_21 : Proofs.Enters Tryd.prog 21 := Proofs.enters_of Tryd.func21 (by kernel_rfl) rfl
theorem en_28 : Proofs.Enters Tryd.prog 28 := Proofs.enters_of Tryd.func28 (by kernel_rfl) rfl
theorem en_32 : Proofs.Enters Tryd.prog 32 := Proofs.enters_of Tryd.func32 (by kernel_rfl) rfl
theorem en_39 : Proofs.Enters Tryd.prog 39 := Proofs.enters_of Tryd.func39 (by kernel_rfl) rfl
def m7 (F : Nat) (a0 : Ship) (a1 : List Pt) (a2 : Int) (a3 : Int) : Option (Bool) :=
  bnd (m27 F a0) (fun v1 => brk (v1 || (decide ((((a1.length : Nat) : Int)) > 20))) (some true) (bnd (m28 F a0) (fun v2 => chk (a1.length ≤ 1000000) (bnd (m45 F a1) (fun v3 => bnd (m44 F v3 a2) (fun v4 => brk (!decide ((⟨(at_ a1 a2).1.1, (at_ a1 a2).1.2⟩ : Ratio) = v4.1)) (some false) (brk (((at_ a1 a2).2) != v4.2) (some false) (bnd (m32 F a0) (fun v5 => bnd (m47 F v5) (fun v6 => brk ((check v2) != v6) (some false) (bnd (m48 F a1 a1) (fun v7 => brk (!v7) (some false) (bnd (m49 F v2 a3) (fun v8 => bnd (m32 F a0) (fun v9 => bnd (m50 F v9 a3) (fun v10 => bnd (brk (((v8.1 == v10.1) && (v8.2 == v10.2))) (m39 F a0 v2) (some default)) (fun v11 => some ((((v8.1 == v10.1) && (v8.2 == v10.2)) && v11) && true))))))))))))))))))

def m10 (F : Nat) (a0 : Ship) (a1 : Ship) (a2 : Int) (a3 : Bool) : Option (Bool) :=
  bnd (m27 F a0) (fun v1 => bnd (brk (v1) (some default) (m27 F a1)) (fun v2 => brk (v1 || v2) (some true) (bnd (m28 F a0) (fun v3 => bnd (m28 F a1) (fun v4 => bnd (m32 F a0) (fun v5 => bnd (m53 F v5 a2 a3) (fun v6 => brk ((((limitE v3 a2 a3).1) != v6.1) || (((limitE v3 a2 a3).2) != v6.2)) (some false) (bnd (m51 F v3 v4) (fun v7 => bnd (m32 F a0) (fun v8 => bnd (m32 F a1) (fun v9 => bnd (m54 F v8 v9) (fun v10 => bnd (brk (((v7.1 == v10.1) && (v7.2 == v10.2))) (m39 F a0 v3) (some default)) (fun v11 => bnd (brk ((((v7.1 == v10.1) && (v7.2 == v10.2)) && v11)) (m39 F a1 v4) (some default)) (fun v12 => some (((((v7.1 == v10.1) && (v7.2 == v10.2)) && v11) && v12) && true)))))))))))))))

end Go.Proofs.T

namespace Go.Proofs.T
open Go Go.AX Go.RowKit Hull
theorem en_29 : Proofs.Enters Tryd.prog 29 := Proofs.enters_of Tryd.func29 (by kernel_rfl) rfl
theorem en_30 : Proofs.Enters Tryd.prog 30 := Proofs.enters_of Tryd.func30 (by kernel_rfl) rfl
theorem en_33 : Proofs.Enters Tryd.prog 33 := Proofs.enters_of Tryd.func33 (by kernel_rfl) rfl
theorem en_31 : Proofs.Enters Tryd.prog 31 := Proofs.enters_of Tryd.func31 (by kernel_rfl) rfl
theorem en_34 : Proofs.Enters Tryd.prog 34 := Proofs.enters_of Tryd.func34 (by kernel_rfl) rfl
theorem en_36 : Proofs.Enters Tryd.prog 36 := Proofs.enters_of Tryd.func36 (by kernel_rfl) rfl
theorem en_37 : Proofs.Enters Tryd.prog 37 := Proofs.enters_of Tryd.func37 (by kernel_rfl) rfl
theorem en_38 : Proofs.Enters Tryd.prog 38 := Proofs.enters_of Tryd.func38 (by kernel_rfl) rfl

def m5 (F : Nat) (a0 : Ship) (a1 : List Part) (a2 : Cell) (a3 : List Span) : Option (Bool) :=
  bnd (m27 F a0) (fun v1 => brk ((((v1 || ((decide ((((a1.length : Nat) : Int)) > 12)) && (decide ((((a1.length : Nat) : Int)) ≤ 100)))) || (decide ((((a1.length : Nat) : Int)) > 120))) || ((decide ((((a3.length : Nat) : Int)) > 40)) && (decide ((((a3.length : Nat) : Int)) ≤ 240)))) || (decide ((((a3.length : Nat) : Int)) > 260))) (some true) (bnd (m28 F a0) (fun v2 => chk (a1.length ≤ 1000000) (bnd (m30 F a3) (fun v3 => bnd (m32 F a0) (fun v4 => bnd (m33 F a1) (fun v5 => bnd (m31 F v4 v5) (fun v6 => bnd (m34 F ((leg v2 a1).1) v6.1) (fun v7 => brk (((!v7) || (!decide (((leg v2 a1).2.1) = v6.2.1))) || (((leg v2 a1).2.2) != v6.2.2)) (some false) (bnd (m32 F a0) (fun v8 => bnd (m36 F v8 a2 a3) (fun v9 => bnd (brk (((decide (((free v2 a2 v3).1) = v9.1)) && (((free v2 a2 v3).2) == v9.2))) (m37 F a1 a1) (some default)) (fun v10 => bnd (brk ((((decide (((free v2 a2 v3).1) = v9.1)) && (((free v2 a2 v3).2) == v9.2)) && v10)) (m38 F v3 a3) (some default)) (fun v11 => bnd (brk (((((decide (((free v2 a2 v3).1) = v9.1)) && (((free v2 a2 v3).2) == v9.2)) && v10) && v11)) (m39 F a0 v2) (some default)) (fun v12 => some ((((((decide (((free v2 a2 v3).1) = v9.1)) && (((free v2 a2 v3).2) == v9.2)) && v10) && v11) && v12) && true))))))))))))))))

set_option maxHeartbeats 4000000 in
set_option maxRecDepth 8000 in
theorem c5 (F : Nat) (a0 : Ship) (a0_Thrust_s : SlV) (a0_Water_s : SlV) (a0_Ice_s : SlV) (a1 : List Part) (a1_s : SlV) (a2 : Cell) (a3 : List Span) (a3_s : SlV) (w : World) (ha0_Thrust : SlIs encPt 2 w a0_Thrust_s a0.Thrust) (ha0_Water : SlIs encPt 2 w a0_Water_s a0.Water) (ha0_Ice : SlIs encPt 2 w a0_Ice_s a0.Ice) (ha1 : SlIs encPart 10 w a1_s a1) (ha3 : SlIs encSpan 2 w a3_s a3) (hG : BoxAt w 0 (strengths.map (fun n => Value.int .i64 n))) (r : Bool) (hm : m5 F a0 a1 a2 a3 = some r) : Calls Tryd.prog 5 #[.agg #[.int .i64 a0.Class, .int .i64 a0.Power, .int .i64 a0.Draught, .int .i64 a0.Tonnes, .slice a0_Thrust_s.p a0_Thrust_s.n a0_Thrust_s.c, .slice a0_Water_s.p a0_Water_s.n a0_Water_s.c, .slice a0_Ice_s.p a0_Ice_s.n a0_Ice_s.c, .int .i64 a0.Slow, .int .i64 a0.Brash, .int .i64 a0.Ridge, .int .i64 a0.Press], .slice a1_s.p a1_s.n a1_s.c, .agg #[.int .i64 a2.Conc.Lo, .int .i64 a2.Conc.Hi, .int .i64 a2.Thick.Lo, .int .i64 a2.Thick.Hi, .int .i64 a2.Ridge.Lo, .int .i64 a2.Ridge.Hi, .int .i64 a2.Press.Lo, .int .i64 a2.Press.Hi], .slice a3_s.p a3_s.n a3_s.c] w fun e w' => e = .returned (.bool r) ∧ Below w.heap.size w w' := by
  obtain ⟨a0_Thrust_p, a0_Thrust_n, a0_Thrust_c⟩ := a0_Thrust_s
  have ha0_Thrust_l : a0_Thrust_n = a0.Thrust.length := ha0_Thrust.1
  subst ha0_Thrust_l
  obtain ⟨a0_Thrust_b, a0_Thrust_o, ha0_Thrust_p, ha0_Thrust_L⟩ := SlAt.lies' ha0_Thrust
  obtain ⟨a0_Water_p, a0_Water_n, a0_Water_c⟩ := a0_Water_s
  have ha0_Water_l : a0_Water_n = a0.Water.length := ha0_Water.1
  subst ha0_Water_l
  obtain ⟨a0_Water_b, a0_Water_o, ha0_Water_p, ha0_Water_L⟩ := SlAt.lies' ha0_Water
  obtain ⟨a0_Ice_p, a0_Ice_n, a0_Ice_c⟩ := a0_Ice_s
  have ha0_Ice_l : a0_Ice_n = a0.Ice.length := ha0_Ice.1
  subst ha0_Ice_l
  obtain ⟨a0_Ice_b, a0_Ice_o, ha0_Ice_p, ha0_Ice_L⟩ := SlAt.lies' ha0_Ice
  obtain ⟨a1_p, a1_n, a1_c⟩ := a1_s
  have ha1_l : a1_n = a1.length := ha1.1
  subst ha1_l
  obtain ⟨a1_b, a1_o, ha1_p, ha1_L⟩ := SlAt.lies' ha1
  obtain ⟨a3_p, a3_n, a3_c⟩ := a3_s
  have ha3_l : a3_n = a3.length := ha3.1
  subst ha3_l
  obtain ⟨a3_b, a3_o, ha3_p, ha3_L⟩ := SlAt.lies' ha3
  unfold m5 at hm
  refine enter (args := [.g [.i a0.Class, .i a0.Power, .i a0.Draught, .i a0.Tonnes, .v (.slice a0_Thrust_p a0.Thrust.length a0_Thrust_c), .v (.slice a0_Water_p a0.Water.length a0_Water_c), .v (.slice a0_Ice_p a0.Ice.length a0_Ice_c), .i a0.Slow, .i a0.Brash, .i a0.Ridge, .i a0.Press], .v (.slice a1_p a1.length a1_c), .g [.i a2.Conc.Lo, .i a2.Conc.Hi, .i a2.Thick.Lo, .i a2.Thick.Hi, .i a2.Ridge.Lo, .i a2.Ridge.Hi, .i a2.Press.Lo, .i a2.Press.Hi], .v (.slice a3_p a3.length a3_c)]) Tryd.func5 rfl (N := 128) rfl (Nat.le_of_ble_eq_true rfl) ?_
  refine aw_seq ?_
  refine aw_text (rows := [_, _, _]) rfl (by kernel_rfl) ⟨
    ok_plain rfl rfl (op_boxN (L := 1) (ltN rfl) rfl rfl rfl),
    ok_plain rfl rfl (op_boxN (L := 2) (ltN rfl) rfl rfl rfl),
    ok_plain rfl rfl (op_assign (ltN rfl) rfl),
    trivial⟩ ?_
  refine fin_keep (s' := [kt 1 (.v (.slice a1_p a1.length a1_c)), kt 3 (.v (.slice a3_p a3.length a3_c)), kt 4 (.p 1 0), kt 6 (.p 2 0), kb 1 25 11, kb 2 34 8, kc 1 0 (.i a0.Class), kc 1 1 (.i a0.Power), kc 1 2 (.i a0.Draught), kc 1 3 (.i a0.Tonnes), kc 1 4 (.v (.slice a0_Thrust_p a0.Thrust.length a0_Thrust_c)), kc 1 5 (.v (.slice a0_Water_p a0.Water.length a0_Water_c)), kc 1 6 (.v (.slice a0_Ice_p a0.Ice.length a0_Ice_c)), kc 1 7 (.i a0.Slow), kc 1 8 (.i a0.Brash), kc 1 9 (.i a0.Ridge), kc 1 10 (.i a0.Press), kc 2 0 (.i a2.Conc.Lo), kc 2 1 (.i a2.Conc.Hi), kc 2 2 (.i a2.Thick.Lo), kc 2 3 (.i a2.Thick.Hi), kc 2 4 (.i a2.Ridge.Lo), kc 2 5 (.i a2.Ridge.Hi), kc 2 6 (.i a2.Press.Lo), kc 2 7 (.i a2.Press.Hi)]) ?_ (kp rfl) rfl
  refine fin_then ?_
  refine aw_seq ?_
  refine aw_seq ?_
  obtain ⟨v1, hv1, hm⟩ := bnd_some hm
  refine aw_text (rows := [_, _, _, _, _, _, _, _, _, _, _, _, _, _, _, _, _, _, _, _, _, _, _, _, _, _, _, _, _, _, _, _]) rfl (by kernel_rfl) ⟨
    ok_plain rfl rfl (op_loadN (ys := [.i a0.Class, .i a0.Power, .i a0.Draught, .i a0.Tonnes, .v (.slice a0_Thrust_p a0.Thrust.length a0_Thrust_c), .v (.slice a0_Water_p a0.Water.length a0_Water_c), .v (.slice a0_Ice_p a0.Ice.length a0_Ice_c), .i a0.Slow, .i a0.Brash, .i a0.Ridge, .i a0.Press]) (ltN rfl) sh_25 rfl rfl ⟨rfl, rfl, rfl, rfl, rfl, rfl, rfl, rfl, rfl, rfl, rfl, trivial⟩),
    ok_plain rfl rfl (op_call (x := .B v1) (fs := []) (caps := []) (extra := []) (ltN rfl) en_27 rfl ⟨rfl, rfl, rfl⟩ (EvL.cons rfl EvL.nil) (fun mm aa ww gg hr hrel => (c27 F a0 ⟨a0_Thrust_p, a0.Thrust.length, a0_Thrust_c⟩ ⟨a0_Water_p, a0.Water.length, a0_Water_c⟩ ⟨a0_Ice_p, a0.Ice.length, a0_Ice_c⟩ ww (SlIs.mono ha0_Thrust hrel.below) (SlIs.mono ha0_Water hrel.below) (SlIs.mono ha0_Ice hrel.below) v1 hv1))),
    ok_plain rfl rfl (op_move (ltN rfl) rfl),
    ok_if (ltN rfl) rfl rfl rfl rfl rfl rfl (fun hg1 => op_move (ltN rfl) (force_x rfl)),
    ok_if (ltN rfl) rfl rfl rfl rfl rfl rfl (fun hg2 => op_len (n := a1.length) (ltN rfl) (by rw [ss_46]; rfl) (force_eq (beq_iff_eq.2 hg2) rfl) rfl),
    ok_if (ltN rfl) rfl rfl rfl rfl rfl rfl (fun hg3 => op_bin (ltN rfl) (force_eq (beq_iff_eq.2 hg3) rfl) rfl rfl),
    ok_if (ltN rfl) rfl rfl rfl rfl rfl rfl (fun hg4 => op_move (ltN rfl) (force_eq (beq_iff_eq.2 hg4) rfl)),
    ok_ifC (ltN rfl) rfl rfl rfl rfl rfl rfl (fun hg5 => op_move (ltN rfl) (force_x rfl)),
    ok_ifC (ltN rfl) rfl rfl rfl rfl rfl rfl (fun hg6 => op_len (n := a1.length) (ltN rfl) (by rw [ss_46]; rfl) (force_eq hg6 rfl) rfl),
    ok_ifC (ltN rfl) rfl rfl rfl rfl rfl rfl (fun hg7 => op_bin (ltN rfl) (force_eq hg7 rfl) rfl rfl),
    ok_if (ltN rfl) rfl rfl rfl rfl rfl rfl (fun hg8 => op_andF (ltN rfl) (beq_iff_eq.2 hg8) rfl rfl),
    ok_plain rfl rfl (op_or (ltN rfl) rfl rfl),
    ok_plain rfl rfl (op_move (ltN rfl) rfl),
    ok_if (ltN rfl) rfl rfl rfl rfl rfl rfl (fun hg9 => op_move (ltN rfl) (force_x rfl)),
    ok_if (ltN rfl) rfl rfl rfl rfl rfl rfl (fun hg10 => op_len (n := a1.length) (ltN rfl) (by rw [ss_46]; rfl) (force_eq (beq_iff_eq.2 hg10) rfl) rfl),
    ok_if (ltN rfl) rfl rfl rfl rfl rfl rfl (fun hg11 => op_bin (ltN rfl) (force_eq (beq_iff_eq.2 hg11) rfl) rfl rfl),
    ok_plain rfl rfl (op_or (ltN rfl) rfl rfl),
    ok_plain rfl rfl (op_move (ltN rfl) rfl),
    ok_if (ltN rfl) rfl rfl rfl rfl rfl rfl (fun hg12 => op_move (ltN rfl) (force_x rfl)),
    ok_if (ltN rfl) rfl rfl rfl rfl rfl rfl (fun hg13 => op_len (n := a3.length) (ltN rfl) (by rw [ss_56]; rfl) (force_eq (beq_iff_eq.2 hg13) rfl) rfl),
    ok_if (ltN rfl) rfl rfl rfl rfl rfl rfl (fun hg14 => op_bin (ltN rfl) (force_eq (beq_iff_eq.2 hg14) rfl) rfl rfl),
    ok_if (ltN rfl) rfl rfl rfl rfl rfl rfl (fun hg15 => op_move (ltN rfl) (force_eq (beq_iff_eq.2 hg15) rfl)),
    ok_ifC (ltN rfl) rfl rfl rfl rfl rfl rfl (fun hg16 => op_move (ltN rfl) (force_x rfl)),
    ok_ifC (ltN rfl) rfl rfl rfl rfl rfl rfl (fun hg17 => op_len (n := a3.length) (ltN rfl) (by rw [ss_56]; rfl) (force_eq hg17 rfl) rfl),
    ok_ifC (ltN rfl) rfl rfl rfl rfl rfl rfl (fun hg18 => op_bin (ltN rfl) (force_eq hg18 rfl) rfl rfl),
    ok_if (ltN rfl) rfl rfl rfl rfl rfl rfl (fun hg19 => op_andF (ltN rfl) (beq_iff_eq.2 hg19) rfl rfl),
    ok_plain rfl rfl (op_or (ltN rfl) rfl rfl),
    ok_plain rfl rfl (op_move (ltN rfl) rfl),
    ok_if (ltN rfl) rfl rfl rfl rfl rfl rfl (fun hg20 => op_move (ltN rfl) (force_x rfl)),
    ok_if (ltN rfl) rfl rfl rfl rfl rfl rfl (fun hg21 => op_len (n := a3.length) (ltN rfl) (by rw [ss_56]; rfl) (force_eq (beq_iff_eq.2 hg21) rfl) rfl),
    ok_if (ltN rfl) rfl rfl rfl rfl rfl rfl (fun hg22 => op_bin (ltN rfl) (force_eq (beq_iff_eq.2 hg22) rfl) rfl rfl),
    ok_plain rfl rfl (op_or (ltN rfl) rfl rfl),
    trivial⟩ ?_
  refine fin_keep (s' := [kt 1 (.v (.slice a1_p a1.length a1_c)), kt 3 (.v (.slice a3_p a3.length a3_c)), kt 4 (.p 1 0), kt 6 (.p 2 0), kt 49 (.B ((((v1 || ((decide ((((a1.length : Nat) : Int)) > 12)) && (decide ((((a1.length : Nat) : Int)) ≤ 100)))) || (decide ((((a1.length : Nat) : Int)) > 120))) || ((decide ((((a3.length : Nat) : Int)) > 40)) && (decide ((((a3.length : Nat) : Int)) ≤ 240)))) || (decide ((((a3.length : Nat) : Int)) > 260)))), kb 1 25 11, kb 2 34 8, kc 1 0 (.i a0.Class), kc 1 1 (.i a0.Power), kc 1 2 (.i a0.Draught), kc 1 3 (.i a0.Tonnes), kc 1 4 (.v (.slice a0_Thrust_p a0.Thrust.length a0_Thrust_c)), kc 1 5 (.v (.slice a0_Water_p a0.Water.length a0_Water_c)), kc 1 6 (.v (.slice a0_Ice_p a0.Ice.length a0_Ice_c)), kc 1 7 (.i a0.Slow), kc 1 8 (.i a0.Brash), kc 1 9 (.i a0.Ridge), kc 1 10 (.i a0.Press), kc 2 0 (.i a2.Conc.Lo), kc 2 1 (.i a2.Conc.Hi), kc 2 2 (.i a2.Thick.Lo), kc 2 3 (.i a2.Thick.Hi), kc 2 4 (.i a2.Ridge.Lo), kc 2 5 (.i a2.Ridge.Hi), kc 2 6 (.i a2.Press.Lo), kc 2 7 (.i a2.Press.Hi)]) ?_ (kp rfl) rfl
  refine fin_then ?_
  refine aw_cond rfl (fun hz23 => ?_) (fun hz23 => ?_)
  · have hm := brk_t hz23 hm
    refine aw_seq ?_
    refine aw_text (rows := [_, _]) rfl (by kernel_rfl) ⟨
      ok_plain rfl rfl (op_call (x := .B true) (fs := []) (caps := []) (extra := []) (ltN rfl) en_21 rfl ⟨rfl, rfl, rfl⟩ EvL.nil (fun mm aa ww gg hr hrel => (c21 ww (BoxAt.mono hG hrel.below)))),
      ok_plain rfl rfl (op_assign (ltN rfl) rfl),
      trivial⟩ ?_
    refine fin_keep (s' := [kt 8 (.B true)]) ?_ (kp rfl) rfl
    refine fin_then ?_
    refine aw_ret ?_
    refine fin_then_ret ?_
    refine post_ret (x := .B true) rfl rfl (resOK_tmp rfl resOK_nil) rfl (fun mm aa ww hr => ?_)
    have hm := Option.some.inj hm
    subst hm
    exact ⟨rfl, hr.below⟩
  · have hm := brk_f hz23 hm
    refine aw_skip ?_
    refine fin_then ?_
    refine aw_seq ?_
    obtain ⟨v2, hv2, hm⟩ := bnd_some hm
    obtain ⟨hp24, hm⟩ := chk_some hm
    obtain ⟨v3, hv3, hm⟩ := bnd_some hm
    refine aw_text (rows := [_, _, _, _, _, _, _, _, _, _]) rfl (by kernel_rfl) ⟨
      ok_plain rfl rfl (op_loadN (ys := [.i a0.Class, .i a0.Power, .i a0.Draught, .i a0.Tonnes, .v (.slice a0_Thrust_p a0.Thrust.length a0_Thrust_c), .v (.slice a0_Water_p a0.Water.length a0_Water_c), .v (.slice a0_Ice_p a0.Ice.length a0_Ice_c), .i a0.Slow, .i a0.Brash, .i a0.Ridge, .i a0.Press]) (ltN rfl) sh_25 rfl rfl ⟨rfl, rfl, rfl, rfl, rfl, rfl, rfl, rfl, rfl, rfl, rfl, trivial⟩),
      ok_plain rfl rfl (op_callRowsD (x := .g [.i v2.Class, .i v2.Power, .i v2.Draught, .i v2.Tonnes, .o 3 4 v2.Thrust.length, .o 5 6 v2.Water.length, .o 7 8 v2.Ice.length, .i v2.Slow, .i v2.Brash, .i v2.Ridge, .i v2.Press]) (R := (fun vs => .agg #[.int .i64 v2.Class, .int .i64 v2.Power, .int .i64 v2.Draught, .int .i64 v2.Tonnes, (vs.getD 0 (.bool false)), (vs.getD 1 (.bool false)), (vs.getD 2 (.bool false)), .int .i64 v2.Slow, .int .i64 v2.Brash, .int .i64 v2.Ridge, .int .i64 v2.Press])) (ls := [(3, 4), (5, 6), (7, 8)]) (ds := [(v2.Thrust.length, 84, 2, v2.Thrust.flatMap encPt), (v2.Water.length, 84, 2, v2.Water.flatMap encPt), (v2.Ice.length, 84, 2, v2.Ice.flatMap encPt)]) (fs := []) (caps := []) (extra := []) (ltN rfl) en_28 rfl ⟨rfl, rfl, rfl⟩ (EvL.cons rfl EvL.nil) rfl rfl (fun _ => rfl) (fun mm aa ww gg hr hrel => (c28 F a0 ⟨a0_Thrust_p, a0.Thrust.length, a0_Thrust_c⟩ ⟨a0_Water_p, a0.Water.length, a0_Water_c⟩ ⟨a0_Ice_p, a0.Ice.length, a0_Ice_c⟩ ww (SlIs.mono ha0_Thrust hrel.below) (SlIs.mono ha0_Water hrel.below) (SlIs.mono ha0_Ice hrel.below) v2 hv2))),
      ok_plain rfl rfl (op_move (ltN rfl) rfl),
      ok_plain rfl rfl (op_callRowR (L := 9) (C := 10) (own := true) (x := .o 9 10 a1.length) (R := fun p c => (.slice p a1.length c)) (fs := []) (caps := []) (extra := []) (ltN rfl) en_29 rfl ⟨rfl, rfl, rfl⟩ (EvL.cons rfl EvL.nil) (by decide) (fun mm p c h => by show ((den mm (.o 9 10 a1.length)) : Value) = _; rw [h]) (fun mm aa ww gg hr hrel => (c29 a1 ⟨a1_p, a1.length, a1_c⟩ ww (SlIs.mono ha1 hrel.below) hp24))),
      ok_plain rfl rfl (op_move (ltN rfl) rfl),
      ok_plain rfl rfl (op_callRowsD (x := .o 11 12 v3.length) (R := (fun vs => (vs.getD 0 (.bool false)))) (ls := [(11, 12)]) (ds := [(v3.length, 32, 2, v3.flatMap encSpan)]) (fs := []) (caps := []) (extra := []) (ltN rfl) en_30 rfl ⟨rfl, rfl, rfl⟩ (EvL.cons rfl EvL.nil) rfl rfl (fun _ => rfl) (fun mm aa ww gg hr hrel => (c30 F a3 ⟨a3_p, a3.length, a3_c⟩ ww (SlIs.mono ha3 hrel.below) v3 hv3))),
      ok_plain rfl rfl (op_alloc (L := 13) (ltN rfl) zl_25),
      ok_plain rfl rfl (op_storeN sz_25 rfl rfl rfl rfl rfl (by decide)),
      ok_plain rfl rfl (op_assign (ltN rfl) rfl),
      ok_plain rfl rfl (op_assign (ltN rfl) rfl),
      trivial⟩ ?_
    refine fin_keep (s' := [kt 1 (.v (.slice a1_p a1.length a1_c)), kt 3 (.v (.slice a3_p a3.length a3_c)), kt 4 (.p 1 0), kt 6 (.p 2 0), kt 9 (.p 13 0), kt 10 (.o 9 10 a1.length), kt 11 (.o 11 12 v3.length), kb 1 25 11, kb 2 34 8, kb 13 25 11, (.r 3, some (.vec true 4 84 2 (v2.Thrust.flatMap encPt))), (.r 5, some (.vec true 6 84 2 (v2.Water.flatMap encPt))), (.r 7, some (.vec true 8 84 2 (v2.Ice.flatMap encPt))), (.r 9, some (.vec true 10 48 10 (a1.flatMap encPart))), (.r 11, some (.vec true 12 32 2 (v3.flatMap encSpan))), kc 1 0 (.i a0.Class), kc 1 1 (.i a0.Power), kc 1 2 (.i a0.Draught), kc 1 3 (.i a0.Tonnes), kc 1 4 (.v (.slice a0_Thrust_p a0.Thrust.length a0_Thrust_c)), kc 1 5 (.v (.slice a0_Water_p a0.Water.length a0_Water_c)), kc 1 6 (.v (.slice a0_Ice_p a0.Ice.length a0_Ice_c)), kc 1 7 (.i a0.Slow), kc 1 8 (.i a0.Brash), kc 1 9 (.i a0.Ridge), kc 1 10 (.i a0.Press), kc 2 0 (.i a2.Conc.Lo), kc 2 1 (.i a2.Conc.Hi), kc 2 2 (.i a2.Thick.Lo), kc 2 3 (.i a2.Thick.Hi), kc 2 4 (.i a2.Ridge.Lo), kc 2 5 (.i a2.Ridge.Hi), kc 2 6 (.i a2.Press.Lo), kc 2 7 (.i a2.Press.Hi), kc 13 0 (.i v2.Class), kc 13 1 (.i v2.Power), kc 13 2 (.i v2.Draught), kc 13 3 (.i v2.Tonnes), kc 13 4 (.o 3 4 v2.Thrust.length), kc 13 5 (.o 5 6 v2.Water.length), kc 13 6 (.o 7 8 v2.Ice.length), kc 13 7 (.i v2.Slow), kc 13 8 (.i v2.Brash), kc 13 9 (.i v2.Ridge), kc 13 10 (.i v2.Press)]) ?_ (kp rfl) rfl
    refine fin_then ?_
    refine aw_seq ?_
    refine aw_text (rows := [_, _, _, _, _, _, _, _, _, _, _]) rfl (by kernel_rfl) ⟨
      ok_plain rfl rfl (op_loadN (ys := [.i v2.Class, .i v2.Power, .i v2.Draught, .i v2.Tonnes, .o 3 4 v2.Thrust.length, .o 5 6 v2.Water.length, .o 7 8 v2.Ice.length, .i v2.Slow, .i v2.Brash, .i v2.Ridge, .i v2.Press]) (ltN rfl) sh_25 rfl rfl ⟨rfl, rfl, rfl, rfl, rfl, rfl, rfl, rfl, rfl, rfl, rfl, trivial⟩),
      ok_plain rfl rfl (op_move (ltN rfl) rfl),
      ok_plain rfl rfl (op_callRowR (L := 14) (C := 15) (own := true) (x := .t [.o 14 15 ((leg v2 a1).1.length), .g [.i (((leg v2 a1).2.1).Lo), .i (((leg v2 a1).2.1).Hi)], .i ((leg v2 a1).2.2)]) (R := fun p c => .tuple #[(.slice p ((leg v2 a1).1.length) c), .agg #[.int .i64 (((leg v2 a1).2.1).Lo), .int .i64 (((leg v2 a1).2.1).Hi)], .int .i64 ((leg v2 a1).2.2)]) (fs := []) (caps := []) (extra := (kapp [.r 3] (kapp [.r 5] (kapp [.r 7] (kapp [.r 9] []))))) (ltN rfl) en_23 rfl ⟨rfl, rfl, rfl⟩ (EvL.cons rfl (EvL.cons rfl EvL.nil)) (by decide) (fun mm p c h => by show (.tuple #[(den mm (.o 14 15 ((leg v2 a1).1.length))), .agg #[.int .i64 (((leg v2 a1).2.1).Lo), .int .i64 (((leg v2 a1).2.1).Hi)], .int .i64 ((leg v2 a1).2.2)] : Value) = _; rw [h]) (fun mm aa ww gg hr hrel => (c23 v2 ⟨ptr0 (mm 3) (mm 4), v2.Thrust.length, mm 4⟩ ⟨ptr0 (mm 5) (mm 6), v2.Water.length, mm 6⟩ ⟨ptr0 (mm 7) (mm 8), v2.Ice.length, mm 8⟩ a1 ⟨ptr0 (mm 9) (mm 10), a1.length, mm 10⟩ ww (slAt_row (enc := encPt) (l := v2.Thrust) (fun _ => rfl) (by decide) hrel ((hr _ (List.mem_append_left _ (by simp))).trans rfl)) (slAt_row (enc := encPt) (l := v2.Water) (fun _ => rfl) (by decide) hrel ((hr _ (List.mem_append_right _ (List.mem_append_left _ (by simp)))).trans rfl)) (slAt_row (enc := encPt) (l := v2.Ice) (fun _ => rfl) (by decide) hrel ((hr _ (List.mem_append_right _ (List.mem_append_right _ (List.mem_append_left _ (by simp))))).trans rfl)) (slAt_row (enc := encPart) (l := a1) (fun _ => rfl) (by decide) hrel ((hr _ (List.mem_append_right _ (List.mem_append_right _ (List.mem_append_right _ (List.mem_append_left _ (by simp)))))).trans rfl)) (BoxAt.mono hG hrel.below)))),
      ok_plain rfl rfl (op_move (ltN rfl) rfl),
      ok_plain rfl rfl (op_extract (ltN rfl) rfl rfl),
      ok_plain rfl rfl (op_extract (ltN rfl) rfl rfl),
      ok_plain rfl rfl (op_extract (ltN rfl) rfl rfl),
      ok_plain rfl rfl (op_alloc (L := 16) (ltN rfl) zl_32),
      ok_plain rfl rfl (op_assign (ltN rfl) rfl),
      ok_plain rfl rfl (op_storeN sz_32 rfl rfl rfl rfl rfl (by decide)),
      ok_plain rfl rfl (op_assign (ltN rfl) rfl),
      trivial⟩ ?_
    refine fin_keep (s' := [kt 1 (.v (.slice a1_p a1.length a1_c)), kt 3 (.v (.slice a3_p a3.length a3_c)), kt 4 (.p 1 0), kt 6 (.p 2 0), kt 9 (.p 13 0), kt 10 (.o 9 10 a1.length), kt 11 (.o 11 12 v3.length), kt 12 (.o 14 15 ((leg v2 a1).1.length)), kt 13 (.p 16 0), kt 14 (.i ((leg v2 a1).2.2)), kb 1 25 11, kb 2 34 8, kb 13 25 11, kb 16 32 2, (.r 3, some (.vec true 4 84 2 (v2.Thrust.flatMap encPt))), (.r 5, some (.vec true 6 84 2 (v2.Water.flatMap encPt))), (.r 7, some (.vec true 8 84 2 (v2.Ice.flatMap encPt))), (.r 9, some (.vec true 10 48 10 (a1.flatMap encPart))), (.r 11, some (.vec true 12 32 2 (v3.flatMap encSpan))), (.r 14, some (.vec true 15 3 1 (((leg v2 a1).1).flatMap encInt))), kc 1 0 (.i a0.Class), kc 1 1 (.i a0.Power), kc 1 2 (.i a0.Draught), kc 1 3 (.i a0.Tonnes), kc 1 4 (.v (.slice a0_Thrust_p a0.Thrust.length a0_Thrust_c)), kc 1 5 (.v (.slice a0_Water_p a0.Water.length a0_Water_c)), kc 1 6 (.v (.slice a0_Ice_p a0.Ice.length a0_Ice_c)), kc 1 7 (.i a0.Slow), kc 1 8 (.i a0.Brash), kc 1 9 (.i a0.Ridge), kc 1 10 (.i a0.Press), kc 2 0 (.i a2.Conc.Lo), kc 2 1 (.i a2.Conc.Hi), kc 2 2 (.i a2.Thick.Lo), kc 2 3 (.i a2.Thick.Hi), kc 2 4 (.i a2.Ridge.Lo), kc 2 5 (.i a2.Ridge.Hi), kc 2 6 (.i a2.Press.Lo), kc 2 7 (.i a2.Press.Hi), kc 13 0 (.i v2.Class), kc 13 1 (.i v2.Power), kc 13 2 (.i v2.Draught), kc 13 3 (.i v2.Tonnes), kc 13 4 (.o 3 4 v2.Thrust.length), kc 13 5 (.o 5 6 v2.Water.length), kc 13 6 (.o 7 8 v2.Ice.length), kc 13 7 (.i v2.Slow), kc 13 8 (.i v2.Brash), kc 13 9 (.i v2.Ridge), kc 13 10 (.i v2.Press), kc 16 0 (.i (((leg v2 a1).2.1).Lo)), kc 16 1 (.i (((leg v2 a1).2.1).Hi))]) ?_ (kp rfl) rfl
    refine fin_then ?_
    refine aw_seq ?_
    obtain ⟨v4, hv4, hm⟩ := bnd_some hm
    obtain ⟨v5, hv5, hm⟩ := bnd_some hm
    obtain ⟨v6, hv6, hm⟩ := bnd_some hm
    refine aw_text (rows := [_, _, _, _, _, _, _, _, _, _, _, _, _]) rfl (by kernel_rfl) ⟨
      ok_plain rfl rfl (op_loadN (ys := [.i a0.Class, .i a0.Power, .i a0.Draught, .i a0.Tonnes, .v (.slice a0_Thrust_p a0.Thrust.length a0_Thrust_c), .v (.slice a0_Water_p a0.Water.length a0_Water_c), .v (.slice a0_Ice_p a0.Ice.length a0_Ice_c), .i a0.Slow, .i a0.Brash, .i a0.Ridge, .i a0.Press]) (ltN rfl) sh_25 rfl rfl ⟨rfl, rfl, rfl, rfl, rfl, rfl, rfl, rfl, rfl, rfl, rfl, trivial⟩),
      ok_plain rfl rfl (op_callRowsD (x := .g [.i v4.Class, .i v4.Power, .i v4.Draught, .i v4.Tonnes, .o 17 18 v4.Thrust.length, .o 19 20 v4.Water.length, .o 21 22 v4.Ice.length, .i v4.Slow, .i v4.Brash, .i v4.Ridge, .i v4.Press]) (R := (fun vs => .agg #[.int .i64 v4.Class, .int .i64 v4.Power, .int .i64 v4.Draught, .int .i64 v4.Tonnes, (vs.getD 0 (.bool false)), (vs.getD 1 (.bool false)), (vs.getD 2 (.bool false)), .int .i64 v4.Slow, .int .i64 v4.Brash, .int .i64 v4.Ridge, .int .i64 v4.Press])) (ls := [(17, 18), (19, 20), (21, 22)]) (ds := [(v4.Thrust.length, 170, 2, v4.Thrust.flatMap encPt), (v4.Water.length, 170, 2, v4.Water.flatMap encPt), (v4.Ice.length, 170, 2, v4.Ice.flatMap encPt)]) (fs := []) (caps := []) (extra := []) (ltN rfl) en_32 rfl ⟨rfl, rfl, rfl⟩ (EvL.cons rfl EvL.nil) rfl rfl (fun _ => rfl) (fun mm aa ww gg hr hrel => (c32 F a0 ⟨a0_Thrust_p, a0.Thrust.length, a0_Thrust_c⟩ ⟨a0_Water_p, a0.Water.length, a0_Water_c⟩ ⟨a0_Ice_p, a0.Ice.length, a0_Ice_c⟩ ww (SlIs.mono ha0_Thrust hrel.below) (SlIs.mono ha0_Water hrel.below) (SlIs.mono ha0_Ice hrel.below) v4 hv4))),
      ok_plain rfl rfl (op_move (ltN rfl) rfl),
      ok_plain rfl rfl (op_callRowsD (x := .o 23 24 v5.length) (R := (fun vs => (vs.getD 0 (.bool false)))) (ls := [(23, 24)]) (ds := [(v5.length, 152, 10, v5.flatMap encPart)]) (fs := []) (caps := []) (extra := []) (ltN rfl) en_33 rfl ⟨rfl, rfl, rfl⟩ (EvL.cons rfl EvL.nil) rfl rfl (fun _ => rfl) (fun mm aa ww gg hr hrel => (c33 F a1 ⟨a1_p, a1.length, a1_c⟩ ww (SlIs.mono ha1 hrel.below) v5 hv5))),
      ok_plain rfl rfl (op_callRowsD (x := .t [.o 25 26 v6.1.length, .g [.i v6.2.1.Lo, .i v6.2.1.Hi], .i v6.2.2]) (R := (fun vs => .tuple #[(vs.getD 0 (.bool false)), .agg #[.int .i64 v6.2.1.Lo, .int .i64 v6.2.1.Hi], .int .i64 v6.2.2])) (ls := [(25, 26)]) (ds := [(v6.1.length, 3, 1, v6.1.flatMap encInt)]) (fs := []) (caps := []) (extra := (kapp [.r 17] (kapp [.r 19] (kapp [.r 21] (kapp [.r 23] []))))) (ltN rfl) en_31 rfl ⟨rfl, rfl, rfl⟩ (EvL.cons rfl (EvL.cons rfl EvL.nil)) rfl rfl (fun _ => rfl) (fun mm aa ww gg hr hrel => (c31 F v4 ⟨ptr0 (mm 17) (mm 18), v4.Thrust.length, mm 18⟩ ⟨ptr0 (mm 19) (mm 20), v4.Water.length, mm 20⟩ ⟨ptr0 (mm 21) (mm 22), v4.Ice.length, mm 22⟩ v5 ⟨ptr0 (mm 23) (mm 24), v5.length, mm 24⟩ ww (slAt_row (enc := encPt) (l := v4.Thrust) (fun _ => rfl) (by decide) hrel ((hr _ (List.mem_append_left _ (by simp))).trans rfl)) (slAt_row (enc := encPt) (l := v4.Water) (fun _ => rfl) (by decide) hrel ((hr _ (List.mem_append_right _ (List.mem_append_left _ (by simp)))).trans rfl)) (slAt_row (enc := encPt) (l := v4.Ice) (fun _ => rfl) (by decide) hrel ((hr _ (List.mem_append_right _ (List.mem_append_right _ (List.mem_append_left _ (by simp))))).trans rfl)) (slAt_row (enc := encPart) (l := v5) (fun _ => rfl) (by decide) hrel ((hr _ (List.mem_append_right _ (List.mem_append_right _ (List.mem_append_right _ (List.mem_append_left _ (by simp)))))).trans rfl)) v6 hv6))),
      ok_plain rfl rfl (op_move (ltN rfl) rfl),
      ok_plain rfl rfl (op_extract (ltN rfl) rfl rfl),
      ok_plain rfl rfl (op_extract (ltN rfl) rfl rfl),
      ok_plain rfl rfl (op_extract (ltN rfl) rfl rfl),
      ok_plain rfl rfl (op_alloc (L := 27) (ltN rfl) zl_32),
      ok_plain rfl rfl (op_assign (ltN rfl) rfl),
      ok_plain rfl rfl (op_storeN sz_32 rfl rfl rfl rfl rfl (by decide)),
      ok_plain rfl rfl (op_assign (ltN rfl) rfl),
      trivial⟩ ?_
    refine fin_keep (s' := [kt 1 (.v (.slice a1_p a1.length a1_c)), kt 3 (.v (.slice a3_p a3.length a3_c)), kt 4 (.p 1 0), kt 6 (.p 2 0), kt 9 (.p 13 0), kt 10 (.o 9 10 a1.length), kt 11 (.o 11 12 v3.length), kt 12 (.o 14 15 ((leg v2 a1).1.length)), kt 13 (.p 16 0), kt 14 (.i ((leg v2 a1).2.2)), kt 15 (.o 25 26 v6.1.length), kt 16 (.p 27 0), kt 17 (.i v6.2.2), kb 1 25 11, kb 2 34 8, kb 13 25 11, kb 16 32 2, kb 27 32 2, (.r 3, some (.vec true 4 84 2 (v2.Thrust.flatMap encPt))), (.r 5, some (.vec true 6 84 2 (v2.Water.flatMap encPt))), (.r 7, some (.vec true 8 84 2 (v2.Ice.flatMap encPt))), (.r 9, some (.vec true 10 48 10 (a1.flatMap encPart))), (.r 11, some (.vec true 12 32 2 (v3.flatMap encSpan))), (.r 14, some (.vec true 15 3 1 (((leg v2 a1).1).flatMap encInt))), (.r 25, some (.vec true 26 3 1 (v6.1.flatMap encInt))), kc 1 0 (.i a0.Class), kc 1 1 (.i a0.Power), kc 1 2 (.i a0.Draught), kc 1 3 (.i a0.Tonnes), kc 1 4 (.v (.slice a0_Thrust_p a0.Thrust.length a0_Thrust_c)), kc 1 5 (.v (.slice a0_Water_p a0.Water.length a0_Water_c)), kc 1 6 (.v (.slice a0_Ice_p a0.Ice.length a0_Ice_c)), kc 1 7 (.i a0.Slow), kc 1 8 (.i a0.Brash), kc 1 9 (.i a0.Ridge), kc 1 10 (.i a0.Press), kc 2 0 (.i a2.Conc.Lo), kc 2 1 (.i a2.Conc.Hi), kc 2 2 (.i a2.Thick.Lo), kc 2 3 (.i a2.Thick.Hi), kc 2 4 (.i a2.Ridge.Lo), kc 2 5 (.i a2.Ridge.Hi), kc 2 6 (.i a2.Press.Lo), kc 2 7 (.i a2.Press.Hi), kc 13 0 (.i v2.Class), kc 13 1 (.i v2.Power), kc 13 2 (.i v2.Draught), kc 13 3 (.i v2.Tonnes), kc 13 4 (.o 3 4 v2.Thrust.length), kc 13 5 (.o 5 6 v2.Water.length), kc 13 6 (.o 7 8 v2.Ice.length), kc 13 7 (.i v2.Slow), kc 13 8 (.i v2.Brash), kc 13 9 (.i v2.Ridge), kc 13 10 (.i v2.Press), kc 16 0 (.i (((leg v2 a1).2.1).Lo)), kc 16 1 (.i (((leg v2 a1).2.1).Hi)), kc 27 0 (.i v6.2.1.Lo), kc 27 1 (.i v6.2.1.Hi)]) ?_ (kp rfl) rfl
    refine fin_then ?_
    refine aw_seq ?_
    refine aw_seq ?_
    obtain ⟨v7, hv7, hm⟩ := bnd_some hm
    refine aw_text (rows := [_, _, _, _, _, _, _, _, _, _, _, _, _, _]) rfl (by kernel_rfl) ⟨
      ok_plain rfl rfl (op_move (ltN rfl) rfl),
      ok_plain rfl rfl (op_move (ltN rfl) rfl),
      ok_plain rfl rfl (op_call (x := .B v7) (fs := []) (caps := []) (extra := (kapp [.r 14] (kapp [.r 25] []))) (ltN rfl) en_34 rfl ⟨rfl, rfl, rfl⟩ (EvL.cons rfl (EvL.cons rfl EvL.nil)) (fun mm aa ww gg hr hrel => (c34 F ((leg v2 a1).1) ⟨ptr0 (mm 14) (mm 15), ((leg v2 a1).1.length), mm 15⟩ v6.1 ⟨ptr0 (mm 25) (mm 26), v6.1.length, mm 26⟩ ww (slAt_row (enc := encInt) (l := (leg v2 a1).1) (fun _ => rfl) (by decide) hrel ((hr _ (List.mem_append_left _ (by simp))).trans rfl)) (slAt_row (enc := encInt) (l := v6.1) (fun _ => rfl) (by decide) hrel ((hr _ (List.mem_append_right _ (List.mem_append_left _ (by simp)))).trans rfl)) v7 hv7))),
      ok_plain rfl rfl (op_not (ltN rfl) rfl),
      ok_plain rfl rfl (op_move (ltN rfl) rfl),
      ok_if (ltN rfl) rfl rfl rfl rfl rfl rfl (fun hg25 => op_loadN (ys := [.i (((leg v2 a1).2.1).Lo), .i (((leg v2 a1).2.1).Hi)]) (ltN rfl) sh_32 (force_x rfl) rfl ⟨rfl, rfl, trivial⟩),
      ok_if (ltN rfl) rfl rfl rfl rfl rfl rfl (fun hg26 => op_loadN (ys := [.i v6.2.1.Lo, .i v6.2.1.Hi]) (ltN rfl) sh_32 (force_x rfl) rfl ⟨rfl, rfl, trivial⟩),
      ok_if (ltN rfl) rfl rfl rfl rfl rfl rfl (fun hg27 => op_neS (r := decide (((leg v2 a1).2.1) = v6.2.1)) (ltN rfl) (force_eq (beq_iff_eq.2 hg27) rfl) (force_eq (beq_iff_eq.2 hg27) rfl) eqg_32 (fun _ => Eq.trans (by kernel_rfl) (congrArg some (Span_eqd (((leg v2 a1).2.1)) v6.2.1)))),
      ok_plain rfl rfl (op_or (ltN rfl) rfl rfl),
      ok_plain rfl rfl (op_move (ltN rfl) rfl),
      ok_if (ltN rfl) rfl rfl rfl rfl rfl rfl (fun hg28 => op_move (ltN rfl) (force_x rfl)),
      ok_if (ltN rfl) rfl rfl rfl rfl rfl rfl (fun hg29 => op_move (ltN rfl) (force_x rfl)),
      ok_if (ltN rfl) rfl rfl rfl rfl rfl rfl (fun hg30 => op_bin (ltN rfl) (force_eq (beq_iff_eq.2 hg30) rfl) (force_eq (beq_iff_eq.2 hg30) rfl) rfl),
      ok_plain rfl rfl (op_or (ltN rfl) rfl rfl),
      trivial⟩ ?_
    refine fin_keep (s' := [kt 1 (.v (.slice a1_p a1.length a1_c)), kt 3 (.v (.slice a3_p a3.length a3_c)), kt 4 (.p 1 0), kt 6 (.p 2 0), kt 9 (.p 13 0), kt 10 (.o 9 10 a1.length), kt 11 (.o 11 12 v3.length), kt 13 (.p 16 0), kt 16 (.p 27 0), kt 86 (.B (((!v7) || (!decide (((leg v2 a1).2.1) = v6.2.1))) || (((leg v2 a1).2.2) != v6.2.2))), kb 1 25 11, kb 2 34 8, kb 13 25 11, kb 16 32 2, kb 27 32 2, (.r 3, some (.vec true 4 84 2 (v2.Thrust.flatMap encPt))), (.r 5, some (.vec true 6 84 2 (v2.Water.flatMap encPt))), (.r 7, some (.vec true 8 84 2 (v2.Ice.flatMap encPt))), (.r 9, some (.vec true 10 48 10 (a1.flatMap encPart))), (.r 11, some (.vec true 12 32 2 (v3.flatMap encSpan))), kc 1 0 (.i a0.Class), kc 1 1 (.i a0.Power), kc 1 2 (.i a0.Draught), kc 1 3 (.i a0.Tonnes), kc 1 4 (.v (.slice a0_Thrust_p a0.Thrust.length a0_Thrust_c)), kc 1 5 (.v (.slice a0_Water_p a0.Water.length a0_Water_c)), kc 1 6 (.v (.slice a0_Ice_p a0.Ice.length a0_Ice_c)), kc 1 7 (.i a0.Slow), kc 1 8 (.i a0.Brash), kc 1 9 (.i a0.Ridge), kc 1 10 (.i a0.Press), kc 2 0 (.i a2.Conc.Lo), kc 2 1 (.i a2.Conc.Hi), kc 2 2 (.i a2.Thick.Lo), kc 2 3 (.i a2.Thick.Hi), kc 2 4 (.i a2.Ridge.Lo), kc 2 5 (.i a2.Ridge.Hi), kc 2 6 (.i a2.Press.Lo), kc 2 7 (.i a2.Press.Hi), kc 13 0 (.i v2.Class), kc 13 1 (.i v2.Power), kc 13 2 (.i v2.Draught), kc 13 3 (.i v2.Tonnes), kc 13 4 (.o 3 4 v2.Thrust.length), kc 13 5 (.o 5 6 v2.Water.length), kc 13 6 (.o 7 8 v2.Ice.length), kc 13 7 (.i v2.Slow), kc 13 8 (.i v2.Brash), kc 13 9 (.i v2.Ridge), kc 13 10 (.i v2.Press), kc 16 0 (.i (((leg v2 a1).2.1).Lo)), kc 16 1 (.i (((leg v2 a1).2.1).Hi)), kc 27 0 (.i v6.2.1.Lo), kc 27 1 (.i v6.2.1.Hi)]) ?_ (kp rfl) rfl
    refine fin_then ?_
    refine aw_cond rfl (fun hz31 => ?_) (fun hz31 => ?_)
    · have hm := brk_t hz31 hm
      refine aw_seq ?_
      refine aw_text (rows := [_]) rfl (by kernel_rfl) ⟨
        ok_plain rfl rfl (op_assign (ltN rfl) rfl),
        trivial⟩ ?_
      refine fin_keep (s' := [kt 8 (.B false)]) ?_ (kp rfl) rfl
      refine fin_then ?_
      refine aw_ret ?_
      refine fin_then_ret ?_
      refine post_ret (x := .B false) rfl rfl (resOK_tmp rfl resOK_nil) rfl (fun mm aa ww hr => ?_)
      have hm := Option.some.inj hm
      subst hm
      exact ⟨rfl, hr.below⟩
    · have hm := brk_f hz31 hm
      refine aw_skip ?_
      refine fin_then ?_
      refine aw_seq ?_
      refine aw_text (rows := [_, _, _, _, _, _, _, _, _]) rfl (by kernel_rfl) ⟨
        ok_plain rfl rfl (op_loadN (ys := [.i v2.Class, .i v2.Power, .i v2.Draught, .i v2.Tonnes, .o 3 4 v2.Thrust.length, .o 5 6 v2.Water.length, .o 7 8 v2.Ice.length, .i v2.Slow, .i v2.Brash, .i v2.Ridge, .i v2.Press]) (ltN rfl) sh_25 rfl rfl ⟨rfl, rfl, rfl, rfl, rfl, rfl, rfl, rfl, rfl, rfl, rfl, trivial⟩),
        ok_plain rfl rfl (op_loadN (ys := [.i a2.Conc.Lo, .i a2.Conc.Hi, .i a2.Thick.Lo, .i a2.Thick.Hi, .i a2.Ridge.Lo, .i a2.Ridge.Hi, .i a2.Press.Lo, .i a2.Press.Hi]) (ltN rfl) sh_34 rfl rfl ⟨rfl, rfl, rfl, rfl, rfl, rfl, rfl, rfl, trivial⟩),
        ok_plain rfl rfl (op_move (ltN rfl) rfl),
        ok_plain rfl rfl (op_call (x := .t [.g [.i (((free v2 a2 v3).1).Lo), .i (((free v2 a2 v3).1).Hi)], .i ((free v2 a2 v3).2)]) (fs := []) (caps := []) (extra := (kapp [.r 3] (kapp [.r 5] (kapp [.r 7] (kapp [.r 11] []))))) (ltN rfl) en_35 rfl ⟨rfl, rfl, rfl⟩ (EvL.cons rfl (EvL.cons rfl (EvL.cons rfl EvL.nil))) (fun mm aa ww gg hr hrel => (c35 v2 ⟨ptr0 (mm 3) (mm 4), v2.Thrust.length, mm 4⟩ ⟨ptr0 (mm 5) (mm 6), v2.Water.length, mm 6⟩ ⟨ptr0 (mm 7) (mm 8), v2.Ice.length, mm 8⟩ a2 v3 ⟨ptr0 (mm 11) (mm 12), v3.length, mm 12⟩ ww (slAt_row (enc := encPt) (l := v2.Thrust) (fun _ => rfl) (by decide) hrel ((hr _ (List.mem_append_left _ (by simp))).trans rfl)) (slAt_row (enc := encPt) (l := v2.Water) (fun _ => rfl) (by decide) hrel ((hr _ (List.mem_append_right _ (List.mem_append_left _ (by simp)))).trans rfl)) (slAt_row (enc := encPt) (l := v2.Ice) (fun _ => rfl) (by decide) hrel ((hr _ (List.mem_append_right _ (List.mem_append_right _ (List.mem_append_left _ (by simp))))).trans rfl)) (slAt_row (enc := encSpan) (l := v3) (fun _ => rfl) (by decide) hrel ((hr _ (List.mem_append_right _ (List.mem_append_right _ (List.mem_append_right _ (List.mem_append_left _ (by simp)))))).trans rfl))))),
        ok_plain rfl rfl (op_move (ltN rfl) rfl),
        ok_plain rfl rfl (op_extract (ltN rfl) rfl rfl),
        ok_plain rfl rfl (op_extract (ltN rfl) rfl rfl),
        ok_plain rfl rfl (op_storeN sz_32 rfl rfl rfl rfl rfl (by decide)),
        ok_plain rfl rfl (op_assign (ltN rfl) rfl),
        trivial⟩ ?_
      refine fin_keep (s' := [kt 1 (.v (.slice a1_p a1.length a1_c)), kt 3 (.v (.slice a3_p a3.length a3_c)), kt 4 (.p 1 0), kt 6 (.p 2 0), kt 9 (.p 13 0), kt 10 (.o 9 10 a1.length), kt 11 (.o 11 12 v3.length), kt 13 (.p 16 0), kt 14 (.i ((free v2 a2 v3).2)), kt 16 (.p 27 0), kb 1 25 11, kb 2 34 8, kb 13 25 11, kb 16 32 2, kb 27 32 2, (.r 3, some (.vec true 4 84 2 (v2.Thrust.flatMap encPt))), (.r 5, some (.vec true 6 84 2 (v2.Water.flatMap encPt))), (.r 7, some (.vec true 8 84 2 (v2.Ice.flatMap encPt))), (.r 9, some (.vec true 10 48 10 (a1.flatMap encPart))), (.r 11, some (.vec true 12 32 2 (v3.flatMap encSpan))), kc 1 0 (.i a0.Class), kc 1 1 (.i a0.Power), kc 1 2 (.i a0.Draught), kc 1 3 (.i a0.Tonnes), kc 1 4 (.v (.slice a0_Thrust_p a0.Thrust.length a0_Thrust_c)), kc 1 5 (.v (.slice a0_Water_p a0.Water.length a0_Water_c)), kc 1 6 (.v (.slice a0_Ice_p a0.Ice.length a0_Ice_c)), kc 1 7 (.i a0.Slow), kc 1 8 (.i a0.Brash), kc 1 9 (.i a0.Ridge), kc 1 10 (.i a0.Press), kc 2 0 (.i a2.Conc.Lo), kc 2 1 (.i a2.Conc.Hi), kc 2 2 (.i a2.Thick.Lo), kc 2 3 (.i a2.Thick.Hi), kc 2 4 (.i a2.Ridge.Lo), kc 2 5 (.i a2.Ridge.Hi), kc 2 6 (.i a2.Press.Lo), kc 2 7 (.i a2.Press.Hi), kc 13 0 (.i v2.Class), kc 13 1 (.i v2.Power), kc 13 2 (.i v2.Draught), kc 13 3 (.i v2.Tonnes), kc 13 4 (.o 3 4 v2.Thrust.length), kc 13 5 (.o 5 6 v2.Water.length), kc 13 6 (.o 7 8 v2.Ice.length), kc 13 7 (.i v2.Slow), kc 13 8 (.i v2.Brash), kc 13 9 (.i v2.Ridge), kc 13 10 (.i v2.Press), kc 16 0 (.i (((free v2 a2 v3).1).Lo)), kc 16 1 (.i (((free v2 a2 v3).1).Hi)), kc 27 0 (.i v6.2.1.Lo), kc 27 1 (.i v6.2.1.Hi)]) ?_ (kp rfl) rfl
      refine fin_then ?_
      refine aw_seq ?_
      obtain ⟨v8, hv8, hm⟩ := bnd_some hm
      obtain ⟨v9, hv9, hm⟩ := bnd_some hm
      refine aw_any (rows := [_, _, _, _, _, _, _, _, _, _]) (M := [0, 1, 0, 0, 15, 31, 63, 63, 127, 511]) Tryd_mixed (by kernel_rfl) rfl (by kernel_rfl) ⟨
        ok_plain rfl rfl (op_loadN (ys := [.i a0.Class, .i a0.Power, .i a0.Draught, .i a0.Tonnes, .v (.slice a0_Thrust_p a0.Thrust.length a0_Thrust_c), .v (.slice a0_Water_p a0.Water.length a0_Water_c), .v (.slice a0_Ice_p a0.Ice.length a0_Ice_c), .i a0.Slow, .i a0.Brash, .i a0.Ridge, .i a0.Press]) (ltN rfl) sh_25 rfl rfl ⟨rfl, rfl, rfl, rfl, rfl, rfl, rfl, rfl, rfl, rfl, rfl, trivial⟩),
        ok_plain rfl rfl (op_callRowsD (x := .g [.i v8.Class, .i v8.Power, .i v8.Draught, .i v8.Tonnes, .o 28 29 v8.Thrust.length, .o 30 31 v8.Water.length, .o 32 33 v8.Ice.length, .i v8.Slow, .i v8.Brash, .i v8.Ridge, .i v8.Press]) (R := (fun vs => .agg #[.int .i64 v8.Class, .int .i64 v8.Power, .int .i64 v8.Draught, .int .i64 v8.Tonnes, (vs.getD 0 (.bool false)), (vs.getD 1 (.bool false)), (vs.getD 2 (.bool false)), .int .i64 v8.Slow, .int .i64 v8.Brash, .int .i64 v8.Ridge, .int .i64 v8.Press])) (ls := [(28, 29), (30, 31), (32, 33)]) (ds := [(v8.Thrust.length, 170, 2, v8.Thrust.flatMap encPt), (v8.Water.length, 170, 2, v8.Water.flatMap encPt), (v8.Ice.length, 170, 2, v8.Ice.flatMap encPt)]) (fs := []) (caps := []) (extra := []) (ltN rfl) en_32 rfl ⟨rfl, rfl, rfl⟩ (EvL.cons rfl EvL.nil) rfl rfl (fun _ => rfl) (fun mm aa ww gg hr hrel => (c32 F a0 ⟨a0_Thrust_p, a0.Thrust.length, a0_Thrust_c⟩ ⟨a0_Water_p, a0.Water.length, a0_Water_c⟩ ⟨a0_Ice_p, a0.Ice.length, a0_Ice_c⟩ ww (SlIs.mono ha0_Thrust hrel.below) (SlIs.mono ha0_Water hrel.below) (SlIs.mono ha0_Ice hrel.below) v8 hv8))),
        ok_plain rfl rfl (op_loadN (ys := [.i a2.Conc.Lo, .i a2.Conc.Hi, .i a2.Thick.Lo, .i a2.Thick.Hi, .i a2.Ridge.Lo, .i a2.Ridge.Hi, .i a2.Press.Lo, .i a2.Press.Hi]) (ltN rfl) sh_34 rfl rfl ⟨rfl, rfl, rfl, rfl, rfl, rfl, rfl, rfl, trivial⟩),
        ok_plain rfl rfl (op_move (ltN rfl) rfl),
        ok_plain rfl rfl (op_call (x := .t [.g [.i v9.1.Lo, .i v9.1.Hi], .i v9.2]) (fs := []) (caps := []) (extra := (kapp [.r 28] (kapp [.r 30] (kapp [.r 32] [])))) (ltN rfl) en_36 rfl ⟨rfl, rfl, rfl⟩ (EvL.cons rfl (EvL.cons rfl (EvL.cons rfl EvL.nil))) (fun mm aa ww gg hr hrel => (c36 F v8 ⟨ptr0 (mm 28) (mm 29), v8.Thrust.length, mm 29⟩ ⟨ptr0 (mm 30) (mm 31), v8.Water.length, mm 31⟩ ⟨ptr0 (mm 32) (mm 33), v8.Ice.length, mm 33⟩ a2 a3 ⟨a3_p, a3.length, a3_c⟩ ww (slAt_row (enc := encPt) (l := v8.Thrust) (fun _ => rfl) (by decide) hrel ((hr _ (List.mem_append_left _ (by simp))).trans rfl)) (slAt_row (enc := encPt) (l := v8.Water) (fun _ => rfl) (by decide) hrel ((hr _ (List.mem_append_right _ (List.mem_append_left _ (by simp)))).trans rfl)) (slAt_row (enc := encPt) (l := v8.Ice) (fun _ => rfl) (by decide) hrel ((hr _ (List.mem_append_right _ (List.mem_append_right _ (List.mem_append_left _ (by simp))))).trans rfl)) (SlIs.mono ha3 hrel.below) v9 hv9))),
        ok_plain rfl rfl (op_move (ltN rfl) rfl),
        ok_plain rfl rfl (op_extract (ltN rfl) rfl rfl),
        ok_plain rfl rfl (op_extract (ltN rfl) rfl rfl),
        ok_plain rfl rfl (op_storeN sz_32 rfl rfl rfl rfl rfl (by decide)),
        ok_plain rfl rfl (op_assign (ltN rfl) rfl),
        trivial⟩ ?_
      refine fin_keep (s' := [kt 1 (.v (.slice a1_p a1.length a1_c)), kt 3 (.v (.slice a3_p a3.length a3_c)), kt 4 (.p 1 0), kt 9 (.p 13 0), kt 10 (.o 9 10 a1.length), kt 11 (.o 11 12 v3.length), kt 13 (.p 16 0), kt 14 (.i ((free v2 a2 v3).2)), kt 16 (.p 27 0), kt 17 (.i v9.2), kb 1 25 11, kb 13 25 11, kb 16 32 2, kb 27 32 2, (.r 3, some (.vec true 4 84 2 (v2.Thrust.flatMap encPt))), (.r 5, some (.vec true 6 84 2 (v2.Water.flatMap encPt))), (.r 7, some (.vec true 8 84 2 (v2.Ice.flatMap encPt))), (.r 9, some (.vec true 10 48 10 (a1.flatMap encPart))), (.r 11, some (.vec true 12 32 2 (v3.flatMap encSpan))), kc 1 0 (.i a0.Class), kc 1 1 (.i a0.Power), kc 1 2 (.i a0.Draught), kc 1 3 (.i a0.Tonnes), kc 1 4 (.v (.slice a0_Thrust_p a0.Thrust.length a0_Thrust_c)), kc 1 5 (.v (.slice a0_Water_p a0.Water.length a0_Water_c)), kc 1 6 (.v (.slice a0_Ice_p a0.Ice.length a0_Ice_c)), kc 1 7 (.i a0.Slow), kc 1 8 (.i a0.Brash), kc 1 9 (.i a0.Ridge), kc 1 10 (.i a0.Press), kc 13 0 (.i v2.Class), kc 13 1 (.i v2.Power), kc 13 2 (.i v2.Draught), kc 13 3 (.i v2.Tonnes), kc 13 4 (.o 3 4 v2.Thrust.length), kc 13 5 (.o 5 6 v2.Water.length), kc 13 6 (.o 7 8 v2.Ice.length), kc 13 7 (.i v2.Slow), kc 13 8 (.i v2.Brash), kc 13 9 (.i v2.Ridge), kc 13 10 (.i v2.Press), kc 16 0 (.i (((free v2 a2 v3).1).Lo)), kc 16 1 (.i (((free v2 a2 v3).1).Hi)), kc 27 0 (.i v9.1.Lo), kc 27 1 (.i v9.1.Hi)]) ?_ (kp rfl) rfl
      refine fin_then ?_
      refine aw_seq ?_
      obtain ⟨v10, hv10, hm⟩ := bnd_some hm
      obtain ⟨v11, hv11, hm⟩ := bnd_some hm
      obtain ⟨v12, hv12, hm⟩ := bnd_some hm
      refine aw_text (rows := [_, _, _, _, _, _, _, _, _, _, _, _, _, _, _, _, _, _, _, _, _, _, _, _, _, _, _]) rfl (by kernel_rfl) ⟨
        ok_plain rfl rfl (op_loadN (ys := [.i (((free v2 a2 v3).1).Lo), .i (((free v2 a2 v3).1).Hi)]) (ltN rfl) sh_32 rfl rfl ⟨rfl, rfl, trivial⟩),
        ok_plain rfl rfl (op_loadN (ys := [.i v9.1.Lo, .i v9.1.Hi]) (ltN rfl) sh_32 rfl rfl ⟨rfl, rfl, trivial⟩),
        ok_plain rfl rfl (op_eqS (r := decide (((free v2 a2 v3).1) = v9.1)) (ltN rfl) rfl rfl eqg_32 (fun _ => Eq.trans (by kernel_rfl) (congrArg some (Span_eqd (((free v2 a2 v3).1)) v9.1)))),
        ok_plain rfl rfl (op_move (ltN rfl) rfl),
        ok_if (ltN rfl) rfl rfl rfl rfl rfl rfl (fun hg32 => op_move (ltN rfl) (force_x rfl)),
        ok_if (ltN rfl) rfl rfl rfl rfl rfl rfl (fun hg33 => op_move (ltN rfl) (force_x rfl)),
        ok_if (ltN rfl) rfl rfl rfl rfl rfl rfl (fun hg34 => op_bin (ltN rfl) (force_eq (beq_iff_eq.2 hg34) rfl) (force_eq (beq_iff_eq.2 hg34) rfl) rfl),
        ok_plain rfl rfl (op_and (ltN rfl) rfl rfl),
        ok_plain rfl rfl (op_move (ltN rfl) rfl),
        ok_if (ltN rfl) rfl rfl rfl rfl rfl rfl (fun hg35 => op_move (ltN rfl) (force_x rfl)),
        ok_if (ltN rfl) rfl rfl rfl rfl rfl rfl (fun hg36 => op_move (ltN rfl) (force_x rfl)),
        ok_if (ltN rfl) rfl rfl rfl rfl rfl rfl (fun hg37 => op_call (x := .B v10) (fs := []) (caps := []) (extra := (kapp [.r 9] [])) (ltN rfl) en_37 rfl ⟨rfl, rfl, rfl⟩ (EvL.cons (force_eq (beq_iff_eq.2 hg37) rfl) (EvL.cons (force_eq (beq_iff_eq.2 hg37) rfl) EvL.nil)) (fun mm aa ww gg hr hrel => (c37 F a1 ⟨ptr0 (mm 9) (mm 10), a1.length, mm 10⟩ a1 ⟨a1_p, a1.length, a1_c⟩ ww (slAt_row (enc := encPart) (l := a1) (fun _ => rfl) (by decide) hrel ((hr _ (List.mem_append_left _ (by simp))).trans rfl)) (SlIs.mono ha1 hrel.below) v10 (brk_t hg37 hv10)))),
        ok_plain rfl rfl (op_and (ltN rfl) rfl rfl),
        ok_plain rfl rfl (op_move (ltN rfl) rfl),
        ok_if (ltN rfl) rfl rfl rfl rfl rfl rfl (fun hg38 => op_move (ltN rfl) (force_x rfl)),
        ok_if (ltN rfl) rfl rfl rfl rfl rfl rfl (fun hg39 => op_move (ltN rfl) (force_x rfl)),
        ok_if (ltN rfl) rfl rfl rfl rfl rfl rfl (fun hg40 => op_call (x := .B v11) (fs := []) (caps := []) (extra := (kapp [.r 11] [])) (ltN rfl) en_38 rfl ⟨rfl, rfl, rfl⟩ (EvL.cons (force_eq (beq_iff_eq.2 hg40) rfl) (EvL.cons (force_eq (beq_iff_eq.2 hg40) rfl) EvL.nil)) (fun mm aa ww gg hr hrel => (c38 F v3 ⟨ptr0 (mm 11) (mm 12), v3.length, mm 12⟩ a3 ⟨a3_p, a3.length, a3_c⟩ ww (slAt_row (enc := encSpan) (l := v3) (fun _ => rfl) (by decide) hrel ((hr _ (List.mem_append_left _ (by simp))).trans rfl)) (SlIs.mono ha3 hrel.below) v11 (brk_t hg40 hv11)))),
        ok_plain rfl rfl (op_and (ltN rfl) rfl rfl),
        ok_plain rfl rfl (op_move (ltN rfl) rfl),
        ok_if (ltN rfl) rfl rfl rfl rfl rfl rfl (fun hg41 => op_loadN (ys := [.i a0.Class, .i a0.Power, .i a0.Draught, .i a0.Tonnes, .v (.slice a0_Thrust_p a0.Thrust.length a0_Thrust_c), .v (.slice a0_Water_p a0.Water.length a0_Water_c), .v (.slice a0_Ice_p a0.Ice.length a0_Ice_c), .i a0.Slow, .i a0.Brash, .i a0.Ridge, .i a0.Press]) (ltN rfl) sh_25 (force_x rfl) rfl ⟨rfl, rfl, rfl, rfl, rfl, rfl, rfl, rfl, rfl, rfl, rfl, trivial⟩),
        ok_if (ltN rfl) rfl rfl rfl rfl rfl rfl (fun hg42 => op_loadN (ys := [.i v2.Class, .i v2.Power, .i v2.Draught, .i v2.Tonnes, .o 3 4 v2.Thrust.length, .o 5 6 v2.Water.length, .o 7 8 v2.Ice.length, .i v2.Slow, .i v2.Brash, .i v2.Ridge, .i v2.Press]) (ltN rfl) sh_25 (force_x rfl) rfl ⟨rfl, rfl, rfl, rfl, rfl, rfl, rfl, rfl, rfl, rfl, rfl, trivial⟩),
        ok_if (ltN rfl) rfl rfl rfl rfl rfl rfl (fun hg43 => op_call (x := .B v12) (fs := []) (caps := []) (extra := (kapp [.r 3] (kapp [.r 5] (kapp [.r 7] [])))) (ltN rfl) en_39 rfl ⟨rfl, rfl, rfl⟩ (EvL.cons (force_eq (beq_iff_eq.2 hg43) rfl) (EvL.cons (force_eq (beq_iff_eq.2 hg43) rfl) EvL.nil)) (fun mm aa ww gg hr hrel => (c39 F a0 ⟨a0_Thrust_p, a0.Thrust.length, a0_Thrust_c⟩ ⟨a0_Water_p, a0.Water.length, a0_Water_c⟩ ⟨a0_Ice_p, a0.Ice.length, a0_Ice_c⟩ v2 ⟨ptr0 (mm 3) (mm 4), v2.Thrust.length, mm 4⟩ ⟨ptr0 (mm 5) (mm 6), v2.Water.length, mm 6⟩ ⟨ptr0 (mm 7) (mm 8), v2.Ice.length, mm 8⟩ ww (SlIs.mono ha0_Thrust hrel.below) (SlIs.mono ha0_Water hrel.below) (SlIs.mono ha0_Ice hrel.below) (slAt_row (enc := encPt) (l := v2.Thrust) (fun _ => rfl) (by decide) hrel ((hr _ (List.mem_append_left _ (by simp))).trans rfl)) (slAt_row (enc := encPt) (l := v2.Water) (fun _ => rfl) (by decide) hrel ((hr _ (List.mem_append_right _ (List.mem_append_left _ (by simp)))).trans rfl)) (slAt_row (enc := encPt) (l := v2.Ice) (fun _ => rfl) (by decide) hrel ((hr _ (List.mem_append_right _ (List.mem_append_right _ (List.mem_append_left _ (by simp))))).trans rfl)) v12 (brk_t hg43 hv12)))),
        ok_plain rfl rfl (op_and (ltN rfl) rfl rfl),
        ok_plain rfl rfl (op_move (ltN rfl) rfl),
        ok_if (ltN rfl) rfl rfl rfl rfl rfl rfl (fun hg44 => op_call (x := .B true) (fs := []) (caps := []) (extra := []) (ltN rfl) en_21 rfl ⟨rfl, rfl, rfl⟩ EvL.nil (fun mm aa ww gg hr hrel => (c21 ww (BoxAt.mono hG hrel.below)))),
        ok_plain rfl rfl (op_and (ltN rfl) rfl rfl),
        ok_plain rfl rfl (op_assign (ltN rfl) rfl),
        trivial⟩ ?_
      refine fin_keep (s' := [kt 8 (.B ((((((decide (((free v2 a2 v3).1) = v9.1)) && (((free v2 a2 v3).2) == v9.2)) && v10) && v11) && v12) && true))]) ?_ (kp rfl) rfl
      refine fin_then ?_
      refine aw_ret ?_
      refine post_ret (x := .B ((((((decide (((free v2 a2 v3).1) = v9.1)) && (((free v2 a2 v3).2) == v9.2)) && v10) && v11) && v12) && true)) rfl rfl (resOK_tmp rfl resOK_nil) rfl (fun mm aa ww hr => ?_)
      have hm := Option.some.inj hm
      subst hm
      exact ⟨rfl, hr.below⟩

end Go.Proofs.T
