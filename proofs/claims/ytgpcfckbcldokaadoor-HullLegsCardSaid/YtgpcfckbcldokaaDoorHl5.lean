/-
  This file has contracts of functions of the program: where the mirror gives a value, the call returns it. Conditions: those that each theorem names.
-/
import Derived.Test.YtgpcfckbcldokaaDoorHl4
namespace Go.Proofs.T
open Go Go.AX Go.RowKit Hull
theorem fo_108_0 : fieldOff Tryd.prog 108 0 = some 0 := by kernel_rfl
theorem fo_108_1 : fieldOff Tryd.prog 108 1 = some 1 := by kernel_rfl
theorem fo_108_3 : fieldOff Tryd.prog 108 3 = some 3 := by kernel_rfl
theorem fo_108_2 : fieldOff Tryd.prog 108 2 = some 2 := by kernel_rfl
theorem sh_108 : shapeOf Tryd.prog 108 = some (some 4) := by kernel_rfl
theorem en_120 : Proofs.Enters Tryd.prog 120 := Proofs.enters_of Tryd.func120 (by kernel_rfl) rfl
theorem en_96 : Proofs.Enters Tryd.prog 96 := Proofs.enters_of Tryd.func96 (by kernel_rfl) rfl
theorem fo_72_0 : fieldOff Tryd.prog 72 0 = some 0 := by kernel_rfl
theorem en_102 : Proofs.Enters Tryd.prog 102 := Proofs.enters_of Tryd.func102 (by kernel_rfl) rfl
theorem fo_72_1 : fieldOff Tryd.prog 72 1 = some 2 := by kernel_rfl
theorem fo_72_2 : fieldOff Tryd.prog 72 2 = some 4 := by kernel_rfl
theorem fo_72_3 : fieldOff Tryd.prog 72 3 = some 6 := by kernel_rfl
theorem sh_72 : shapeOf Tryd.prog 72 = some (some 8) := by kernel_rfl
theorem en_93 : Proofs.Enters Tryd.prog 93 := Proofs.enters_of Tryd.func93 (by kernel_rfl) rfl

def m49 (_F : Nat) (a0 : Ship) (a1 : Int) : Option (Int × Int) :=
  brk ((check a0) != 0) (some (0, check a0)) (brk (!(within a1 0 250)) (some (0, 6)) (chk (check a0 = 0) (chk (0 ≤ a1 ∧ a1 ≤ 255) (some (thrust a0 a1, 0)))))

def m98 (_F : Nat) (a0 : Int) : Option (Int) :=
  brk (a0 == 1) (some 4000) (brk (a0 == 2) (some 8000) (brk (a0 == 3) (some 14000) (brk (a0 == 4) (some 24000) (brk (a0 == 5) (some 40000) (some 90000)))))

theorem c98 (F : Nat) (a0 : Int) (w : World)  (r : Int) (hm : m98 F a0 = some r) : Calls Tryd.prog 98 #[.int .i64 a0] w fun e w' => e = .returned (.int .i64 r) ∧ Below w.heap.size w w' := by
  unfold m98 at hm
  refine enter (args := [.i a0]) Tryd.func98 rfl (N := 14) rfl (Nat.le_of_ble_eq_true rfl) ?_
  refine aw_seq ?_
  refine aw_text (rows := [_]) rfl (by kernel_rfl) ⟨
    ok_plain rfl rfl (op_assign (ltN rfl) rfl),
    trivial⟩ ?_
  refine fin_keep (s' := [kt 0 (.i a0)]) ?_ (kp rfl) rfl
  refine fin_then ?_
  refine aw_seq ?_
  refine aw_seq ?_
  refine aw_text (rows := [_]) rfl (by kernel_rfl) ⟨
    ok_plain rfl rfl (op_move (ltN rfl) rfl),
    trivial⟩ ?_
  refine fin_keep (s' := [kt 3 (.i a0)]) ?_ (kp rfl) rfl
  refine fin_then ?_
  refine aw_block ?_
  refine aw_seq ?_
  refine aw_text (rows := [_, _]) rfl (by kernel_rfl) ⟨
    ok_plain rfl rfl (op_bin (ltN rfl) rfl rfl rfl),
    ok_plain rfl rfl (op_assign (ltN rfl) rfl),
    trivial⟩ ?_
  refine fin_keep (s' := [kt 3 (.i a0), kt 4 (.B (a0 == 1))]) ?_ (kp rfl) rfl
  refine fin_then ?_
  refine aw_cond rfl (fun hz1 => ?_) (fun hz1 => ?_)
  · have hm := brk_t hz1 hm
    refine aw_seq ?_
    refine aw_text (rows := [_]) rfl (by kernel_rfl) ⟨
      ok_plain rfl rfl (op_assign (ltN rfl) rfl),
      trivial⟩ ?_
    refine fin_keep (s' := [kt 2 (.i 4000)]) ?_ (kp rfl) rfl
    refine fin_then ?_
    refine aw_ret ?_
    refine fin_block_ret ?_
    refine fin_then_ret ?_
    refine post_ret (x := .i 4000) rfl rfl (resOK_tmp rfl resOK_nil) rfl (fun mm aa ww hr => ?_)
    have hm := Option.some.inj hm
    subst hm
    exact ⟨rfl, hr.below⟩
  · have hm := brk_f hz1 hm
    refine aw_seq ?_
    refine aw_text (rows := [_, _]) rfl (by kernel_rfl) ⟨
      ok_plain rfl rfl (op_bin (ltN rfl) rfl rfl rfl),
      ok_plain rfl rfl (op_assign (ltN rfl) rfl),
      trivial⟩ ?_
    refine fin_keep (s' := [kt 3 (.i a0), kt 6 (.B (a0 == 2))]) ?_ (kp rfl) rfl
    refine fin_then ?_
    refine aw_cond rfl (fun hz2 => ?_) (fun hz2 => ?_)
    · have hm := brk_t hz2 hm
      refine aw_seq ?_
      refine aw_text (rows := [_]) rfl (by kernel_rfl) ⟨
        ok_plain rfl rfl (op_assign (ltN rfl) rfl),
        trivial⟩ ?_
      refine fin_keep (s' := [kt 2 (.i 8000)]) ?_ (kp rfl) rfl
      refine fin_then ?_
      refine aw_ret ?_
      refine fin_block_ret ?_
      refine fin_then_ret ?_
      refine post_ret (x := .i 8000) rfl rfl (resOK_tmp rfl resOK_nil) rfl (fun mm aa ww hr => ?_)
      have hm := Option.some.inj hm
      subst hm
      exact ⟨rfl, hr.below⟩
    · have hm := brk_f hz2 hm
      refine aw_seq ?_
      refine aw_text (rows := [_, _]) rfl (by kernel_rfl) ⟨
        ok_plain rfl rfl (op_bin (ltN rfl) rfl rfl rfl),
        ok_plain rfl rfl (op_assign (ltN rfl) rfl),
        trivial⟩ ?_
      refine fin_keep (s' := [kt 3 (.i a0), kt 8 (.B (a0 == 3))]) ?_ (kp rfl) rfl
      refine fin_then ?_
      refine aw_cond rfl (fun hz3 => ?_) (fun hz3 => ?_)
      · have hm := brk_t hz3 hm
        refine aw_seq ?_
        refine aw_text (rows := [_]) rfl (by kernel_rfl) ⟨
          ok_plain rfl rfl (op_assign (ltN rfl) rfl),
          trivial⟩ ?_
        refine fin_keep (s' := [kt 2 (.i 14000)]) ?_ (kp rfl) rfl
        refine fin_then ?_
        refine aw_ret ?_
        refine fin_block_ret ?_
        refine fin_then_ret ?_
        refine post_ret (x := .i 14000) rfl rfl (resOK_tmp rfl resOK_nil) rfl (fun mm aa ww hr => ?_)
        have hm := Option.some.inj hm
        subst hm
        exact ⟨rfl, hr.below⟩
      · have hm := brk_f hz3 hm
        refine aw_seq ?_
        refine aw_text (rows := [_, _]) rfl (by kernel_rfl) ⟨
          ok_plain rfl rfl (op_bin (ltN rfl) rfl rfl rfl),
          ok_plain rfl rfl (op_assign (ltN rfl) rfl),
          trivial⟩ ?_
        refine fin_keep (s' := [kt 3 (.i a0), kt 10 (.B (a0 == 4))]) ?_ (kp rfl) rfl
        refine fin_then ?_
        refine aw_cond rfl (fun hz4 => ?_) (fun hz4 => ?_)
        · have hm := brk_t hz4 hm
          refine aw_seq ?_
          refine aw_text (rows := [_]) rfl (by kernel_rfl) ⟨
            ok_plain rfl rfl (op_assign (ltN rfl) rfl),
            trivial⟩ ?_
          refine fin_keep (s' := [kt 2 (.i 24000)]) ?_ (kp rfl) rfl
          refine fin_then ?_
          refine aw_ret ?_
          refine fin_block_ret ?_
          refine fin_then_ret ?_
          refine post_ret (x := .i 24000) rfl rfl (resOK_tmp rfl resOK_nil) rfl (fun mm aa ww hr => ?_)
          have hm := Option.some.inj hm
          subst hm
          exact ⟨rfl, hr.below⟩
        · have hm := brk_f hz4 hm
          refine aw_seq ?_
          refine aw_text (rows := [_, _]) rfl (by kernel_rfl) ⟨
            ok_plain rfl rfl (op_bin (ltN rfl) rfl rfl rfl),
            ok_plain rfl rfl (op_assign (ltN rfl) rfl),
            trivial⟩ ?_
          refine fin_keep (s' := [kt 12 (.B (a0 == 5))]) ?_ (kp rfl) rfl
          refine fin_then ?_
          refine aw_cond rfl (fun hz5 => ?_) (fun hz5 => ?_)
          · have hm := brk_t hz5 hm
            refine aw_seq ?_
            refine aw_text (rows := [_]) rfl (by kernel_rfl) ⟨
              ok_plain rfl rfl (op_assign (ltN rfl) rfl),
              trivial⟩ ?_
            refine fin_keep (s' := [kt 2 (.i 40000)]) ?_ (kp rfl) rfl
            refine fin_then ?_
            refine aw_ret ?_
            refine fin_block_ret ?_
            refine fin_then_ret ?_
            refine post_ret (x := .i 40000) rfl rfl (resOK_tmp rfl resOK_nil) rfl (fun mm aa ww hr => ?_)
            have hm := Option.some.inj hm
            subst hm
            exact ⟨rfl, hr.below⟩
          · have hm := brk_f hz5 hm
            refine aw_skip ?_
            refine fin_block ?_
            refine fin_then ?_
            refine aw_seq ?_
            refine aw_text (rows := [_]) rfl (by kernel_rfl) ⟨
              ok_plain rfl rfl (op_assign (ltN rfl) rfl),
              trivial⟩ ?_
            refine fin_keep (s' := [kt 2 (.i 90000)]) ?_ (kp rfl) rfl
            refine fin_then ?_
            refine aw_ret ?_
            refine post_ret (x := .i 90000) rfl rfl (resOK_tmp rfl resOK_nil) rfl (fun mm aa ww hr => ?_)
            have hm := Option.some.inj hm
            subst hm
            exact ⟨rfl, hr.below⟩

def m97 (_F : Nat) (a0 : Ice) (a1 : Int) (a2 : Bool) : Option (Int) :=
  brk (a0.Conc == 0) (some 0) (chk (InR (100 + a1)) (chk (InR (a0.Thick * (100 + a1))) (brk (a2) (chk (0 ≤ (a0.Thick * (100 + a1)) ∧ (a0.Thick * (100 + a1)) ≤ 9223372036854775807) (chk (InR (((a0.Thick * (100 + a1)) / 2) + ((a0.Thick * (100 + a1)) % 2))) (chk (InR (2000 * a0.Press)) (chk (InR ((((a0.Thick * (100 + a1)) / 2) + ((a0.Thick * (100 + a1)) % 2)) + (2000 * a0.Press))) (some ((((a0.Thick * (100 + a1)) / 2) + ((a0.Thick * (100 + a1)) % 2)) + (2000 * a0.Press))))))) (chk (InR (300 * a0.Ridge)) (chk (InR ((a0.Thick * (100 + a1)) + (300 * a0.Ridge))) (chk (InR (2000 * a0.Press)) (chk (InR (((a0.Thick * (100 + a1)) + (300 * a0.Ridge)) + (2000 * a0.Press))) (some (((a0.Thick * (100 + a1)) + (300 * a0.Ridge)) + (2000 * a0.Press))))))))))

theorem c97 (F : Nat) (a0 : Ice) (a1 : Int) (a2 : Bool) (w : World)  (r : Int) (hm : m97 F a0 a1 a2 = some r) : Calls Tryd.prog 97 #[.agg #[.int .i64 a0.Conc, .int .i64 a0.Thick, .int .i64 a0.Ridge, .int .i64 a0.Press], .int .i64 a1, .bool a2] w fun e w' => e = .returned (.int .i64 r) ∧ Below w.heap.size w w' := by
  unfold m97 at hm
  refine enter (args := [.g [.i a0.Conc, .i a0.Thick, .i a0.Ridge, .i a0.Press], .i a1, .B a2]) Tryd.func97 rfl (N := 35) rfl (Nat.le_of_ble_eq_true rfl) ?_
  refine aw_seq ?_
  refine aw_text (rows := [_, _]) rfl (by kernel_rfl) ⟨
    ok_plain rfl rfl (op_boxN (L := 1) (ltN rfl) rfl rfl rfl),
    ok_plain rfl rfl (op_assign (ltN rfl) rfl),
    trivial⟩ ?_
  refine fin_keep (s' := [kt 1 (.i a1), kt 2 (.B a2), kt 3 (.p 1 0), kb 1 108 4, kc 1 0 (.i a0.Conc), kc 1 1 (.i a0.Thick), kc 1 2 (.i a0.Ridge), kc 1 3 (.i a0.Press)]) ?_ (kp rfl) rfl
  refine fin_then ?_
  refine aw_seq ?_
  refine aw_seq ?_
  refine aw_text (rows := [_, _, _]) rfl (by kernel_rfl) ⟨
    ok_plain rfl rfl (op_fieldAddr (ltN rfl) rfl fo_108_0),
    ok_plain rfl rfl (op_load1 (ltN rfl) sh_3 rfl rfl),
    ok_plain rfl rfl (op_bin (ltN rfl) rfl rfl rfl),
    trivial⟩ ?_
  refine fin_keep (s' := [kt 1 (.i a1), kt 2 (.B a2), kt 3 (.p 1 0), kt 10 (.B (a0.Conc == 0)), kb 1 108 4, kc 1 0 (.i a0.Conc), kc 1 1 (.i a0.Thick), kc 1 2 (.i a0.Ridge), kc 1 3 (.i a0.Press)]) ?_ (kp rfl) rfl
  refine fin_then ?_
  refine aw_cond rfl (fun hz1 => ?_) (fun hz1 => ?_)
  · have hm := brk_t hz1 hm
    refine aw_seq ?_
    refine aw_text (rows := [_]) rfl (by kernel_rfl) ⟨
      ok_plain rfl rfl (op_assign (ltN rfl) rfl),
      trivial⟩ ?_
    refine fin_keep (s' := [kt 6 (.i 0)]) ?_ (kp rfl) rfl
    refine fin_then ?_
    refine aw_ret ?_
    refine fin_then_ret ?_
    refine post_ret (x := .i 0) rfl rfl (resOK_tmp rfl resOK_nil) rfl (fun mm aa ww hr => ?_)
    have hm := Option.some.inj hm
    subst hm
    exact ⟨rfl, hr.below⟩
  · have hm := brk_f hz1 hm
    refine aw_skip ?_
    refine fin_then ?_
    refine aw_seq ?_
    obtain ⟨hp2, hm⟩ := chk_some hm
    obtain ⟨hp3, hm⟩ := chk_some hm
    refine aw_text (rows := [_, _, _, _, _, _]) rfl (by kernel_rfl) ⟨
      ok_plain rfl rfl (op_fieldAddr (ltN rfl) rfl fo_108_1),
      ok_plain rfl rfl (op_load1 (ltN rfl) sh_3 rfl rfl),
      ok_plain rfl rfl (op_move (ltN rfl) rfl),
      ok_plain rfl rfl (op_bin (ltN rfl) rfl rfl (nw_add hp2)),
      ok_plain rfl rfl (op_bin (ltN rfl) rfl rfl (nw_mul hp3)),
      ok_plain rfl rfl (op_assign (ltN rfl) rfl),
      trivial⟩ ?_
    refine fin_keep (s' := [kt 2 (.B a2), kt 3 (.p 1 0), kt 7 (.i (a0.Thick * (100 + a1))), kb 1 108 4, kc 1 0 (.i a0.Conc), kc 1 1 (.i a0.Thick), kc 1 2 (.i a0.Ridge), kc 1 3 (.i a0.Press)]) ?_ (kp rfl) rfl
    refine fin_then ?_
    refine aw_seq ?_
    refine aw_seq ?_
    refine aw_text (rows := [_]) rfl (by kernel_rfl) ⟨
      ok_plain rfl rfl (op_move (ltN rfl) rfl),
      trivial⟩ ?_
    refine fin_keep (s' := [kt 3 (.p 1 0), kt 7 (.i (a0.Thick * (100 + a1))), kt 16 (.B a2), kb 1 108 4, kc 1 0 (.i a0.Conc), kc 1 1 (.i a0.Thick), kc 1 2 (.i a0.Ridge), kc 1 3 (.i a0.Press)]) ?_ (kp rfl) rfl
    refine fin_then ?_
    refine aw_cond rfl (fun hz4 => ?_) (fun hz4 => ?_)
    · have hm := brk_t hz4 hm
      refine aw_seq ?_
      obtain ⟨hp5, hm⟩ := chk_some hm
      obtain ⟨hp6, hm⟩ := chk_some hm
      obtain ⟨hp7, hm⟩ := chk_some hm
      obtain ⟨hp8, hm⟩ := chk_some hm
      refine aw_text (rows := [_, _, _, _, _, _, _, _, _, _]) rfl (by kernel_rfl) ⟨
        ok_plain rfl rfl (op_move (ltN rfl) rfl),
        ok_plain rfl rfl (op_quo (ltN rfl) rfl rfl (by decide) (quo_nn hp5.1 (by decide) hp5.2)),
        ok_plain rfl rfl (op_move (ltN rfl) rfl),
        ok_plain rfl rfl (op_rem (ltN rfl) rfl rfl (by decide) (rem_nn hp5.1 (by decide) hp5.2)),
        ok_plain rfl rfl (op_bin (ltN rfl) rfl rfl (nw_add hp6)),
        ok_plain rfl rfl (op_fieldAddr (ltN rfl) rfl fo_108_3),
        ok_plain rfl rfl (op_load1 (ltN rfl) sh_3 rfl rfl),
        ok_plain rfl rfl (op_bin (ltN rfl) rfl rfl (nw_mul hp7)),
        ok_plain rfl rfl (op_bin (ltN rfl) rfl rfl (nw_add hp8)),
        ok_plain rfl rfl (op_assign (ltN rfl) rfl),
        trivial⟩ ?_
      refine fin_keep (s' := [kt 6 (.i ((((a0.Thick * (100 + a1)) / 2) + ((a0.Thick * (100 + a1)) % 2)) + (2000 * a0.Press)))]) ?_ (kp rfl) rfl
      refine fin_then ?_
      refine aw_ret ?_
      refine fin_then_ret ?_
      refine post_ret (x := .i ((((a0.Thick * (100 + a1)) / 2) + ((a0.Thick * (100 + a1)) % 2)) + (2000 * a0.Press))) rfl rfl (resOK_tmp rfl resOK_nil) rfl (fun mm aa ww hr => ?_)
      have hm := Option.some.inj hm
      subst hm
      exact ⟨rfl, hr.below⟩
    · have hm := brk_f hz4 hm
      refine aw_skip ?_
      refine fin_then ?_
      refine aw_seq ?_
      obtain ⟨hp9, hm⟩ := chk_some hm
      obtain ⟨hp10, hm⟩ := chk_some hm
      obtain ⟨hp11, hm⟩ := chk_some hm
      obtain ⟨hp12, hm⟩ := chk_some hm
      refine aw_text (rows := [_, _, _, _, _, _, _, _, _, _]) rfl (by kernel_rfl) ⟨
        ok_plain rfl rfl (op_move (ltN rfl) rfl),
        ok_plain rfl rfl (op_fieldAddr (ltN rfl) rfl fo_108_2),
        ok_plain rfl rfl (op_load1 (ltN rfl) sh_3 rfl rfl),
        ok_plain rfl rfl (op_bin (ltN rfl) rfl rfl (nw_mul hp9)),
        ok_plain rfl rfl (op_bin (ltN rfl) rfl rfl (nw_add hp10)),
        ok_plain rfl rfl (op_fieldAddr (ltN rfl) rfl fo_108_3),
        ok_plain rfl rfl (op_load1 (ltN rfl) sh_3 rfl rfl),
        ok_plain rfl rfl (op_bin (ltN rfl) rfl rfl (nw_mul hp11)),
        ok_plain rfl rfl (op_bin (ltN rfl) rfl rfl (nw_add hp12)),
        ok_plain rfl rfl (op_assign (ltN rfl) rfl),
        trivial⟩ ?_
      refine fin_keep (s' := [kt 6 (.i (((a0.Thick * (100 + a1)) + (300 * a0.Ridge)) + (2000 * a0.Press)))]) ?_ (kp rfl) rfl
      refine fin_then ?_
      refine aw_ret ?_
      refine post_ret (x := .i (((a0.Thick * (100 + a1)) + (300 * a0.Ridge)) + (2000 * a0.Press))) rfl rfl (resOK_tmp rfl resOK_nil) rfl (fun mm aa ww hr => ?_)
      have hm := Option.some.inj hm
      subst hm
      exact ⟨rfl, hr.below⟩

def m120 (F : Nat) (a0 : Ship) (a1 : Ice) (a2 : Int) (a3 : Bool) : Option (Int) :=
  bnd (m111 F a0.Water a2) (fun v1 => bnd (m111 F a0.Ice a1.Thick) (fun v2 => join (fun (x1 : Int × Int) => chk (InR (v1.2 * v2.2)) (chk (InR ((v1.2 * v2.2) * 10000000)) (chk ((0 ≤ ((v1.2 * v2.2) * 10000000) ∧ ((v1.2 * v2.2) * 10000000) ≤ 9223372036854775807) ∧ 0 < v1.2) (chk (InR (v1.1 * (((v1.2 * v2.2) * 10000000) / v1.2))) (chk (InR (a1.Conc * v2.1)) (chk (InR (a0.Slow * a2)) (chk (InR (1000 + (a0.Slow * a2))) (chk (InR ((a1.Conc * v2.1) * (1000 + (a0.Slow * a2)))) (chk (InR (((a1.Conc * v2.1) * (1000 + (a0.Slow * a2))) * x1.1)) (chk (InR ((((a1.Conc * v2.1) * (1000 + (a0.Slow * a2))) * x1.1) * v1.2)) (chk (InR ((v1.1 * (((v1.2 * v2.2) * 10000000) / v1.2)) + ((((a1.Conc * v2.1) * (1000 + (a0.Slow * a2))) * x1.1) * v1.2))) (chk (InR (a1.Conc * a0.Ridge)) (chk (InR ((a1.Conc * a0.Ridge) * x1.2)) (chk (0 ≤ ((v1.2 * v2.2) * 10000000) ∧ ((v1.2 * v2.2) * 10000000) ≤ 9223372036854775807) (chk (InR (((a1.Conc * a0.Ridge) * x1.2) * (((v1.2 * v2.2) * 10000000) / 100))) (chk (InR (((v1.1 * (((v1.2 * v2.2) * 10000000) / v1.2)) + ((((a1.Conc * v2.1) * (1000 + (a0.Slow * a2))) * x1.1) * v1.2)) + (((a1.Conc * a0.Ridge) * x1.2) * (((v1.2 * v2.2) * 10000000) / 100)))) (chk (InR (a0.Press * a1.Press)) (chk (InR ((a0.Press * a1.Press) * ((v1.2 * v2.2) * 10000000))) (chk (InR ((((v1.1 * (((v1.2 * v2.2) * 10000000) / v1.2)) + ((((a1.Conc * v2.1) * (1000 + (a0.Slow * a2))) * x1.1) * v1.2)) + (((a1.Conc * a0.Ridge) * x1.2) * (((v1.2 * v2.2) * 10000000) / 100))) + ((a0.Press * a1.Press) * ((v1.2 * v2.2) * 10000000)))) (chk ((0 ≤ ((((v1.1 * (((v1.2 * v2.2) * 10000000) / v1.2)) + ((((a1.Conc * v2.1) * (1000 + (a0.Slow * a2))) * x1.1) * v1.2)) + (((a1.Conc * a0.Ridge) * x1.2) * (((v1.2 * v2.2) * 10000000) / 100))) + ((a0.Press * a1.Press) * ((v1.2 * v2.2) * 10000000))) ∧ ((((v1.1 * (((v1.2 * v2.2) * 10000000) / v1.2)) + ((((a1.Conc * v2.1) * (1000 + (a0.Slow * a2))) * x1.1) * v1.2)) + (((a1.Conc * a0.Ridge) * x1.2) * (((v1.2 * v2.2) * 10000000) / 100))) + ((a0.Press * a1.Press) * ((v1.2 * v2.2) * 10000000))) ≤ 9223372036854775807) ∧ 0 < ((v1.2 * v2.2) * 10000000)) (join (fun (x2 : Int) => some x2) (fun k2 => chk (InR ((((((v1.1 * (((v1.2 * v2.2) * 10000000) / v1.2)) + ((((a1.Conc * v2.1) * (1000 + (a0.Slow * a2))) * x1.1) * v1.2)) + (((a1.Conc * a0.Ridge) * x1.2) * (((v1.2 * v2.2) * 10000000) / 100))) + ((a0.Press * a1.Press) * ((v1.2 * v2.2) * 10000000))) / ((v1.2 * v2.2) * 10000000)) * ((v1.2 * v2.2) * 10000000))) (brk (decide (((((((v1.1 * (((v1.2 * v2.2) * 10000000) / v1.2)) + ((((a1.Conc * v2.1) * (1000 + (a0.Slow * a2))) * x1.1) * v1.2)) + (((a1.Conc * a0.Ridge) * x1.2) * (((v1.2 * v2.2) * 10000000) / 100))) + ((a0.Press * a1.Press) * ((v1.2 * v2.2) * 10000000))) / ((v1.2 * v2.2) * 10000000)) * ((v1.2 * v2.2) * 10000000)) < ((((v1.1 * (((v1.2 * v2.2) * 10000000) / v1.2)) + ((((a1.Conc * v2.1) * (1000 + (a0.Slow * a2))) * x1.1) * v1.2)) + (((a1.Conc * a0.Ridge) * x1.2) * (((v1.2 * v2.2) * 10000000) / 100))) + ((a0.Press * a1.Press) * ((v1.2 * v2.2) * 10000000))))) (chk (InR ((((((v1.1 * (((v1.2 * v2.2) * 10000000) / v1.2)) + ((((a1.Conc * v2.1) * (1000 + (a0.Slow * a2))) * x1.1) * v1.2)) + (((a1.Conc * a0.Ridge) * x1.2) * (((v1.2 * v2.2) * 10000000) / 100))) + ((a0.Press * a1.Press) * ((v1.2 * v2.2) * 10000000))) / ((v1.2 * v2.2) * 10000000)) + 1)) (k2 ((((((v1.1 * (((v1.2 * v2.2) * 10000000) / v1.2)) + ((((a1.Conc * v2.1) * (1000 + (a0.Slow * a2))) * x1.1) * v1.2)) + (((a1.Conc * a0.Ridge) * x1.2) * (((v1.2 * v2.2) * 10000000) / 100))) + ((a0.Press * a1.Press) * ((v1.2 * v2.2) * 10000000))) / ((v1.2 * v2.2) * 10000000)) + 1))) (k2 (((((v1.1 * (((v1.2 * v2.2) * 10000000) / v1.2)) + ((((a1.Conc * v2.1) * (1000 + (a0.Slow * a2))) * x1.1) * v1.2)) + (((a1.Conc * a0.Ridge) * x1.2) * (((v1.2 * v2.2) * 10000000) / 100))) + ((a0.Press * a1.Press) * ((v1.2 * v2.2) * 10000000))) / ((v1.2 * v2.2) * 10000000)))))))))))))))))))))))))) (fun k1 => brk (a3) (k1 (a0.Brash, 0)) (k1 (100, a1.Ridge)))))

theorem c120 (F : Nat) (a0 : Ship) (a0_Thrust_s : SlV) (a0_Water_s : SlV) (a0_Ice_s : SlV) (a1 : Ice) (a2 : Int) (a3 : Bool) (w : World) (ha0_Thrust : SlIs encPt 2 w a0_Thrust_s a0.Thrust) (ha0_Water : SlIs encPt 2 w a0_Water_s a0.Water) (ha0_Ice : SlIs encPt 2 w a0_Ice_s a0.Ice) (r : Int) (hm : m120 F a0 a1 a2 a3 = some r) : Calls Tryd.prog 120 #[.agg #[.int .i64 a0.Class, .int .i64 a0.Power, .int .i64 a0.Draught, .int .i64 a0.Tonnes, .slice a0_Thrust_s.p a0_Thrust_s.n a0_Thrust_s.c, .slice a0_Water_s.p a0_Water_s.n a0_Water_s.c, .slice a0_Ice_s.p a0_Ice_s.n a0_Ice_s.c, .int .i64 a0.Slow, .int .i64 a0.Brash, .int .i64 a0.Ridge, .int .i64 a0.Press], .agg #[.int .i64 a1.Conc, .int .i64 a1.Thick, .int .i64 a1.Ridge, .int .i64 a1.Press], .int .i64 a2, .bool a3] w fun e w' => e = .returned (.int .i64 r) ∧ Below w.heap.size w w' := by
  obtain ⟨a0_Thrust_p, a0_Thrust_n, a0_Thrust_c⟩ := a0_Thrust_s
  have ha0_Thrust_l : a0_Thrust_n = a0.Thrust.length := ha0_Thrust.1
  subst ha0_Thrust_l
  obtain ⟨a0_Thrust_b, a0_Thrust_o, ha0_Thrust_p, ha0_Thrust_L⟩ := SlAt.lies' ha0_Thrust
  obtain ⟨a0_Water_p, a0_Water_n, a0_Water_c⟩ := a0_Water_s
  have ha0_Water_l : a0_Water_n = a0.Water.length := ha0_Water.1
  subst ha0_Water_l
  obtain ⟨a0_Water_b, a0_Water_o, ha0_Water_p, ha0_Water_L⟩ := SlAt.lies' ha0_Water
  obtain ⟨a0_Ice_p, a0_Ice_n, a0_Ice_c⟩ := a0_Ice_s
  have ha0_Ice_l : a0_Ice_n = a0.Ice.length := ha0_Ice.1
  subst ha0_Ice_l
  obtain ⟨a0_Ice_b, a0_Ice_o, ha0_Ice_p, ha0_Ice_L⟩ := SlAt.lies' ha0_Ice
  unfold m120 at hm
  refine enter (args := [.g [.i a0.Class, .i a0.Power, .i a0.Draught, .i a0.Tonnes, .v (.slice a0_Thrust_p a0.Thrust.length a0_Thrust_c), .v (.slice a0_Water_p a0.Water.length a0_Water_c), .v (.slice a0_Ice_p a0.Ice.length a0_Ice_c), .i a0.Slow, .i a0.Brash, .i a0.Ridge, .i a0.Press], .g [.i a1.Conc, .i a1.Thick, .i a1.Ridge, .i a1.Press], .i a2, .B a3]) Tryd.func120 rfl (N := 95) rfl (Nat.le_of_ble_eq_true rfl) ?_
  refine aw_seq ?_
  refine aw_text (rows := [_, _, _]) rfl (by kernel_rfl) ⟨
    ok_plain rfl rfl (op_boxN (L := 1) (ltN rfl) rfl rfl rfl),
    ok_plain rfl rfl (op_boxN (L := 2) (ltN rfl) rfl rfl rfl),
    ok_plain rfl rfl (op_assign (ltN rfl) rfl),
    trivial⟩ ?_
  refine fin_keep (s' := [kt 2 (.i a2), kt 3 (.B a3), kt 4 (.p 1 0), kt 5 (.p 2 0), kb 1 64 11, kb 2 108 4, kc 1 0 (.i a0.Class), kc 1 1 (.i a0.Power), kc 1 2 (.i a0.Draught), kc 1 3 (.i a0.Tonnes), kc 1 4 (.v (.slice a0_Thrust_p a0.Thrust.length a0_Thrust_c)), kc 1 5 (.v (.slice a0_Water_p a0.Water.length a0_Water_c)), kc 1 6 (.v (.slice a0_Ice_p a0.Ice.length a0_Ice_c)), kc 1 7 (.i a0.Slow), kc 1 8 (.i a0.Brash), kc 1 9 (.i a0.Ridge), kc 1 10 (.i a0.Press), kc 2 0 (.i a1.Conc), kc 2 1 (.i a1.Thick), kc 2 2 (.i a1.Ridge), kc 2 3 (.i a1.Press)]) ?_ (kp rfl) rfl
  refine fin_then ?_
  refine aw_seq ?_
  obtain ⟨v1, hv1, hm⟩ := bnd_some hm
  refine aw_text (rows := [_, _, _, _, _, _, _, _, _]) rfl (by kernel_rfl) ⟨
    ok_plain rfl rfl (op_fieldAddr (ltN rfl) rfl fo_64_5),
    ok_plain rfl rfl (op_load1 (ltN rfl) sh_62 rfl rfl),
    ok_plain rfl rfl (op_move (ltN rfl) rfl),
    ok_plain rfl rfl (op_call (x := .t [.i v1.1, .i v1.2]) (fs := []) (caps := []) (extra := []) (ltN rfl) en_111 rfl ⟨rfl, rfl, rfl⟩ (EvL.cons rfl (EvL.cons rfl EvL.nil)) (fun mm aa ww gg hr hrel => (c111 F a0.Water ⟨a0_Water_p, a0.Water.length, a0_Water_c⟩ a2 ww (SlIs.mono ha0_Water hrel.below) v1 hv1))),
    ok_plain rfl rfl (op_move (ltN rfl) rfl),
    ok_plain rfl rfl (op_extract (ltN rfl) rfl rfl),
    ok_plain rfl rfl (op_extract (ltN rfl) rfl rfl),
    ok_plain rfl rfl (op_assign (ltN rfl) rfl),
    ok_plain rfl rfl (op_assign (ltN rfl) rfl),
    trivial⟩ ?_
  refine fin_keep (s' := [kt 2 (.i a2), kt 3 (.B a3), kt 4 (.p 1 0), kt 5 (.p 2 0), kt 9 (.i v1.1), kt 10 (.i v1.2), kb 1 64 11, kb 2 108 4, kc 1 0 (.i a0.Class), kc 1 1 (.i a0.Power), kc 1 2 (.i a0.Draught), kc 1 3 (.i a0.Tonnes), kc 1 4 (.v (.slice a0_Thrust_p a0.Thrust.length a0_Thrust_c)), kc 1 5 (.v (.slice a0_Water_p a0.Water.length a0_Water_c)), kc 1 6 (.v (.slice a0_Ice_p a0.Ice.length a0_Ice_c)), kc 1 7 (.i a0.Slow), kc 1 8 (.i a0.Brash), kc 1 9 (.i a0.Ridge), kc 1 10 (.i a0.Press), kc 2 0 (.i a1.Conc), kc 2 1 (.i a1.Thick), kc 2 2 (.i a1.Ridge), kc 2 3 (.i a1.Press)]) ?_ (kp rfl) rfl
  refine fin_then ?_
  refine aw_seq ?_
  obtain ⟨v2, hv2, hm⟩ := bnd_some hm
  refine aw_text (rows := [_, _, _, _, _, _, _, _, _, _]) rfl (by kernel_rfl) ⟨
    ok_plain rfl rfl (op_fieldAddr (ltN rfl) rfl fo_64_6),
    ok_plain rfl rfl (op_load1 (ltN rfl) sh_62 rfl rfl),
    ok_plain rfl rfl (op_fieldAddr (ltN rfl) rfl fo_108_1),
    ok_plain rfl rfl (op_load1 (ltN rfl) sh_3 rfl rfl),
    ok_plain rfl rfl (op_call (x := .t [.i v2.1, .i v2.2]) (fs := []) (caps := []) (extra := []) (ltN rfl) en_111 rfl ⟨rfl, rfl, rfl⟩ (EvL.cons rfl (EvL.cons rfl EvL.nil)) (fun mm aa ww gg hr hrel => (c111 F a0.Ice ⟨a0_Ice_p, a0.Ice.length, a0_Ice_c⟩ a1.Thick ww (SlIs.mono ha0_Ice hrel.below) v2 hv2))),
    ok_plain rfl rfl (op_move (ltN rfl) rfl),
    ok_plain rfl rfl (op_extract (ltN rfl) rfl rfl),
    ok_plain rfl rfl (op_extract (ltN rfl) rfl rfl),
    ok_plain rfl rfl (op_assign (ltN rfl) rfl),
    ok_plain rfl rfl (op_assign (ltN rfl) rfl),
    trivial⟩ ?_
  refine fin_keep (s' := [kt 2 (.i a2), kt 3 (.B a3), kt 4 (.p 1 0), kt 5 (.p 2 0), kt 9 (.i v1.1), kt 10 (.i v1.2), kt 11 (.i v2.1), kt 12 (.i v2.2), kb 1 64 11, kb 2 108 4, kc 1 0 (.i a0.Class), kc 1 1 (.i a0.Power), kc 1 2 (.i a0.Draught), kc 1 3 (.i a0.Tonnes), kc 1 4 (.v (.slice a0_Thrust_p a0.Thrust.length a0_Thrust_c)), kc 1 5 (.v (.slice a0_Water_p a0.Water.length a0_Water_c)), kc 1 6 (.v (.slice a0_Ice_p a0.Ice.length a0_Ice_c)), kc 1 7 (.i a0.Slow), kc 1 8 (.i a0.Brash), kc 1 9 (.i a0.Ridge), kc 1 10 (.i a0.Press), kc 2 0 (.i a1.Conc), kc 2 1 (.i a1.Thick), kc 2 2 (.i a1.Ridge), kc 2 3 (.i a1.Press)]) ?_ (kp rfl) rfl
  refine fin_then ?_
  refine aw_seq ?_
  refine aw_any (rows := [_, _, _, _]) (M := [0, 1, 0, 7]) Tryd_mixed (by kernel_rfl) rfl (by kernel_rfl) ⟨
    ok_plain rfl rfl (op_fieldAddr (ltN rfl) rfl fo_108_2),
    ok_plain rfl rfl (op_load1 (ltN rfl) sh_3 rfl rfl),
    ok_plain rfl rfl (op_assign (ltN rfl) rfl),
    ok_plain rfl rfl (op_assign (ltN rfl) rfl),
    trivial⟩ ?_
  refine fin_keep (s' := [kt 2 (.i a2), kt 3 (.B a3), kt 4 (.p 1 0), kt 5 (.p 2 0), kt 9 (.i v1.1), kt 10 (.i v1.2), kt 11 (.i v2.1), kt 12 (.i v2.2), kt 13 (.i 100), kt 14 (.i a1.Ridge), kb 1 64 11, kb 2 108 4, kc 1 0 (.i a0.Class), kc 1 1 (.i a0.Power), kc 1 2 (.i a0.Draught), kc 1 3 (.i a0.Tonnes), kc 1 4 (.v (.slice a0_Thrust_p a0.Thrust.length a0_Thrust_c)), kc 1 5 (.v (.slice a0_Water_p a0.Water.length a0_Water_c)), kc 1 6 (.v (.slice a0_Ice_p a0.Ice.length a0_Ice_c)), kc 1 7 (.i a0.Slow), kc 1 8 (.i a0.Brash), kc 1 9 (.i a0.Ridge), kc 1 10 (.i a0.Press), kc 2 0 (.i a1.Conc), kc 2 1 (.i a1.Thick), kc 2 2 (.i a1.Ridge), kc 2 3 (.i a1.Press)]) ?_ (kp rfl) rfl
  refine fin_then ?_
  refine aw_cutM (ι := Int × Int) hm (fun x1 => [kt 2 (.i a2), kt 4 (.p 1 0), kt 5 (.p 2 0), kt 9 (.i v1.1), kt 10 (.i v1.2), kt 11 (.i v2.1), kt 12 (.i v2.2), kt 13 (.i x1.1), kt 14 (.i x1.2), kb 1 64 11, kb 2 108 4, kc 1 0 (.i a0.Class), kc 1 1 (.i a0.Power), kc 1 2 (.i a0.Draught), kc 1 3 (.i a0.Tonnes), kc 1 4 (.v (.slice a0_Thrust_p a0.Thrust.length a0_Thrust_c)), kc 1 5 (.v (.slice a0_Water_p a0.Water.length a0_Water_c)), kc 1 6 (.v (.slice a0_Ice_p a0.Ice.length a0_Ice_c)), kc 1 7 (.i a0.Slow), kc 1 8 (.i a0.Brash), kc 1 9 (.i a0.Ridge), kc 1 10 (.i a0.Press), kc 2 0 (.i a1.Conc), kc 2 1 (.i a1.Thick), kc 2 2 (.i a1.Ridge), kc 2 3 (.i a1.Press)]) (fun hm => ?_) (fun x1 hm => ?_)
  · have _z := hm
    refine aw_seq ?_
    refine aw_text (rows := [_]) rfl (by kernel_rfl) ⟨
      ok_plain rfl rfl (op_move (ltN rfl) rfl),
      trivial⟩ ?_
    refine fin_keep (s' := [kt 2 (.i a2), kt 4 (.p 1 0), kt 5 (.p 2 0), kt 9 (.i v1.1), kt 10 (.i v1.2), kt 11 (.i v2.1), kt 12 (.i v2.2), kt 13 (.i 100), kt 14 (.i a1.Ridge), kt 35 (.B a3), kb 1 64 11, kb 2 108 4, kc 1 0 (.i a0.Class), kc 1 1 (.i a0.Power), kc 1 2 (.i a0.Draught), kc 1 3 (.i a0.Tonnes), kc 1 4 (.v (.slice a0_Thrust_p a0.Thrust.length a0_Thrust_c)), kc 1 5 (.v (.slice a0_Water_p a0.Water.length a0_Water_c)), kc 1 6 (.v (.slice a0_Ice_p a0.Ice.length a0_Ice_c)), kc 1 7 (.i a0.Slow), kc 1 8 (.i a0.Brash), kc 1 9 (.i a0.Ridge), kc 1 10 (.i a0.Press), kc 2 0 (.i a1.Conc), kc 2 1 (.i a1.Thick), kc 2 2 (.i a1.Ridge), kc 2 3 (.i a1.Press)]) ?_ (kp rfl) rfl
    refine fin_then ?_
    refine aw_cond rfl (fun hz1 => ?_) (fun hz1 => ?_)
    · have hm := brk_t hz1 hm
      refine aw_seq ?_
      refine aw_text (rows := [_, _, _]) rfl (by kernel_rfl) ⟨
        ok_plain rfl rfl (op_fieldAddr (ltN rfl) rfl fo_64_8),
        ok_plain rfl rfl (op_load1 (ltN rfl) sh_3 rfl rfl),
        ok_plain rfl rfl (op_assign (ltN rfl) rfl),
        trivial⟩ ?_
      refine fin_keep (s' := [kt 2 (.i a2), kt 4 (.p 1 0), kt 5 (.p 2 0), kt 9 (.i v1.1), kt 10 (.i v1.2), kt 11 (.i v2.1), kt 12 (.i v2.2), kt 13 (.i a0.Brash), kb 1 64 11, kb 2 108 4, kc 1 0 (.i a0.Class), kc 1 1 (.i a0.Power), kc 1 2 (.i a0.Draught), kc 1 3 (.i a0.Tonnes), kc 1 4 (.v (.slice a0_Thrust_p a0.Thrust.length a0_Thrust_c)), kc 1 5 (.v (.slice a0_Water_p a0.Water.length a0_Water_c)), kc 1 6 (.v (.slice a0_Ice_p a0.Ice.length a0_Ice_c)), kc 1 7 (.i a0.Slow), kc 1 8 (.i a0.Brash), kc 1 9 (.i a0.Ridge), kc 1 10 (.i a0.Press), kc 2 0 (.i a1.Conc), kc 2 1 (.i a1.Thick), kc 2 2 (.i a1.Ridge), kc 2 3 (.i a1.Press)]) ?_ (kp rfl) rfl
      refine fin_then ?_
      refine aw_text (rows := [_]) rfl (by kernel_rfl) ⟨
        ok_plain rfl rfl (op_assign (ltN rfl) rfl),
        trivial⟩ ?_
      refine fin_keep (s' := [kt 2 (.i a2), kt 4 (.p 1 0), kt 5 (.p 2 0), kt 9 (.i v1.1), kt 10 (.i v1.2), kt 11 (.i v2.1), kt 12 (.i v2.2), kt 13 (.i a0.Brash), kt 14 (.i 0), kb 1 64 11, kb 2 108 4, kc 1 0 (.i a0.Class), kc 1 1 (.i a0.Power), kc 1 2 (.i a0.Draught), kc 1 3 (.i a0.Tonnes), kc 1 4 (.v (.slice a0_Thrust_p a0.Thrust.length a0_Thrust_c)), kc 1 5 (.v (.slice a0_Water_p a0.Water.length a0_Water_c)), kc 1 6 (.v (.slice a0_Ice_p a0.Ice.length a0_Ice_c)), kc 1 7 (.i a0.Slow), kc 1 8 (.i a0.Brash), kc 1 9 (.i a0.Ridge), kc 1 10 (.i a0.Press), kc 2 0 (.i a1.Conc), kc 2 1 (.i a1.Thick), kc 2 2 (.i a1.Ridge), kc 2 3 (.i a1.Press)]) ?_ (kp rfl) rfl
      exact fin_cut (a0.Brash, 0) hm ⟨rfl, rfl, rfl, rfl, rfl, rfl, rfl, rfl, rfl, rfl, rfl, rfl, rfl, rfl, rfl, rfl, rfl, rfl, rfl, rfl, rfl, rfl, rfl, rfl, rfl, rfl, trivial⟩ rfl
    · have hm := brk_f hz1 hm
      refine aw_skip ?_
      exact fin_cut (100, a1.Ridge) hm ⟨rfl, rfl, rfl, rfl, rfl, rfl, rfl, rfl, rfl, rfl, rfl, rfl, rfl, rfl, rfl, rfl, rfl, rfl, rfl, rfl, rfl, rfl, rfl, rfl, rfl, rfl, trivial⟩ rfl
  · have _z := hm
    refine aw_seq ?_
    obtain ⟨hp2, hm⟩ := chk_some hm
    obtain ⟨hp3, hm⟩ := chk_some hm
    refine aw_text (rows := [_, _, _, _, _]) rfl (by kernel_rfl) ⟨
      ok_plain rfl rfl (op_move (ltN rfl) rfl),
      ok_plain rfl rfl (op_move (ltN rfl) rfl),
      ok_plain rfl rfl (op_bin (ltN rfl) rfl rfl (nw_mul hp2)),
      ok_plain rfl rfl (op_bin (ltN rfl) rfl rfl (nw_mul hp3)),
      ok_plain rfl rfl (op_assign (ltN rfl) rfl),
      trivial⟩ ?_
    refine fin_keep (s' := [kt 2 (.i a2), kt 4 (.p 1 0), kt 5 (.p 2 0), kt 9 (.i v1.1), kt 10 (.i v1.2), kt 11 (.i v2.1), kt 13 (.i x1.1), kt 14 (.i x1.2), kt 15 (.i ((v1.2 * v2.2) * 10000000)), kb 1 64 11, kb 2 108 4, kc 1 0 (.i a0.Class), kc 1 1 (.i a0.Power), kc 1 2 (.i a0.Draught), kc 1 3 (.i a0.Tonnes), kc 1 4 (.v (.slice a0_Thrust_p a0.Thrust.length a0_Thrust_c)), kc 1 5 (.v (.slice a0_Water_p a0.Water.length a0_Water_c)), kc 1 6 (.v (.slice a0_Ice_p a0.Ice.length a0_Ice_c)), kc 1 7 (.i a0.Slow), kc 1 8 (.i a0.Brash), kc 1 9 (.i a0.Ridge), kc 1 10 (.i a0.Press), kc 2 0 (.i a1.Conc), kc 2 1 (.i a1.Thick), kc 2 2 (.i a1.Ridge), kc 2 3 (.i a1.Press)]) ?_ (kp rfl) rfl
    refine fin_then ?_
    refine aw_seq ?_
    obtain ⟨hp4, hm⟩ := chk_some hm
    obtain ⟨hp5, hm⟩ := chk_some hm
    refine aw_text (rows := [_, _, _, _, _, _]) rfl (by kernel_rfl) ⟨
      ok_plain rfl rfl (op_move (ltN rfl) rfl),
      ok_plain rfl rfl (op_move (ltN rfl) rfl),
      ok_plain rfl rfl (op_move (ltN rfl) rfl),
      ok_plain rfl rfl (op_quo (ltN rfl) rfl rfl (Int.ne_of_gt hp4.2) (quo_nn hp4.1.1 hp4.2 hp4.1.2)),
      ok_plain rfl rfl (op_bin (ltN rfl) rfl rfl (nw_mul hp5)),
      ok_plain rfl rfl (op_assign (ltN rfl) rfl),
      trivial⟩ ?_
    refine fin_keep (s' := [kt 2 (.i a2), kt 4 (.p 1 0), kt 5 (.p 2 0), kt 10 (.i v1.2), kt 11 (.i v2.1), kt 13 (.i x1.1), kt 14 (.i x1.2), kt 15 (.i ((v1.2 * v2.2) * 10000000)), kt 16 (.i (v1.1 * (((v1.2 * v2.2) * 10000000) / v1.2))), kb 1 64 11, kb 2 108 4, kc 1 0 (.i a0.Class), kc 1 1 (.i a0.Power), kc 1 2 (.i a0.Draught), kc 1 3 (.i a0.Tonnes), kc 1 4 (.v (.slice a0_Thrust_p a0.Thrust.length a0_Thrust_c)), kc 1 5 (.v (.slice a0_Water_p a0.Water.length a0_Water_c)), kc 1 6 (.v (.slice a0_Ice_p a0.Ice.length a0_Ice_c)), kc 1 7 (.i a0.Slow), kc 1 8 (.i a0.Brash), kc 1 9 (.i a0.Ridge), kc 1 10 (.i a0.Press), kc 2 0 (.i a1.Conc), kc 2 1 (.i a1.Thick), kc 2 2 (.i a1.Ridge), kc 2 3 (.i a1.Press)]) ?_ (kp rfl) rfl
    refine fin_then ?_
    refine aw_seq ?_
    obtain ⟨hp6, hm⟩ := chk_some hm
    obtain ⟨hp7, hm⟩ := chk_some hm
    obtain ⟨hp8, hm⟩ := chk_some hm
    obtain ⟨hp9, hm⟩ := chk_some hm
    obtain ⟨hp10, hm⟩ := chk_some hm
    obtain ⟨hp11, hm⟩ := chk_some hm
    obtain ⟨hp12, hm⟩ := chk_some hm
    refine aw_text (rows := [_, _, _, _, _, _, _, _, _, _, _, _, _, _, _, _, _]) rfl (by kernel_rfl) ⟨
      ok_plain rfl rfl (op_move (ltN rfl) rfl),
      ok_plain rfl rfl (op_fieldAddr (ltN rfl) rfl fo_108_0),
      ok_plain rfl rfl (op_load1 (ltN rfl) sh_3 rfl rfl),
      ok_plain rfl rfl (op_move (ltN rfl) rfl),
      ok_plain rfl rfl (op_bin (ltN rfl) rfl rfl (nw_mul hp6)),
      ok_plain rfl rfl (op_fieldAddr (ltN rfl) rfl fo_64_7),
      ok_plain rfl rfl (op_load1 (ltN rfl) sh_3 rfl rfl),
      ok_plain rfl rfl (op_move (ltN rfl) rfl),
      ok_plain rfl rfl (op_bin (ltN rfl) rfl rfl (nw_mul hp7)),
      ok_plain rfl rfl (op_bin (ltN rfl) rfl rfl (nw_add hp8)),
      ok_plain rfl rfl (op_bin (ltN rfl) rfl rfl (nw_mul hp9)),
      ok_plain rfl rfl (op_move (ltN rfl) rfl),
      ok_plain rfl rfl (op_bin (ltN rfl) rfl rfl (nw_mul hp10)),
      ok_plain rfl rfl (op_move (ltN rfl) rfl),
      ok_plain rfl rfl (op_bin (ltN rfl) rfl rfl (nw_mul hp11)),
      ok_plain rfl rfl (op_bin (ltN rfl) rfl rfl (nw_add hp12)),
      ok_plain rfl rfl (op_assign (ltN rfl) rfl),
      trivial⟩ ?_
    refine fin_keep (s' := [kt 4 (.p 1 0), kt 5 (.p 2 0), kt 14 (.i x1.2), kt 15 (.i ((v1.2 * v2.2) * 10000000)), kt 16 (.i ((v1.1 * (((v1.2 * v2.2) * 10000000) / v1.2)) + ((((a1.Conc * v2.1) * (1000 + (a0.Slow * a2))) * x1.1) * v1.2))), kb 1 64 11, kb 2 108 4, kc 1 0 (.i a0.Class), kc 1 1 (.i a0.Power), kc 1 2 (.i a0.Draught), kc 1 3 (.i a0.Tonnes), kc 1 4 (.v (.slice a0_Thrust_p a0.Thrust.length a0_Thrust_c)), kc 1 5 (.v (.slice a0_Water_p a0.Water.length a0_Water_c)), kc 1 6 (.v (.slice a0_Ice_p a0.Ice.length a0_Ice_c)), kc 1 7 (.i a0.Slow), kc 1 8 (.i a0.Brash), kc 1 9 (.i a0.Ridge), kc 1 10 (.i a0.Press), kc 2 0 (.i a1.Conc), kc 2 1 (.i a1.Thick), kc 2 2 (.i a1.Ridge), kc 2 3 (.i a1.Press)]) ?_ (kp rfl) rfl
    refine fin_then ?_
    refine aw_seq ?_
    obtain ⟨hp13, hm⟩ := chk_some hm
    obtain ⟨hp14, hm⟩ := chk_some hm
    obtain ⟨hp15, hm⟩ := chk_some hm
    obtain ⟨hp16, hm⟩ := chk_some hm
    obtain ⟨hp17, hm⟩ := chk_some hm
    refine aw_text (rows := [_, _, _, _, _, _, _, _, _, _, _, _, _]) rfl (by kernel_rfl) ⟨
      ok_plain rfl rfl (op_move (ltN rfl) rfl),
      ok_plain rfl rfl (op_fieldAddr (ltN rfl) rfl fo_108_0),
      ok_plain rfl rfl (op_load1 (ltN rfl) sh_3 rfl rfl),
      ok_plain rfl rfl (op_fieldAddr (ltN rfl) rfl fo_64_9),
      ok_plain rfl rfl (op_load1 (ltN rfl) sh_3 rfl rfl),
      ok_plain rfl rfl (op_bin (ltN rfl) rfl rfl (nw_mul hp13)),
      ok_plain rfl rfl (op_move (ltN rfl) rfl),
      ok_plain rfl rfl (op_bin (ltN rfl) rfl rfl (nw_mul hp14)),
      ok_plain rfl rfl (op_move (ltN rfl) rfl),
      ok_plain rfl rfl (op_quo (ltN rfl) rfl rfl (by decide) (quo_nn hp15.1 (by decide) hp15.2)),
      ok_plain rfl rfl (op_bin (ltN rfl) rfl rfl (nw_mul hp16)),
      ok_plain rfl rfl (op_bin (ltN rfl) rfl rfl (nw_add hp17)),
      ok_plain rfl rfl (op_assign (ltN rfl) rfl),
      trivial⟩ ?_
    refine fin_keep (s' := [kt 4 (.p 1 0), kt 5 (.p 2 0), kt 15 (.i ((v1.2 * v2.2) * 10000000)), kt 16 (.i (((v1.1 * (((v1.2 * v2.2) * 10000000) / v1.2)) + ((((a1.Conc * v2.1) * (1000 + (a0.Slow * a2))) * x1.1) * v1.2)) + (((a1.Conc * a0.Ridge) * x1.2) * (((v1.2 * v2.2) * 10000000) / 100)))), kb 1 64 11, kb 2 108 4, kc 1 0 (.i a0.Class), kc 1 1 (.i a0.Power), kc 1 2 (.i a0.Draught), kc 1 3 (.i a0.Tonnes), kc 1 4 (.v (.slice a0_Thrust_p a0.Thrust.length a0_Thrust_c)), kc 1 5 (.v (.slice a0_Water_p a0.Water.length a0_Water_c)), kc 1 6 (.v (.slice a0_Ice_p a0.Ice.length a0_Ice_c)), kc 1 7 (.i a0.Slow), kc 1 8 (.i a0.Brash), kc 1 9 (.i a0.Ridge), kc 1 10 (.i a0.Press), kc 2 0 (.i a1.Conc), kc 2 1 (.i a1.Thick), kc 2 2 (.i a1.Ridge), kc 2 3 (.i a1.Press)]) ?_ (kp rfl) rfl
    refine fin_then ?_
    refine aw_seq ?_
    obtain ⟨hp18, hm⟩ := chk_some hm
    obtain ⟨hp19, hm⟩ := chk_some hm
    obtain ⟨hp20, hm⟩ := chk_some hm
    refine aw_text (rows := [_, _, _, _, _, _, _, _, _, _]) rfl (by kernel_rfl) ⟨
      ok_plain rfl rfl (op_move (ltN rfl) rfl),
      ok_plain rfl rfl (op_fieldAddr (ltN rfl) rfl fo_64_10),
      ok_plain rfl rfl (op_load1 (ltN rfl) sh_3 rfl rfl),
      ok_plain rfl rfl (op_fieldAddr (ltN rfl) rfl fo_108_3),
      ok_plain rfl rfl (op_load1 (ltN rfl) sh_3 rfl rfl),
      ok_plain rfl rfl (op_bin (ltN rfl) rfl rfl (nw_mul hp18)),
      ok_plain rfl rfl (op_move (ltN rfl) rfl),
      ok_plain rfl rfl (op_bin (ltN rfl) rfl rfl (nw_mul hp19)),
      ok_plain rfl rfl (op_bin (ltN rfl) rfl rfl (nw_add hp20)),
      ok_plain rfl rfl (op_assign (ltN rfl) rfl),
      trivial⟩ ?_
    refine fin_keep (s' := [kt 15 (.i ((v1.2 * v2.2) * 10000000)), kt 16 (.i ((((v1.1 * (((v1.2 * v2.2) * 10000000) / v1.2)) + ((((a1.Conc * v2.1) * (1000 + (a0.Slow * a2))) * x1.1) * v1.2)) + (((a1.Conc * a0.Ridge) * x1.2) * (((v1.2 * v2.2) * 10000000) / 100))) + ((a0.Press * a1.Press) * ((v1.2 * v2.2) * 10000000))))]) ?_ (kp rfl) rfl
    refine fin_then ?_
    refine aw_seq ?_
    obtain ⟨hp21, hm⟩ := chk_some hm
    refine aw_text (rows := [_, _, _, _]) rfl (by kernel_rfl) ⟨
      ok_plain rfl rfl (op_move (ltN rfl) rfl),
      ok_plain rfl rfl (op_move (ltN rfl) rfl),
      ok_plain rfl rfl (op_quo (ltN rfl) rfl rfl (Int.ne_of_gt hp21.2) (quo_nn hp21.1.1 hp21.2 hp21.1.2)),
      ok_plain rfl rfl (op_assign (ltN rfl) rfl),
      trivial⟩ ?_
    refine fin_keep (s' := [kt 15 (.i ((v1.2 * v2.2) * 10000000)), kt 16 (.i ((((v1.1 * (((v1.2 * v2.2) * 10000000) / v1.2)) + ((((a1.Conc * v2.1) * (1000 + (a0.Slow * a2))) * x1.1) * v1.2)) + (((a1.Conc * a0.Ridge) * x1.2) * (((v1.2 * v2.2) * 10000000) / 100))) + ((a0.Press * a1.Press) * ((v1.2 * v2.2) * 10000000)))), kt 17 (.i (((((v1.1 * (((v1.2 * v2.2) * 10000000) / v1.2)) + ((((a1.Conc * v2.1) * (1000 + (a0.Slow * a2))) * x1.1) * v1.2)) + (((a1.Conc * a0.Ridge) * x1.2) * (((v1.2 * v2.2) * 10000000) / 100))) + ((a0.Press * a1.Press) * ((v1.2 * v2.2) * 10000000))) / ((v1.2 * v2.2) * 10000000)))]) ?_ (kp rfl) rfl
    refine fin_then ?_
    refine aw_cutM (ι := Int) hm (fun x2 => [kt 17 (.i x2)]) (fun hm => ?_) (fun x2 hm => ?_)
    · have _z := hm
      refine aw_seq ?_
      obtain ⟨hp22, hm⟩ := chk_some hm
      refine aw_text (rows := [_, _, _, _, _]) rfl (by kernel_rfl) ⟨
        ok_plain rfl rfl (op_move (ltN rfl) rfl),
        ok_plain rfl rfl (op_move (ltN rfl) rfl),
        ok_plain rfl rfl (op_bin (ltN rfl) rfl rfl (nw_mul hp22)),
        ok_plain rfl rfl (op_move (ltN rfl) rfl),
        ok_plain rfl rfl (op_bin (ltN rfl) rfl rfl rfl),
        trivial⟩ ?_
      refine fin_keep (s' := [kt 17 (.i (((((v1.1 * (((v1.2 * v2.2) * 10000000) / v1.2)) + ((((a1.Conc * v2.1) * (1000 + (a0.Slow * a2))) * x1.1) * v1.2)) + (((a1.Conc * a0.Ridge) * x1.2) * (((v1.2 * v2.2) * 10000000) / 100))) + ((a0.Press * a1.Press) * ((v1.2 * v2.2) * 10000000))) / ((v1.2 * v2.2) * 10000000))), kt 91 (.B (decide (((((((v1.1 * (((v1.2 * v2.2) * 10000000) / v1.2)) + ((((a1.Conc * v2.1) * (1000 + (a0.Slow * a2))) * x1.1) * v1.2)) + (((a1.Conc * a0.Ridge) * x1.2) * (((v1.2 * v2.2) * 10000000) / 100))) + ((a0.Press * a1.Press) * ((v1.2 * v2.2) * 10000000))) / ((v1.2 * v2.2) * 10000000)) * ((v1.2 * v2.2) * 10000000)) < ((((v1.1 * (((v1.2 * v2.2) * 10000000) / v1.2)) + ((((a1.Conc * v2.1) * (1000 + (a0.Slow * a2))) * x1.1) * v1.2)) + (((a1.Conc * a0.Ridge) * x1.2) * (((v1.2 * v2.2) * 10000000) / 100))) + ((a0.Press * a1.Press) * ((v1.2 * v2.2) * 10000000))))))]) ?_ (kp rfl) rfl
      refine fin_then ?_
      refine aw_cond rfl (fun hz23 => ?_) (fun hz23 => ?_)
      · have hm := brk_t hz23 hm
        obtain ⟨hp24, hm⟩ := chk_some hm
        refine aw_text (rows := [_, _, _]) rfl (by kernel_rfl) ⟨
          ok_plain rfl rfl (op_move (ltN rfl) rfl),
          ok_plain rfl rfl (op_bin (ltN rfl) rfl rfl (nw_add hp24)),
          ok_plain rfl rfl (op_assign (ltN rfl) rfl),
          trivial⟩ ?_
        refine fin_keep (s' := [kt 17 (.i ((((((v1.1 * (((v1.2 * v2.2) * 10000000) / v1.2)) + ((((a1.Conc * v2.1) * (1000 + (a0.Slow * a2))) * x1.1) * v1.2)) + (((a1.Conc * a0.Ridge) * x1.2) * (((v1.2 * v2.2) * 10000000) / 100))) + ((a0.Press * a1.Press) * ((v1.2 * v2.2) * 10000000))) / ((v1.2 * v2.2) * 10000000)) + 1))]) ?_ (kp rfl) rfl
        exact fin_cut ((((((v1.1 * (((v1.2 * v2.2) * 10000000) / v1.2)) + ((((a1.Conc * v2.1) * (1000 + (a0.Slow * a2))) * x1.1) * v1.2)) + (((a1.Conc * a0.Ridge) * x1.2) * (((v1.2 * v2.2) * 10000000) / 100))) + ((a0.Press * a1.Press) * ((v1.2 * v2.2) * 10000000))) / ((v1.2 * v2.2) * 10000000)) + 1) hm ⟨rfl, trivial⟩ rfl
      · have hm := brk_f hz23 hm
        refine aw_skip ?_
        exact fin_cut (((((v1.1 * (((v1.2 * v2.2) * 10000000) / v1.2)) + ((((a1.Conc * v2.1) * (1000 + (a0.Slow * a2))) * x1.1) * v1.2)) + (((a1.Conc * a0.Ridge) * x1.2) * (((v1.2 * v2.2) * 10000000) / 100))) + ((a0.Press * a1.Press) * ((v1.2 * v2.2) * 10000000))) / ((v1.2 * v2.2) * 10000000)) hm ⟨rfl, trivial⟩ rfl
    · have _z := hm
      refine aw_seq ?_
      refine aw_text (rows := [_, _]) rfl (by kernel_rfl) ⟨
        ok_plain rfl rfl (op_move (ltN rfl) rfl),
        ok_plain rfl rfl (op_assign (ltN rfl) rfl),
        trivial⟩ ?_
      refine fin_keep (s' := [kt 8 (.i x2)]) ?_ (kp rfl) rfl
      refine fin_then ?_
      refine aw_ret ?_
      refine post_ret (x := .i x2) rfl rfl (resOK_tmp rfl resOK_nil) rfl (fun mm aa ww hr => ?_)
      have hm := Option.some.inj hm
      subst hm
      exact ⟨rfl, hr.below⟩

def m96 (F : Nat) (a0 : Ship) (a1 : Ice) (a2 : Int) (a3 : Bool) : Option (Bool) :=
  chk (InR ((((a0.Thrust.length : Nat) : Int)) - 1)) (chk (0 ≤ (((a0.Thrust.length : Nat) : Int)) - 1 ∧ (((a0.Thrust.length : Nat) : Int)) - 1 < ((a0.Thrust.length : Nat) : Int)) (bnd (brk ((decide (a2 ≤ (((pt a0.Thrust ((((a0.Thrust.length : Nat) : Int)) - 1))).X)))) (m115 F a0 a2) (some default)) (fun v1 => bnd (brk ((decide (a2 ≤ (((pt a0.Thrust ((((a0.Thrust.length : Nat) : Int)) - 1))).X)))) (m120 F a0 a1 a2 a3) (some default)) (fun v2 => some ((decide (a2 ≤ (((pt a0.Thrust ((((a0.Thrust.length : Nat) : Int)) - 1))).X))) && (decide (v1 ≥ v2)))))))

theorem c96 (F : Nat) (a0 : Ship) (a0_Thrust_s : SlV) (a0_Water_s : SlV) (a0_Ice_s : SlV) (a1 : Ice) (a2 : Int) (a3 : Bool) (w : World) (ha0_Thrust : SlIs encPt 2 w a0_Thrust_s a0.Thrust) (ha0_Water : SlIs encPt 2 w a0_Water_s a0.Water) (ha0_Ice : SlIs encPt 2 w a0_Ice_s a0.Ice) (r : Bool) (hm : m96 F a0 a1 a2 a3 = some r) : Calls Tryd.prog 96 #[.agg #[.int .i64 a0.Class, .int .i64 a0.Power, .int .i64 a0.Draught, .int .i64 a0.Tonnes, .slice a0_Thrust_s.p a0_Thrust_s.n a0_Thrust_s.c, .slice a0_Water_s.p a0_Water_s.n a0_Water_s.c, .slice a0_Ice_s.p a0_Ice_s.n a0_Ice_s.c, .int .i64 a0.Slow, .int .i64 a0.Brash, .int .i64 a0.Ridge, .int .i64 a0.Press], .agg #[.int .i64 a1.Conc, .int .i64 a1.Thick, .int .i64 a1.Ridge, .int .i64 a1.Press], .int .i64 a2, .bool a3] w fun e w' => e = .returned (.bool r) ∧ Below w.heap.size w w' := by
  obtain ⟨a0_Thrust_p, a0_Thrust_n, a0_Thrust_c⟩ := a0_Thrust_s
  have ha0_Thrust_l : a0_Thrust_n = a0.Thrust.length := ha0_Thrust.1
  subst ha0_Thrust_l
  obtain ⟨a0_Thrust_b, a0_Thrust_o, ha0_Thrust_p, ha0_Thrust_L⟩ := SlAt.lies' ha0_Thrust
  obtain ⟨a0_Water_p, a0_Water_n, a0_Water_c⟩ := a0_Water_s
  have ha0_Water_l : a0_Water_n = a0.Water.length := ha0_Water.1
  subst ha0_Water_l
  obtain ⟨a0_Water_b, a0_Water_o, ha0_Water_p, ha0_Water_L⟩ := SlAt.lies' ha0_Water
  obtain ⟨a0_Ice_p, a0_Ice_n, a0_Ice_c⟩ := a0_Ice_s
  have ha0_Ice_l : a0_Ice_n = a0.Ice.length := ha0_Ice.1
  subst ha0_Ice_l
  obtain ⟨a0_Ice_b, a0_Ice_o, ha0_Ice_p, ha0_Ice_L⟩ := SlAt.lies' ha0_Ice
  unfold m96 at hm
  refine enter (args := [.g [.i a0.Class, .i a0.Power, .i a0.Draught, .i a0.Tonnes, .v (.slice a0_Thrust_p a0.Thrust.length a0_Thrust_c), .v (.slice a0_Water_p a0.Water.length a0_Water_c), .v (.slice a0_Ice_p a0.Ice.length a0_Ice_c), .i a0.Slow, .i a0.Brash, .i a0.Ridge, .i a0.Press], .g [.i a1.Conc, .i a1.Thick, .i a1.Ridge, .i a1.Press], .i a2, .B a3]) Tryd.func96 rfl (N := 31) rfl (Nat.le_of_ble_eq_true rfl) ?_
  refine aw_seq ?_
  refine aw_text (rows := [_, _, _]) rfl (by kernel_rfl) ⟨
    ok_plain rfl rfl (op_boxN (L := 1) (ltN rfl) rfl rfl rfl),
    ok_plain rfl rfl (op_boxN (L := 2) (ltN rfl) rfl rfl rfl),
    ok_plain rfl rfl (op_assign (ltN rfl) rfl),
    trivial⟩ ?_
  refine fin_keep (s' := [kt 2 (.i a2), kt 3 (.B a3), kt 4 (.p 1 0), kt 5 (.p 2 0), kb 1 64 11, kb 2 108 4, kc 1 0 (.i a0.Class), kc 1 1 (.i a0.Power), kc 1 2 (.i a0.Draught), kc 1 3 (.i a0.Tonnes), kc 1 4 (.v (.slice a0_Thrust_p a0.Thrust.length a0_Thrust_c)), kc 1 5 (.v (.slice a0_Water_p a0.Water.length a0_Water_c)), kc 1 6 (.v (.slice a0_Ice_p a0.Ice.length a0_Ice_c)), kc 1 7 (.i a0.Slow), kc 1 8 (.i a0.Brash), kc 1 9 (.i a0.Ridge), kc 1 10 (.i a0.Press), kc 2 0 (.i a1.Conc), kc 2 1 (.i a1.Thick), kc 2 2 (.i a1.Ridge), kc 2 3 (.i a1.Press)]) ?_ (kp rfl) rfl
  refine fin_then ?_
  refine aw_seq ?_
  obtain ⟨hp1, hm⟩ := chk_some hm
  obtain ⟨hp2, hm⟩ := chk_some hm
  obtain ⟨v1, hv1, hm⟩ := bnd_some hm
  obtain ⟨v2, hv2, hm⟩ := bnd_some hm
  refine aw_any (rows := [_, _, _, _, _, _, _, _, _, _, _, _, _, _, _, _, _, _, _, _, _, _, _]) (M := [0, 0, 2, 0, 8, 24, 56, 126, 254, 510, 1023, 2047, 4095, 4095, 16383, 4095, 4095, 4095, 4095, 524287, 1048575, 2097151, 4194303]) Tryd_mixed (by kernel_rfl) rfl (by kernel_rfl) ⟨
    ok_plain rfl rfl (op_move (ltN rfl) rfl),
    ok_plain rfl rfl (op_fieldAddr (ltN rfl) rfl fo_64_4),
    ok_plain rfl rfl (op_load1 (ltN rfl) sh_62 rfl rfl),
    ok_plain rfl rfl (op_fieldAddr (ltN rfl) rfl fo_64_4),
    ok_plain rfl rfl (op_load1 (ltN rfl) sh_62 rfl rfl),
    ok_plain rfl rfl (op_len (n := a0.Thrust.length) (ltN rfl) (by rw [ss_62]; rfl) rfl rfl),
    ok_plain rfl rfl (op_bin (ltN rfl) rfl rfl (nw_sub hp1)),
    ok_plain rfl rfl (op_ixB (ltN rfl) rfl rfl ss_62 (ha0_Thrust_p (ne_of_ix (i := (((a0.Thrust.length : Nat) : Int)) - 1) hp2.1 hp2.2)) hp2.1 hp2.2),
    ok_plain rfl rfl (op_fieldAddrB (ltN rfl) rfl fo_170_0),
    ok_plain rfl rfl (op_loadB (y := .i (((pt a0.Thrust ((((a0.Thrust.length : Nat) : Int)) - 1))).X)) (ltN rfl) rfl (ld1 (ha0_Thrust_L (ne_of_ix (i := (((a0.Thrust.length : Nat) : Int)) - 1) hp2.1 hp2.2)) ⟨0, 0⟩ (i := (((a0.Thrust.length : Nat) : Int)) - 1) hp2.1 hp2.2 0 rfl rfl sh_3)),
    ok_plain rfl rfl (op_bin (ltN rfl) rfl rfl rfl),
    ok_plain rfl rfl (op_move (ltN rfl) rfl),
    ok_if (ltN rfl) rfl rfl rfl rfl rfl rfl (fun hg3 => op_loadN (ys := [.i a0.Class, .i a0.Power, .i a0.Draught, .i a0.Tonnes, .v (.slice a0_Thrust_p a0.Thrust.length a0_Thrust_c), .v (.slice a0_Water_p a0.Water.length a0_Water_c), .v (.slice a0_Ice_p a0.Ice.length a0_Ice_c), .i a0.Slow, .i a0.Brash, .i a0.Ridge, .i a0.Press]) (ltN rfl) sh_64 (force_x rfl) rfl ⟨rfl, rfl, rfl, rfl, rfl, rfl, rfl, rfl, rfl, rfl, rfl, trivial⟩),
    ok_if (ltN rfl) rfl rfl rfl rfl rfl rfl (fun hg4 => op_move (ltN rfl) (force_x rfl)),
    ok_if (ltN rfl) rfl rfl rfl rfl rfl rfl (fun hg5 => op_call (x := .i v1) (fs := []) (caps := []) (extra := []) (ltN rfl) en_115 rfl ⟨rfl, rfl, rfl⟩ (EvL.cons (force_eq (beq_iff_eq.2 hg5) rfl) (EvL.cons (force_eq (beq_iff_eq.2 hg5) rfl) EvL.nil)) (fun mm aa ww gg hr hrel => (c115 F a0 ⟨a0_Thrust_p, a0.Thrust.length, a0_Thrust_c⟩ ⟨a0_Water_p, a0.Water.length, a0_Water_c⟩ ⟨a0_Ice_p, a0.Ice.length, a0_Ice_c⟩ a2 ww (SlIs.mono ha0_Thrust hrel.below) (SlIs.mono ha0_Water hrel.below) (SlIs.mono ha0_Ice hrel.below) v1 (brk_t hg5 hv1)))),
    ok_if (ltN rfl) rfl rfl rfl rfl rfl rfl (fun hg6 => op_loadN (ys := [.i a0.Class, .i a0.Power, .i a0.Draught, .i a0.Tonnes, .v (.slice a0_Thrust_p a0.Thrust.length a0_Thrust_c), .v (.slice a0_Water_p a0.Water.length a0_Water_c), .v (.slice a0_Ice_p a0.Ice.length a0_Ice_c), .i a0.Slow, .i a0.Brash, .i a0.Ridge, .i a0.Press]) (ltN rfl) sh_64 (force_x rfl) rfl ⟨rfl, rfl, rfl, rfl, rfl, rfl, rfl, rfl, rfl, rfl, rfl, trivial⟩),
    ok_if (ltN rfl) rfl rfl rfl rfl rfl rfl (fun hg7 => op_loadN (ys := [.i a1.Conc, .i a1.Thick, .i a1.Ridge, .i a1.Press]) (ltN rfl) sh_108 (force_x rfl) rfl ⟨rfl, rfl, rfl, rfl, trivial⟩),
    ok_if (ltN rfl) rfl rfl rfl rfl rfl rfl (fun hg8 => op_move (ltN rfl) (force_x rfl)),
    ok_if (ltN rfl) rfl rfl rfl rfl rfl rfl (fun hg9 => op_move (ltN rfl) (force_x rfl)),
    ok_if (ltN rfl) rfl rfl rfl rfl rfl rfl (fun hg10 => op_call (x := .i v2) (fs := []) (caps := []) (extra := []) (ltN rfl) en_120 rfl ⟨rfl, rfl, rfl⟩ (EvL.cons (force_eq (beq_iff_eq.2 hg10) rfl) (EvL.cons (force_eq (beq_iff_eq.2 hg10) rfl) (EvL.cons (force_eq (beq_iff_eq.2 hg10) rfl) (EvL.cons (force_eq (beq_iff_eq.2 hg10) rfl) EvL.nil)))) (fun mm aa ww gg hr hrel => (c120 F a0 ⟨a0_Thrust_p, a0.Thrust.length, a0_Thrust_c⟩ ⟨a0_Water_p, a0.Water.length, a0_Water_c⟩ ⟨a0_Ice_p, a0.Ice.length, a0_Ice_c⟩ a1 a2 a3 ww (SlIs.mono ha0_Thrust hrel.below) (SlIs.mono ha0_Water hrel.below) (SlIs.mono ha0_Ice hrel.below) v2 (brk_t hg10 hv2)))),
    ok_if (ltN rfl) rfl rfl rfl rfl rfl rfl (fun hg11 => op_bin (ltN rfl) (force_eq (beq_iff_eq.2 hg11) rfl) (force_eq (beq_iff_eq.2 hg11) rfl) rfl),
    ok_plain rfl rfl (op_and (ltN rfl) rfl rfl),
    ok_plain rfl rfl (op_assign (ltN rfl) rfl),
    trivial⟩ ?_
  refine fin_keep (s' := [kt 8 (.B ((decide (a2 ≤ (((pt a0.Thrust ((((a0.Thrust.length : Nat) : Int)) - 1))).X))) && (decide (v1 ≥ v2))))]) ?_ (kp rfl) rfl
  refine fin_then ?_
  refine aw_ret ?_
  refine post_ret (x := .B ((decide (a2 ≤ (((pt a0.Thrust ((((a0.Thrust.length : Nat) : Int)) - 1))).X))) && (decide (v1 ≥ v2)))) rfl rfl (resOK_tmp rfl resOK_nil) rfl (fun mm aa ww hr => ?_)
  have hm := Option.some.inj hm
  subst hm
  exact ⟨rfl, hr.below⟩

def m117 (F : Nat) (a0 : Ship) (a1 : Ice) (a2 : Bool) : Option (Int) :=
  join (fun (x1 : Int) => some x1) (fun k1 => loopC (fun (x2 : Int × Int) n2 => brk (decide (x2.2 ≤ 250)) (join (fun (x3 : Int) => chk (InR (x2.2 + 1)) (n2 (x3, x2.2 + 1))) (fun k3 => bnd (m96 F a0 a1 x2.2 a2) (fun v1 => brk (v1) (k3 x2.2) (k3 x2.1)))) (k1 x2.1)) F (0, 0))

theorem c117 (F : Nat) (a0 : Ship) (a0_Thrust_s : SlV) (a0_Water_s : SlV) (a0_Ice_s : SlV) (a1 : Ice) (a2 : Bool) (w : World) (ha0_Thrust : SlIs encPt 2 w a0_Thrust_s a0.Thrust) (ha0_Water : SlIs encPt 2 w a0_Water_s a0.Water) (ha0_Ice : SlIs encPt 2 w a0_Ice_s a0.Ice) (r : Int) (hm : m117 F a0 a1 a2 = some r) : Calls Tryd.prog 117 #[.agg #[.int .i64 a0.Class, .int .i64 a0.Power, .int .i64 a0.Draught, .int .i64 a0.Tonnes, .slice a0_Thrust_s.p a0_Thrust_s.n a0_Thrust_s.c, .slice a0_Water_s.p a0_Water_s.n a0_Water_s.c, .slice a0_Ice_s.p a0_Ice_s.n a0_Ice_s.c, .int .i64 a0.Slow, .int .i64 a0.Brash, .int .i64 a0.Ridge, .int .i64 a0.Press], .agg #[.int .i64 a1.Conc, .int .i64 a1.Thick, .int .i64 a1.Ridge, .int .i64 a1.Press], .bool a2] w fun e w' => e = .returned (.int .i64 r) ∧ Below w.heap.size w w' := by
  obtain ⟨a0_Thrust_p, a0_Thrust_n, a0_Thrust_c⟩ := a0_Thrust_s
  have ha0_Thrust_l : a0_Thrust_n = a0.Thrust.length := ha0_Thrust.1
  subst ha0_Thrust_l
  obtain ⟨a0_Thrust_b, a0_Thrust_o, ha0_Thrust_p, ha0_Thrust_L⟩ := SlAt.lies' ha0_Thrust
  obtain ⟨a0_Water_p, a0_Water_n, a0_Water_c⟩ := a0_Water_s
  have ha0_Water_l : a0_Water_n = a0.Water.length := ha0_Water.1
  subst ha0_Water_l
  obtain ⟨a0_Water_b, a0_Water_o, ha0_Water_p, ha0_Water_L⟩ := SlAt.lies' ha0_Water
  obtain ⟨a0_Ice_p, a0_Ice_n, a0_Ice_c⟩ := a0_Ice_s
  have ha0_Ice_l : a0_Ice_n = a0.Ice.length := ha0_Ice.1
  subst ha0_Ice_l
  obtain ⟨a0_Ice_b, a0_Ice_o, ha0_Ice_p, ha0_Ice_L⟩ := SlAt.lies' ha0_Ice
  unfold m117 at hm
  refine enter (args := [.g [.i a0.Class, .i a0.Power, .i a0.Draught, .i a0.Tonnes, .v (.slice a0_Thrust_p a0.Thrust.length a0_Thrust_c), .v (.slice a0_Water_p a0.Water.length a0_Water_c), .v (.slice a0_Ice_p a0.Ice.length a0_Ice_c), .i a0.Slow, .i a0.Brash, .i a0.Ridge, .i a0.Press], .g [.i a1.Conc, .i a1.Thick, .i a1.Ridge, .i a1.Press], .B a2]) Tryd.func117 rfl (N := 20) rfl (Nat.le_of_ble_eq_true rfl) ?_
  refine aw_seq ?_
  refine aw_text (rows := [_, _, _]) rfl (by kernel_rfl) ⟨
    ok_plain rfl rfl (op_boxN (L := 1) (ltN rfl) rfl rfl rfl),
    ok_plain rfl rfl (op_boxN (L := 2) (ltN rfl) rfl rfl rfl),
    ok_plain rfl rfl (op_assign (ltN rfl) rfl),
    trivial⟩ ?_
  refine fin_keep (s' := [kt 2 (.B a2), kt 3 (.p 1 0), kt 4 (.p 2 0), kb 1 64 11, kb 2 108 4, kc 1 0 (.i a0.Class), kc 1 1 (.i a0.Power), kc 1 2 (.i a0.Draught), kc 1 3 (.i a0.Tonnes), kc 1 4 (.v (.slice a0_Thrust_p a0.Thrust.length a0_Thrust_c)), kc 1 5 (.v (.slice a0_Water_p a0.Water.length a0_Water_c)), kc 1 6 (.v (.slice a0_Ice_p a0.Ice.length a0_Ice_c)), kc 1 7 (.i a0.Slow), kc 1 8 (.i a0.Brash), kc 1 9 (.i a0.Ridge), kc 1 10 (.i a0.Press), kc 2 0 (.i a1.Conc), kc 2 1 (.i a1.Thick), kc 2 2 (.i a1.Ridge), kc 2 3 (.i a1.Press)]) ?_ (kp rfl) rfl
  refine fin_then ?_
  refine aw_seq ?_
  refine aw_text (rows := [_]) rfl (by kernel_rfl) ⟨
    ok_plain rfl rfl (op_assign (ltN rfl) rfl),
    trivial⟩ ?_
  refine fin_keep (s' := [kt 2 (.B a2), kt 3 (.p 1 0), kt 4 (.p 2 0), kt 7 (.i 0), kb 1 64 11, kb 2 108 4, kc 1 0 (.i a0.Class), kc 1 1 (.i a0.Power), kc 1 2 (.i a0.Draught), kc 1 3 (.i a0.Tonnes), kc 1 4 (.v (.slice a0_Thrust_p a0.Thrust.length a0_Thrust_c)), kc 1 5 (.v (.slice a0_Water_p a0.Water.length a0_Water_c)), kc 1 6 (.v (.slice a0_Ice_p a0.Ice.length a0_Ice_c)), kc 1 7 (.i a0.Slow), kc 1 8 (.i a0.Brash), kc 1 9 (.i a0.Ridge), kc 1 10 (.i a0.Press), kc 2 0 (.i a1.Conc), kc 2 1 (.i a1.Thick), kc 2 2 (.i a1.Ridge), kc 2 3 (.i a1.Press)]) ?_ (kp rfl) rfl
  refine fin_then ?_
  refine aw_cutM (ι := Int) hm (fun x1 => [kt 7 (.i x1)]) (fun hm => ?_) (fun x1 hm => ?_)
  · have _z := hm
    refine aw_seq ?_
    refine aw_text (rows := [_]) rfl (by kernel_rfl) ⟨
      ok_plain rfl rfl (op_assign (ltN rfl) rfl),
      trivial⟩ ?_
    refine fin_keep (s' := [kt 2 (.B a2), kt 3 (.p 1 0), kt 4 (.p 2 0), kt 7 (.i 0), kt 8 (.i 0), kb 1 64 11, kb 2 108 4, kc 1 0 (.i a0.Class), kc 1 1 (.i a0.Power), kc 1 2 (.i a0.Draught), kc 1 3 (.i a0.Tonnes), kc 1 4 (.v (.slice a0_Thrust_p a0.Thrust.length a0_Thrust_c)), kc 1 5 (.v (.slice a0_Water_p a0.Water.length a0_Water_c)), kc 1 6 (.v (.slice a0_Ice_p a0.Ice.length a0_Ice_c)), kc 1 7 (.i a0.Slow), kc 1 8 (.i a0.Brash), kc 1 9 (.i a0.Ridge), kc 1 10 (.i a0.Press), kc 2 0 (.i a1.Conc), kc 2 1 (.i a1.Thick), kc 2 2 (.i a1.Ridge), kc 2 3 (.i a1.Press)]) ?_ (kp rfl) rfl
    refine fin_then ?_
    refine aw_block ?_
    refine aw_loopC hm (fun x2 => [kt 2 (.B a2), kt 3 (.p 1 0), kt 4 (.p 2 0), kt 7 (.i x2.1), kt 8 (.i x2.2), kb 1 64 11, kb 2 108 4, kc 1 0 (.i a0.Class), kc 1 1 (.i a0.Power), kc 1 2 (.i a0.Draught), kc 1 3 (.i a0.Tonnes), kc 1 4 (.v (.slice a0_Thrust_p a0.Thrust.length a0_Thrust_c)), kc 1 5 (.v (.slice a0_Water_p a0.Water.length a0_Water_c)), kc 1 6 (.v (.slice a0_Ice_p a0.Ice.length a0_Ice_c)), kc 1 7 (.i a0.Slow), kc 1 8 (.i a0.Brash), kc 1 9 (.i a0.Ridge), kc 1 10 (.i a0.Press), kc 2 0 (.i a1.Conc), kc 2 1 (.i a1.Thick), kc 2 2 (.i a1.Ridge), kc 2 3 (.i a1.Press)]) ⟨rfl, rfl, rfl, rfl, rfl, rfl, rfl, rfl, rfl, rfl, rfl, rfl, rfl, rfl, rfl, rfl, rfl, rfl, rfl, rfl, rfl, rfl, trivial⟩ rfl (fun x2 n2 hm => ?_)
    refine aw_seq ?_
    refine aw_seq ?_
    refine aw_text (rows := [_, _]) rfl (by kernel_rfl) ⟨
      ok_plain rfl rfl (op_move (ltN rfl) rfl),
      ok_plain rfl rfl (op_bin (ltN rfl) rfl rfl rfl),
      trivial⟩ ?_
    refine fin_keep (s' := [kt 2 (.B a2), kt 3 (.p 1 0), kt 4 (.p 2 0), kt 7 (.i x2.1), kt 8 (.i x2.2), kt 10 (.B (decide (x2.2 ≤ 250))), kb 1 64 11, kb 2 108 4, kc 1 0 (.i a0.Class), kc 1 1 (.i a0.Power), kc 1 2 (.i a0.Draught), kc 1 3 (.i a0.Tonnes), kc 1 4 (.v (.slice a0_Thrust_p a0.Thrust.length a0_Thrust_c)), kc 1 5 (.v (.slice a0_Water_p a0.Water.length a0_Water_c)), kc 1 6 (.v (.slice a0_Ice_p a0.Ice.length a0_Ice_c)), kc 1 7 (.i a0.Slow), kc 1 8 (.i a0.Brash), kc 1 9 (.i a0.Ridge), kc 1 10 (.i a0.Press), kc 2 0 (.i a1.Conc), kc 2 1 (.i a1.Thick), kc 2 2 (.i a1.Ridge), kc 2 3 (.i a1.Press)]) ?_ (kp rfl) rfl
    refine fin_then ?_
    refine aw_cond rfl (fun hz1 => ?_) (fun hz1 => ?_)
    · have hm := brk_t hz1 hm
      refine aw_skip ?_
      refine fin_then ?_
      refine aw_cutM (ι := Int) hm (fun x3 => [kt 2 (.B a2), kt 3 (.p 1 0), kt 4 (.p 2 0), kt 7 (.i x3), kt 8 (.i x2.2), kb 1 64 11, kb 2 108 4, kc 1 0 (.i a0.Class), kc 1 1 (.i a0.Power), kc 1 2 (.i a0.Draught), kc 1 3 (.i a0.Tonnes), kc 1 4 (.v (.slice a0_Thrust_p a0.Thrust.length a0_Thrust_c)), kc 1 5 (.v (.slice a0_Water_p a0.Water.length a0_Water_c)), kc 1 6 (.v (.slice a0_Ice_p a0.Ice.length a0_Ice_c)), kc 1 7 (.i a0.Slow), kc 1 8 (.i a0.Brash), kc 1 9 (.i a0.Ridge), kc 1 10 (.i a0.Press), kc 2 0 (.i a1.Conc), kc 2 1 (.i a1.Thick), kc 2 2 (.i a1.Ridge), kc 2 3 (.i a1.Press)]) (fun hm => ?_) (fun x3 hm => ?_)
      · have _z := hm
        refine aw_block ?_
        refine aw_seq ?_
        obtain ⟨v1, hv1, hm⟩ := bnd_some hm
        refine aw_text (rows := [_, _, _, _, _]) rfl (by kernel_rfl) ⟨
          ok_plain rfl rfl (op_loadN (ys := [.i a0.Class, .i a0.Power, .i a0.Draught, .i a0.Tonnes, .v (.slice a0_Thrust_p a0.Thrust.length a0_Thrust_c), .v (.slice a0_Water_p a0.Water.length a0_Water_c), .v (.slice a0_Ice_p a0.Ice.length a0_Ice_c), .i a0.Slow, .i a0.Brash, .i a0.Ridge, .i a0.Press]) (ltN rfl) sh_64 rfl rfl ⟨rfl, rfl, rfl, rfl, rfl, rfl, rfl, rfl, rfl, rfl, rfl, trivial⟩),
          ok_plain rfl rfl (op_loadN (ys := [.i a1.Conc, .i a1.Thick, .i a1.Ridge, .i a1.Press]) (ltN rfl) sh_108 rfl rfl ⟨rfl, rfl, rfl, rfl, trivial⟩),
          ok_plain rfl rfl (op_move (ltN rfl) rfl),
          ok_plain rfl rfl (op_move (ltN rfl) rfl),
          ok_plain rfl rfl (op_call (x := .B v1) (fs := []) (caps := []) (extra := []) (ltN rfl) en_96 rfl ⟨rfl, rfl, rfl⟩ (EvL.cons rfl (EvL.cons rfl (EvL.cons rfl (EvL.cons rfl EvL.nil)))) (fun mm aa ww gg hr hrel => (c96 F a0 ⟨a0_Thrust_p, a0.Thrust.length, a0_Thrust_c⟩ ⟨a0_Water_p, a0.Water.length, a0_Water_c⟩ ⟨a0_Ice_p, a0.Ice.length, a0_Ice_c⟩ a1 x2.2 a2 ww (SlIs.mono ha0_Thrust hrel.below) (SlIs.mono ha0_Water hrel.below) (SlIs.mono ha0_Ice hrel.below) v1 hv1))),
          trivial⟩ ?_
        refine fin_keep (s' := [kt 2 (.B a2), kt 3 (.p 1 0), kt 4 (.p 2 0), kt 7 (.i x2.1), kt 8 (.i x2.2), kt 17 (.B v1), kb 1 64 11, kb 2 108 4, kc 1 0 (.i a0.Class), kc 1 1 (.i a0.Power), kc 1 2 (.i a0.Draught), kc 1 3 (.i a0.Tonnes), kc 1 4 (.v (.slice a0_Thrust_p a0.Thrust.length a0_Thrust_c)), kc 1 5 (.v (.slice a0_Water_p a0.Water.length a0_Water_c)), kc 1 6 (.v (.slice a0_Ice_p a0.Ice.length a0_Ice_c)), kc 1 7 (.i a0.Slow), kc 1 8 (.i a0.Brash), kc 1 9 (.i a0.Ridge), kc 1 10 (.i a0.Press), kc 2 0 (.i a1.Conc), kc 2 1 (.i a1.Thick), kc 2 2 (.i a1.Ridge), kc 2 3 (.i a1.Press)]) ?_ (kp rfl) rfl
        refine fin_then ?_
        refine aw_cond rfl (fun hz2 => ?_) (fun hz2 => ?_)
        · have hm := brk_t hz2 hm
          refine aw_text (rows := [_, _]) rfl (by kernel_rfl) ⟨
            ok_plain rfl rfl (op_move (ltN rfl) rfl),
            ok_plain rfl rfl (op_assign (ltN rfl) rfl),
            trivial⟩ ?_
          refine fin_keep (s' := [kt 2 (.B a2), kt 3 (.p 1 0), kt 4 (.p 2 0), kt 7 (.i x2.2), kt 8 (.i x2.2), kb 1 64 11, kb 2 108 4, kc 1 0 (.i a0.Class), kc 1 1 (.i a0.Power), kc 1 2 (.i a0.Draught), kc 1 3 (.i a0.Tonnes), kc 1 4 (.v (.slice a0_Thrust_p a0.Thrust.length a0_Thrust_c)), kc 1 5 (.v (.slice a0_Water_p a0.Water.length a0_Water_c)), kc 1 6 (.v (.slice a0_Ice_p a0.Ice.length a0_Ice_c)), kc 1 7 (.i a0.Slow), kc 1 8 (.i a0.Brash), kc 1 9 (.i a0.Ridge), kc 1 10 (.i a0.Press), kc 2 0 (.i a1.Conc), kc 2 1 (.i a1.Thick), kc 2 2 (.i a1.Ridge), kc 2 3 (.i a1.Press)]) ?_ (kp rfl) rfl
          refine fin_block ?_
          exact fin_cut x2.2 hm ⟨rfl, rfl, rfl, rfl, rfl, rfl, rfl, rfl, rfl, rfl, rfl, rfl, rfl, rfl, rfl, rfl, rfl, rfl, rfl, rfl, rfl, rfl, trivial⟩ rfl
        · have hm := brk_f hz2 hm
          refine aw_skip ?_
          refine fin_block ?_
          exact fin_cut x2.1 hm ⟨rfl, rfl, rfl, rfl, rfl, rfl, rfl, rfl, rfl, rfl, rfl, rfl, rfl, rfl, rfl, rfl, rfl, rfl, rfl, rfl, rfl, rfl, trivial⟩ rfl
      · have _z := hm
        obtain ⟨hp3, hm⟩ := chk_some hm
        refine aw_text (rows := [_, _, _]) rfl (by kernel_rfl) ⟨
          ok_plain rfl rfl (op_move (ltN rfl) rfl),
          ok_plain rfl rfl (op_bin (ltN rfl) rfl rfl (nw_add hp3)),
          ok_plain rfl rfl (op_assign (ltN rfl) rfl),
          trivial⟩ ?_
        refine fin_keep (s' := [kt 2 (.B a2), kt 3 (.p 1 0), kt 4 (.p 2 0), kt 7 (.i x3), kt 8 (.i (x2.2 + 1)), kb 1 64 11, kb 2 108 4, kc 1 0 (.i a0.Class), kc 1 1 (.i a0.Power), kc 1 2 (.i a0.Draught), kc 1 3 (.i a0.Tonnes), kc 1 4 (.v (.slice a0_Thrust_p a0.Thrust.length a0_Thrust_c)), kc 1 5 (.v (.slice a0_Water_p a0.Water.length a0_Water_c)), kc 1 6 (.v (.slice a0_Ice_p a0.Ice.length a0_Ice_c)), kc 1 7 (.i a0.Slow), kc 1 8 (.i a0.Brash), kc 1 9 (.i a0.Ridge), kc 1 10 (.i a0.Press), kc 2 0 (.i a1.Conc), kc 2 1 (.i a1.Thick), kc 2 2 (.i a1.Ridge), kc 2 3 (.i a1.Press)]) ?_ (kp rfl) rfl
        exact fin_cut (x3, x2.2 + 1) hm ⟨rfl, rfl, rfl, rfl, rfl, rfl, rfl, rfl, rfl, rfl, rfl, rfl, rfl, rfl, rfl, rfl, rfl, rfl, rfl, rfl, rfl, rfl, trivial⟩ rfl
    · have hm := brk_f hz1 hm
      refine aw_exit ?_
      refine fin_then_exit ?_
      refine fin_then_exit ?_
      refine fin_block_exit ?_
      exact fin_cut x2.1 hm ⟨rfl, trivial⟩ rfl
  · have _z := hm
    refine aw_seq ?_
    refine aw_text (rows := [_, _]) rfl (by kernel_rfl) ⟨
      ok_plain rfl rfl (op_move (ltN rfl) rfl),
      ok_plain rfl rfl (op_assign (ltN rfl) rfl),
      trivial⟩ ?_
    refine fin_keep (s' := [kt 6 (.i x1)]) ?_ (kp rfl) rfl
    refine fin_then ?_
    refine aw_ret ?_
    refine post_ret (x := .i x1) rfl rfl (resOK_tmp rfl resOK_nil) rfl (fun mm aa ww hr => ?_)
    have hm := Option.some.inj hm
    subst hm
    exact ⟨rfl, hr.below⟩

def m121 (F : Nat) (a0 : Ice) : Option (Bool) :=
  bnd (m92 F a0.Conc 0 100) (fun v1 => bnd (brk (v1) (m92 F a0.Thick 0 400) (some default)) (fun v2 => bnd (brk ((v1 && v2)) (m92 F a0.Ridge 0 100) (some default)) (fun v3 => bnd (brk (((v1 && v2) && v3)) (m92 F a0.Press 0 3) (some default)) (fun v4 => some (((v1 && v2) && v3) && v4)))))

def m116 (F : Nat) (a0 : Ship) (a1 : Ice) (a2 : Int) : Option (Int) :=
  bnd (m47 F a0) (fun v1 => brk (v1 != 0) (some v1) (bnd (m121 F a1) (fun v2 => brk (!v2) (some 20) (bnd (m92 F a2 0 250) (fun v3 => brk (!v3) (some 6) (some 0))))))

def m102 (_F : Nat) (a0 : Span) (a1 : Int) : Option (Bool) :=
  some (((decide (a0.Lo ≥ 0)) && (decide (a0.Hi ≤ a1))) && (decide (a0.Lo ≤ a0.Hi)))

theorem c102 (F : Nat) (a0 : Span) (a1 : Int) (w : World)  (r : Bool) (hm : m102 F a0 a1 = some r) : Calls Tryd.prog 102 #[.agg #[.int .i64 a0.Lo, .int .i64 a0.Hi], .int .i64 a1] w fun e w' => e = .returned (.bool r) ∧ Below w.heap.size w w' := by
  unfold m102 at hm
  refine enter (args := [.g [.i a0.Lo, .i a0.Hi], .i a1]) Tryd.func102 rfl (N := 21) rfl (Nat.le_of_ble_eq_true rfl) ?_
  refine aw_seq ?_
  refine aw_text (rows := [_, _]) rfl (by kernel_rfl) ⟨
    ok_plain rfl rfl (op_boxN (L := 1) (ltN rfl) rfl rfl rfl),
    ok_plain rfl rfl (op_assign (ltN rfl) rfl),
    trivial⟩ ?_
  refine fin_keep (s' := [kt 1 (.i a1), kt 2 (.p 1 0), kb 1 32 2, kc 1 0 (.i a0.Lo), kc 1 1 (.i a0.Hi)]) ?_ (kp rfl) rfl
  refine fin_then ?_
  refine aw_seq ?_
  refine aw_text (rows := [_, _, _, _, _, _, _, _, _, _, _, _, _, _, _, _, _]) rfl (by kernel_rfl) ⟨
    ok_plain rfl rfl (op_fieldAddr (ltN rfl) rfl fo_32_0),
    ok_plain rfl rfl (op_load1 (ltN rfl) sh_3 rfl rfl),
    ok_plain rfl rfl (op_bin (ltN rfl) rfl rfl rfl),
    ok_plain rfl rfl (op_move (ltN rfl) rfl),
    ok_if (ltN rfl) rfl rfl rfl rfl rfl rfl (fun hg1 => op_fieldAddr (ltN rfl) (force_x rfl) fo_32_1),
    ok_if (ltN rfl) rfl rfl rfl rfl rfl rfl (fun hg2 => op_load1 (ltN rfl) sh_3 (force_eq (beq_iff_eq.2 hg2) rfl) rfl),
    ok_if (ltN rfl) rfl rfl rfl rfl rfl rfl (fun hg3 => op_move (ltN rfl) (force_x rfl)),
    ok_if (ltN rfl) rfl rfl rfl rfl rfl rfl (fun hg4 => op_bin (ltN rfl) (force_eq (beq_iff_eq.2 hg4) rfl) (force_eq (beq_iff_eq.2 hg4) rfl) rfl),
    ok_plain rfl rfl (op_and (ltN rfl) rfl rfl),
    ok_plain rfl rfl (op_move (ltN rfl) rfl),
    ok_if (ltN rfl) rfl rfl rfl rfl rfl rfl (fun hg5 => op_fieldAddr (ltN rfl) (force_x rfl) fo_32_0),
    ok_if (ltN rfl) rfl rfl rfl rfl rfl rfl (fun hg6 => op_load1 (ltN rfl) sh_3 (force_eq (beq_iff_eq.2 hg6) rfl) rfl),
    ok_if (ltN rfl) rfl rfl rfl rfl rfl rfl (fun hg7 => op_fieldAddr (ltN rfl) (force_x rfl) fo_32_1),
    ok_if (ltN rfl) rfl rfl rfl rfl rfl rfl (fun hg8 => op_load1 (ltN rfl) sh_3 (force_eq (beq_iff_eq.2 hg8) rfl) rfl),
    ok_if (ltN rfl) rfl rfl rfl rfl rfl rfl (fun hg9 => op_bin (ltN rfl) (force_eq (beq_iff_eq.2 hg9) rfl) (force_eq (beq_iff_eq.2 hg9) rfl) rfl),
    ok_plain rfl rfl (op_and (ltN rfl) rfl rfl),
    ok_plain rfl rfl (op_assign (ltN rfl) rfl),
    trivial⟩ ?_
  refine fin_keep (s' := [kt 4 (.B (((decide (a0.Lo ≥ 0)) && (decide (a0.Hi ≤ a1))) && (decide (a0.Lo ≤ a0.Hi))))]) ?_ (kp rfl) rfl
  refine fin_then ?_
  refine aw_ret ?_
  refine post_ret (x := .B (((decide (a0.Lo ≥ 0)) && (decide (a0.Hi ≤ a1))) && (decide (a0.Lo ≤ a0.Hi)))) rfl rfl (resOK_tmp rfl resOK_nil) rfl (fun mm aa ww hr => ?_)
  have hm := Option.some.inj hm
  subst hm
  exact ⟨rfl, hr.below⟩

def m93 (F : Nat) (a0 : Cell) : Option (Bool) :=
  bnd (m102 F a0.Conc 100) (fun v1 => bnd (brk (v1) (m102 F a0.Thick 400) (some default)) (fun v2 => bnd (brk ((v1 && v2)) (m102 F a0.Ridge 100) (some default)) (fun v3 => bnd (brk (((v1 && v2) && v3)) (m102 F a0.Press 3) (some default)) (fun v4 => some (((v1 && v2) && v3) && v4)))))

theorem c93 (F : Nat) (a0 : Cell) (w : World)  (r : Bool) (hm : m93 F a0 = some r) : Calls Tryd.prog 93 #[.agg #[.int .i64 a0.Conc.Lo, .int .i64 a0.Conc.Hi, .int .i64 a0.Thick.Lo, .int .i64 a0.Thick.Hi, .int .i64 a0.Ridge.Lo, .int .i64 a0.Ridge.Hi, .int .i64 a0.Press.Lo, .int .i64 a0.Press.Hi]] w fun e w' => e = .returned (.bool r) ∧ Below w.heap.size w w' := by
  unfold m93 at hm
  refine enter (args := [.g [.i a0.Conc.Lo, .i a0.Conc.Hi, .i a0.Thick.Lo, .i a0.Thick.Hi, .i a0.Ridge.Lo, .i a0.Ridge.Hi, .i a0.Press.Lo, .i a0.Press.Hi]]) Tryd.func93 rfl (N := 21) rfl (Nat.le_of_ble_eq_true rfl) ?_
  refine aw_seq ?_
  refine aw_text (rows := [_, _]) rfl (by kernel_rfl) ⟨
    ok_plain rfl rfl (op_boxN (L := 1) (ltN rfl) rfl rfl rfl),
    ok_plain rfl rfl (op_assign (ltN rfl) rfl),
    trivial⟩ ?_
  refine fin_keep (s' := [kt 1 (.p 1 0), kb 1 72 8, kc 1 0 (.i a0.Conc.Lo), kc 1 1 (.i a0.Conc.Hi), kc 1 2 (.i a0.Thick.Lo), kc 1 3 (.i a0.Thick.Hi), kc 1 4 (.i a0.Ridge.Lo), kc 1 5 (.i a0.Ridge.Hi), kc 1 6 (.i a0.Press.Lo), kc 1 7 (.i a0.Press.Hi)]) ?_ (kp rfl) rfl
  refine fin_then ?_
  refine aw_seq ?_
  obtain ⟨v1, hv1, hm⟩ := bnd_some hm
  obtain ⟨v2, hv2, hm⟩ := bnd_some hm
  obtain ⟨v3, hv3, hm⟩ := bnd_some hm
  obtain ⟨v4, hv4, hm⟩ := bnd_some hm
  refine aw_text (rows := [_, _, _, _, _, _, _, _, _, _, _, _, _, _, _, _, _, _, _]) rfl (by kernel_rfl) ⟨
    ok_plain rfl rfl (op_fieldAddr (ltN rfl) rfl fo_72_0),
    ok_plain rfl rfl (op_loadN (ys := [.i a0.Conc.Lo, .i a0.Conc.Hi]) (ltN rfl) sh_32 rfl rfl ⟨rfl, rfl, trivial⟩),
    ok_plain rfl rfl (op_call (x := .B v1) (fs := []) (caps := []) (extra := []) (ltN rfl) en_102 rfl ⟨rfl, rfl, rfl⟩ (EvL.cons rfl (EvL.cons rfl EvL.nil)) (fun mm aa ww gg hr hrel => (c102 F a0.Conc 100 ww v1 hv1))),
    ok_plain rfl rfl (op_move (ltN rfl) rfl),
    ok_if (ltN rfl) rfl rfl rfl rfl rfl rfl (fun hg1 => op_fieldAddr (ltN rfl) (force_x rfl) fo_72_1),
    ok_if (ltN rfl) rfl rfl rfl rfl rfl rfl (fun hg2 => op_loadN (ys := [.i a0.Thick.Lo, .i a0.Thick.Hi]) (ltN rfl) sh_32 (force_eq (beq_iff_eq.2 hg2) rfl) rfl ⟨rfl, rfl, trivial⟩),
    ok_if (ltN rfl) rfl rfl rfl rfl rfl rfl (fun hg3 => op_call (x := .B v2) (fs := []) (caps := []) (extra := []) (ltN rfl) en_102 rfl ⟨rfl, rfl, rfl⟩ (EvL.cons (force_eq (beq_iff_eq.2 hg3) rfl) (EvL.cons rfl EvL.nil)) (fun mm aa ww gg hr hrel => (c102 F a0.Thick 400 ww v2 (brk_t hg3 hv2)))),
    ok_plain rfl rfl (op_and (ltN rfl) rfl rfl),
    ok_plain rfl rfl (op_move (ltN rfl) rfl),
    ok_if (ltN rfl) rfl rfl rfl rfl rfl rfl (fun hg4 => op_fieldAddr (ltN rfl) (force_x rfl) fo_72_2),
    ok_if (ltN rfl) rfl rfl rfl rfl rfl rfl (fun hg5 => op_loadN (ys := [.i a0.Ridge.Lo, .i a0.Ridge.Hi]) (ltN rfl) sh_32 (force_eq (beq_iff_eq.2 hg5) rfl) rfl ⟨rfl, rfl, trivial⟩),
    ok_if (ltN rfl) rfl rfl rfl rfl rfl rfl (fun hg6 => op_call (x := .B v3) (fs := []) (caps := []) (extra := []) (ltN rfl) en_102 rfl ⟨rfl, rfl, rfl⟩ (EvL.cons (force_eq (beq_iff_eq.2 hg6) rfl) (EvL.cons rfl EvL.nil)) (fun mm aa ww gg hr hrel => (c102 F a0.Ridge 100 ww v3 (brk_t hg6 hv3)))),
    ok_plain rfl rfl (op_and (ltN rfl) rfl rfl),
    ok_plain rfl rfl (op_move (ltN rfl) rfl),
    ok_if (ltN rfl) rfl rfl rfl rfl rfl rfl (fun hg7 => op_fieldAddr (ltN rfl) (force_x rfl) fo_72_3),
    ok_if (ltN rfl) rfl rfl rfl rfl rfl rfl (fun hg8 => op_loadN (ys := [.i a0.Press.Lo, .i a0.Press.Hi]) (ltN rfl) sh_32 (force_eq (beq_iff_eq.2 hg8) rfl) rfl ⟨rfl, rfl, trivial⟩),
    ok_if (ltN rfl) rfl rfl rfl rfl rfl rfl (fun hg9 => op_call (x := .B v4) (fs := []) (caps := []) (extra := []) (ltN rfl) en_102 rfl ⟨rfl, rfl, rfl⟩ (EvL.cons (force_eq (beq_iff_eq.2 hg9) rfl) (EvL.cons rfl EvL.nil)) (fun mm aa ww gg hr hrel => (c102 F a0.Press 3 ww v4 (brk_t hg9 hv4)))),
    ok_plain rfl rfl (op_and (ltN rfl) rfl rfl),
    ok_plain rfl rfl (op_assign (ltN rfl) rfl),
    trivial⟩ ?_
  refine fin_keep (s' := [kt 2 (.B (((v1 && v2) && v3) && v4))]) ?_ (kp rfl) rfl
  refine fin_then ?_
  refine aw_ret ?_
  refine post_ret (x := .B (((v1 && v2) && v3) && v4)) rfl rfl (resOK_tmp rfl resOK_nil) rfl (fun mm aa ww hr => ?_)
  have hm := Option.some.inj hm
  subst hm
  exact ⟨rfl, hr.below⟩

def m101 (F : Nat) (a0 : Ship) (a1 : Cell) : Option (Int) :=
  bnd (m47 F a0) (fun v1 => brk (v1 != 0) (some v1) (bnd (m93 F a1) (fun v2 => brk (!v2) (some 20) (some 0))))

theorem c101 (F : Nat) (a0 : Ship) (a0_Thrust_s : SlV) (a0_Water_s : SlV) (a0_Ice_s : SlV) (a1 : Cell) (w : World) (ha0_Thrust : SlIs encPt 2 w a0_Thrust_s a0.Thrust) (ha0_Water : SlIs encPt 2 w a0_Water_s a0.Water) (ha0_Ice : SlIs encPt 2 w a0_Ice_s a0.Ice) (r : Int) (hm : m101 F a0 a1 = some r) : Calls Tryd.prog 101 #[.agg #[.int .i64 a0.Class, .int .i64 a0.Power, .int .i64 a0.Draught, .int .i64 a0.Tonnes, .slice a0_Thrust_s.p a0_Thrust_s.n a0_Thrust_s.c, .slice a0_Water_s.p a0_Water_s.n a0_Water_s.c, .slice a0_Ice_s.p a0_Ice_s.n a0_Ice_s.c, .int .i64 a0.Slow, .int .i64 a0.Brash, .int .i64 a0.Ridge, .int .i64 a0.Press], .agg #[.int .i64 a1.Conc.Lo, .int .i64 a1.Conc.Hi, .int .i64 a1.Thick.Lo, .int .i64 a1.Thick.Hi, .int .i64 a1.Ridge.Lo, .int .i64 a1.Ridge.Hi, .int .i64 a1.Press.Lo, .int .i64 a1.Press.Hi]] w fun e w' => e = .returned (.int .i64 r) ∧ Below w.heap.size w w' := by
  obtain ⟨a0_Thrust_p, a0_Thrust_n, a0_Thrust_c⟩ := a0_Thrust_s
  have ha0_Thrust_l : a0_Thrust_n = a0.Thrust.length := ha0_Thrust.1
  subst ha0_Thrust_l
  obtain ⟨a0_Thrust_b, a0_Thrust_o, ha0_Thrust_p, ha0_Thrust_L⟩ := SlAt.lies' ha0_Thrust
  obtain ⟨a0_Water_p, a0_Water_n, a0_Water_c⟩ := a0_Water_s
  have ha0_Water_l : a0_Water_n = a0.Water.length := ha0_Water.1
  subst ha0_Water_l
  obtain ⟨a0_Water_b, a0_Water_o, ha0_Water_p, ha0_Water_L⟩ := SlAt.lies' ha0_Water
  obtain ⟨a0_Ice_p, a0_Ice_n, a0_Ice_c⟩ := a0_Ice_s
  have ha0_Ice_l : a0_Ice_n = a0.Ice.length := ha0_Ice.1
  subst ha0_Ice_l
  obtain ⟨a0_Ice_b, a0_Ice_o, ha0_Ice_p, ha0_Ice_L⟩ := SlAt.lies' ha0_Ice
  unfold m101 at hm
  refine enter (args := [.g [.i a0.Class, .i a0.Power, .i a0.Draught, .i a0.Tonnes, .v (.slice a0_Thrust_p a0.Thrust.length a0_Thrust_c), .v (.slice a0_Water_p a0.Water.length a0_Water_c), .v (.slice a0_Ice_p a0.Ice.length a0_Ice_c), .i a0.Slow, .i a0.Brash, .i a0.Ridge, .i a0.Press], .g [.i a1.Conc.Lo, .i a1.Conc.Hi, .i a1.Thick.Lo, .i a1.Thick.Hi, .i a1.Ridge.Lo, .i a1.Ridge.Hi, .i a1.Press.Lo, .i a1.Press.Hi]]) Tryd.func101 rfl (N := 14) rfl (Nat.le_of_ble_eq_true rfl) ?_
  refine aw_seq ?_
  refine aw_text (rows := [_, _, _]) rfl (by kernel_rfl) ⟨
    ok_plain rfl rfl (op_boxN (L := 1) (ltN rfl) rfl rfl rfl),
    ok_plain rfl rfl (op_boxN (L := 2) (ltN rfl) rfl rfl rfl),
    ok_plain rfl rfl (op_assign (ltN rfl) rfl),
    trivial⟩ ?_
  refine fin_keep (s' := [kt 2 (.p 1 0), kt 3 (.p 2 0), kb 1 64 11, kb 2 72 8, kc 1 0 (.i a0.Class), kc 1 1 (.i a0.Power), kc 1 2 (.i a0.Draught), kc 1 3 (.i a0.Tonnes), kc 1 4 (.v (.slice a0_Thrust_p a0.Thrust.length a0_Thrust_c)), kc 1 5 (.v (.slice a0_Water_p a0.Water.length a0_Water_c)), kc 1 6 (.v (.slice a0_Ice_p a0.Ice.length a0_Ice_c)), kc 1 7 (.i a0.Slow), kc 1 8 (.i a0.Brash), kc 1 9 (.i a0.Ridge), kc 1 10 (.i a0.Press), kc 2 0 (.i a1.Conc.Lo), kc 2 1 (.i a1.Conc.Hi), kc 2 2 (.i a1.Thick.Lo), kc 2 3 (.i a1.Thick.Hi), kc 2 4 (.i a1.Ridge.Lo), kc 2 5 (.i a1.Ridge.Hi), kc 2 6 (.i a1.Press.Lo), kc 2 7 (.i a1.Press.Hi)]) ?_ (kp rfl) rfl
  refine fin_then ?_
  refine aw_seq ?_
  refine aw_seq ?_
  obtain ⟨v1, hv1, hm⟩ := bnd_some hm
  refine aw_text (rows := [_, _, _]) rfl (by kernel_rfl) ⟨
    ok_plain rfl rfl (op_loadN (ys := [.i a0.Class, .i a0.Power, .i a0.Draught, .i a0.Tonnes, .v (.slice a0_Thrust_p a0.Thrust.length a0_Thrust_c), .v (.slice a0_Water_p a0.Water.length a0_Water_c), .v (.slice a0_Ice_p a0.Ice.length a0_Ice_c), .i a0.Slow, .i a0.Brash, .i a0.Ridge, .i a0.Press]) (ltN rfl) sh_64 rfl rfl ⟨rfl, rfl, rfl, rfl, rfl, rfl, rfl, rfl, rfl, rfl, rfl, trivial⟩),
    ok_plain rfl rfl (op_call (x := .i v1) (fs := []) (caps := []) (extra := []) (ltN rfl) en_47 rfl ⟨rfl, rfl, rfl⟩ (EvL.cons rfl EvL.nil) (fun mm aa ww gg hr hrel => (c47 F a0 ⟨a0_Thrust_p, a0.Thrust.length, a0_Thrust_c⟩ ⟨a0_Water_p, a0.Water.length, a0_Water_c⟩ ⟨a0_Ice_p, a0.Ice.length, a0_Ice_c⟩ ww (SlIs.mono ha0_Thrust hrel.below) (SlIs.mono ha0_Water hrel.below) (SlIs.mono ha0_Ice hrel.below) v1 hv1))),
    ok_plain rfl rfl (op_assign (ltN rfl) rfl),
    trivial⟩ ?_
  refine fin_keep (s' := [kt 3 (.p 2 0), kt 5 (.i v1), kb 2 72 8, kc 2 0 (.i a1.Conc.Lo), kc 2 1 (.i a1.Conc.Hi), kc 2 2 (.i a1.Thick.Lo), kc 2 3 (.i a1.Thick.Hi), kc 2 4 (.i a1.Ridge.Lo), kc 2 5 (.i a1.Ridge.Hi), kc 2 6 (.i a1.Press.Lo), kc 2 7 (.i a1.Press.Hi)]) ?_ (kp rfl) rfl
  refine fin_then ?_
  refine aw_seq ?_
  refine aw_text (rows := [_, _]) rfl (by kernel_rfl) ⟨
    ok_plain rfl rfl (op_move (ltN rfl) rfl),
    ok_plain rfl rfl (op_bin (ltN rfl) rfl rfl rfl),
    trivial⟩ ?_
  refine fin_keep (s' := [kt 3 (.p 2 0), kt 5 (.i v1), kt 9 (.B (v1 != 0)), kb 2 72 8, kc 2 0 (.i a1.Conc.Lo), kc 2 1 (.i a1.Conc.Hi), kc 2 2 (.i a1.Thick.Lo), kc 2 3 (.i a1.Thick.Hi), kc 2 4 (.i a1.Ridge.Lo), kc 2 5 (.i a1.Ridge.Hi), kc 2 6 (.i a1.Press.Lo), kc 2 7 (.i a1.Press.Hi)]) ?_ (kp rfl) rfl
  refine fin_then ?_
  refine aw_cond rfl (fun hz1 => ?_) (fun hz1 => ?_)
  · have hm := brk_t hz1 hm
    refine aw_seq ?_
    refine aw_text (rows := [_, _]) rfl (by kernel_rfl) ⟨
      ok_plain rfl rfl (op_move (ltN rfl) rfl),
      ok_plain rfl rfl (op_assign (ltN rfl) rfl),
      trivial⟩ ?_
    refine fin_keep (s' := [kt 4 (.i v1)]) ?_ (kp rfl) rfl
    refine fin_then ?_
    refine aw_ret ?_
    refine fin_then_ret ?_
    refine post_ret (x := .i v1) rfl rfl (resOK_tmp rfl resOK_nil) rfl (fun mm aa ww hr => ?_)
    have hm := Option.some.inj hm
    subst hm
    exact ⟨rfl, hr.below⟩
  · have hm := brk_f hz1 hm
    refine aw_skip ?_
    refine fin_then ?_
    refine aw_seq ?_
    refine aw_seq ?_
    obtain ⟨v2, hv2, hm⟩ := bnd_some hm
    refine aw_text (rows := [_, _, _]) rfl (by kernel_rfl) ⟨
      ok_plain rfl rfl (op_loadN (ys := [.i a1.Conc.Lo, .i a1.Conc.Hi, .i a1.Thick.Lo, .i a1.Thick.Hi, .i a1.Ridge.Lo, .i a1.Ridge.Hi, .i a1.Press.Lo, .i a1.Press.Hi]) (ltN rfl) sh_72 rfl rfl ⟨rfl, rfl, rfl, rfl, rfl, rfl, rfl, rfl, trivial⟩),
      ok_plain rfl rfl (op_call (x := .B v2) (fs := []) (caps := []) (extra := []) (ltN rfl) en_93 rfl ⟨rfl, rfl, rfl⟩ (EvL.cons rfl EvL.nil) (fun mm aa ww gg hr hrel => (c93 F a1 ww v2 hv2))),
      ok_plain rfl rfl (op_not (ltN rfl) rfl),
      trivial⟩ ?_
    refine fin_keep (s' := [kt 13 (.B (!v2))]) ?_ (kp rfl) rfl
    refine fin_then ?_
    refine aw_cond rfl (fun hz2 => ?_) (fun hz2 => ?_)
    · have hm := brk_t hz2 hm
      refine aw_seq ?_
      refine aw_text (rows := [_]) rfl (by kernel_rfl) ⟨
        ok_plain rfl rfl (op_assign (ltN rfl) rfl),
        trivial⟩ ?_
      refine fin_keep (s' := [kt 4 (.i 20)]) ?_ (kp rfl) rfl
      refine fin_then ?_
      refine aw_ret ?_
      refine fin_then_ret ?_
      refine post_ret (x := .i 20) rfl rfl (resOK_tmp rfl resOK_nil) rfl (fun mm aa ww hr => ?_)
      have hm := Option.some.inj hm
      subst hm
      exact ⟨rfl, hr.below⟩
    · have hm := brk_f hz2 hm
      refine aw_skip ?_
      refine fin_then ?_
      refine aw_seq ?_
      refine aw_text (rows := [_]) rfl (by kernel_rfl) ⟨
        ok_plain rfl rfl (op_assign (ltN rfl) rfl),
        trivial⟩ ?_
      refine fin_keep (s' := [kt 4 (.i 0)]) ?_ (kp rfl) rfl
      refine fin_then ?_
      refine aw_ret ?_
      refine post_ret (x := .i 0) rfl rfl (resOK_tmp rfl resOK_nil) rfl (fun mm aa ww hr => ?_)
      have hm := Option.some.inj hm
      subst hm
      exact ⟨rfl, hr.below⟩

end Go.Proofs.T

namespace Go.Proofs.T
open Go Go.AX Go.RowKit Hull
theorem zl_108 : zeroL Tryd.prog 108 = some [(.int .i64 0), (.int .i64 0), (.int .i64 0), (.int .i64 0)] := by kernel_rfl
theorem sz_108 : sizeIn Tryd.prog 108 = some 4 := by kernel_rfl
theorem en_117 : Proofs.Enters Tryd.prog 117 := Proofs.enters_of Tryd.func117 (by kernel_rfl) rfl
def m53 (F : Nat) (a0 : Ship) (a1 : Int) (a2 : Bool) : Option (Int × Int) :=
  bnd (m116 F a0 ((⟨0, 0, 0, 0⟩ : Ice)) a1) (fun v1 => brk (v1 != 0) (some (0, v1)) (join (fun (x1 : Int) => brk (decide (x1 < 0)) (some (0, 4)) (some (x1, 0))) (fun k1 => loopC (fun (x2 : Int × Int) n2 => brk (decide (x2.2 ≤ 400)) (join (fun (x3 : Int) => chk (InR (x2.2 + 1)) (n2 (x3, x2.2 + 1))) (fun k3 => bnd (m96 F a0 ((⟨100, x2.2, 0, 0⟩ : Ice)) a1 a2) (fun v2 => brk (v2) (k3 x2.2) (k3 x2.1)))) (k1 x2.1)) F ((-1), 0))))

def m54 (F : Nat) (a0 : Ship) (a1 : Ship) : Option (Int × Int) :=
  bnd (m47 F a0) (fun v1 => brk (v1 != 0) (some (0, v1)) (bnd (m47 F a1) (fun v2 => brk (v2 != 0) (some (0, v2)) (join (fun (_ : Unit) => some (0, 4)) (fun k1 => loopC (fun (x2 : Int) n2 => brk (decide (x2 ≤ 400)) (bnd (m117 F a0 ((⟨100, x2, 0, 0⟩ : Ice)) false) (fun v3 => bnd (m117 F a1 ((⟨100, x2, 0, 0⟩ : Ice)) false) (fun v4 => brk (decide (v3 < v4)) (some (x2, 0)) (chk (InR (x2 + 1)) (n2 (x2 + 1)))))) (k1 ())) F 0)))))

def m51 (F : Nat) (a0 : Ship) (a1 : Ship) : Option (Int × Int) :=
  join (fun (_ : Unit) => join (fun (_ : Unit) => some (0, 4)) (fun k2 => loopC (fun (x3 : Int) n3 => brk (decide (x3 < 401)) (chk (check a0 = 0) (chk (goodIce ((⟨100, x3, 0, 0⟩ : Ice))) (chk (check a1 = 0) (brk (decide ((speed a0 ((⟨100, x3, 0, 0⟩ : Ice)) false) < (speed a1 ((⟨100, x3, 0, 0⟩ : Ice)) false))) (some (x3, 0)) (chk (InR (x3 + 1)) (n3 (x3 + 1))))))) (k2 ())) F 0)) (fun k1 => brk ((check a0) != 0) (some (0, check a0)) (brk ((check a1) != 0) (some (0, check a1)) (k1 ())))

end Go.Proofs.T
