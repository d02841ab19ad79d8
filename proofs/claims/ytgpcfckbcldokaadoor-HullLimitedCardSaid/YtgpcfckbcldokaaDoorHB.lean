import Derived.Test.YtgpcfckbcldokaaDoorHA
namespace Go.Proofs.T
open Go Go.AX Go.RowKit Hull
theorem zl_28 : zeroL Tryd.prog 28 = some [(.int .i64 0), (.int .i64 0), (.int .i64 0), (.int .i64 0)] := by kernel_rfl
theorem fo_34_0 : fieldOff Tryd.prog 34 0 = some 0 := by kernel_rfl
theorem fo_32_0 : fieldOff Tryd.prog 32 0 = some 0 := by kernel_rfl
theorem fo_34_1 : fieldOff Tryd.prog 34 1 = some 2 := by kernel_rfl
theorem fo_34_2 : fieldOff Tryd.prog 34 2 = some 4 := by kernel_rfl
theorem fo_34_3 : fieldOff Tryd.prog 34 3 = some 6 := by kernel_rfl
theorem sz_28 : sizeIn Tryd.prog 28 = some 4 := by kernel_rfl
theorem sh_28 : shapeOf Tryd.prog 28 = some (some 4) := by kernel_rfl
theorem fo_32_1 : fieldOff Tryd.prog 32 1 = some 1 := by kernel_rfl
theorem fo_28_1 : fieldOff Tryd.prog 28 1 = some 1 := by kernel_rfl
theorem fo_28_2 : fieldOff Tryd.prog 28 2 = some 2 := by kernel_rfl
theorem fo_28_0 : fieldOff Tryd.prog 28 0 = some 0 := by kernel_rfl
theorem fo_28_3 : fieldOff Tryd.prog 28 3 = some 3 := by kernel_rfl
theorem zl_86 : zeroL Tryd.prog 86 = some [(.int .i64 0), (.int .i64 0)] := by kernel_rfl
theorem sz_86 : sizeIn Tryd.prog 86 = some 2 := by kernel_rfl
theorem sh_86 : shapeOf Tryd.prog 86 = some (some 2) := by kernel_rfl
theorem en_109 : Proofs.Enters Tryd.prog 109 := Proofs.enters_of Tryd.func109 (by kernel_rfl) rfl
theorem en_108 : Proofs.Enters Tryd.prog 108 := Proofs.enters_of Tryd.func108 (by kernel_rfl) rfl

theorem c88 (c : Cell) (w : World)  : Calls Tryd.prog 88 #[.agg #[.int .i64 c.Conc.Lo, .int .i64 c.Conc.Hi, .int .i64 c.Thick.Lo, .int .i64 c.Thick.Hi, .int .i64 c.Ridge.Lo, .int .i64 c.Ridge.Hi, .int .i64 c.Press.Lo, .int .i64 c.Press.Hi]] w fun e w' => e = .returned (.agg #[.int .i64 ((firstI c).Conc), .int .i64 ((firstI c).Thick), .int .i64 ((firstI c).Ridge), .int .i64 ((firstI c).Press)]) ∧ Below w.heap.size w w' := by
  refine enter (args := [.g [.v (.int .i64 c.Conc.Lo), .v (.int .i64 c.Conc.Hi), .v (.int .i64 c.Thick.Lo), .v (.int .i64 c.Thick.Hi), .v (.int .i64 c.Ridge.Lo), .v (.int .i64 c.Ridge.Hi), .v (.int .i64 c.Press.Lo), .v (.int .i64 c.Press.Hi)]]) Tryd.func88 rfl (N := 16) rfl (Nat.le_of_ble_eq_true rfl) ?_
  refine aw_seq ?_
  refine aw_text (rows := [_, _]) rfl (by kernel_rfl) ⟨
    ok_plain rfl rfl (op_boxN (L := 1) (ltN rfl) rfl rfl rfl),
    ok_plain rfl rfl (op_alloc (L := 2) (ltN rfl) zl_28),
    trivial⟩ ?_
  refine fin_keep (s' := [(.t 1, some (.x (.p 1 0))), (.t 2, some (.x (.p 2 0))), (.b 1, some (.sh 34 8)), (.b 2, some (.sh 28 4)), (.c 1 0, some (.x (.v (.int .i64 c.Conc.Lo)))), (.c 1 1, some (.x (.v (.int .i64 c.Conc.Hi)))), (.c 1 2, some (.x (.v (.int .i64 c.Thick.Lo)))), (.c 1 3, some (.x (.v (.int .i64 c.Thick.Hi)))), (.c 1 4, some (.x (.v (.int .i64 c.Ridge.Lo)))), (.c 1 5, some (.x (.v (.int .i64 c.Ridge.Hi)))), (.c 1 6, some (.x (.v (.int .i64 c.Press.Lo)))), (.c 1 7, some (.x (.v (.int .i64 c.Press.Hi)))), (.c 2 0, some (.x (.v (.int .i64 0)))), (.c 2 1, some (.x (.v (.int .i64 0)))), (.c 2 2, some (.x (.v (.int .i64 0)))), (.c 2 3, some (.x (.v (.int .i64 0))))]) ?_ ⟨rfl, rfl, rfl, rfl, rfl, rfl, rfl, rfl, rfl, rfl, rfl, rfl, rfl, rfl, rfl, rfl, trivial⟩ rfl
  refine fin_then ?_
  refine aw_seq ?_
  refine aw_text (rows := [_, _, _, _, _, _, _, _, _, _, _, _, _, _]) rfl (by kernel_rfl) ⟨
    ok_plain rfl rfl (op_fieldAddr (ltN rfl) rfl fo_34_0),
    ok_plain rfl rfl (op_fieldAddr (ltN rfl) rfl fo_32_0),
    ok_plain rfl rfl (op_load1 (ltN rfl) sh_3 rfl rfl),
    ok_plain rfl rfl (op_fieldAddr (ltN rfl) rfl fo_34_1),
    ok_plain rfl rfl (op_fieldAddr (ltN rfl) rfl fo_32_0),
    ok_plain rfl rfl (op_load1 (ltN rfl) sh_3 rfl rfl),
    ok_plain rfl rfl (op_fieldAddr (ltN rfl) rfl fo_34_2),
    ok_plain rfl rfl (op_fieldAddr (ltN rfl) rfl fo_32_0),
    ok_plain rfl rfl (op_load1 (ltN rfl) sh_3 rfl rfl),
    ok_plain rfl rfl (op_fieldAddr (ltN rfl) rfl fo_34_3),
    ok_plain rfl rfl (op_fieldAddr (ltN rfl) rfl fo_32_0),
    ok_plain rfl rfl (op_load1 (ltN rfl) sh_3 rfl rfl),
    ok_plain rfl rfl (op_build (x := .g [.v (.int .i64 c.Conc.Lo), .v (.int .i64 c.Thick.Lo), .v (.int .i64 c.Ridge.Lo), .v (.int .i64 c.Press.Lo)]) (ltN rfl) (EvL.cons rfl (EvL.cons rfl (EvL.cons rfl (EvL.cons rfl EvL.nil)))) (fun m w => by kernel_rfl)),
    ok_plain rfl rfl (op_storeN sz_28 rfl rfl rfl rfl rfl (by decide)),
    trivial⟩ ?_
  refine fin_keep (s' := [(.t 2, some (.x (.p 2 0))), (.b 2, some (.sh 28 4)), (.c 2 0, some (.x (.v (.int .i64 c.Conc.Lo)))), (.c 2 1, some (.x (.v (.int .i64 c.Thick.Lo)))), (.c 2 2, some (.x (.v (.int .i64 c.Ridge.Lo)))), (.c 2 3, some (.x (.v (.int .i64 c.Press.Lo))))]) ?_ ⟨rfl, rfl, rfl, rfl, rfl, rfl, trivial⟩ rfl
  refine fin_then ?_
  refine aw_ret ?_
  refine post_ret (x := .g [.v (.int .i64 c.Conc.Lo), .v (.int .i64 c.Thick.Lo), .v (.int .i64 c.Ridge.Lo), .v (.int .i64 c.Press.Lo)]) rfl rfl (resOK_cellN (ys := [.v (.int .i64 c.Conc.Lo), .v (.int .i64 c.Thick.Lo), .v (.int .i64 c.Ridge.Lo), .v (.int .i64 c.Press.Lo)]) rfl sh_28 rfl ⟨rfl, rfl, rfl, rfl, trivial⟩ resOK_nil) rfl (fun mm aa ww hr => ?_)
  show Ending.returned (.agg #[.int .i64 c.Conc.Lo, .int .i64 c.Thick.Lo, .int .i64 c.Ridge.Lo, .int .i64 c.Press.Lo]) = _ ∧ _
  first
    | exact ⟨rfl, hr.below⟩

theorem c100 (c : Cell) (w : World)  : Calls Tryd.prog 100 #[.agg #[.int .i64 c.Conc.Lo, .int .i64 c.Conc.Hi, .int .i64 c.Thick.Lo, .int .i64 c.Thick.Hi, .int .i64 c.Ridge.Lo, .int .i64 c.Ridge.Hi, .int .i64 c.Press.Lo, .int .i64 c.Press.Hi]] w fun e w' => e = .returned (.agg #[.int .i64 ((lastI c).Conc), .int .i64 ((lastI c).Thick), .int .i64 ((lastI c).Ridge), .int .i64 ((lastI c).Press)]) ∧ Below w.heap.size w w' := by
  refine enter (args := [.g [.v (.int .i64 c.Conc.Lo), .v (.int .i64 c.Conc.Hi), .v (.int .i64 c.Thick.Lo), .v (.int .i64 c.Thick.Hi), .v (.int .i64 c.Ridge.Lo), .v (.int .i64 c.Ridge.Hi), .v (.int .i64 c.Press.Lo), .v (.int .i64 c.Press.Hi)]]) Tryd.func100 rfl (N := 16) rfl (Nat.le_of_ble_eq_true rfl) ?_
  refine aw_seq ?_
  refine aw_text (rows := [_, _]) rfl (by kernel_rfl) ⟨
    ok_plain rfl rfl (op_boxN (L := 1) (ltN rfl) rfl rfl rfl),
    ok_plain rfl rfl (op_alloc (L := 2) (ltN rfl) zl_28),
    trivial⟩ ?_
  refine fin_keep (s' := [(.t 1, some (.x (.p 1 0))), (.t 2, some (.x (.p 2 0))), (.b 1, some (.sh 34 8)), (.b 2, some (.sh 28 4)), (.c 1 0, some (.x (.v (.int .i64 c.Conc.Lo)))), (.c 1 1, some (.x (.v (.int .i64 c.Conc.Hi)))), (.c 1 2, some (.x (.v (.int .i64 c.Thick.Lo)))), (.c 1 3, some (.x (.v (.int .i64 c.Thick.Hi)))), (.c 1 4, some (.x (.v (.int .i64 c.Ridge.Lo)))), (.c 1 5, some (.x (.v (.int .i64 c.Ridge.Hi)))), (.c 1 6, some (.x (.v (.int .i64 c.Press.Lo)))), (.c 1 7, some (.x (.v (.int .i64 c.Press.Hi)))), (.c 2 0, some (.x (.v (.int .i64 0)))), (.c 2 1, some (.x (.v (.int .i64 0)))), (.c 2 2, some (.x (.v (.int .i64 0)))), (.c 2 3, some (.x (.v (.int .i64 0))))]) ?_ ⟨rfl, rfl, rfl, rfl, rfl, rfl, rfl, rfl, rfl, rfl, rfl, rfl, rfl, rfl, rfl, rfl, trivial⟩ rfl
  refine fin_then ?_
  refine aw_seq ?_
  refine aw_text (rows := [_, _, _, _, _, _, _, _, _, _, _, _, _, _]) rfl (by kernel_rfl) ⟨
    ok_plain rfl rfl (op_fieldAddr (ltN rfl) rfl fo_34_0),
    ok_plain rfl rfl (op_fieldAddr (ltN rfl) rfl fo_32_1),
    ok_plain rfl rfl (op_load1 (ltN rfl) sh_3 rfl rfl),
    ok_plain rfl rfl (op_fieldAddr (ltN rfl) rfl fo_34_1),
    ok_plain rfl rfl (op_fieldAddr (ltN rfl) rfl fo_32_1),
    ok_plain rfl rfl (op_load1 (ltN rfl) sh_3 rfl rfl),
    ok_plain rfl rfl (op_fieldAddr (ltN rfl) rfl fo_34_2),
    ok_plain rfl rfl (op_fieldAddr (ltN rfl) rfl fo_32_1),
    ok_plain rfl rfl (op_load1 (ltN rfl) sh_3 rfl rfl),
    ok_plain rfl rfl (op_fieldAddr (ltN rfl) rfl fo_34_3),
    ok_plain rfl rfl (op_fieldAddr (ltN rfl) rfl fo_32_1),
    ok_plain rfl rfl (op_load1 (ltN rfl) sh_3 rfl rfl),
    ok_plain rfl rfl (op_build (x := .g [.v (.int .i64 c.Conc.Hi), .v (.int .i64 c.Thick.Hi), .v (.int .i64 c.Ridge.Hi), .v (.int .i64 c.Press.Hi)]) (ltN rfl) (EvL.cons rfl (EvL.cons rfl (EvL.cons rfl (EvL.cons rfl EvL.nil)))) (fun m w => by kernel_rfl)),
    ok_plain rfl rfl (op_storeN sz_28 rfl rfl rfl rfl rfl (by decide)),
    trivial⟩ ?_
  refine fin_keep (s' := [(.t 2, some (.x (.p 2 0))), (.b 2, some (.sh 28 4)), (.c 2 0, some (.x (.v (.int .i64 c.Conc.Hi)))), (.c 2 1, some (.x (.v (.int .i64 c.Thick.Hi)))), (.c 2 2, some (.x (.v (.int .i64 c.Ridge.Hi)))), (.c 2 3, some (.x (.v (.int .i64 c.Press.Hi))))]) ?_ ⟨rfl, rfl, rfl, rfl, rfl, rfl, trivial⟩ rfl
  refine fin_then ?_
  refine aw_ret ?_
  refine post_ret (x := .g [.v (.int .i64 c.Conc.Hi), .v (.int .i64 c.Thick.Hi), .v (.int .i64 c.Ridge.Hi), .v (.int .i64 c.Press.Hi)]) rfl rfl (resOK_cellN (ys := [.v (.int .i64 c.Conc.Hi), .v (.int .i64 c.Thick.Hi), .v (.int .i64 c.Ridge.Hi), .v (.int .i64 c.Press.Hi)]) rfl sh_28 rfl ⟨rfl, rfl, rfl, rfl, trivial⟩ resOK_nil) rfl (fun mm aa ww hr => ?_)
  show Ending.returned (.agg #[.int .i64 c.Conc.Hi, .int .i64 c.Thick.Hi, .int .i64 c.Ridge.Hi, .int .i64 c.Press.Hi]) = _ ∧ _
  first
    | exact ⟨rfl, hr.below⟩

theorem c79 (i : Ice) (v : Int) (ch : Bool) (w : World) (hi : goodIce i) (hv : 0 ≤ v ∧ v ≤ 255) : Calls Tryd.prog 79 #[.agg #[.int .i64 i.Conc, .int .i64 i.Thick, .int .i64 i.Ridge, .int .i64 i.Press], .int .i64 v, .bool ch] w fun e w' => e = .returned (.int .i64 (loadI i v ch)) ∧ Below w.heap.size w w' := by
  have hib := goodIce_bd hi
  refine enter (args := [.g [.v (.int .i64 i.Conc), .v (.int .i64 i.Thick), .v (.int .i64 i.Ridge), .v (.int .i64 i.Press)], .v (.int .i64 v), .v (.bool ch)]) Tryd.func79 rfl (N := 31) rfl (Nat.le_of_ble_eq_true rfl) ?_
  refine aw_seq ?_
  refine aw_text (rows := [_, _]) rfl (by kernel_rfl) ⟨
    ok_plain rfl rfl (op_boxN (L := 1) (ltN rfl) rfl rfl rfl),
    ok_plain rfl rfl (op_assign (ltN rfl) rfl),
    trivial⟩ ?_
  refine fin_keep (s' := [(.t 1, some (.x (.v (.int .i64 v)))), (.t 2, some (.x (.v (.bool ch)))), (.t 3, some (.x (.p 1 0))), (.b 1, some (.sh 28 4)), (.c 1 0, some (.x (.v (.int .i64 i.Conc)))), (.c 1 1, some (.x (.v (.int .i64 i.Thick)))), (.c 1 2, some (.x (.v (.int .i64 i.Ridge)))), (.c 1 3, some (.x (.v (.int .i64 i.Press))))]) ?_ ⟨rfl, rfl, rfl, rfl, rfl, rfl, rfl, rfl, trivial⟩ rfl
  refine fin_then ?_
  refine aw_seq ?_
  have hm1 := mul_nn (x := i.Thick) (y := (100 + v)) (a := 0) (A := 400) (b := 100) (B := 355) (by omega) (by omega) (by decide) (by decide)
  refine aw_any (rows := [_, _, _, _, _, _, _, _, _]) (M := [0, 1, 0, 4, 15, 0, 32, 31, 255]) Tryd_mixed (by kernel_rfl) rfl (by kernel_rfl) ⟨
    ok_plain rfl rfl (op_fieldAddr (ltN rfl) rfl fo_28_1),
    ok_plain rfl rfl (op_load1 (ltN rfl) sh_3 rfl rfl),
    ok_plain rfl rfl (op_move (ltN rfl) rfl),
    ok_plain rfl rfl (op_bin (ltN rfl) rfl rfl (nw_add ⟨(by omega), (by omega)⟩)),
    ok_plain rfl rfl (op_bin (ltN rfl) rfl rfl (nw_mul ⟨(by omega), (by omega)⟩)),
    ok_plain rfl rfl (op_fieldAddr (ltN rfl) rfl fo_28_2),
    ok_plain rfl rfl (op_load1 (ltN rfl) sh_3 rfl rfl),
    ok_plain rfl rfl (op_assign (ltN rfl) rfl),
    ok_plain rfl rfl (op_assign (ltN rfl) rfl),
    trivial⟩ ?_
  refine fin_keep (s' := [(.t 2, some (.x (.v (.bool ch)))), (.t 3, some (.x (.p 1 0))), (.t 7, some (.x (.v (.int .i64 (i.Thick * (100 + v)))))), (.t 8, some (.x (.v (.int .i64 i.Ridge)))), (.b 1, some (.sh 28 4)), (.c 1 0, some (.x (.v (.int .i64 i.Conc)))), (.c 1 1, some (.x (.v (.int .i64 i.Thick)))), (.c 1 2, some (.x (.v (.int .i64 i.Ridge)))), (.c 1 3, some (.x (.v (.int .i64 i.Press))))]) ?_ ⟨rfl, rfl, rfl, rfl, rfl, rfl, rfl, rfl, rfl, trivial⟩ rfl
  refine fin_then ?_
  refine aw_seq ?_
  refine aw_seq ?_
  refine aw_text (rows := [_]) rfl (by kernel_rfl) ⟨
    ok_plain rfl rfl (op_move (ltN rfl) rfl),
    trivial⟩ ?_
  refine fin_keep (s' := [(.t 3, some (.x (.p 1 0))), (.t 7, some (.x (.v (.int .i64 (i.Thick * (100 + v)))))), (.t 8, some (.x (.v (.int .i64 i.Ridge)))), (.t 16, some (.x (.v (.bool ch)))), (.b 1, some (.sh 28 4)), (.c 1 0, some (.x (.v (.int .i64 i.Conc)))), (.c 1 1, some (.x (.v (.int .i64 i.Thick)))), (.c 1 2, some (.x (.v (.int .i64 i.Ridge)))), (.c 1 3, some (.x (.v (.int .i64 i.Press))))]) ?_ ⟨rfl, rfl, rfl, rfl, rfl, rfl, rfl, rfl, rfl, trivial⟩ rfl
  refine fin_then ?_
  refine aw_cond rfl (fun hz2 => ?_) (fun hz2 => ?_)
  · have _z := hz2
    have q3 := hz2
    refine aw_text (rows := [_, _, _, _, _]) rfl (by kernel_rfl) ⟨
      ok_plain rfl rfl (op_move (ltN rfl) rfl),
      ok_plain rfl rfl (op_bin (ltN rfl) rfl rfl (nw_add ⟨(by omega), (by omega)⟩)),
      ok_plain rfl rfl (op_quo (ltN rfl) rfl rfl (by decide) (quo_nn (by omega) (by omega) (by omega))),
      ok_plain rfl rfl (op_assign (ltN rfl) rfl),
      ok_plain rfl rfl (op_assign (ltN rfl) rfl),
      trivial⟩ ?_
    refine fin_keep (s' := [(.t 3, some (.x (.p 1 0))), (.t 7, some (.x (.v (.int .i64 (((i.Thick * (100 + v)) + 1) / 2))))), (.t 8, some (.x (.v (.int .i64 0)))), (.b 1, some (.sh 28 4)), (.c 1 0, some (.x (.v (.int .i64 i.Conc)))), (.c 1 1, some (.x (.v (.int .i64 i.Thick)))), (.c 1 2, some (.x (.v (.int .i64 i.Ridge)))), (.c 1 3, some (.x (.v (.int .i64 i.Press))))]) ?_ ⟨rfl, rfl, rfl, rfl, rfl, rfl, rfl, rfl, trivial⟩ rfl
    refine fin_then ?_
    refine aw_seq ?_
    refine aw_seq ?_
    refine aw_text (rows := [_, _, _]) rfl (by kernel_rfl) ⟨
      ok_plain rfl rfl (op_fieldAddr (ltN rfl) rfl fo_28_0),
      ok_plain rfl rfl (op_load1 (ltN rfl) sh_3 rfl rfl),
      ok_plain rfl rfl (op_bin (ltN rfl) rfl rfl rfl),
      trivial⟩ ?_
    refine fin_keep (s' := [(.t 3, some (.x (.p 1 0))), (.t 7, some (.x (.v (.int .i64 (((i.Thick * (100 + v)) + 1) / 2))))), (.t 8, some (.x (.v (.int .i64 0)))), (.t 22, some (.x (.v (.bool (i.Conc == 0))))), (.b 1, some (.sh 28 4)), (.c 1 0, some (.x (.v (.int .i64 i.Conc)))), (.c 1 1, some (.x (.v (.int .i64 i.Thick)))), (.c 1 2, some (.x (.v (.int .i64 i.Ridge)))), (.c 1 3, some (.x (.v (.int .i64 i.Press))))]) ?_ ⟨rfl, rfl, rfl, rfl, rfl, rfl, rfl, rfl, rfl, trivial⟩ rfl
    refine fin_then ?_
    refine aw_cond rfl (fun hz4 => ?_) (fun hz4 => ?_)
    · have _z := hz4
      have q5 := eq_t hz4
      refine aw_seq ?_
      refine aw_text (rows := [_]) rfl (by kernel_rfl) ⟨
        ok_plain rfl rfl (op_assign (ltN rfl) rfl),
        trivial⟩ ?_
      refine fin_keep (s' := [(.t 6, some (.x (.v (.int .i64 0))))]) ?_ ⟨rfl, trivial⟩ rfl
      refine fin_then ?_
      refine aw_ret ?_
      refine fin_then_ret ?_
      refine post_ret (x := .v (.int .i64 0)) rfl rfl (resOK_tmp rfl resOK_nil) rfl (fun mm aa ww hr => ?_)
      show Ending.returned (.int .i64 0) = _ ∧ _
      exact ⟨by clear hr; simp_all [loadI], hr.below⟩
    · have _z := hz4
      have q6 := eq_f hz4
      refine aw_skip ?_
      refine fin_then ?_
      refine aw_seq ?_
      refine aw_text (rows := [_, _, _, _, _, _, _, _, _]) rfl (by kernel_rfl) ⟨
        ok_plain rfl rfl (op_move (ltN rfl) rfl),
        ok_plain rfl rfl (op_move (ltN rfl) rfl),
        ok_plain rfl rfl (op_bin (r := .int .i64 0) (ltN rfl) rfl rfl rfl),
        ok_plain rfl rfl (op_bin (ltN rfl) rfl rfl (nw_add ⟨(by omega), (by omega)⟩)),
        ok_plain rfl rfl (op_fieldAddr (ltN rfl) rfl fo_28_3),
        ok_plain rfl rfl (op_load1 (ltN rfl) sh_3 rfl rfl),
        ok_plain rfl rfl (op_bin (ltN rfl) rfl rfl (nw_mul ⟨(by omega), (by omega)⟩)),
        ok_plain rfl rfl (op_bin (ltN rfl) rfl rfl (nw_add ⟨(by omega), (by omega)⟩)),
        ok_plain rfl rfl (op_assign (ltN rfl) rfl),
        trivial⟩ ?_
      refine fin_keep (s' := [(.t 6, some (.x (.v (.int .i64 (((((i.Thick * (100 + v)) + 1) / 2) + 0) + (2000 * i.Press))))))]) ?_ ⟨rfl, trivial⟩ rfl
      refine fin_then ?_
      refine aw_ret ?_
      refine post_ret (x := .v (.int .i64 (((((i.Thick * (100 + v)) + 1) / 2) + 0) + (2000 * i.Press)))) rfl rfl (resOK_tmp rfl resOK_nil) rfl (fun mm aa ww hr => ?_)
      show Ending.returned (.int .i64 (((((i.Thick * (100 + v)) + 1) / 2) + 0) + (2000 * i.Press))) = _ ∧ _
      exact ⟨by clear hr; simp_all [loadI], hr.below⟩
  · have _z := hz2
    have q7 := hz2
    refine aw_skip ?_
    refine fin_then ?_
    refine aw_seq ?_
    refine aw_seq ?_
    refine aw_text (rows := [_, _, _]) rfl (by kernel_rfl) ⟨
      ok_plain rfl rfl (op_fieldAddr (ltN rfl) rfl fo_28_0),
      ok_plain rfl rfl (op_load1 (ltN rfl) sh_3 rfl rfl),
      ok_plain rfl rfl (op_bin (ltN rfl) rfl rfl rfl),
      trivial⟩ ?_
    refine fin_keep (s' := [(.t 3, some (.x (.p 1 0))), (.t 7, some (.x (.v (.int .i64 (i.Thick * (100 + v)))))), (.t 8, some (.x (.v (.int .i64 i.Ridge)))), (.t 22, some (.x (.v (.bool (i.Conc == 0))))), (.b 1, some (.sh 28 4)), (.c 1 0, some (.x (.v (.int .i64 i.Conc)))), (.c 1 1, some (.x (.v (.int .i64 i.Thick)))), (.c 1 2, some (.x (.v (.int .i64 i.Ridge)))), (.c 1 3, some (.x (.v (.int .i64 i.Press))))]) ?_ ⟨rfl, rfl, rfl, rfl, rfl, rfl, rfl, rfl, rfl, trivial⟩ rfl
    refine fin_then ?_
    refine aw_cond rfl (fun hz8 => ?_) (fun hz8 => ?_)
    · have _z := hz8
      have q9 := eq_t hz8
      refine aw_seq ?_
      refine aw_text (rows := [_]) rfl (by kernel_rfl) ⟨
        ok_plain rfl rfl (op_assign (ltN rfl) rfl),
        trivial⟩ ?_
      refine fin_keep (s' := [(.t 6, some (.x (.v (.int .i64 0))))]) ?_ ⟨rfl, trivial⟩ rfl
      refine fin_then ?_
      refine aw_ret ?_
      refine fin_then_ret ?_
      refine post_ret (x := .v (.int .i64 0)) rfl rfl (resOK_tmp rfl resOK_nil) rfl (fun mm aa ww hr => ?_)
      show Ending.returned (.int .i64 0) = _ ∧ _
      exact ⟨by clear hr; simp_all [loadI], hr.below⟩
    · have _z := hz8
      have q10 := eq_f hz8
      refine aw_skip ?_
      refine fin_then ?_
      refine aw_seq ?_
      refine aw_text (rows := [_, _, _, _, _, _, _, _, _]) rfl (by kernel_rfl) ⟨
        ok_plain rfl rfl (op_move (ltN rfl) rfl),
        ok_plain rfl rfl (op_move (ltN rfl) rfl),
        ok_plain rfl rfl (op_bin (ltN rfl) rfl rfl (nw_mul ⟨(by omega), (by omega)⟩)),
        ok_plain rfl rfl (op_bin (ltN rfl) rfl rfl (nw_add ⟨(by omega), (by omega)⟩)),
        ok_plain rfl rfl (op_fieldAddr (ltN rfl) rfl fo_28_3),
        ok_plain rfl rfl (op_load1 (ltN rfl) sh_3 rfl rfl),
        ok_plain rfl rfl (op_bin (ltN rfl) rfl rfl (nw_mul ⟨(by omega), (by omega)⟩)),
        ok_plain rfl rfl (op_bin (ltN rfl) rfl rfl (nw_add ⟨(by omega), (by omega)⟩)),
        ok_plain rfl rfl (op_assign (ltN rfl) rfl),
        trivial⟩ ?_
      refine fin_keep (s' := [(.t 6, some (.x (.v (.int .i64 (((i.Thick * (100 + v)) + (300 * i.Ridge)) + (2000 * i.Press))))))]) ?_ ⟨rfl, trivial⟩ rfl
      refine fin_then ?_
      refine aw_ret ?_
      refine post_ret (x := .v (.int .i64 (((i.Thick * (100 + v)) + (300 * i.Ridge)) + (2000 * i.Press)))) rfl rfl (resOK_tmp rfl resOK_nil) rfl (fun mm aa ww hr => ?_)
      show Ending.returned (.int .i64 (((i.Thick * (100 + v)) + (300 * i.Ridge)) + (2000 * i.Press))) = _ ∧ _
      exact ⟨by clear hr; simp_all [loadI], hr.below⟩

theorem c108 (n : Int) (d : Int) (w : World) (hn : 0 ≤ n ∧ n ≤ 1000000000) (hd : 1 ≤ d ∧ d ≤ 1000000000) : Calls Tryd.prog 108 #[.int .i64 n, .int .i64 d] w fun e w' => e = .returned (.agg #[.int .i64 ((lowest n d).1), .int .i64 ((lowest n d).2)]) ∧ Below w.heap.size w w' := by
  refine enter (args := [.v (.int .i64 n), .v (.int .i64 d)]) Tryd.func108 rfl (N := 22) rfl (Nat.le_of_ble_eq_true rfl) ?_
  refine aw_seq ?_
  refine aw_text (rows := [_]) rfl (by kernel_rfl) ⟨
    ok_plain rfl rfl (op_alloc (L := 1) (ltN rfl) zl_86),
    trivial⟩ ?_
  refine fin_keep (s' := [(.t 0, some (.x (.v (.int .i64 n)))), (.t 1, some (.x (.v (.int .i64 d)))), (.t 4, some (.x (.p 1 0))), (.b 1, some (.sh 86 2)), (.c 1 0, some (.x (.v (.int .i64 0)))), (.c 1 1, some (.x (.v (.int .i64 0))))]) ?_ ⟨rfl, rfl, rfl, rfl, rfl, rfl, trivial⟩ rfl
  refine fin_then ?_
  refine aw_seq ?_
  refine aw_text (rows := [_, _, _, _]) rfl (by kernel_rfl) ⟨
    ok_plain rfl rfl (op_move (ltN rfl) rfl),
    ok_plain rfl rfl (op_move (ltN rfl) rfl),
    ok_plain rfl rfl (op_assign (ltN rfl) rfl),
    ok_plain rfl rfl (op_assign (ltN rfl) rfl),
    trivial⟩ ?_
  refine fin_keep (s' := [(.t 0, some (.x (.v (.int .i64 n)))), (.t 1, some (.x (.v (.int .i64 d)))), (.t 4, some (.x (.p 1 0))), (.t 5, some (.x (.v (.int .i64 n)))), (.t 6, some (.x (.v (.int .i64 d)))), (.b 1, some (.sh 86 2)), (.c 1 0, some (.x (.v (.int .i64 0)))), (.c 1 1, some (.x (.v (.int .i64 0))))]) ?_ ⟨rfl, rfl, rfl, rfl, rfl, rfl, rfl, rfl, trivial⟩ rfl
  refine fin_then ?_
  refine aw_seq ?_
  refine aw_block ?_
  refine AW.keep (s' := (fun (q : Int × Int) => [(.t 0, some (.x (.v (.int .i64 n)))), (.t 1, some (.x (.v (.int .i64 d)))), (.t 4, some (.x (.p 1 0))), (.t 5, some (.x (.v (.int .i64 q.1)))), (.t 6, some (.x (.v (.int .i64 q.2)))), (.b 1, some (.sh 86 2)), (.c 1 0, some (.x (.v (.int .i64 0)))), (.c 1 1, some (.x (.v (.int .i64 0))))]) ((n, d))) ?_ ⟨rfl, rfl, rfl, rfl, rfl, rfl, rfl, rfl, trivial⟩ rfl
  refine aw_loop (ι := Int × Int) (fun q => 0 ≤ q.1 ∧ q.1 ≤ 1000000000 ∧ 0 ≤ q.2 ∧ q.2 ≤ 1000000000 ∧ (0 < q.1 ∨ 0 < q.2) ∧ Int.gcd q.1 q.2 = Int.gcd n d) (fun q => [(.t 0, some (.x (.v (.int .i64 n)))), (.t 1, some (.x (.v (.int .i64 d)))), (.t 4, some (.x (.p 1 0))), (.t 5, some (.x (.v (.int .i64 q.1)))), (.t 6, some (.x (.v (.int .i64 q.2)))), (.b 1, some (.sh 86 2)), (.c 1 0, some (.x (.v (.int .i64 0)))), (.c 1 1, some (.x (.v (.int .i64 0))))]) (fun q => q.2.toNat) ⟨hn.1, hn.2, by omega, hd.2, .inr (by omega), rfl⟩ (fun q hI => ?_)
  obtain ⟨h1, h2, h3, h4, h5, hg⟩ := hI
  refine aw_seq ?_
  refine aw_seq ?_
  refine aw_text (rows := [_, _]) rfl (by kernel_rfl) ⟨
    ok_plain rfl rfl (op_move (ltN rfl) rfl),
    ok_plain rfl rfl (op_bin (ltN rfl) rfl rfl rfl),
    trivial⟩ ?_
  refine fin_keep (s' := [(.t 0, some (.x (.v (.int .i64 n)))), (.t 1, some (.x (.v (.int .i64 d)))), (.t 4, some (.x (.p 1 0))), (.t 5, some (.x (.v (.int .i64 q.1)))), (.t 6, some (.x (.v (.int .i64 q.2)))), (.t 10, some (.x (.v (.bool (q.2 != 0))))), (.b 1, some (.sh 86 2)), (.c 1 0, some (.x (.v (.int .i64 0)))), (.c 1 1, some (.x (.v (.int .i64 0))))]) ?_ ⟨rfl, rfl, rfl, rfl, rfl, rfl, rfl, rfl, rfl, trivial⟩ rfl
  refine fin_then ?_
  refine aw_cond rfl (fun hz1 => ?_) (fun hz1 => ?_)
  · have _z := hz1
    have q2 := ne_t hz1
    refine aw_skip ?_
    refine fin_then ?_
    refine aw_block ?_
    have hq1 := Int.emod_nonneg q.1 (b := q.2) (by omega)
    have hq2 := Int.emod_lt_of_pos q.1 (b := q.2) (by omega)
    refine aw_any (rows := [_, _, _, _, _, _]) (M := [0, 0, 0, 6, 3, 31]) Tryd_mixed (by kernel_rfl) rfl (by kernel_rfl) ⟨
      ok_plain rfl rfl (op_move (ltN rfl) rfl),
      ok_plain rfl rfl (op_move (ltN rfl) rfl),
      ok_plain rfl rfl (op_move (ltN rfl) rfl),
      ok_plain rfl rfl (op_rem (ltN rfl) rfl rfl (by omega) (rem_nn (by omega) (by omega) (by omega))),
      ok_plain rfl rfl (op_assign (ltN rfl) rfl),
      ok_plain rfl rfl (op_assign (ltN rfl) rfl),
      trivial⟩ ?_
    refine fin_keep (s' := [(.t 0, some (.x (.v (.int .i64 n)))), (.t 1, some (.x (.v (.int .i64 d)))), (.t 4, some (.x (.p 1 0))), (.t 5, some (.x (.v (.int .i64 q.2)))), (.t 6, some (.x (.v (.int .i64 (q.1 % q.2))))), (.b 1, some (.sh 86 2)), (.c 1 0, some (.x (.v (.int .i64 0)))), (.c 1 1, some (.x (.v (.int .i64 0))))]) ?_ ⟨rfl, rfl, rfl, rfl, rfl, rfl, rfl, rfl, trivial⟩ rfl
    refine fin_block ?_
    exact fin_loop (q.2, q.1 % q.2) ⟨h3, h4, hq1, by omega, .inl (by omega), by rw [← hg]; exact gcd_step h1 h3⟩ (by show (q.1 % q.2).toNat < q.2.toNat; omega) ⟨rfl, rfl, rfl, rfl, rfl, rfl, rfl, rfl, trivial⟩ rfl
  · have _z := hz1
    have q3 := ne_f hz1
    refine aw_exit ?_
    refine fin_then_exit ?_
    refine fin_then_exit ?_
    refine fin_block_exit ?_
    refine fin_then ?_
    refine aw_seq ?_
    have hgq : q.1 = (Int.gcd n d : Int) := by rw [← hg, show q.2 = 0 by omega]; simp; omega
    refine aw_any (rows := [_, _, _, _, _, _, _, _]) (M := [0, 0, 3, 0, 0, 24, 63, 127]) Tryd_mixed (by kernel_rfl) rfl (by kernel_rfl) ⟨
      ok_plain rfl rfl (op_move (ltN rfl) rfl),
      ok_plain rfl rfl (op_move (ltN rfl) rfl),
      ok_plain rfl rfl (op_quo (ltN rfl) rfl rfl (by omega) (quo_nn (by omega) (by omega) (by omega))),
      ok_plain rfl rfl (op_move (ltN rfl) rfl),
      ok_plain rfl rfl (op_move (ltN rfl) rfl),
      ok_plain rfl rfl (op_quo (ltN rfl) rfl rfl (by omega) (quo_nn (by omega) (by omega) (by omega))),
      ok_plain rfl rfl (op_build (x := .g [.v (.int .i64 (n / q.1)), .v (.int .i64 (d / q.1))]) (ltN rfl) (EvL.cons rfl (EvL.cons rfl EvL.nil)) (fun m w => by kernel_rfl)),
      ok_plain rfl rfl (op_storeN sz_86 rfl rfl rfl rfl rfl (by decide)),
      trivial⟩ ?_
    refine fin_keep (s' := [(.t 4, some (.x (.p 1 0))), (.b 1, some (.sh 86 2)), (.c 1 0, some (.x (.v (.int .i64 (n / q.1))))), (.c 1 1, some (.x (.v (.int .i64 (d / q.1)))))]) ?_ ⟨rfl, rfl, rfl, rfl, trivial⟩ rfl
    refine fin_then ?_
    refine aw_ret ?_
    refine post_ret (x := .g [.v (.int .i64 (n / q.1)), .v (.int .i64 (d / q.1))]) rfl rfl (resOK_cellN (ys := [.v (.int .i64 (n / q.1)), .v (.int .i64 (d / q.1))]) rfl sh_86 rfl ⟨rfl, rfl, trivial⟩ resOK_nil) rfl (fun mm aa ww hr => ?_)
    show Ending.returned (.agg #[.int .i64 (n / q.1), .int .i64 (d / q.1)]) = _ ∧ _
    rw [show n / q.1 = (lowest n d).1 by rw [lowest, hgq], show d / q.1 = (lowest n d).2 by rw [lowest, hgq]]
    exact ⟨rfl, hr.below⟩

theorem c43 (l : List Pt) (l_s : SlV) (x : Int) (w : World) (hl : SlIs encPt 2 w l_s l) : Calls Tryd.prog 43 #[.slice l_s.p l_s.n l_s.c, .int .i64 x] w fun e w' => e = .returned (.tuple #[.agg #[.int .i64 ((at_ l x).1.1), .int .i64 ((at_ l x).1.2)], .int .i64 ((at_ l x).2)]) ∧ Below w.heap.size w w' := by
  obtain ⟨l_p, l_n, l_c⟩ := l_s
  have hl_l : l_n = l.length := hl.1
  subst hl_l
  obtain ⟨l_b, l_o, hl_p, hl_L⟩ := SlAt.lies' hl
  refine enter (args := [.v (.slice l_p l.length l_c), .v (.int .i64 x)]) Tryd.func43 rfl (N := 22) rfl (Nat.le_of_ble_eq_true rfl) ?_
  refine aw_seq ?_
  refine aw_text (rows := [_, _]) rfl (by kernel_rfl) ⟨
    ok_plain rfl rfl (op_alloc (L := 1) (ltN rfl) zl_86),
    ok_plain rfl rfl (op_assign (ltN rfl) rfl),
    trivial⟩ ?_
  refine fin_keep (s' := [(.t 0, some (.x (.v (.slice l_p l.length l_c)))), (.t 1, some (.x (.v (.int .i64 x)))), (.t 4, some (.x (.p 1 0))), (.b 1, some (.sh 86 2)), (.c 1 0, some (.x (.v (.int .i64 0)))), (.c 1 1, some (.x (.v (.int .i64 0))))]) ?_ ⟨rfl, rfl, rfl, rfl, rfl, rfl, trivial⟩ rfl
  refine fin_then ?_
  refine aw_seq ?_
  refine aw_block ?_
  refine aw_seq ?_
  refine aw_text (rows := [_, _, _, _]) rfl (by kernel_rfl) ⟨
    ok_plain rfl rfl (op_move (ltN rfl) rfl),
    ok_plain rfl rfl (op_call (x := .v (.bool (curve l))) (fs := []) (caps := []) (extra := []) (ltN rfl) en_107 rfl ⟨rfl, rfl, rfl⟩ (EvL.cons rfl EvL.nil) (fun mm aa ww gg hr hrel => (c107 l ⟨l_p, l.length, l_c⟩ ww (SlIs.mono hl hrel.below)))),
    ok_plain rfl rfl (op_not (ltN rfl) rfl),
    ok_plain rfl rfl (op_assign (ltN rfl) rfl),
    trivial⟩ ?_
  refine fin_keep (s' := [(.t 0, some (.x (.v (.slice l_p l.length l_c)))), (.t 1, some (.x (.v (.int .i64 x)))), (.t 4, some (.x (.p 1 0))), (.t 6, some (.x (.v (.bool (!(curve l)))))), (.b 1, some (.sh 86 2)), (.c 1 0, some (.x (.v (.int .i64 0)))), (.c 1 1, some (.x (.v (.int .i64 0))))]) ?_ ⟨rfl, rfl, rfl, rfl, rfl, rfl, rfl, trivial⟩ rfl
  refine fin_then ?_
  refine aw_cond rfl (fun hz1 => ?_) (fun hz1 => ?_)
  · have _z := hz1
    have q2 := not_t hz1
    refine aw_seq ?_
    refine aw_text (rows := [_, _, _]) rfl (by kernel_rfl) ⟨
      ok_plain rfl rfl (op_build (x := .g [.v (.int .i64 0), .v (.int .i64 0)]) (ltN rfl) EvL.nil (fun m w => by kernel_rfl)),
      ok_plain rfl rfl (op_storeN sz_86 rfl rfl rfl rfl rfl (by decide)),
      ok_plain rfl rfl (op_assign (ltN rfl) rfl),
      trivial⟩ ?_
    refine fin_keep (s' := [(.t 4, some (.x (.p 1 0))), (.t 5, some (.x (.v (.int .i64 40)))), (.b 1, some (.sh 86 2)), (.c 1 0, some (.x (.v (.int .i64 0)))), (.c 1 1, some (.x (.v (.int .i64 0))))]) ?_ ⟨rfl, rfl, rfl, rfl, rfl, trivial⟩ rfl
    refine fin_then ?_
    refine aw_ret ?_
    refine fin_block_ret ?_
    refine fin_then_ret ?_
    refine post_ret (x := .t [.g [.v (.int .i64 0), .v (.int .i64 0)], .v (.int .i64 40)]) rfl rfl (resOK_cellN (ys := [.v (.int .i64 0), .v (.int .i64 0)]) rfl sh_86 rfl ⟨rfl, rfl, trivial⟩ (resOK_tmp rfl resOK_nil)) rfl (fun mm aa ww hr => ?_)
    show Ending.returned (.tuple #[.agg #[.int .i64 0, .int .i64 0], .int .i64 40]) = _ ∧ _
    exact ⟨by clear hr; simp_all [at_], hr.below⟩
  · have _z := hz1
    have q3 := not_f hz1
    refine aw_seq ?_
    refine aw_text (rows := [_, _, _, _]) rfl (by kernel_rfl) ⟨
      ok_plain rfl rfl (op_move (ltN rfl) rfl),
      ok_plain rfl rfl (op_call (x := .v (.bool (within x 0 1000))) (fs := []) (caps := []) (extra := []) (ltN rfl) en_84 rfl ⟨rfl, rfl, rfl⟩ (EvL.cons rfl (EvL.cons rfl (EvL.cons rfl EvL.nil))) (fun mm aa ww gg hr hrel => (c84 x 0 1000 ww))),
      ok_plain rfl rfl (op_not (ltN rfl) rfl),
      ok_plain rfl rfl (op_assign (ltN rfl) rfl),
      trivial⟩ ?_
    refine fin_keep (s' := [(.t 0, some (.x (.v (.slice l_p l.length l_c)))), (.t 1, some (.x (.v (.int .i64 x)))), (.t 4, some (.x (.p 1 0))), (.t 11, some (.x (.v (.bool (!(within x 0 1000)))))), (.b 1, some (.sh 86 2)), (.c 1 0, some (.x (.v (.int .i64 0)))), (.c 1 1, some (.x (.v (.int .i64 0))))]) ?_ ⟨rfl, rfl, rfl, rfl, rfl, rfl, rfl, trivial⟩ rfl
    refine fin_then ?_
    refine aw_cond rfl (fun hz4 => ?_) (fun hz4 => ?_)
    · have _z := hz4
      have q5 := within_f (not_t hz4)
      refine aw_seq ?_
      refine aw_text (rows := [_, _, _]) rfl (by kernel_rfl) ⟨
        ok_plain rfl rfl (op_build (x := .g [.v (.int .i64 0), .v (.int .i64 0)]) (ltN rfl) EvL.nil (fun m w => by kernel_rfl)),
        ok_plain rfl rfl (op_storeN sz_86 rfl rfl rfl rfl rfl (by decide)),
        ok_plain rfl rfl (op_assign (ltN rfl) rfl),
        trivial⟩ ?_
      refine fin_keep (s' := [(.t 4, some (.x (.p 1 0))), (.t 5, some (.x (.v (.int .i64 6)))), (.b 1, some (.sh 86 2)), (.c 1 0, some (.x (.v (.int .i64 0)))), (.c 1 1, some (.x (.v (.int .i64 0))))]) ?_ ⟨rfl, rfl, rfl, rfl, rfl, trivial⟩ rfl
      refine fin_then ?_
      refine aw_ret ?_
      refine fin_block_ret ?_
      refine fin_then_ret ?_
      refine post_ret (x := .t [.g [.v (.int .i64 0), .v (.int .i64 0)], .v (.int .i64 6)]) rfl rfl (resOK_cellN (ys := [.v (.int .i64 0), .v (.int .i64 0)]) rfl sh_86 rfl ⟨rfl, rfl, trivial⟩ (resOK_tmp rfl resOK_nil)) rfl (fun mm aa ww hr => ?_)
      show Ending.returned (.tuple #[.agg #[.int .i64 0, .int .i64 0], .int .i64 6]) = _ ∧ _
      exact ⟨by clear hr; simp_all [at_], hr.below⟩
    · have _z := hz4
      have q6 := within_t (not_f hz4)
      refine aw_skip ?_
      refine fin_block ?_
      refine fin_then ?_
      refine aw_seq ?_
      have hcv := not_f hz1
      have hxx := within_t (not_f hz4)
      have hvb := value_bd hcv hxx.1
      refine aw_text (rows := [_, _, _, _, _, _, _, _]) rfl (by kernel_rfl) ⟨
        ok_plain rfl rfl (op_move (ltN rfl) rfl),
        ok_plain rfl rfl (op_move (ltN rfl) rfl),
        ok_plain rfl rfl (op_call (x := .t [.v (.int .i64 ((value l x).1)), .v (.int .i64 ((value l x).2))]) (fs := []) (caps := []) (extra := []) (ltN rfl) en_109 rfl ⟨rfl, rfl, rfl⟩ (EvL.cons rfl (EvL.cons rfl EvL.nil)) (fun mm aa ww gg hr hrel => (c109 l ⟨l_p, l.length, l_c⟩ x ww (SlIs.mono hl hrel.below) (by first | assumption | omega) (by first | assumption | omega)))),
        ok_plain rfl rfl (op_extract (ltN rfl) rfl rfl),
        ok_plain rfl rfl (op_extract (ltN rfl) rfl rfl),
        ok_plain rfl rfl (op_call (x := .g [.v (.int .i64 ((lowest ((value l x).1) ((value l x).2)).1)), .v (.int .i64 ((lowest ((value l x).1) ((value l x).2)).2))]) (fs := []) (caps := []) (extra := []) (ltN rfl) en_108 rfl ⟨rfl, rfl, rfl⟩ (EvL.cons rfl (EvL.cons rfl EvL.nil)) (fun mm aa ww gg hr hrel => (c108 ((value l x).1) ((value l x).2) ww (by first | assumption | omega) (by first | assumption | omega)))),
        ok_plain rfl rfl (op_storeN sz_86 rfl rfl rfl rfl rfl (by decide)),
        ok_plain rfl rfl (op_assign (ltN rfl) rfl),
        trivial⟩ ?_
      refine fin_keep (s' := [(.t 4, some (.x (.p 1 0))), (.t 5, some (.x (.v (.int .i64 0)))), (.b 1, some (.sh 86 2)), (.c 1 0, some (.x (.v (.int .i64 ((lowest ((value l x).1) ((value l x).2)).1))))), (.c 1 1, some (.x (.v (.int .i64 ((lowest ((value l x).1) ((value l x).2)).2)))))]) ?_ ⟨rfl, rfl, rfl, rfl, rfl, trivial⟩ rfl
      refine fin_then ?_
      refine aw_ret ?_
      refine post_ret (x := .t [.g [.v (.int .i64 ((lowest ((value l x).1) ((value l x).2)).1)), .v (.int .i64 ((lowest ((value l x).1) ((value l x).2)).2))], .v (.int .i64 0)]) rfl rfl (resOK_cellN (ys := [.v (.int .i64 ((lowest ((value l x).1) ((value l x).2)).1)), .v (.int .i64 ((lowest ((value l x).1) ((value l x).2)).2))]) rfl sh_86 rfl ⟨rfl, rfl, trivial⟩ (resOK_tmp rfl resOK_nil)) rfl (fun mm aa ww hr => ?_)
      show Ending.returned (.tuple #[.agg #[.int .i64 ((lowest ((value l x).1) ((value l x).2)).1), .int .i64 ((lowest ((value l x).1) ((value l x).2)).2)], .int .i64 0]) = _ ∧ _
      exact ⟨by clear hr; simp_all [at_], hr.below⟩

end Go.Proofs.T
