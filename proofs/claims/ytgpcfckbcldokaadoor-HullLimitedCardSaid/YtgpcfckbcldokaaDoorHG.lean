import Derived.Test.YtgpcfckbcldokaaDoorHF
namespace Go.Proofs.T
open Go Go.AX Go.RowKit Hull
theorem zl_32 : zeroL Tryd.prog 32 = some [(.int .i64 0), (.int .i64 0)] := by kernel_rfl
theorem en_90 : Proofs.Enters Tryd.prog 90 := Proofs.enters_of Tryd.func90 (by kernel_rfl) rfl
theorem sz_32 : sizeIn Tryd.prog 32 = some 2 := by kernel_rfl
theorem ss_56 : sliceSz Tryd.prog 56 = some 2 := by kernel_rfl
theorem en_88 : Proofs.Enters Tryd.prog 88 := Proofs.enters_of Tryd.func88 (by kernel_rfl) rfl
theorem sz_3 : sizeIn Tryd.prog 3 = some 1 := by kernel_rfl

set_option maxHeartbeats 1000000 in
theorem c35 (s : Ship) (s_Thrust_s : SlV) (s_Water_s : SlV) (s_Ice_s : SlV) (c : Cell) (press : List Span) (press_s : SlV) (w : World) (hs_Thrust : SlIs encPt 2 w s_Thrust_s s.Thrust) (hs_Water : SlIs encPt 2 w s_Water_s s.Water) (hs_Ice : SlIs encPt 2 w s_Ice_s s.Ice) (hpress : SlIs encSpan 2 w press_s press) : Calls Tryd.prog 35 #[.agg #[.int .i64 s.Class, .int .i64 s.Power, .int .i64 s.Draught, .int .i64 s.Tonnes, .slice s_Thrust_s.p s_Thrust_s.n s_Thrust_s.c, .slice s_Water_s.p s_Water_s.n s_Water_s.c, .slice s_Ice_s.p s_Ice_s.n s_Ice_s.c, .int .i64 s.Slow, .int .i64 s.Brash, .int .i64 s.Ridge, .int .i64 s.Press], .agg #[.int .i64 c.Conc.Lo, .int .i64 c.Conc.Hi, .int .i64 c.Thick.Lo, .int .i64 c.Thick.Hi, .int .i64 c.Ridge.Lo, .int .i64 c.Ridge.Hi, .int .i64 c.Press.Lo, .int .i64 c.Press.Hi], .slice press_s.p press_s.n press_s.c] w fun e w' => e = .returned (.tuple #[.agg #[.int .i64 (((free s c press).1).Lo), .int .i64 (((free s c press).1).Hi)], .int .i64 ((free s c press).2)]) ∧ Below w.heap.size w w' := by
  obtain ⟨s_Thrust_p, s_Thrust_n, s_Thrust_c⟩ := s_Thrust_s
  have hs_Thrust_l : s_Thrust_n = s.Thrust.length := hs_Thrust.1
  subst hs_Thrust_l
  obtain ⟨s_Thrust_b, s_Thrust_o, hs_Thrust_p, hs_Thrust_L⟩ := SlAt.lies' hs_Thrust
  obtain ⟨s_Water_p, s_Water_n, s_Water_c⟩ := s_Water_s
  have hs_Water_l : s_Water_n = s.Water.length := hs_Water.1
  subst hs_Water_l
  obtain ⟨s_Water_b, s_Water_o, hs_Water_p, hs_Water_L⟩ := SlAt.lies' hs_Water
  obtain ⟨s_Ice_p, s_Ice_n, s_Ice_c⟩ := s_Ice_s
  have hs_Ice_l : s_Ice_n = s.Ice.length := hs_Ice.1
  subst hs_Ice_l
  obtain ⟨s_Ice_b, s_Ice_o, hs_Ice_p, hs_Ice_L⟩ := SlAt.lies' hs_Ice
  obtain ⟨press_p, press_n, press_c⟩ := press_s
  have hpress_l : press_n = press.length := hpress.1
  subst hpress_l
  obtain ⟨press_b, press_o, hpress_p, hpress_L⟩ := SlAt.lies' hpress
  refine enter (args := [.g [.v (.int .i64 s.Class), .v (.int .i64 s.Power), .v (.int .i64 s.Draught), .v (.int .i64 s.Tonnes), .v (.slice s_Thrust_p s.Thrust.length s_Thrust_c), .v (.slice s_Water_p s.Water.length s_Water_c), .v (.slice s_Ice_p s.Ice.length s_Ice_c), .v (.int .i64 s.Slow), .v (.int .i64 s.Brash), .v (.int .i64 s.Ridge), .v (.int .i64 s.Press)], .g [.v (.int .i64 c.Conc.Lo), .v (.int .i64 c.Conc.Hi), .v (.int .i64 c.Thick.Lo), .v (.int .i64 c.Thick.Hi), .v (.int .i64 c.Ridge.Lo), .v (.int .i64 c.Ridge.Hi), .v (.int .i64 c.Press.Lo), .v (.int .i64 c.Press.Hi)], .v (.slice press_p press.length press_c)]) Tryd.func35 rfl (N := 80) rfl (Nat.le_of_ble_eq_true rfl) ?_
  refine aw_seq ?_
  refine aw_text (rows := [_, _, _, _]) rfl (by kernel_rfl) ⟨
    ok_plain rfl rfl (op_boxN (L := 1) (ltN rfl) rfl rfl rfl),
    ok_plain rfl rfl (op_boxN (L := 2) (ltN rfl) rfl rfl rfl),
    ok_plain rfl rfl (op_alloc (L := 3) (ltN rfl) zl_32),
    ok_plain rfl rfl (op_assign (ltN rfl) rfl),
    trivial⟩ ?_
  refine fin_keep (s' := [(.t 2, some (.x (.v (.slice press_p press.length press_c)))), (.t 3, some (.x (.p 1 0))), (.t 4, some (.x (.p 2 0))), (.t 6, some (.x (.p 3 0))), (.b 1, some (.sh 25 11)), (.b 2, some (.sh 34 8)), (.b 3, some (.sh 32 2)), (.c 1 0, some (.x (.v (.int .i64 s.Class)))), (.c 1 1, some (.x (.v (.int .i64 s.Power)))), (.c 1 2, some (.x (.v (.int .i64 s.Draught)))), (.c 1 3, some (.x (.v (.int .i64 s.Tonnes)))), (.c 1 4, some (.x (.v (.slice s_Thrust_p s.Thrust.length s_Thrust_c)))), (.c 1 5, some (.x (.v (.slice s_Water_p s.Water.length s_Water_c)))), (.c 1 6, some (.x (.v (.slice s_Ice_p s.Ice.length s_Ice_c)))), (.c 1 7, some (.x (.v (.int .i64 s.Slow)))), (.c 1 8, some (.x (.v (.int .i64 s.Brash)))), (.c 1 9, some (.x (.v (.int .i64 s.Ridge)))), (.c 1 10, some (.x (.v (.int .i64 s.Press)))), (.c 2 0, some (.x (.v (.int .i64 c.Conc.Lo)))), (.c 2 1, some (.x (.v (.int .i64 c.Conc.Hi)))), (.c 2 2, some (.x (.v (.int .i64 c.Thick.Lo)))), (.c 2 3, some (.x (.v (.int .i64 c.Thick.Hi)))), (.c 2 4, some (.x (.v (.int .i64 c.Ridge.Lo)))), (.c 2 5, some (.x (.v (.int .i64 c.Ridge.Hi)))), (.c 2 6, some (.x (.v (.int .i64 c.Press.Lo)))), (.c 2 7, some (.x (.v (.int .i64 c.Press.Hi)))), (.c 3 0, some (.x (.v (.int .i64 0)))), (.c 3 1, some (.x (.v (.int .i64 0))))]) ?_ ⟨rfl, rfl, rfl, rfl, rfl, rfl, rfl, rfl, rfl, rfl, rfl, rfl, rfl, rfl, rfl, rfl, rfl, rfl, rfl, rfl, rfl, rfl, rfl, rfl, rfl, rfl, rfl, rfl, trivial⟩ rfl
  refine fin_then ?_
  refine aw_seq ?_
  refine aw_seq ?_
  refine aw_text (rows := [_, _, _, _]) rfl (by kernel_rfl) ⟨
    ok_plain rfl rfl (op_loadN (ys := [.v (.int .i64 s.Class), .v (.int .i64 s.Power), .v (.int .i64 s.Draught), .v (.int .i64 s.Tonnes), .v (.slice s_Thrust_p s.Thrust.length s_Thrust_c), .v (.slice s_Water_p s.Water.length s_Water_c), .v (.slice s_Ice_p s.Ice.length s_Ice_c), .v (.int .i64 s.Slow), .v (.int .i64 s.Brash), .v (.int .i64 s.Ridge), .v (.int .i64 s.Press)]) (ltN rfl) sh_25 rfl rfl ⟨rfl, rfl, rfl, rfl, rfl, rfl, rfl, rfl, rfl, rfl, rfl, trivial⟩),
    ok_plain rfl rfl (op_loadN (ys := [.v (.int .i64 c.Conc.Lo), .v (.int .i64 c.Conc.Hi), .v (.int .i64 c.Thick.Lo), .v (.int .i64 c.Thick.Hi), .v (.int .i64 c.Ridge.Lo), .v (.int .i64 c.Ridge.Hi), .v (.int .i64 c.Press.Lo), .v (.int .i64 c.Press.Hi)]) (ltN rfl) sh_34 rfl rfl ⟨rfl, rfl, rfl, rfl, rfl, rfl, rfl, rfl, trivial⟩),
    ok_plain rfl rfl (op_call (x := .v (.int .i64 (met s c))) (fs := []) (caps := []) (extra := []) (ltN rfl) en_90 rfl ⟨rfl, rfl, rfl⟩ (EvL.cons rfl (EvL.cons rfl EvL.nil)) (fun mm aa ww gg hr hrel => (c90 s ⟨s_Thrust_p, s.Thrust.length, s_Thrust_c⟩ ⟨s_Water_p, s.Water.length, s_Water_c⟩ ⟨s_Ice_p, s.Ice.length, s_Ice_c⟩ c ww (SlIs.mono hs_Thrust hrel.below) (SlIs.mono hs_Water hrel.below) (SlIs.mono hs_Ice hrel.below)))),
    ok_plain rfl rfl (op_assign (ltN rfl) rfl),
    trivial⟩ ?_
  refine fin_keep (s' := [(.t 2, some (.x (.v (.slice press_p press.length press_c)))), (.t 3, some (.x (.p 1 0))), (.t 4, some (.x (.p 2 0))), (.t 6, some (.x (.p 3 0))), (.t 8, some (.x (.v (.int .i64 (met s c))))), (.b 1, some (.sh 25 11)), (.b 2, some (.sh 34 8)), (.b 3, some (.sh 32 2)), (.c 1 0, some (.x (.v (.int .i64 s.Class)))), (.c 1 1, some (.x (.v (.int .i64 s.Power)))), (.c 1 2, some (.x (.v (.int .i64 s.Draught)))), (.c 1 3, some (.x (.v (.int .i64 s.Tonnes)))), (.c 1 4, some (.x (.v (.slice s_Thrust_p s.Thrust.length s_Thrust_c)))), (.c 1 5, some (.x (.v (.slice s_Water_p s.Water.length s_Water_c)))), (.c 1 6, some (.x (.v (.slice s_Ice_p s.Ice.length s_Ice_c)))), (.c 1 7, some (.x (.v (.int .i64 s.Slow)))), (.c 1 8, some (.x (.v (.int .i64 s.Brash)))), (.c 1 9, some (.x (.v (.int .i64 s.Ridge)))), (.c 1 10, some (.x (.v (.int .i64 s.Press)))), (.c 2 0, some (.x (.v (.int .i64 c.Conc.Lo)))), (.c 2 1, some (.x (.v (.int .i64 c.Conc.Hi)))), (.c 2 2, some (.x (.v (.int .i64 c.Thick.Lo)))), (.c 2 3, some (.x (.v (.int .i64 c.Thick.Hi)))), (.c 2 4, some (.x (.v (.int .i64 c.Ridge.Lo)))), (.c 2 5, some (.x (.v (.int .i64 c.Ridge.Hi)))), (.c 2 6, some (.x (.v (.int .i64 c.Press.Lo)))), (.c 2 7, some (.x (.v (.int .i64 c.Press.Hi)))), (.c 3 0, some (.x (.v (.int .i64 0)))), (.c 3 1, some (.x (.v (.int .i64 0))))]) ?_ ⟨rfl, rfl, rfl, rfl, rfl, rfl, rfl, rfl, rfl, rfl, rfl, rfl, rfl, rfl, rfl, rfl, rfl, rfl, rfl, rfl, rfl, rfl, rfl, rfl, rfl, rfl, rfl, rfl, rfl, trivial⟩ rfl
  refine fin_then ?_
  refine aw_seq ?_
  refine aw_text (rows := [_, _]) rfl (by kernel_rfl) ⟨
    ok_plain rfl rfl (op_move (ltN rfl) rfl),
    ok_plain rfl rfl (op_bin (ltN rfl) rfl rfl rfl),
    trivial⟩ ?_
  refine fin_keep (s' := [(.t 2, some (.x (.v (.slice press_p press.length press_c)))), (.t 3, some (.x (.p 1 0))), (.t 4, some (.x (.p 2 0))), (.t 6, some (.x (.p 3 0))), (.t 8, some (.x (.v (.int .i64 (met s c))))), (.t 18, some (.x (.v (.bool ((met s c) != 0))))), (.b 1, some (.sh 25 11)), (.b 2, some (.sh 34 8)), (.b 3, some (.sh 32 2)), (.c 1 0, some (.x (.v (.int .i64 s.Class)))), (.c 1 1, some (.x (.v (.int .i64 s.Power)))), (.c 1 2, some (.x (.v (.int .i64 s.Draught)))), (.c 1 3, some (.x (.v (.int .i64 s.Tonnes)))), (.c 1 4, some (.x (.v (.slice s_Thrust_p s.Thrust.length s_Thrust_c)))), (.c 1 5, some (.x (.v (.slice s_Water_p s.Water.length s_Water_c)))), (.c 1 6, some (.x (.v (.slice s_Ice_p s.Ice.length s_Ice_c)))), (.c 1 7, some (.x (.v (.int .i64 s.Slow)))), (.c 1 8, some (.x (.v (.int .i64 s.Brash)))), (.c 1 9, some (.x (.v (.int .i64 s.Ridge)))), (.c 1 10, some (.x (.v (.int .i64 s.Press)))), (.c 2 0, some (.x (.v (.int .i64 c.Conc.Lo)))), (.c 2 1, some (.x (.v (.int .i64 c.Conc.Hi)))), (.c 2 2, some (.x (.v (.int .i64 c.Thick.Lo)))), (.c 2 3, some (.x (.v (.int .i64 c.Thick.Hi)))), (.c 2 4, some (.x (.v (.int .i64 c.Ridge.Lo)))), (.c 2 5, some (.x (.v (.int .i64 c.Ridge.Hi)))), (.c 2 6, some (.x (.v (.int .i64 c.Press.Lo)))), (.c 2 7, some (.x (.v (.int .i64 c.Press.Hi)))), (.c 3 0, some (.x (.v (.int .i64 0)))), (.c 3 1, some (.x (.v (.int .i64 0))))]) ?_ ⟨rfl, rfl, rfl, rfl, rfl, rfl, rfl, rfl, rfl, rfl, rfl, rfl, rfl, rfl, rfl, rfl, rfl, rfl, rfl, rfl, rfl, rfl, rfl, rfl, rfl, rfl, rfl, rfl, rfl, rfl, trivial⟩ rfl
  refine fin_then ?_
  refine aw_cond rfl (fun hz1 => ?_) (fun hz1 => ?_)
  · have _z := hz1
    have q2 := ne_t hz1
    refine aw_seq ?_
    refine aw_text (rows := [_, _, _, _]) rfl (by kernel_rfl) ⟨
      ok_plain rfl rfl (op_build (x := .g [.v (.int .i64 0), .v (.int .i64 0)]) (ltN rfl) EvL.nil (fun m w => by kernel_rfl)),
      ok_plain rfl rfl (op_move (ltN rfl) rfl),
      ok_plain rfl rfl (op_storeN sz_32 rfl rfl rfl rfl rfl (by decide)),
      ok_plain rfl rfl (op_assign (ltN rfl) rfl),
      trivial⟩ ?_
    refine fin_keep (s' := [(.t 6, some (.x (.p 3 0))), (.t 7, some (.x (.v (.int .i64 (met s c))))), (.b 3, some (.sh 32 2)), (.c 3 0, some (.x (.v (.int .i64 0)))), (.c 3 1, some (.x (.v (.int .i64 0))))]) ?_ ⟨rfl, rfl, rfl, rfl, rfl, trivial⟩ rfl
    refine fin_then ?_
    refine aw_ret ?_
    refine fin_then_ret ?_
    refine post_ret (x := .t [.g [.v (.int .i64 0), .v (.int .i64 0)], .v (.int .i64 (met s c))]) rfl rfl (resOK_cellN (ys := [.v (.int .i64 0), .v (.int .i64 0)]) rfl sh_32 rfl ⟨rfl, rfl, trivial⟩ (resOK_tmp rfl resOK_nil)) rfl (fun mm aa ww hr => ?_)
    show Ending.returned (.tuple #[.agg #[.int .i64 0, .int .i64 0], .int .i64 (met s c)]) = _ ∧ _
    exact ⟨by rw [free, if_pos (ne_t hz1)], hr.below⟩
  · have _z := hz1
    have q3 := ne_f hz1
    refine aw_skip ?_
    refine fin_then ?_
    refine aw_seq ?_
    refine aw_seq ?_
    have hmet := met_ok (ne_f hz1)
    refine aw_text (rows := [_, _, _]) rfl (by kernel_rfl) ⟨
      ok_plain rfl rfl (op_move (ltN rfl) rfl),
      ok_plain rfl rfl (op_len (n := press.length) (ltN rfl) (by rw [ss_56]; rfl) rfl rfl),
      ok_plain rfl rfl (op_bin (ltN rfl) rfl rfl rfl),
      trivial⟩ ?_
    refine fin_keep (s' := [(.t 2, some (.x (.v (.slice press_p press.length press_c)))), (.t 3, some (.x (.p 1 0))), (.t 4, some (.x (.p 2 0))), (.t 6, some (.x (.p 3 0))), (.t 23, some (.x (.v (.bool (decide ((((press.length : Nat) : Int)) > 240)))))), (.b 1, some (.sh 25 11)), (.b 2, some (.sh 34 8)), (.b 3, some (.sh 32 2)), (.c 1 0, some (.x (.v (.int .i64 s.Class)))), (.c 1 1, some (.x (.v (.int .i64 s.Power)))), (.c 1 2, some (.x (.v (.int .i64 s.Draught)))), (.c 1 3, some (.x (.v (.int .i64 s.Tonnes)))), (.c 1 4, some (.x (.v (.slice s_Thrust_p s.Thrust.length s_Thrust_c)))), (.c 1 5, some (.x (.v (.slice s_Water_p s.Water.length s_Water_c)))), (.c 1 6, some (.x (.v (.slice s_Ice_p s.Ice.length s_Ice_c)))), (.c 1 7, some (.x (.v (.int .i64 s.Slow)))), (.c 1 8, some (.x (.v (.int .i64 s.Brash)))), (.c 1 9, some (.x (.v (.int .i64 s.Ridge)))), (.c 1 10, some (.x (.v (.int .i64 s.Press)))), (.c 2 0, some (.x (.v (.int .i64 c.Conc.Lo)))), (.c 2 1, some (.x (.v (.int .i64 c.Conc.Hi)))), (.c 2 2, some (.x (.v (.int .i64 c.Thick.Lo)))), (.c 2 3, some (.x (.v (.int .i64 c.Thick.Hi)))), (.c 2 4, some (.x (.v (.int .i64 c.Ridge.Lo)))), (.c 2 5, some (.x (.v (.int .i64 c.Ridge.Hi)))), (.c 2 6, some (.x (.v (.int .i64 c.Press.Lo)))), (.c 2 7, some (.x (.v (.int .i64 c.Press.Hi)))), (.c 3 0, some (.x (.v (.int .i64 0)))), (.c 3 1, some (.x (.v (.int .i64 0))))]) ?_ ⟨rfl, rfl, rfl, rfl, rfl, rfl, rfl, rfl, rfl, rfl, rfl, rfl, rfl, rfl, rfl, rfl, rfl, rfl, rfl, rfl, rfl, rfl, rfl, rfl, rfl, rfl, rfl, rfl, rfl, trivial⟩ rfl
    refine fin_then ?_
    refine aw_cond rfl (fun hz4 => ?_) (fun hz4 => ?_)
    · have _z := hz4
      have q5 := of_decide_eq_true hz4
      refine aw_seq ?_
      refine aw_text (rows := [_, _, _]) rfl (by kernel_rfl) ⟨
        ok_plain rfl rfl (op_build (x := .g [.v (.int .i64 0), .v (.int .i64 0)]) (ltN rfl) EvL.nil (fun m w => by kernel_rfl)),
        ok_plain rfl rfl (op_storeN sz_32 rfl rfl rfl rfl rfl (by decide)),
        ok_plain rfl rfl (op_assign (ltN rfl) rfl),
        trivial⟩ ?_
      refine fin_keep (s' := [(.t 6, some (.x (.p 3 0))), (.t 7, some (.x (.v (.int .i64 2)))), (.b 3, some (.sh 32 2)), (.c 3 0, some (.x (.v (.int .i64 0)))), (.c 3 1, some (.x (.v (.int .i64 0))))]) ?_ ⟨rfl, rfl, rfl, rfl, rfl, trivial⟩ rfl
      refine fin_then ?_
      refine aw_ret ?_
      refine fin_then_ret ?_
      refine post_ret (x := .t [.g [.v (.int .i64 0), .v (.int .i64 0)], .v (.int .i64 2)]) rfl rfl (resOK_cellN (ys := [.v (.int .i64 0), .v (.int .i64 0)]) rfl sh_32 rfl ⟨rfl, rfl, trivial⟩ (resOK_tmp rfl resOK_nil)) rfl (fun mm aa ww hr => ?_)
      show Ending.returned (.tuple #[.agg #[.int .i64 0, .int .i64 0], .int .i64 2]) = _ ∧ _
      exact ⟨by rw [free, if_neg (by rw [ne_f hz1]; decide), if_pos (of_decide_eq_true hz4)], hr.below⟩
    · have _z := hz4
      have q6 := of_decide_eq_false hz4
      refine aw_skip ?_
      refine fin_then ?_
      refine aw_seq ?_
      refine aw_seq ?_
      refine aw_text (rows := [_, _, _]) rfl (by kernel_rfl) ⟨
        ok_plain rfl rfl (op_move (ltN rfl) rfl),
        ok_plain rfl rfl (op_len (n := press.length) (ltN rfl) (by rw [ss_56]; rfl) rfl rfl),
        ok_plain rfl rfl (op_move (ltN rfl) rfl),
        trivial⟩ ?_
      refine fin_keep (s' := [(.t 2, some (.x (.v (.slice press_p press.length press_c)))), (.t 3, some (.x (.p 1 0))), (.t 4, some (.x (.p 2 0))), (.t 6, some (.x (.p 3 0))), (.t 25, some (.x (.v (.slice press_p press.length press_c)))), (.t 26, some (.x (.v (.int .i64 (((press.length : Nat) : Int)))))), (.t 27, some (.x (.v (.int .i64 0)))), (.b 1, some (.sh 25 11)), (.b 2, some (.sh 34 8)), (.b 3, some (.sh 32 2)), (.c 1 0, some (.x (.v (.int .i64 s.Class)))), (.c 1 1, some (.x (.v (.int .i64 s.Power)))), (.c 1 2, some (.x (.v (.int .i64 s.Draught)))), (.c 1 3, some (.x (.v (.int .i64 s.Tonnes)))), (.c 1 4, some (.x (.v (.slice s_Thrust_p s.Thrust.length s_Thrust_c)))), (.c 1 5, some (.x (.v (.slice s_Water_p s.Water.length s_Water_c)))), (.c 1 6, some (.x (.v (.slice s_Ice_p s.Ice.length s_Ice_c)))), (.c 1 7, some (.x (.v (.int .i64 s.Slow)))), (.c 1 8, some (.x (.v (.int .i64 s.Brash)))), (.c 1 9, some (.x (.v (.int .i64 s.Ridge)))), (.c 1 10, some (.x (.v (.int .i64 s.Press)))), (.c 2 0, some (.x (.v (.int .i64 c.Conc.Lo)))), (.c 2 1, some (.x (.v (.int .i64 c.Conc.Hi)))), (.c 2 2, some (.x (.v (.int .i64 c.Thick.Lo)))), (.c 2 3, some (.x (.v (.int .i64 c.Thick.Hi)))), (.c 2 4, some (.x (.v (.int .i64 c.Ridge.Lo)))), (.c 2 5, some (.x (.v (.int .i64 c.Ridge.Hi)))), (.c 2 6, some (.x (.v (.int .i64 c.Press.Lo)))), (.c 2 7, some (.x (.v (.int .i64 c.Press.Hi)))), (.c 3 0, some (.x (.v (.int .i64 0)))), (.c 3 1, some (.x (.v (.int .i64 0))))]) ?_ ⟨rfl, rfl, rfl, rfl, rfl, rfl, rfl, rfl, rfl, rfl, rfl, rfl, rfl, rfl, rfl, rfl, rfl, rfl, rfl, rfl, rfl, rfl, rfl, rfl, rfl, rfl, rfl, rfl, rfl, rfl, rfl, trivial⟩ rfl
      refine fin_then ?_
      refine aw_block ?_
      refine AW.keep (s' := (fun (k : Nat) => [(.t 2, some (.x (.v (.slice press_p press.length press_c)))), (.t 3, some (.x (.p 1 0))), (.t 4, some (.x (.p 2 0))), (.t 6, some (.x (.p 3 0))), (.t 25, some (.x (.v (.slice press_p press.length press_c)))), (.t 26, some (.x (.v (.int .i64 (((press.length : Nat) : Int)))))), (.t 27, some (.x (.v (.int .i64 ((k : Int)))))), (.b 1, some (.sh 25 11)), (.b 2, some (.sh 34 8)), (.b 3, some (.sh 32 2)), (.c 1 0, some (.x (.v (.int .i64 s.Class)))), (.c 1 1, some (.x (.v (.int .i64 s.Power)))), (.c 1 2, some (.x (.v (.int .i64 s.Draught)))), (.c 1 3, some (.x (.v (.int .i64 s.Tonnes)))), (.c 1 4, some (.x (.v (.slice s_Thrust_p s.Thrust.length s_Thrust_c)))), (.c 1 5, some (.x (.v (.slice s_Water_p s.Water.length s_Water_c)))), (.c 1 6, some (.x (.v (.slice s_Ice_p s.Ice.length s_Ice_c)))), (.c 1 7, some (.x (.v (.int .i64 s.Slow)))), (.c 1 8, some (.x (.v (.int .i64 s.Brash)))), (.c 1 9, some (.x (.v (.int .i64 s.Ridge)))), (.c 1 10, some (.x (.v (.int .i64 s.Press)))), (.c 2 0, some (.x (.v (.int .i64 c.Conc.Lo)))), (.c 2 1, some (.x (.v (.int .i64 c.Conc.Hi)))), (.c 2 2, some (.x (.v (.int .i64 c.Thick.Lo)))), (.c 2 3, some (.x (.v (.int .i64 c.Thick.Hi)))), (.c 2 4, some (.x (.v (.int .i64 c.Ridge.Lo)))), (.c 2 5, some (.x (.v (.int .i64 c.Ridge.Hi)))), (.c 2 6, some (.x (.v (.int .i64 c.Press.Lo)))), (.c 2 7, some (.x (.v (.int .i64 c.Press.Hi)))), (.c 3 0, some (.x (.v (.int .i64 0)))), (.c 3 1, some (.x (.v (.int .i64 0))))]) ((0 : Nat))) ?_ ⟨rfl, rfl, rfl, rfl, rfl, rfl, rfl, rfl, rfl, rfl, rfl, rfl, rfl, rfl, rfl, rfl, rfl, rfl, rfl, rfl, rfl, rfl, rfl, rfl, rfl, rfl, rfl, rfl, rfl, rfl, rfl, trivial⟩ rfl
      refine aw_loop (ι := Nat) (fun k => k ≤ press.length ∧ ∀ j < k, pressOK (sp press (j : Int)) = true) (fun k => [(.t 2, some (.x (.v (.slice press_p press.length press_c)))), (.t 3, some (.x (.p 1 0))), (.t 4, some (.x (.p 2 0))), (.t 6, some (.x (.p 3 0))), (.t 25, some (.x (.v (.slice press_p press.length press_c)))), (.t 26, some (.x (.v (.int .i64 (((press.length : Nat) : Int)))))), (.t 27, some (.x (.v (.int .i64 ((k : Int)))))), (.b 1, some (.sh 25 11)), (.b 2, some (.sh 34 8)), (.b 3, some (.sh 32 2)), (.c 1 0, some (.x (.v (.int .i64 s.Class)))), (.c 1 1, some (.x (.v (.int .i64 s.Power)))), (.c 1 2, some (.x (.v (.int .i64 s.Draught)))), (.c 1 3, some (.x (.v (.int .i64 s.Tonnes)))), (.c 1 4, some (.x (.v (.slice s_Thrust_p s.Thrust.length s_Thrust_c)))), (.c 1 5, some (.x (.v (.slice s_Water_p s.Water.length s_Water_c)))), (.c 1 6, some (.x (.v (.slice s_Ice_p s.Ice.length s_Ice_c)))), (.c 1 7, some (.x (.v (.int .i64 s.Slow)))), (.c 1 8, some (.x (.v (.int .i64 s.Brash)))), (.c 1 9, some (.x (.v (.int .i64 s.Ridge)))), (.c 1 10, some (.x (.v (.int .i64 s.Press)))), (.c 2 0, some (.x (.v (.int .i64 c.Conc.Lo)))), (.c 2 1, some (.x (.v (.int .i64 c.Conc.Hi)))), (.c 2 2, some (.x (.v (.int .i64 c.Thick.Lo)))), (.c 2 3, some (.x (.v (.int .i64 c.Thick.Hi)))), (.c 2 4, some (.x (.v (.int .i64 c.Ridge.Lo)))), (.c 2 5, some (.x (.v (.int .i64 c.Ridge.Hi)))), (.c 2 6, some (.x (.v (.int .i64 c.Press.Lo)))), (.c 2 7, some (.x (.v (.int .i64 c.Press.Hi)))), (.c 3 0, some (.x (.v (.int .i64 0)))), (.c 3 1, some (.x (.v (.int .i64 0))))]) (fun k => press.length - k) ⟨Nat.zero_le _, fun j hj => absurd hj (Nat.not_lt_zero j)⟩ (fun k hI => ?_)
      obtain ⟨hk, hall⟩ := hI
      refine aw_seq ?_
      refine aw_text (rows := [_]) rfl (by kernel_rfl) ⟨
        ok_plain rfl rfl (op_bin (ltN rfl) rfl rfl rfl),
        trivial⟩ ?_
      refine fin_keep (s' := [(.t 2, some (.x (.v (.slice press_p press.length press_c)))), (.t 3, some (.x (.p 1 0))), (.t 4, some (.x (.p 2 0))), (.t 6, some (.x (.p 3 0))), (.t 25, some (.x (.v (.slice press_p press.length press_c)))), (.t 26, some (.x (.v (.int .i64 (((press.length : Nat) : Int)))))), (.t 27, some (.x (.v (.int .i64 ((k : Int)))))), (.t 28, some (.x (.v (.bool (decide (((k : Int)) < (((press.length : Nat) : Int)))))))), (.b 1, some (.sh 25 11)), (.b 2, some (.sh 34 8)), (.b 3, some (.sh 32 2)), (.c 1 0, some (.x (.v (.int .i64 s.Class)))), (.c 1 1, some (.x (.v (.int .i64 s.Power)))), (.c 1 2, some (.x (.v (.int .i64 s.Draught)))), (.c 1 3, some (.x (.v (.int .i64 s.Tonnes)))), (.c 1 4, some (.x (.v (.slice s_Thrust_p s.Thrust.length s_Thrust_c)))), (.c 1 5, some (.x (.v (.slice s_Water_p s.Water.length s_Water_c)))), (.c 1 6, some (.x (.v (.slice s_Ice_p s.Ice.length s_Ice_c)))), (.c 1 7, some (.x (.v (.int .i64 s.Slow)))), (.c 1 8, some (.x (.v (.int .i64 s.Brash)))), (.c 1 9, some (.x (.v (.int .i64 s.Ridge)))), (.c 1 10, some (.x (.v (.int .i64 s.Press)))), (.c 2 0, some (.x (.v (.int .i64 c.Conc.Lo)))), (.c 2 1, some (.x (.v (.int .i64 c.Conc.Hi)))), (.c 2 2, some (.x (.v (.int .i64 c.Thick.Lo)))), (.c 2 3, some (.x (.v (.int .i64 c.Thick.Hi)))), (.c 2 4, some (.x (.v (.int .i64 c.Ridge.Lo)))), (.c 2 5, some (.x (.v (.int .i64 c.Ridge.Hi)))), (.c 2 6, some (.x (.v (.int .i64 c.Press.Lo)))), (.c 2 7, some (.x (.v (.int .i64 c.Press.Hi)))), (.c 3 0, some (.x (.v (.int .i64 0)))), (.c 3 1, some (.x (.v (.int .i64 0))))]) ?_ ⟨rfl, rfl, rfl, rfl, rfl, rfl, rfl, rfl, rfl, rfl, rfl, rfl, rfl, rfl, rfl, rfl, rfl, rfl, rfl, rfl, rfl, rfl, rfl, rfl, rfl, rfl, rfl, rfl, rfl, rfl, rfl, rfl, trivial⟩ rfl
      refine fin_then ?_
      refine aw_seq ?_
      refine aw_cond rfl (fun hz7 => ?_) (fun hz7 => ?_)
      · have _z := hz7
        have q8 := of_decide_eq_true hz7
        refine aw_skip ?_
        refine fin_then ?_
        refine aw_seq ?_
        refine aw_block ?_
        refine aw_seq ?_
        refine aw_text (rows := [_, _, _, _]) rfl (by kernel_rfl) ⟨
          ok_plain rfl rfl (op_ixB (ltN rfl) rfl rfl ss_56 (hpress_p (ne_of_ix (i := (k : Int)) (by omega) (by omega))) (by omega) (by omega)),
          ok_plain rfl rfl (op_loadB (y := .g [.v (.int .i64 (((sp press ((k : Int)))).Lo)), .v (.int .i64 (((sp press ((k : Int)))).Hi))]) (ltN rfl) rfl (ldN (hpress_L (ne_of_ix (i := (k : Int)) (by omega) (by omega))) ⟨0, 0⟩ (i := (k : Int)) (by omega) (by omega) 0 (vs := [(.int .i64 (((sp press ((k : Int)))).Lo)), (.int .i64 (((sp press ((k : Int)))).Hi))]) (fun zq zv zh => sub_get (vs := [(.int .i64 (((sp press ((k : Int)))).Lo)), (.int .i64 (((sp press ((k : Int)))).Hi))]) rfl zh) rfl sh_32 rfl)),
          ok_plain rfl rfl (op_alloc (L := 4) (ltN rfl) zl_32),
          ok_plain rfl rfl (op_storeN sz_32 rfl rfl rfl rfl rfl (by decide)),
          trivial⟩ ?_
        refine fin_keep (s' := [(.t 2, some (.x (.v (.slice press_p press.length press_c)))), (.t 3, some (.x (.p 1 0))), (.t 4, some (.x (.p 2 0))), (.t 6, some (.x (.p 3 0))), (.t 10, some (.x (.p 4 0))), (.t 25, some (.x (.v (.slice press_p press.length press_c)))), (.t 26, some (.x (.v (.int .i64 (((press.length : Nat) : Int)))))), (.t 27, some (.x (.v (.int .i64 ((k : Int)))))), (.b 1, some (.sh 25 11)), (.b 2, some (.sh 34 8)), (.b 3, some (.sh 32 2)), (.b 4, some (.sh 32 2)), (.c 1 0, some (.x (.v (.int .i64 s.Class)))), (.c 1 1, some (.x (.v (.int .i64 s.Power)))), (.c 1 2, some (.x (.v (.int .i64 s.Draught)))), (.c 1 3, some (.x (.v (.int .i64 s.Tonnes)))), (.c 1 4, some (.x (.v (.slice s_Thrust_p s.Thrust.length s_Thrust_c)))), (.c 1 5, some (.x (.v (.slice s_Water_p s.Water.length s_Water_c)))), (.c 1 6, some (.x (.v (.slice s_Ice_p s.Ice.length s_Ice_c)))), (.c 1 7, some (.x (.v (.int .i64 s.Slow)))), (.c 1 8, some (.x (.v (.int .i64 s.Brash)))), (.c 1 9, some (.x (.v (.int .i64 s.Ridge)))), (.c 1 10, some (.x (.v (.int .i64 s.Press)))), (.c 2 0, some (.x (.v (.int .i64 c.Conc.Lo)))), (.c 2 1, some (.x (.v (.int .i64 c.Conc.Hi)))), (.c 2 2, some (.x (.v (.int .i64 c.Thick.Lo)))), (.c 2 3, some (.x (.v (.int .i64 c.Thick.Hi)))), (.c 2 4, some (.x (.v (.int .i64 c.Ridge.Lo)))), (.c 2 5, some (.x (.v (.int .i64 c.Ridge.Hi)))), (.c 2 6, some (.x (.v (.int .i64 c.Press.Lo)))), (.c 2 7, some (.x (.v (.int .i64 c.Press.Hi)))), (.c 3 0, some (.x (.v (.int .i64 0)))), (.c 3 1, some (.x (.v (.int .i64 0)))), (.c 4 0, some (.x (.v (.int .i64 (((sp press ((k : Int)))).Lo))))), (.c 4 1, some (.x (.v (.int .i64 (((sp press ((k : Int)))).Hi)))))]) ?_ ⟨rfl, rfl, rfl, rfl, rfl, rfl, rfl, rfl, rfl, rfl, rfl, rfl, rfl, rfl, rfl, rfl, rfl, rfl, rfl, rfl, rfl, rfl, rfl, rfl, rfl, rfl, rfl, rfl, rfl, rfl, rfl, rfl, rfl, rfl, rfl, trivial⟩ rfl
        refine fin_then ?_
        refine aw_seq ?_
        refine aw_text (rows := [_, _, _, _, _, _, _, _, _, _, _, _, _, _, _]) rfl (by kernel_rfl) ⟨
          ok_plain rfl rfl (op_fieldAddr (ltN rfl) rfl fo_32_0),
          ok_plain rfl rfl (op_load1 (ltN rfl) sh_3 rfl rfl),
          ok_plain rfl rfl (op_bin (ltN rfl) rfl rfl rfl),
          ok_plain rfl rfl (op_move (ltN rfl) rfl),
          ok_if (ltN rfl) rfl rfl rfl rfl rfl rfl (fun hg9 => op_fieldAddr (ltN rfl) (force_x rfl) fo_32_1),
          ok_if (ltN rfl) rfl rfl rfl rfl rfl rfl (fun hg10 => op_load1 (ltN rfl) sh_3 (force_eq (beq_iff_eq.2 hg10) rfl) rfl),
          ok_if (ltN rfl) rfl rfl rfl rfl rfl rfl (fun hg11 => op_bin (ltN rfl) (force_eq (beq_iff_eq.2 hg11) rfl) rfl rfl),
          ok_plain rfl rfl (op_or (ltN rfl) rfl rfl),
          ok_plain rfl rfl (op_move (ltN rfl) rfl),
          ok_if (ltN rfl) rfl rfl rfl rfl rfl rfl (fun hg12 => op_fieldAddr (ltN rfl) (force_x rfl) fo_32_0),
          ok_if (ltN rfl) rfl rfl rfl rfl rfl rfl (fun hg13 => op_load1 (ltN rfl) sh_3 (force_eq (beq_iff_eq.2 hg13) rfl) rfl),
          ok_if (ltN rfl) rfl rfl rfl rfl rfl rfl (fun hg14 => op_fieldAddr (ltN rfl) (force_x rfl) fo_32_1),
          ok_if (ltN rfl) rfl rfl rfl rfl rfl rfl (fun hg15 => op_load1 (ltN rfl) sh_3 (force_eq (beq_iff_eq.2 hg15) rfl) rfl),
          ok_if (ltN rfl) rfl rfl rfl rfl rfl rfl (fun hg16 => op_bin (ltN rfl) (force_eq (beq_iff_eq.2 hg16) rfl) (force_eq (beq_iff_eq.2 hg16) rfl) rfl),
          ok_plain rfl rfl (op_or (ltN rfl) rfl rfl),
          trivial⟩ ?_
        refine fin_keep (s' := [(.t 2, some (.x (.v (.slice press_p press.length press_c)))), (.t 3, some (.x (.p 1 0))), (.t 4, some (.x (.p 2 0))), (.t 6, some (.x (.p 3 0))), (.t 25, some (.x (.v (.slice press_p press.length press_c)))), (.t 26, some (.x (.v (.int .i64 (((press.length : Nat) : Int)))))), (.t 27, some (.x (.v (.int .i64 ((k : Int)))))), (.t 45, some (.x (.v (.bool (((decide ((((sp press ((k : Int)))).Lo) < 0)) || (decide ((((sp press ((k : Int)))).Hi) > 3))) || (decide ((((sp press ((k : Int)))).Lo) > (((sp press ((k : Int)))).Hi)))))))), (.b 1, some (.sh 25 11)), (.b 2, some (.sh 34 8)), (.b 3, some (.sh 32 2)), (.c 1 0, some (.x (.v (.int .i64 s.Class)))), (.c 1 1, some (.x (.v (.int .i64 s.Power)))), (.c 1 2, some (.x (.v (.int .i64 s.Draught)))), (.c 1 3, some (.x (.v (.int .i64 s.Tonnes)))), (.c 1 4, some (.x (.v (.slice s_Thrust_p s.Thrust.length s_Thrust_c)))), (.c 1 5, some (.x (.v (.slice s_Water_p s.Water.length s_Water_c)))), (.c 1 6, some (.x (.v (.slice s_Ice_p s.Ice.length s_Ice_c)))), (.c 1 7, some (.x (.v (.int .i64 s.Slow)))), (.c 1 8, some (.x (.v (.int .i64 s.Brash)))), (.c 1 9, some (.x (.v (.int .i64 s.Ridge)))), (.c 1 10, some (.x (.v (.int .i64 s.Press)))), (.c 2 0, some (.x (.v (.int .i64 c.Conc.Lo)))), (.c 2 1, some (.x (.v (.int .i64 c.Conc.Hi)))), (.c 2 2, some (.x (.v (.int .i64 c.Thick.Lo)))), (.c 2 3, some (.x (.v (.int .i64 c.Thick.Hi)))), (.c 2 4, some (.x (.v (.int .i64 c.Ridge.Lo)))), (.c 2 5, some (.x (.v (.int .i64 c.Ridge.Hi)))), (.c 2 6, some (.x (.v (.int .i64 c.Press.Lo)))), (.c 2 7, some (.x (.v (.int .i64 c.Press.Hi)))), (.c 3 0, some (.x (.v (.int .i64 0)))), (.c 3 1, some (.x (.v (.int .i64 0))))]) ?_ ⟨rfl, rfl, rfl, rfl, rfl, rfl, rfl, rfl, rfl, rfl, rfl, rfl, rfl, rfl, rfl, rfl, rfl, rfl, rfl, rfl, rfl, rfl, rfl, rfl, rfl, rfl, rfl, rfl, rfl, rfl, rfl, rfl, trivial⟩ rfl
        refine fin_then ?_
        refine aw_cond rfl (fun hz17 => ?_) (fun hz17 => ?_)
        · have _z := hz17
          have q18 := hz17
          refine aw_seq ?_
          refine aw_text (rows := [_, _, _]) rfl (by kernel_rfl) ⟨
            ok_plain rfl rfl (op_build (x := .g [.v (.int .i64 0), .v (.int .i64 0)]) (ltN rfl) EvL.nil (fun m w => by kernel_rfl)),
            ok_plain rfl rfl (op_storeN sz_32 rfl rfl rfl rfl rfl (by decide)),
            ok_plain rfl rfl (op_assign (ltN rfl) rfl),
            trivial⟩ ?_
          refine fin_keep (s' := [(.t 6, some (.x (.p 3 0))), (.t 7, some (.x (.v (.int .i64 6)))), (.b 3, some (.sh 32 2)), (.c 3 0, some (.x (.v (.int .i64 0)))), (.c 3 1, some (.x (.v (.int .i64 0))))]) ?_ ⟨rfl, rfl, rfl, rfl, rfl, trivial⟩ rfl
          refine fin_then ?_
          refine aw_ret ?_
          refine fin_block_ret ?_
          refine fin_then_ret ?_
          refine fin_then_ret ?_
          refine fin_block_ret ?_
          refine fin_then_ret ?_
          refine post_ret (x := .t [.g [.v (.int .i64 0), .v (.int .i64 0)], .v (.int .i64 6)]) rfl rfl (resOK_cellN (ys := [.v (.int .i64 0), .v (.int .i64 0)]) rfl sh_32 rfl ⟨rfl, rfl, trivial⟩ (resOK_tmp rfl resOK_nil)) rfl (fun mm aa ww hr => ?_)
          show Ending.returned (.tuple #[.agg #[.int .i64 0, .int .i64 0], .int .i64 6]) = _ ∧ _
          exact ⟨by rw [free, if_neg (by rw [ne_f hz1]; decide), if_neg (of_decide_eq_false hz4), all_sp_no (f := pressOK) (k := k) (by omega) (b2 hz17)]; rfl, hr.below⟩
        · have _z := hz17
          have q19 := of_decide_eq_false (or_fl (or_fl hz17))
          have q20 := of_decide_eq_false (or_fr (or_fl hz17))
          have q21 := of_decide_eq_false (or_fr hz17)
          refine aw_skip ?_
          refine fin_block ?_
          refine fin_then ?_
          refine aw_text (rows := [_, _]) rfl (by kernel_rfl) ⟨
            ok_plain rfl rfl (op_bin (ltN rfl) rfl rfl (nw_add ⟨(by omega), (by omega)⟩)),
            ok_plain rfl rfl (op_move (ltN rfl) rfl),
            trivial⟩ ?_
          refine fin_keep (s' := [(.t 2, some (.x (.v (.slice press_p press.length press_c)))), (.t 3, some (.x (.p 1 0))), (.t 4, some (.x (.p 2 0))), (.t 6, some (.x (.p 3 0))), (.t 25, some (.x (.v (.slice press_p press.length press_c)))), (.t 26, some (.x (.v (.int .i64 (((press.length : Nat) : Int)))))), (.t 27, some (.x (.v (.int .i64 (((k : Int)) + 1))))), (.b 1, some (.sh 25 11)), (.b 2, some (.sh 34 8)), (.b 3, some (.sh 32 2)), (.c 1 0, some (.x (.v (.int .i64 s.Class)))), (.c 1 1, some (.x (.v (.int .i64 s.Power)))), (.c 1 2, some (.x (.v (.int .i64 s.Draught)))), (.c 1 3, some (.x (.v (.int .i64 s.Tonnes)))), (.c 1 4, some (.x (.v (.slice s_Thrust_p s.Thrust.length s_Thrust_c)))), (.c 1 5, some (.x (.v (.slice s_Water_p s.Water.length s_Water_c)))), (.c 1 6, some (.x (.v (.slice s_Ice_p s.Ice.length s_Ice_c)))), (.c 1 7, some (.x (.v (.int .i64 s.Slow)))), (.c 1 8, some (.x (.v (.int .i64 s.Brash)))), (.c 1 9, some (.x (.v (.int .i64 s.Ridge)))), (.c 1 10, some (.x (.v (.int .i64 s.Press)))), (.c 2 0, some (.x (.v (.int .i64 c.Conc.Lo)))), (.c 2 1, some (.x (.v (.int .i64 c.Conc.Hi)))), (.c 2 2, some (.x (.v (.int .i64 c.Thick.Lo)))), (.c 2 3, some (.x (.v (.int .i64 c.Thick.Hi)))), (.c 2 4, some (.x (.v (.int .i64 c.Ridge.Lo)))), (.c 2 5, some (.x (.v (.int .i64 c.Ridge.Hi)))), (.c 2 6, some (.x (.v (.int .i64 c.Press.Lo)))), (.c 2 7, some (.x (.v (.int .i64 c.Press.Hi)))), (.c 3 0, some (.x (.v (.int .i64 0)))), (.c 3 1, some (.x (.v (.int .i64 0))))]) ?_ ⟨rfl, rfl, rfl, rfl, rfl, rfl, rfl, rfl, rfl, rfl, rfl, rfl, rfl, rfl, rfl, rfl, rfl, rfl, rfl, rfl, rfl, rfl, rfl, rfl, rfl, rfl, rfl, rfl, rfl, rfl, rfl, trivial⟩ rfl
          exact fin_loop (k + 1) ⟨by omega, fun j hj => by rcases Nat.lt_succ_iff_lt_or_eq.1 hj with h | rfl; exact hall j h; exact b4 hz17⟩ (by omega) ⟨rfl, rfl, rfl, rfl, rfl, rfl, rfl, rfl, rfl, rfl, rfl, rfl, rfl, rfl, rfl, rfl, rfl, rfl, rfl, rfl, rfl, rfl, rfl, rfl, rfl, rfl, rfl, rfl, rfl, rfl, rfl, trivial⟩ rfl
      · have _z := hz7
        have q22 := of_decide_eq_false hz7
        refine aw_exit ?_
        refine fin_then_exit ?_
        refine fin_then_exit ?_
        refine fin_block_exit ?_
        refine fin_then ?_
        refine aw_seq ?_
        have hpall := all_sp (f := pressOK) (k := k) (by omega) hall
        have hfree0 : free s c press = freeFrom s c (press.drop 0) 0 (-1) := by rw [free, if_neg (by rw [ne_f hz1]; decide), if_neg (of_decide_eq_false hz4), hpall]; rfl
        have hc := hmet.1
        refine aw_text (rows := [_, _, _]) rfl (by kernel_rfl) ⟨
          ok_plain rfl rfl (op_build (x := .g [.v (.int .i64 ((-1))), .v (.int .i64 0)]) (ltN rfl) (EvL.cons rfl EvL.nil) (fun m w => by kernel_rfl)),
          ok_plain rfl rfl (op_alloc (L := 5) (ltN rfl) zl_32),
          ok_plain rfl rfl (op_storeN sz_32 rfl rfl rfl rfl rfl (by decide)),
          trivial⟩ ?_
        refine fin_keep (s' := [(.t 2, some (.x (.v (.slice press_p press.length press_c)))), (.t 3, some (.x (.p 1 0))), (.t 4, some (.x (.p 2 0))), (.t 6, some (.x (.p 3 0))), (.t 11, some (.x (.p 5 0))), (.b 1, some (.sh 25 11)), (.b 2, some (.sh 34 8)), (.b 3, some (.sh 32 2)), (.b 5, some (.sh 32 2)), (.c 1 0, some (.x (.v (.int .i64 s.Class)))), (.c 1 1, some (.x (.v (.int .i64 s.Power)))), (.c 1 2, some (.x (.v (.int .i64 s.Draught)))), (.c 1 3, some (.x (.v (.int .i64 s.Tonnes)))), (.c 1 4, some (.x (.v (.slice s_Thrust_p s.Thrust.length s_Thrust_c)))), (.c 1 5, some (.x (.v (.slice s_Water_p s.Water.length s_Water_c)))), (.c 1 6, some (.x (.v (.slice s_Ice_p s.Ice.length s_Ice_c)))), (.c 1 7, some (.x (.v (.int .i64 s.Slow)))), (.c 1 8, some (.x (.v (.int .i64 s.Brash)))), (.c 1 9, some (.x (.v (.int .i64 s.Ridge)))), (.c 1 10, some (.x (.v (.int .i64 s.Press)))), (.c 2 0, some (.x (.v (.int .i64 c.Conc.Lo)))), (.c 2 1, some (.x (.v (.int .i64 c.Conc.Hi)))), (.c 2 2, some (.x (.v (.int .i64 c.Thick.Lo)))), (.c 2 3, some (.x (.v (.int .i64 c.Thick.Hi)))), (.c 2 4, some (.x (.v (.int .i64 c.Ridge.Lo)))), (.c 2 5, some (.x (.v (.int .i64 c.Ridge.Hi)))), (.c 2 6, some (.x (.v (.int .i64 c.Press.Lo)))), (.c 2 7, some (.x (.v (.int .i64 c.Press.Hi)))), (.c 3 0, some (.x (.v (.int .i64 0)))), (.c 3 1, some (.x (.v (.int .i64 0)))), (.c 5 0, some (.x (.v (.int .i64 ((-1)))))), (.c 5 1, some (.x (.v (.int .i64 0))))]) ?_ ⟨rfl, rfl, rfl, rfl, rfl, rfl, rfl, rfl, rfl, rfl, rfl, rfl, rfl, rfl, rfl, rfl, rfl, rfl, rfl, rfl, rfl, rfl, rfl, rfl, rfl, rfl, rfl, rfl, rfl, rfl, rfl, rfl, trivial⟩ rfl
        refine fin_then ?_
        refine aw_seq ?_
        refine aw_seq ?_
        refine aw_text (rows := [_, _, _]) rfl (by kernel_rfl) ⟨
          ok_plain rfl rfl (op_move (ltN rfl) rfl),
          ok_plain rfl rfl (op_len (n := press.length) (ltN rfl) (by rw [ss_56]; rfl) rfl rfl),
          ok_plain rfl rfl (op_move (ltN rfl) rfl),
          trivial⟩ ?_
        refine fin_keep (s' := [(.t 3, some (.x (.p 1 0))), (.t 4, some (.x (.p 2 0))), (.t 6, some (.x (.p 3 0))), (.t 11, some (.x (.p 5 0))), (.t 49, some (.x (.v (.slice press_p press.length press_c)))), (.t 50, some (.x (.v (.int .i64 (((press.length : Nat) : Int)))))), (.t 51, some (.x (.v (.int .i64 0)))), (.b 1, some (.sh 25 11)), (.b 2, some (.sh 34 8)), (.b 3, some (.sh 32 2)), (.b 5, some (.sh 32 2)), (.c 1 0, some (.x (.v (.int .i64 s.Class)))), (.c 1 1, some (.x (.v (.int .i64 s.Power)))), (.c 1 2, some (.x (.v (.int .i64 s.Draught)))), (.c 1 3, some (.x (.v (.int .i64 s.Tonnes)))), (.c 1 4, some (.x (.v (.slice s_Thrust_p s.Thrust.length s_Thrust_c)))), (.c 1 5, some (.x (.v (.slice s_Water_p s.Water.length s_Water_c)))), (.c 1 6, some (.x (.v (.slice s_Ice_p s.Ice.length s_Ice_c)))), (.c 1 7, some (.x (.v (.int .i64 s.Slow)))), (.c 1 8, some (.x (.v (.int .i64 s.Brash)))), (.c 1 9, some (.x (.v (.int .i64 s.Ridge)))), (.c 1 10, some (.x (.v (.int .i64 s.Press)))), (.c 2 0, some (.x (.v (.int .i64 c.Conc.Lo)))), (.c 2 1, some (.x (.v (.int .i64 c.Conc.Hi)))), (.c 2 2, some (.x (.v (.int .i64 c.Thick.Lo)))), (.c 2 3, some (.x (.v (.int .i64 c.Thick.Hi)))), (.c 2 4, some (.x (.v (.int .i64 c.Ridge.Lo)))), (.c 2 5, some (.x (.v (.int .i64 c.Ridge.Hi)))), (.c 2 6, some (.x (.v (.int .i64 c.Press.Lo)))), (.c 2 7, some (.x (.v (.int .i64 c.Press.Hi)))), (.c 3 0, some (.x (.v (.int .i64 0)))), (.c 3 1, some (.x (.v (.int .i64 0)))), (.c 5 0, some (.x (.v (.int .i64 ((-1)))))), (.c 5 1, some (.x (.v (.int .i64 0))))]) ?_ ⟨rfl, rfl, rfl, rfl, rfl, rfl, rfl, rfl, rfl, rfl, rfl, rfl, rfl, rfl, rfl, rfl, rfl, rfl, rfl, rfl, rfl, rfl, rfl, rfl, rfl, rfl, rfl, rfl, rfl, rfl, rfl, rfl, rfl, rfl, trivial⟩ rfl
        refine fin_then ?_
        refine aw_block ?_
        refine AW.keep (s' := (fun (q : Nat × Int × Span) => [(.t 3, some (.x (.p 1 0))), (.t 4, some (.x (.p 2 0))), (.t 6, some (.x (.p 3 0))), (.t 11, some (.x (.p 5 0))), (.t 49, some (.x (.v (.slice press_p press.length press_c)))), (.t 50, some (.x (.v (.int .i64 (((press.length : Nat) : Int)))))), (.t 51, some (.x (.v (.int .i64 ((q.1 : Int)))))), (.b 1, some (.sh 25 11)), (.b 2, some (.sh 34 8)), (.b 3, some (.sh 32 2)), (.b 5, some (.sh 32 2)), (.c 1 0, some (.x (.v (.int .i64 s.Class)))), (.c 1 1, some (.x (.v (.int .i64 s.Power)))), (.c 1 2, some (.x (.v (.int .i64 s.Draught)))), (.c 1 3, some (.x (.v (.int .i64 s.Tonnes)))), (.c 1 4, some (.x (.v (.slice s_Thrust_p s.Thrust.length s_Thrust_c)))), (.c 1 5, some (.x (.v (.slice s_Water_p s.Water.length s_Water_c)))), (.c 1 6, some (.x (.v (.slice s_Ice_p s.Ice.length s_Ice_c)))), (.c 1 7, some (.x (.v (.int .i64 s.Slow)))), (.c 1 8, some (.x (.v (.int .i64 s.Brash)))), (.c 1 9, some (.x (.v (.int .i64 s.Ridge)))), (.c 1 10, some (.x (.v (.int .i64 s.Press)))), (.c 2 0, some (.x (.v (.int .i64 c.Conc.Lo)))), (.c 2 1, some (.x (.v (.int .i64 c.Conc.Hi)))), (.c 2 2, some (.x (.v (.int .i64 c.Thick.Lo)))), (.c 2 3, some (.x (.v (.int .i64 c.Thick.Hi)))), (.c 2 4, some (.x (.v (.int .i64 c.Ridge.Lo)))), (.c 2 5, some (.x (.v (.int .i64 c.Ridge.Hi)))), (.c 2 6, some (.x (.v (.int .i64 q.2.2.Lo)))), (.c 2 7, some (.x (.v (.int .i64 q.2.2.Hi)))), (.c 3 0, some (.x (.v (.int .i64 0)))), (.c 3 1, some (.x (.v (.int .i64 0)))), (.c 5 0, some (.x (.v (.int .i64 q.2.1)))), (.c 5 1, some (.x (.v (.int .i64 0))))]) (((0 : Nat), (-1 : Int), c.Press))) ?_ ⟨rfl, rfl, rfl, rfl, rfl, rfl, rfl, rfl, rfl, rfl, rfl, rfl, rfl, rfl, rfl, rfl, rfl, rfl, rfl, rfl, rfl, rfl, rfl, rfl, rfl, rfl, rfl, rfl, rfl, rfl, rfl, rfl, rfl, rfl, trivial⟩ rfl
        refine aw_loop (ι := Nat × Int × Span) (fun q => q.1 ≤ press.length ∧ free s c press = freeFrom s c (press.drop q.1) (q.1 : Int) q.2.1) (fun q => [(.t 3, some (.x (.p 1 0))), (.t 4, some (.x (.p 2 0))), (.t 6, some (.x (.p 3 0))), (.t 11, some (.x (.p 5 0))), (.t 49, some (.x (.v (.slice press_p press.length press_c)))), (.t 50, some (.x (.v (.int .i64 (((press.length : Nat) : Int)))))), (.t 51, some (.x (.v (.int .i64 ((q.1 : Int)))))), (.b 1, some (.sh 25 11)), (.b 2, some (.sh 34 8)), (.b 3, some (.sh 32 2)), (.b 5, some (.sh 32 2)), (.c 1 0, some (.x (.v (.int .i64 s.Class)))), (.c 1 1, some (.x (.v (.int .i64 s.Power)))), (.c 1 2, some (.x (.v (.int .i64 s.Draught)))), (.c 1 3, some (.x (.v (.int .i64 s.Tonnes)))), (.c 1 4, some (.x (.v (.slice s_Thrust_p s.Thrust.length s_Thrust_c)))), (.c 1 5, some (.x (.v (.slice s_Water_p s.Water.length s_Water_c)))), (.c 1 6, some (.x (.v (.slice s_Ice_p s.Ice.length s_Ice_c)))), (.c 1 7, some (.x (.v (.int .i64 s.Slow)))), (.c 1 8, some (.x (.v (.int .i64 s.Brash)))), (.c 1 9, some (.x (.v (.int .i64 s.Ridge)))), (.c 1 10, some (.x (.v (.int .i64 s.Press)))), (.c 2 0, some (.x (.v (.int .i64 c.Conc.Lo)))), (.c 2 1, some (.x (.v (.int .i64 c.Conc.Hi)))), (.c 2 2, some (.x (.v (.int .i64 c.Thick.Lo)))), (.c 2 3, some (.x (.v (.int .i64 c.Thick.Hi)))), (.c 2 4, some (.x (.v (.int .i64 c.Ridge.Lo)))), (.c 2 5, some (.x (.v (.int .i64 c.Ridge.Hi)))), (.c 2 6, some (.x (.v (.int .i64 q.2.2.Lo)))), (.c 2 7, some (.x (.v (.int .i64 q.2.2.Hi)))), (.c 3 0, some (.x (.v (.int .i64 0)))), (.c 3 1, some (.x (.v (.int .i64 0)))), (.c 5 0, some (.x (.v (.int .i64 q.2.1)))), (.c 5 1, some (.x (.v (.int .i64 0))))]) (fun q => press.length - q.1) ⟨Nat.zero_le _, hfree0⟩ (fun q hI => ?_)
        obtain ⟨hk, hfr⟩ := hI
        refine aw_seq ?_
        refine aw_text (rows := [_]) rfl (by kernel_rfl) ⟨
          ok_plain rfl rfl (op_bin (ltN rfl) rfl rfl rfl),
          trivial⟩ ?_
        refine fin_keep (s' := [(.t 3, some (.x (.p 1 0))), (.t 4, some (.x (.p 2 0))), (.t 6, some (.x (.p 3 0))), (.t 11, some (.x (.p 5 0))), (.t 49, some (.x (.v (.slice press_p press.length press_c)))), (.t 50, some (.x (.v (.int .i64 (((press.length : Nat) : Int)))))), (.t 51, some (.x (.v (.int .i64 ((q.1 : Int)))))), (.t 52, some (.x (.v (.bool (decide (((q.1 : Int)) < (((press.length : Nat) : Int)))))))), (.b 1, some (.sh 25 11)), (.b 2, some (.sh 34 8)), (.b 3, some (.sh 32 2)), (.b 5, some (.sh 32 2)), (.c 1 0, some (.x (.v (.int .i64 s.Class)))), (.c 1 1, some (.x (.v (.int .i64 s.Power)))), (.c 1 2, some (.x (.v (.int .i64 s.Draught)))), (.c 1 3, some (.x (.v (.int .i64 s.Tonnes)))), (.c 1 4, some (.x (.v (.slice s_Thrust_p s.Thrust.length s_Thrust_c)))), (.c 1 5, some (.x (.v (.slice s_Water_p s.Water.length s_Water_c)))), (.c 1 6, some (.x (.v (.slice s_Ice_p s.Ice.length s_Ice_c)))), (.c 1 7, some (.x (.v (.int .i64 s.Slow)))), (.c 1 8, some (.x (.v (.int .i64 s.Brash)))), (.c 1 9, some (.x (.v (.int .i64 s.Ridge)))), (.c 1 10, some (.x (.v (.int .i64 s.Press)))), (.c 2 0, some (.x (.v (.int .i64 c.Conc.Lo)))), (.c 2 1, some (.x (.v (.int .i64 c.Conc.Hi)))), (.c 2 2, some (.x (.v (.int .i64 c.Thick.Lo)))), (.c 2 3, some (.x (.v (.int .i64 c.Thick.Hi)))), (.c 2 4, some (.x (.v (.int .i64 c.Ridge.Lo)))), (.c 2 5, some (.x (.v (.int .i64 c.Ridge.Hi)))), (.c 2 6, some (.x (.v (.int .i64 q.2.2.Lo)))), (.c 2 7, some (.x (.v (.int .i64 q.2.2.Hi)))), (.c 3 0, some (.x (.v (.int .i64 0)))), (.c 3 1, some (.x (.v (.int .i64 0)))), (.c 5 0, some (.x (.v (.int .i64 q.2.1)))), (.c 5 1, some (.x (.v (.int .i64 0))))]) ?_ ⟨rfl, rfl, rfl, rfl, rfl, rfl, rfl, rfl, rfl, rfl, rfl, rfl, rfl, rfl, rfl, rfl, rfl, rfl, rfl, rfl, rfl, rfl, rfl, rfl, rfl, rfl, rfl, rfl, rfl, rfl, rfl, rfl, rfl, rfl, rfl, trivial⟩ rfl
        refine fin_then ?_
        refine aw_seq ?_
        refine aw_cond rfl (fun hz23 => ?_) (fun hz23 => ?_)
        · have _z := hz23
          have q24 := of_decide_eq_true hz23
          refine aw_skip ?_
          refine fin_then ?_
          refine aw_seq ?_
          refine aw_block ?_
          refine aw_seq ?_
          have hlt : q.1 < press.length := by omega
          have hgp := pressOK_good hmet.2 (hall q.1 (by omega))
          have hgf := goodCell_first hgp
          have hgl := goodCell_last hgp
          refine aw_text (rows := [_, _, _, _, _, _]) rfl (by kernel_rfl) ⟨
            ok_plain rfl rfl (op_move (ltN rfl) rfl),
            ok_plain rfl rfl (op_ixB (ltN rfl) rfl rfl ss_56 (hpress_p (ne_of_ix (i := (q.1 : Int)) (by omega) (by omega))) (by omega) (by omega)),
            ok_plain rfl rfl (op_loadB (y := .g [.v (.int .i64 (((sp press ((q.1 : Int)))).Lo)), .v (.int .i64 (((sp press ((q.1 : Int)))).Hi))]) (ltN rfl) rfl (ldN (hpress_L (ne_of_ix (i := (q.1 : Int)) (by omega) (by omega))) ⟨0, 0⟩ (i := (q.1 : Int)) (by omega) (by omega) 0 (vs := [(.int .i64 (((sp press ((q.1 : Int)))).Lo)), (.int .i64 (((sp press ((q.1 : Int)))).Hi))]) (fun zq zv zh => sub_get (vs := [(.int .i64 (((sp press ((q.1 : Int)))).Lo)), (.int .i64 (((sp press ((q.1 : Int)))).Hi))]) rfl zh) rfl sh_32 rfl)),
            ok_plain rfl rfl (op_alloc (L := 6) (ltN rfl) zl_32),
            ok_plain rfl rfl (op_assign (ltN rfl) rfl),
            ok_plain rfl rfl (op_storeN sz_32 rfl rfl rfl rfl rfl (by decide)),
            trivial⟩ ?_
          refine fin_keep (s' := [(.t 3, some (.x (.p 1 0))), (.t 4, some (.x (.p 2 0))), (.t 6, some (.x (.p 3 0))), (.t 11, some (.x (.p 5 0))), (.t 12, some (.x (.v (.int .i64 ((q.1 : Int)))))), (.t 13, some (.x (.p 6 0))), (.t 49, some (.x (.v (.slice press_p press.length press_c)))), (.t 50, some (.x (.v (.int .i64 (((press.length : Nat) : Int)))))), (.t 51, some (.x (.v (.int .i64 ((q.1 : Int)))))), (.b 1, some (.sh 25 11)), (.b 2, some (.sh 34 8)), (.b 3, some (.sh 32 2)), (.b 5, some (.sh 32 2)), (.b 6, some (.sh 32 2)), (.c 1 0, some (.x (.v (.int .i64 s.Class)))), (.c 1 1, some (.x (.v (.int .i64 s.Power)))), (.c 1 2, some (.x (.v (.int .i64 s.Draught)))), (.c 1 3, some (.x (.v (.int .i64 s.Tonnes)))), (.c 1 4, some (.x (.v (.slice s_Thrust_p s.Thrust.length s_Thrust_c)))), (.c 1 5, some (.x (.v (.slice s_Water_p s.Water.length s_Water_c)))), (.c 1 6, some (.x (.v (.slice s_Ice_p s.Ice.length s_Ice_c)))), (.c 1 7, some (.x (.v (.int .i64 s.Slow)))), (.c 1 8, some (.x (.v (.int .i64 s.Brash)))), (.c 1 9, some (.x (.v (.int .i64 s.Ridge)))), (.c 1 10, some (.x (.v (.int .i64 s.Press)))), (.c 2 0, some (.x (.v (.int .i64 c.Conc.Lo)))), (.c 2 1, some (.x (.v (.int .i64 c.Conc.Hi)))), (.c 2 2, some (.x (.v (.int .i64 c.Thick.Lo)))), (.c 2 3, some (.x (.v (.int .i64 c.Thick.Hi)))), (.c 2 4, some (.x (.v (.int .i64 c.Ridge.Lo)))), (.c 2 5, some (.x (.v (.int .i64 c.Ridge.Hi)))), (.c 2 6, some (.x (.v (.int .i64 q.2.2.Lo)))), (.c 2 7, some (.x (.v (.int .i64 q.2.2.Hi)))), (.c 3 0, some (.x (.v (.int .i64 0)))), (.c 3 1, some (.x (.v (.int .i64 0)))), (.c 5 0, some (.x (.v (.int .i64 q.2.1)))), (.c 5 1, some (.x (.v (.int .i64 0)))), (.c 6 0, some (.x (.v (.int .i64 (((sp press ((q.1 : Int)))).Lo))))), (.c 6 1, some (.x (.v (.int .i64 (((sp press ((q.1 : Int)))).Hi)))))]) ?_ ⟨rfl, rfl, rfl, rfl, rfl, rfl, rfl, rfl, rfl, rfl, rfl, rfl, rfl, rfl, rfl, rfl, rfl, rfl, rfl, rfl, rfl, rfl, rfl, rfl, rfl, rfl, rfl, rfl, rfl, rfl, rfl, rfl, rfl, rfl, rfl, rfl, rfl, rfl, rfl, trivial⟩ rfl
          refine fin_then ?_
          refine aw_seq ?_
          refine aw_text (rows := [_, _, _]) rfl (by kernel_rfl) ⟨
            ok_plain rfl rfl (op_loadN (ys := [.v (.int .i64 (((sp press ((q.1 : Int)))).Lo)), .v (.int .i64 (((sp press ((q.1 : Int)))).Hi))]) (ltN rfl) sh_32 rfl rfl ⟨rfl, rfl, trivial⟩),
            ok_plain rfl rfl (op_fieldAddr (ltN rfl) rfl fo_34_3),
            ok_plain rfl rfl (op_storeN sz_32 rfl rfl rfl rfl rfl (by decide)),
            trivial⟩ ?_
          refine fin_keep (s' := [(.t 3, some (.x (.p 1 0))), (.t 4, some (.x (.p 2 0))), (.t 6, some (.x (.p 3 0))), (.t 11, some (.x (.p 5 0))), (.t 12, some (.x (.v (.int .i64 ((q.1 : Int)))))), (.t 49, some (.x (.v (.slice press_p press.length press_c)))), (.t 50, some (.x (.v (.int .i64 (((press.length : Nat) : Int)))))), (.t 51, some (.x (.v (.int .i64 ((q.1 : Int)))))), (.b 1, some (.sh 25 11)), (.b 2, some (.sh 34 8)), (.b 3, some (.sh 32 2)), (.b 5, some (.sh 32 2)), (.c 1 0, some (.x (.v (.int .i64 s.Class)))), (.c 1 1, some (.x (.v (.int .i64 s.Power)))), (.c 1 2, some (.x (.v (.int .i64 s.Draught)))), (.c 1 3, some (.x (.v (.int .i64 s.Tonnes)))), (.c 1 4, some (.x (.v (.slice s_Thrust_p s.Thrust.length s_Thrust_c)))), (.c 1 5, some (.x (.v (.slice s_Water_p s.Water.length s_Water_c)))), (.c 1 6, some (.x (.v (.slice s_Ice_p s.Ice.length s_Ice_c)))), (.c 1 7, some (.x (.v (.int .i64 s.Slow)))), (.c 1 8, some (.x (.v (.int .i64 s.Brash)))), (.c 1 9, some (.x (.v (.int .i64 s.Ridge)))), (.c 1 10, some (.x (.v (.int .i64 s.Press)))), (.c 2 0, some (.x (.v (.int .i64 c.Conc.Lo)))), (.c 2 1, some (.x (.v (.int .i64 c.Conc.Hi)))), (.c 2 2, some (.x (.v (.int .i64 c.Thick.Lo)))), (.c 2 3, some (.x (.v (.int .i64 c.Thick.Hi)))), (.c 2 4, some (.x (.v (.int .i64 c.Ridge.Lo)))), (.c 2 5, some (.x (.v (.int .i64 c.Ridge.Hi)))), (.c 2 6, some (.x (.v (.int .i64 (((sp press ((q.1 : Int)))).Lo))))), (.c 2 7, some (.x (.v (.int .i64 (((sp press ((q.1 : Int)))).Hi))))), (.c 3 0, some (.x (.v (.int .i64 0)))), (.c 3 1, some (.x (.v (.int .i64 0)))), (.c 5 0, some (.x (.v (.int .i64 q.2.1)))), (.c 5 1, some (.x (.v (.int .i64 0))))]) ?_ ⟨rfl, rfl, rfl, rfl, rfl, rfl, rfl, rfl, rfl, rfl, rfl, rfl, rfl, rfl, rfl, rfl, rfl, rfl, rfl, rfl, rfl, rfl, rfl, rfl, rfl, rfl, rfl, rfl, rfl, rfl, rfl, rfl, rfl, rfl, rfl, trivial⟩ rfl
          refine fin_then ?_
          refine aw_seq ?_
          refine aw_seq ?_
          refine aw_text (rows := [_, _, _, _, _, _, _, _, _, _]) rfl (by kernel_rfl) ⟨
            ok_plain rfl rfl (op_fieldAddr (ltN rfl) rfl fo_32_0),
            ok_plain rfl rfl (op_load1 (ltN rfl) sh_3 rfl rfl),
            ok_plain rfl rfl (op_bin (ltN rfl) rfl rfl rfl),
            ok_plain rfl rfl (op_move (ltN rfl) rfl),
            ok_if (ltN rfl) rfl rfl rfl rfl rfl rfl (fun hg25 => op_loadN (ys := [.v (.int .i64 c.Conc.Lo), .v (.int .i64 c.Conc.Hi), .v (.int .i64 c.Thick.Lo), .v (.int .i64 c.Thick.Hi), .v (.int .i64 c.Ridge.Lo), .v (.int .i64 c.Ridge.Hi), .v (.int .i64 (((sp press ((q.1 : Int)))).Lo)), .v (.int .i64 (((sp press ((q.1 : Int)))).Hi))]) (ltN rfl) sh_34 (force_x rfl) rfl ⟨rfl, rfl, rfl, rfl, rfl, rfl, rfl, rfl, trivial⟩),
            ok_if (ltN rfl) rfl rfl rfl rfl rfl rfl (fun hg26 => op_call (x := .g [.v (.int .i64 ((firstI (⟨c.Conc, c.Thick, c.Ridge, (sp press ((q.1 : Int)))⟩)).Conc)), .v (.int .i64 ((firstI (⟨c.Conc, c.Thick, c.Ridge, (sp press ((q.1 : Int)))⟩)).Thick)), .v (.int .i64 ((firstI (⟨c.Conc, c.Thick, c.Ridge, (sp press ((q.1 : Int)))⟩)).Ridge)), .v (.int .i64 ((firstI (⟨c.Conc, c.Thick, c.Ridge, (sp press ((q.1 : Int)))⟩)).Press))]) (fs := []) (caps := []) (extra := []) (ltN rfl) en_88 rfl ⟨rfl, rfl, rfl⟩ (EvL.cons (force_eq (beq_iff_eq.2 hg26) rfl) EvL.nil) (fun mm aa ww gg hr hrel => (c88 (⟨c.Conc, c.Thick, c.Ridge, (sp press ((q.1 : Int)))⟩) ww))),
            ok_if (ltN rfl) rfl rfl rfl rfl rfl rfl (fun hg27 => op_build (x := .g [.p 1 0, .v (.int .i64 ((firstI (⟨c.Conc, c.Thick, c.Ridge, (sp press ((q.1 : Int)))⟩)).Conc)), .v (.int .i64 ((firstI (⟨c.Conc, c.Thick, c.Ridge, (sp press ((q.1 : Int)))⟩)).Thick)), .v (.int .i64 ((firstI (⟨c.Conc, c.Thick, c.Ridge, (sp press ((q.1 : Int)))⟩)).Ridge)), .v (.int .i64 ((firstI (⟨c.Conc, c.Thick, c.Ridge, (sp press ((q.1 : Int)))⟩)).Press)), .v (.bool false)]) (ltN rfl) (EvL.cons (force_x rfl) (EvL.cons (force_eq (beq_iff_eq.2 hg27) rfl) (EvL.cons rfl EvL.nil))) (fun m w => by kernel_rfl)),
            ok_if (ltN rfl) rfl rfl rfl rfl rfl rfl (fun hg28 => op_call (x := .v (.int .i64 (speed s ((firstI (⟨c.Conc, c.Thick, c.Ridge, (sp press ((q.1 : Int)))⟩))) false))) (fs := []) (caps := []) (extra := (.b 1 :: cellKeys 1 0 11) ++ []) (ltN rfl) en_76 rfl ⟨rfl, rfl, rfl⟩ (EvL.cons (force_eq (beq_iff_eq.2 hg28) rfl) EvL.nil) (fun mm aa ww gg hr hrel => (c76 s ⟨s_Thrust_p, s.Thrust.length, s_Thrust_c⟩ ⟨s_Water_p, s.Water.length, s_Water_c⟩ ⟨s_Ice_p, s.Ice.length, s_Ice_c⟩ (mm 1) ((firstI (⟨c.Conc, c.Thick, c.Ridge, (sp press ((q.1 : Int)))⟩))) false ww (SlIs.mono hs_Thrust hrel.below) (SlIs.mono hs_Water hrel.below) (SlIs.mono hs_Ice hrel.below) (boxAt (L := 1) (vs := [(.int .i64 s.Class), (.int .i64 s.Power), (.int .i64 s.Draught), (.int .i64 s.Tonnes), (.slice s_Thrust_p s.Thrust.length s_Thrust_c), (.slice s_Water_p s.Water.length s_Water_c), (.slice s_Ice_p s.Ice.length s_Ice_c), (.int .i64 s.Slow), (.int .i64 s.Brash), (.int .i64 s.Ridge), (.int .i64 s.Press)]) hrel (fun k hk => hr k (List.mem_append_left _ hk)) rfl ⟨rfl, rfl, rfl, rfl, rfl, rfl, rfl, rfl, rfl, rfl, rfl, trivial⟩) (by have g0 := of_decide_eq_true hg28; first | assumption | omega) (by have g0 := of_decide_eq_true hg28; first | assumption | omega)))),
            ok_if (ltN rfl) rfl rfl rfl rfl rfl rfl (fun hg29 => op_bin (ltN rfl) (force_eq (beq_iff_eq.2 hg29) rfl) rfl rfl),
            ok_plain rfl rfl (op_and (ltN rfl) rfl rfl),
            trivial⟩ ?_
          refine fin_keep (s' := [(.t 3, some (.x (.p 1 0))), (.t 4, some (.x (.p 2 0))), (.t 6, some (.x (.p 3 0))), (.t 11, some (.x (.p 5 0))), (.t 12, some (.x (.v (.int .i64 ((q.1 : Int)))))), (.t 49, some (.x (.v (.slice press_p press.length press_c)))), (.t 50, some (.x (.v (.int .i64 (((press.length : Nat) : Int)))))), (.t 51, some (.x (.v (.int .i64 ((q.1 : Int)))))), (.t 67, some (.x (.v (.bool ((decide (q.2.1 < 0)) && (decide ((speed s ((firstI (⟨c.Conc, c.Thick, c.Ridge, (sp press ((q.1 : Int)))⟩))) false) ≥ 10))))))), (.b 1, some (.sh 25 11)), (.b 2, some (.sh 34 8)), (.b 3, some (.sh 32 2)), (.b 5, some (.sh 32 2)), (.c 1 0, some (.x (.v (.int .i64 s.Class)))), (.c 1 1, some (.x (.v (.int .i64 s.Power)))), (.c 1 2, some (.x (.v (.int .i64 s.Draught)))), (.c 1 3, some (.x (.v (.int .i64 s.Tonnes)))), (.c 1 4, some (.x (.v (.slice s_Thrust_p s.Thrust.length s_Thrust_c)))), (.c 1 5, some (.x (.v (.slice s_Water_p s.Water.length s_Water_c)))), (.c 1 6, some (.x (.v (.slice s_Ice_p s.Ice.length s_Ice_c)))), (.c 1 7, some (.x (.v (.int .i64 s.Slow)))), (.c 1 8, some (.x (.v (.int .i64 s.Brash)))), (.c 1 9, some (.x (.v (.int .i64 s.Ridge)))), (.c 1 10, some (.x (.v (.int .i64 s.Press)))), (.c 2 0, some (.x (.v (.int .i64 c.Conc.Lo)))), (.c 2 1, some (.x (.v (.int .i64 c.Conc.Hi)))), (.c 2 2, some (.x (.v (.int .i64 c.Thick.Lo)))), (.c 2 3, some (.x (.v (.int .i64 c.Thick.Hi)))), (.c 2 4, some (.x (.v (.int .i64 c.Ridge.Lo)))), (.c 2 5, some (.x (.v (.int .i64 c.Ridge.Hi)))), (.c 2 6, some (.x (.v (.int .i64 (((sp press ((q.1 : Int)))).Lo))))), (.c 2 7, some (.x (.v (.int .i64 (((sp press ((q.1 : Int)))).Hi))))), (.c 3 0, some (.x (.v (.int .i64 0)))), (.c 3 1, some (.x (.v (.int .i64 0)))), (.c 5 0, some (.x (.v (.int .i64 q.2.1)))), (.c 5 1, some (.x (.v (.int .i64 0))))]) ?_ ⟨rfl, rfl, rfl, rfl, rfl, rfl, rfl, rfl, rfl, rfl, rfl, rfl, rfl, rfl, rfl, rfl, rfl, rfl, rfl, rfl, rfl, rfl, rfl, rfl, rfl, rfl, rfl, rfl, rfl, rfl, rfl, rfl, rfl, rfl, rfl, rfl, trivial⟩ rfl
          refine fin_then ?_
          refine aw_cond rfl (fun hz30 => ?_) (fun hz30 => ?_)
          · have _z := hz30
            have q31 := of_decide_eq_true (and_tl hz30)
            have q32 := of_decide_eq_true (and_tr hz30)
            refine aw_text (rows := [_, _, _]) rfl (by kernel_rfl) ⟨
              ok_plain rfl rfl (op_move (ltN rfl) rfl),
              ok_plain rfl rfl (op_fieldAddr (ltN rfl) rfl fo_32_0),
              ok_plain rfl rfl (op_store1 sz_3 rfl rfl rfl rfl (ltN rfl)),
              trivial⟩ ?_
            refine fin_keep (s' := [(.t 3, some (.x (.p 1 0))), (.t 4, some (.x (.p 2 0))), (.t 6, some (.x (.p 3 0))), (.t 11, some (.x (.p 5 0))), (.t 12, some (.x (.v (.int .i64 ((q.1 : Int)))))), (.t 49, some (.x (.v (.slice press_p press.length press_c)))), (.t 50, some (.x (.v (.int .i64 (((press.length : Nat) : Int)))))), (.t 51, some (.x (.v (.int .i64 ((q.1 : Int)))))), (.b 1, some (.sh 25 11)), (.b 2, some (.sh 34 8)), (.b 3, some (.sh 32 2)), (.b 5, some (.sh 32 2)), (.c 1 0, some (.x (.v (.int .i64 s.Class)))), (.c 1 1, some (.x (.v (.int .i64 s.Power)))), (.c 1 2, some (.x (.v (.int .i64 s.Draught)))), (.c 1 3, some (.x (.v (.int .i64 s.Tonnes)))), (.c 1 4, some (.x (.v (.slice s_Thrust_p s.Thrust.length s_Thrust_c)))), (.c 1 5, some (.x (.v (.slice s_Water_p s.Water.length s_Water_c)))), (.c 1 6, some (.x (.v (.slice s_Ice_p s.Ice.length s_Ice_c)))), (.c 1 7, some (.x (.v (.int .i64 s.Slow)))), (.c 1 8, some (.x (.v (.int .i64 s.Brash)))), (.c 1 9, some (.x (.v (.int .i64 s.Ridge)))), (.c 1 10, some (.x (.v (.int .i64 s.Press)))), (.c 2 0, some (.x (.v (.int .i64 c.Conc.Lo)))), (.c 2 1, some (.x (.v (.int .i64 c.Conc.Hi)))), (.c 2 2, some (.x (.v (.int .i64 c.Thick.Lo)))), (.c 2 3, some (.x (.v (.int .i64 c.Thick.Hi)))), (.c 2 4, some (.x (.v (.int .i64 c.Ridge.Lo)))), (.c 2 5, some (.x (.v (.int .i64 c.Ridge.Hi)))), (.c 2 6, some (.x (.v (.int .i64 (((sp press ((q.1 : Int)))).Lo))))), (.c 2 7, some (.x (.v (.int .i64 (((sp press ((q.1 : Int)))).Hi))))), (.c 3 0, some (.x (.v (.int .i64 0)))), (.c 3 1, some (.x (.v (.int .i64 0)))), (.c 5 0, some (.x (.v (.int .i64 ((q.1 : Int)))))), (.c 5 1, some (.x (.v (.int .i64 0))))]) ?_ ⟨rfl, rfl, rfl, rfl, rfl, rfl, rfl, rfl, rfl, rfl, rfl, rfl, rfl, rfl, rfl, rfl, rfl, rfl, rfl, rfl, rfl, rfl, rfl, rfl, rfl, rfl, rfl, rfl, rfl, rfl, rfl, rfl, rfl, rfl, rfl, trivial⟩ rfl
            refine fin_then ?_
            refine aw_seq ?_
            refine aw_text (rows := [_, _, _, _, _]) rfl (by kernel_rfl) ⟨
              ok_plain rfl rfl (op_loadN (ys := [.v (.int .i64 c.Conc.Lo), .v (.int .i64 c.Conc.Hi), .v (.int .i64 c.Thick.Lo), .v (.int .i64 c.Thick.Hi), .v (.int .i64 c.Ridge.Lo), .v (.int .i64 c.Ridge.Hi), .v (.int .i64 (((sp press ((q.1 : Int)))).Lo)), .v (.int .i64 (((sp press ((q.1 : Int)))).Hi))]) (ltN rfl) sh_34 rfl rfl ⟨rfl, rfl, rfl, rfl, rfl, rfl, rfl, rfl, trivial⟩),
              ok_plain rfl rfl (op_call (x := .g [.v (.int .i64 ((lastI (⟨c.Conc, c.Thick, c.Ridge, (sp press ((q.1 : Int)))⟩)).Conc)), .v (.int .i64 ((lastI (⟨c.Conc, c.Thick, c.Ridge, (sp press ((q.1 : Int)))⟩)).Thick)), .v (.int .i64 ((lastI (⟨c.Conc, c.Thick, c.Ridge, (sp press ((q.1 : Int)))⟩)).Ridge)), .v (.int .i64 ((lastI (⟨c.Conc, c.Thick, c.Ridge, (sp press ((q.1 : Int)))⟩)).Press))]) (fs := []) (caps := []) (extra := []) (ltN rfl) en_100 rfl ⟨rfl, rfl, rfl⟩ (EvL.cons rfl EvL.nil) (fun mm aa ww gg hr hrel => (c100 (⟨c.Conc, c.Thick, c.Ridge, (sp press ((q.1 : Int)))⟩) ww))),
              ok_plain rfl rfl (op_build (x := .g [.p 1 0, .v (.int .i64 ((lastI (⟨c.Conc, c.Thick, c.Ridge, (sp press ((q.1 : Int)))⟩)).Conc)), .v (.int .i64 ((lastI (⟨c.Conc, c.Thick, c.Ridge, (sp press ((q.1 : Int)))⟩)).Thick)), .v (.int .i64 ((lastI (⟨c.Conc, c.Thick, c.Ridge, (sp press ((q.1 : Int)))⟩)).Ridge)), .v (.int .i64 ((lastI (⟨c.Conc, c.Thick, c.Ridge, (sp press ((q.1 : Int)))⟩)).Press)), .v (.bool false)]) (ltN rfl) (EvL.cons rfl (EvL.cons rfl (EvL.cons rfl EvL.nil))) (fun m w => by kernel_rfl)),
              ok_plain rfl rfl (op_call (x := .v (.int .i64 (speed s ((lastI (⟨c.Conc, c.Thick, c.Ridge, (sp press ((q.1 : Int)))⟩))) false))) (fs := []) (caps := []) (extra := (.b 1 :: cellKeys 1 0 11) ++ []) (ltN rfl) en_76 rfl ⟨rfl, rfl, rfl⟩ (EvL.cons rfl EvL.nil) (fun mm aa ww gg hr hrel => (c76 s ⟨s_Thrust_p, s.Thrust.length, s_Thrust_c⟩ ⟨s_Water_p, s.Water.length, s_Water_c⟩ ⟨s_Ice_p, s.Ice.length, s_Ice_c⟩ (mm 1) ((lastI (⟨c.Conc, c.Thick, c.Ridge, (sp press ((q.1 : Int)))⟩))) false ww (SlIs.mono hs_Thrust hrel.below) (SlIs.mono hs_Water hrel.below) (SlIs.mono hs_Ice hrel.below) (boxAt (L := 1) (vs := [(.int .i64 s.Class), (.int .i64 s.Power), (.int .i64 s.Draught), (.int .i64 s.Tonnes), (.slice s_Thrust_p s.Thrust.length s_Thrust_c), (.slice s_Water_p s.Water.length s_Water_c), (.slice s_Ice_p s.Ice.length s_Ice_c), (.int .i64 s.Slow), (.int .i64 s.Brash), (.int .i64 s.Ridge), (.int .i64 s.Press)]) hrel (fun k hk => hr k (List.mem_append_left _ hk)) rfl ⟨rfl, rfl, rfl, rfl, rfl, rfl, rfl, rfl, rfl, rfl, rfl, trivial⟩) (by first | assumption | omega) (by first | assumption | omega)))),
              ok_plain rfl rfl (op_bin (ltN rfl) rfl rfl rfl),
              trivial⟩ ?_
            refine fin_keep (s' := [(.t 3, some (.x (.p 1 0))), (.t 4, some (.x (.p 2 0))), (.t 6, some (.x (.p 3 0))), (.t 11, some (.x (.p 5 0))), (.t 12, some (.x (.v (.int .i64 ((q.1 : Int)))))), (.t 49, some (.x (.v (.slice press_p press.length press_c)))), (.t 50, some (.x (.v (.int .i64 (((press.length : Nat) : Int)))))), (.t 51, some (.x (.v (.int .i64 ((q.1 : Int)))))), (.t 74, some (.x (.v (.bool (decide ((speed s ((lastI (⟨c.Conc, c.Thick, c.Ridge, (sp press ((q.1 : Int)))⟩))) false) ≥ 10)))))), (.b 1, some (.sh 25 11)), (.b 2, some (.sh 34 8)), (.b 3, some (.sh 32 2)), (.b 5, some (.sh 32 2)), (.c 1 0, some (.x (.v (.int .i64 s.Class)))), (.c 1 1, some (.x (.v (.int .i64 s.Power)))), (.c 1 2, some (.x (.v (.int .i64 s.Draught)))), (.c 1 3, some (.x (.v (.int .i64 s.Tonnes)))), (.c 1 4, some (.x (.v (.slice s_Thrust_p s.Thrust.length s_Thrust_c)))), (.c 1 5, some (.x (.v (.slice s_Water_p s.Water.length s_Water_c)))), (.c 1 6, some (.x (.v (.slice s_Ice_p s.Ice.length s_Ice_c)))), (.c 1 7, some (.x (.v (.int .i64 s.Slow)))), (.c 1 8, some (.x (.v (.int .i64 s.Brash)))), (.c 1 9, some (.x (.v (.int .i64 s.Ridge)))), (.c 1 10, some (.x (.v (.int .i64 s.Press)))), (.c 2 0, some (.x (.v (.int .i64 c.Conc.Lo)))), (.c 2 1, some (.x (.v (.int .i64 c.Conc.Hi)))), (.c 2 2, some (.x (.v (.int .i64 c.Thick.Lo)))), (.c 2 3, some (.x (.v (.int .i64 c.Thick.Hi)))), (.c 2 4, some (.x (.v (.int .i64 c.Ridge.Lo)))), (.c 2 5, some (.x (.v (.int .i64 c.Ridge.Hi)))), (.c 2 6, some (.x (.v (.int .i64 (((sp press ((q.1 : Int)))).Lo))))), (.c 2 7, some (.x (.v (.int .i64 (((sp press ((q.1 : Int)))).Hi))))), (.c 3 0, some (.x (.v (.int .i64 0)))), (.c 3 1, some (.x (.v (.int .i64 0)))), (.c 5 0, some (.x (.v (.int .i64 ((q.1 : Int)))))), (.c 5 1, some (.x (.v (.int .i64 0))))]) ?_ ⟨rfl, rfl, rfl, rfl, rfl, rfl, rfl, rfl, rfl, rfl, rfl, rfl, rfl, rfl, rfl, rfl, rfl, rfl, rfl, rfl, rfl, rfl, rfl, rfl, rfl, rfl, rfl, rfl, rfl, rfl, rfl, rfl, rfl, rfl, rfl, rfl, trivial⟩ rfl
            refine fin_then ?_
            refine aw_cond rfl (fun hz33 => ?_) (fun hz33 => ?_)
            · have _z := hz33
              have q34 := of_decide_eq_true hz33
              refine aw_seq ?_
              refine aw_text (rows := [_, _, _]) rfl (by kernel_rfl) ⟨
                ok_plain rfl rfl (op_move (ltN rfl) rfl),
                ok_plain rfl rfl (op_fieldAddr (ltN rfl) rfl fo_32_1),
                ok_plain rfl rfl (op_store1 sz_3 rfl rfl rfl rfl (ltN rfl)),
                trivial⟩ ?_
              refine fin_keep (s' := [(.t 6, some (.x (.p 3 0))), (.t 11, some (.x (.p 5 0))), (.b 3, some (.sh 32 2)), (.b 5, some (.sh 32 2)), (.c 3 0, some (.x (.v (.int .i64 0)))), (.c 3 1, some (.x (.v (.int .i64 0)))), (.c 5 0, some (.x (.v (.int .i64 ((q.1 : Int)))))), (.c 5 1, some (.x (.v (.int .i64 ((q.1 : Int))))))]) ?_ ⟨rfl, rfl, rfl, rfl, rfl, rfl, rfl, rfl, trivial⟩ rfl
              refine fin_then ?_
              refine aw_seq ?_
              refine aw_text (rows := [_, _, _]) rfl (by kernel_rfl) ⟨
                ok_plain rfl rfl (op_loadN (ys := [.v (.int .i64 ((q.1 : Int))), .v (.int .i64 ((q.1 : Int)))]) (ltN rfl) sh_32 rfl rfl ⟨rfl, rfl, trivial⟩),
                ok_plain rfl rfl (op_storeN sz_32 rfl rfl rfl rfl rfl (by decide)),
                ok_plain rfl rfl (op_assign (ltN rfl) rfl),
                trivial⟩ ?_
              refine fin_keep (s' := [(.t 6, some (.x (.p 3 0))), (.t 7, some (.x (.v (.int .i64 0)))), (.b 3, some (.sh 32 2)), (.c 3 0, some (.x (.v (.int .i64 ((q.1 : Int)))))), (.c 3 1, some (.x (.v (.int .i64 ((q.1 : Int))))))]) ?_ ⟨rfl, rfl, rfl, rfl, rfl, trivial⟩ rfl
              refine fin_then ?_
              refine aw_ret ?_
              refine fin_block_ret ?_
              refine fin_then_ret ?_
              refine fin_then_ret ?_
              refine fin_block_ret ?_
              refine fin_then_ret ?_
              refine post_ret (x := .t [.g [.v (.int .i64 ((q.1 : Int))), .v (.int .i64 ((q.1 : Int)))], .v (.int .i64 0)]) rfl rfl (resOK_cellN (ys := [.v (.int .i64 ((q.1 : Int))), .v (.int .i64 ((q.1 : Int)))]) rfl sh_32 rfl ⟨rfl, rfl, trivial⟩ (resOK_tmp rfl resOK_nil)) rfl (fun mm aa ww hr => ?_)
              show Ending.returned (.tuple #[.agg #[.int .i64 ((q.1 : Int)), .int .i64 ((q.1 : Int))], .int .i64 0]) = _ ∧ _
              exact ⟨by rw [hfr, drop_sp hlt, freeFrom, if_pos (of_decide_eq_true hz33), if_pos hz30], hr.below⟩
            · have _z := hz33
              have q35 := of_decide_eq_false hz33
              refine aw_skip ?_
              refine fin_block ?_
              refine fin_then ?_
              refine aw_text (rows := [_, _]) rfl (by kernel_rfl) ⟨
                ok_plain rfl rfl (op_bin (ltN rfl) rfl rfl (nw_add ⟨(by omega), (by omega)⟩)),
                ok_plain rfl rfl (op_move (ltN rfl) rfl),
                trivial⟩ ?_
              refine fin_keep (s' := [(.t 3, some (.x (.p 1 0))), (.t 4, some (.x (.p 2 0))), (.t 6, some (.x (.p 3 0))), (.t 11, some (.x (.p 5 0))), (.t 49, some (.x (.v (.slice press_p press.length press_c)))), (.t 50, some (.x (.v (.int .i64 (((press.length : Nat) : Int)))))), (.t 51, some (.x (.v (.int .i64 (((q.1 : Int)) + 1))))), (.b 1, some (.sh 25 11)), (.b 2, some (.sh 34 8)), (.b 3, some (.sh 32 2)), (.b 5, some (.sh 32 2)), (.c 1 0, some (.x (.v (.int .i64 s.Class)))), (.c 1 1, some (.x (.v (.int .i64 s.Power)))), (.c 1 2, some (.x (.v (.int .i64 s.Draught)))), (.c 1 3, some (.x (.v (.int .i64 s.Tonnes)))), (.c 1 4, some (.x (.v (.slice s_Thrust_p s.Thrust.length s_Thrust_c)))), (.c 1 5, some (.x (.v (.slice s_Water_p s.Water.length s_Water_c)))), (.c 1 6, some (.x (.v (.slice s_Ice_p s.Ice.length s_Ice_c)))), (.c 1 7, some (.x (.v (.int .i64 s.Slow)))), (.c 1 8, some (.x (.v (.int .i64 s.Brash)))), (.c 1 9, some (.x (.v (.int .i64 s.Ridge)))), (.c 1 10, some (.x (.v (.int .i64 s.Press)))), (.c 2 0, some (.x (.v (.int .i64 c.Conc.Lo)))), (.c 2 1, some (.x (.v (.int .i64 c.Conc.Hi)))), (.c 2 2, some (.x (.v (.int .i64 c.Thick.Lo)))), (.c 2 3, some (.x (.v (.int .i64 c.Thick.Hi)))), (.c 2 4, some (.x (.v (.int .i64 c.Ridge.Lo)))), (.c 2 5, some (.x (.v (.int .i64 c.Ridge.Hi)))), (.c 2 6, some (.x (.v (.int .i64 (((sp press ((q.1 : Int)))).Lo))))), (.c 2 7, some (.x (.v (.int .i64 (((sp press ((q.1 : Int)))).Hi))))), (.c 3 0, some (.x (.v (.int .i64 0)))), (.c 3 1, some (.x (.v (.int .i64 0)))), (.c 5 0, some (.x (.v (.int .i64 ((q.1 : Int)))))), (.c 5 1, some (.x (.v (.int .i64 0))))]) ?_ ⟨rfl, rfl, rfl, rfl, rfl, rfl, rfl, rfl, rfl, rfl, rfl, rfl, rfl, rfl, rfl, rfl, rfl, rfl, rfl, rfl, rfl, rfl, rfl, rfl, rfl, rfl, rfl, rfl, rfl, rfl, rfl, rfl, rfl, rfl, trivial⟩ rfl
              exact fin_loop (q.1 + 1, (q.1 : Int), sp press (q.1 : Int)) ⟨by simp only []; omega, by rw [hfr, drop_sp hlt, freeFrom, if_neg (of_decide_eq_false hz33), if_pos hz30]; rfl⟩ (by simp only []; omega) ⟨rfl, rfl, rfl, rfl, rfl, rfl, rfl, rfl, rfl, rfl, rfl, rfl, rfl, rfl, rfl, rfl, rfl, rfl, rfl, rfl, rfl, rfl, rfl, rfl, rfl, rfl, rfl, rfl, rfl, rfl, rfl, rfl, rfl, rfl, trivial⟩ rfl
          · have _z := hz30
            have q36 := hz30
            refine aw_skip ?_
            refine fin_then ?_
            refine aw_seq ?_
            refine aw_text (rows := [_, _, _, _, _]) rfl (by kernel_rfl) ⟨
              ok_plain rfl rfl (op_loadN (ys := [.v (.int .i64 c.Conc.Lo), .v (.int .i64 c.Conc.Hi), .v (.int .i64 c.Thick.Lo), .v (.int .i64 c.Thick.Hi), .v (.int .i64 c.Ridge.Lo), .v (.int .i64 c.Ridge.Hi), .v (.int .i64 (((sp press ((q.1 : Int)))).Lo)), .v (.int .i64 (((sp press ((q.1 : Int)))).Hi))]) (ltN rfl) sh_34 rfl rfl ⟨rfl, rfl, rfl, rfl, rfl, rfl, rfl, rfl, trivial⟩),
              ok_plain rfl rfl (op_call (x := .g [.v (.int .i64 ((lastI (⟨c.Conc, c.Thick, c.Ridge, (sp press ((q.1 : Int)))⟩)).Conc)), .v (.int .i64 ((lastI (⟨c.Conc, c.Thick, c.Ridge, (sp press ((q.1 : Int)))⟩)).Thick)), .v (.int .i64 ((lastI (⟨c.Conc, c.Thick, c.Ridge, (sp press ((q.1 : Int)))⟩)).Ridge)), .v (.int .i64 ((lastI (⟨c.Conc, c.Thick, c.Ridge, (sp press ((q.1 : Int)))⟩)).Press))]) (fs := []) (caps := []) (extra := []) (ltN rfl) en_100 rfl ⟨rfl, rfl, rfl⟩ (EvL.cons rfl EvL.nil) (fun mm aa ww gg hr hrel => (c100 (⟨c.Conc, c.Thick, c.Ridge, (sp press ((q.1 : Int)))⟩) ww))),
              ok_plain rfl rfl (op_build (x := .g [.p 1 0, .v (.int .i64 ((lastI (⟨c.Conc, c.Thick, c.Ridge, (sp press ((q.1 : Int)))⟩)).Conc)), .v (.int .i64 ((lastI (⟨c.Conc, c.Thick, c.Ridge, (sp press ((q.1 : Int)))⟩)).Thick)), .v (.int .i64 ((lastI (⟨c.Conc, c.Thick, c.Ridge, (sp press ((q.1 : Int)))⟩)).Ridge)), .v (.int .i64 ((lastI (⟨c.Conc, c.Thick, c.Ridge, (sp press ((q.1 : Int)))⟩)).Press)), .v (.bool false)]) (ltN rfl) (EvL.cons rfl (EvL.cons rfl (EvL.cons rfl EvL.nil))) (fun m w => by kernel_rfl)),
              ok_plain rfl rfl (op_call (x := .v (.int .i64 (speed s ((lastI (⟨c.Conc, c.Thick, c.Ridge, (sp press ((q.1 : Int)))⟩))) false))) (fs := []) (caps := []) (extra := (.b 1 :: cellKeys 1 0 11) ++ []) (ltN rfl) en_76 rfl ⟨rfl, rfl, rfl⟩ (EvL.cons rfl EvL.nil) (fun mm aa ww gg hr hrel => (c76 s ⟨s_Thrust_p, s.Thrust.length, s_Thrust_c⟩ ⟨s_Water_p, s.Water.length, s_Water_c⟩ ⟨s_Ice_p, s.Ice.length, s_Ice_c⟩ (mm 1) ((lastI (⟨c.Conc, c.Thick, c.Ridge, (sp press ((q.1 : Int)))⟩))) false ww (SlIs.mono hs_Thrust hrel.below) (SlIs.mono hs_Water hrel.below) (SlIs.mono hs_Ice hrel.below) (boxAt (L := 1) (vs := [(.int .i64 s.Class), (.int .i64 s.Power), (.int .i64 s.Draught), (.int .i64 s.Tonnes), (.slice s_Thrust_p s.Thrust.length s_Thrust_c), (.slice s_Water_p s.Water.length s_Water_c), (.slice s_Ice_p s.Ice.length s_Ice_c), (.int .i64 s.Slow), (.int .i64 s.Brash), (.int .i64 s.Ridge), (.int .i64 s.Press)]) hrel (fun k hk => hr k (List.mem_append_left _ hk)) rfl ⟨rfl, rfl, rfl, rfl, rfl, rfl, rfl, rfl, rfl, rfl, rfl, trivial⟩) (by first | assumption | omega) (by first | assumption | omega)))),
              ok_plain rfl rfl (op_bin (ltN rfl) rfl rfl rfl),
              trivial⟩ ?_
            refine fin_keep (s' := [(.t 3, some (.x (.p 1 0))), (.t 4, some (.x (.p 2 0))), (.t 6, some (.x (.p 3 0))), (.t 11, some (.x (.p 5 0))), (.t 12, some (.x (.v (.int .i64 ((q.1 : Int)))))), (.t 49, some (.x (.v (.slice press_p press.length press_c)))), (.t 50, some (.x (.v (.int .i64 (((press.length : Nat) : Int)))))), (.t 51, some (.x (.v (.int .i64 ((q.1 : Int)))))), (.t 74, some (.x (.v (.bool (decide ((speed s ((lastI (⟨c.Conc, c.Thick, c.Ridge, (sp press ((q.1 : Int)))⟩))) false) ≥ 10)))))), (.b 1, some (.sh 25 11)), (.b 2, some (.sh 34 8)), (.b 3, some (.sh 32 2)), (.b 5, some (.sh 32 2)), (.c 1 0, some (.x (.v (.int .i64 s.Class)))), (.c 1 1, some (.x (.v (.int .i64 s.Power)))), (.c 1 2, some (.x (.v (.int .i64 s.Draught)))), (.c 1 3, some (.x (.v (.int .i64 s.Tonnes)))), (.c 1 4, some (.x (.v (.slice s_Thrust_p s.Thrust.length s_Thrust_c)))), (.c 1 5, some (.x (.v (.slice s_Water_p s.Water.length s_Water_c)))), (.c 1 6, some (.x (.v (.slice s_Ice_p s.Ice.length s_Ice_c)))), (.c 1 7, some (.x (.v (.int .i64 s.Slow)))), (.c 1 8, some (.x (.v (.int .i64 s.Brash)))), (.c 1 9, some (.x (.v (.int .i64 s.Ridge)))), (.c 1 10, some (.x (.v (.int .i64 s.Press)))), (.c 2 0, some (.x (.v (.int .i64 c.Conc.Lo)))), (.c 2 1, some (.x (.v (.int .i64 c.Conc.Hi)))), (.c 2 2, some (.x (.v (.int .i64 c.Thick.Lo)))), (.c 2 3, some (.x (.v (.int .i64 c.Thick.Hi)))), (.c 2 4, some (.x (.v (.int .i64 c.Ridge.Lo)))), (.c 2 5, some (.x (.v (.int .i64 c.Ridge.Hi)))), (.c 2 6, some (.x (.v (.int .i64 (((sp press ((q.1 : Int)))).Lo))))), (.c 2 7, some (.x (.v (.int .i64 (((sp press ((q.1 : Int)))).Hi))))), (.c 3 0, some (.x (.v (.int .i64 0)))), (.c 3 1, some (.x (.v (.int .i64 0)))), (.c 5 0, some (.x (.v (.int .i64 q.2.1)))), (.c 5 1, some (.x (.v (.int .i64 0))))]) ?_ ⟨rfl, rfl, rfl, rfl, rfl, rfl, rfl, rfl, rfl, rfl, rfl, rfl, rfl, rfl, rfl, rfl, rfl, rfl, rfl, rfl, rfl, rfl, rfl, rfl, rfl, rfl, rfl, rfl, rfl, rfl, rfl, rfl, rfl, rfl, rfl, rfl, trivial⟩ rfl
            refine fin_then ?_
            refine aw_cond rfl (fun hz37 => ?_) (fun hz37 => ?_)
            · have _z := hz37
              have q38 := of_decide_eq_true hz37
              refine aw_seq ?_
              refine aw_text (rows := [_, _, _]) rfl (by kernel_rfl) ⟨
                ok_plain rfl rfl (op_move (ltN rfl) rfl),
                ok_plain rfl rfl (op_fieldAddr (ltN rfl) rfl fo_32_1),
                ok_plain rfl rfl (op_store1 sz_3 rfl rfl rfl rfl (ltN rfl)),
                trivial⟩ ?_
              refine fin_keep (s' := [(.t 6, some (.x (.p 3 0))), (.t 11, some (.x (.p 5 0))), (.b 3, some (.sh 32 2)), (.b 5, some (.sh 32 2)), (.c 3 0, some (.x (.v (.int .i64 0)))), (.c 3 1, some (.x (.v (.int .i64 0)))), (.c 5 0, some (.x (.v (.int .i64 q.2.1)))), (.c 5 1, some (.x (.v (.int .i64 ((q.1 : Int))))))]) ?_ ⟨rfl, rfl, rfl, rfl, rfl, rfl, rfl, rfl, trivial⟩ rfl
              refine fin_then ?_
              refine aw_seq ?_
              refine aw_text (rows := [_, _, _]) rfl (by kernel_rfl) ⟨
                ok_plain rfl rfl (op_loadN (ys := [.v (.int .i64 q.2.1), .v (.int .i64 ((q.1 : Int)))]) (ltN rfl) sh_32 rfl rfl ⟨rfl, rfl, trivial⟩),
                ok_plain rfl rfl (op_storeN sz_32 rfl rfl rfl rfl rfl (by decide)),
                ok_plain rfl rfl (op_assign (ltN rfl) rfl),
                trivial⟩ ?_
              refine fin_keep (s' := [(.t 6, some (.x (.p 3 0))), (.t 7, some (.x (.v (.int .i64 0)))), (.b 3, some (.sh 32 2)), (.c 3 0, some (.x (.v (.int .i64 q.2.1)))), (.c 3 1, some (.x (.v (.int .i64 ((q.1 : Int))))))]) ?_ ⟨rfl, rfl, rfl, rfl, rfl, trivial⟩ rfl
              refine fin_then ?_
              refine aw_ret ?_
              refine fin_block_ret ?_
              refine fin_then_ret ?_
              refine fin_then_ret ?_
              refine fin_block_ret ?_
              refine fin_then_ret ?_
              refine post_ret (x := .t [.g [.v (.int .i64 q.2.1), .v (.int .i64 ((q.1 : Int)))], .v (.int .i64 0)]) rfl rfl (resOK_cellN (ys := [.v (.int .i64 q.2.1), .v (.int .i64 ((q.1 : Int)))]) rfl sh_32 rfl ⟨rfl, rfl, trivial⟩ (resOK_tmp rfl resOK_nil)) rfl (fun mm aa ww hr => ?_)
              show Ending.returned (.tuple #[.agg #[.int .i64 q.2.1, .int .i64 ((q.1 : Int))], .int .i64 0]) = _ ∧ _
              exact ⟨by rw [hfr, drop_sp hlt, freeFrom, if_pos (of_decide_eq_true hz37), if_neg (f2t hz30)], hr.below⟩
            · have _z := hz37
              have q39 := of_decide_eq_false hz37
              refine aw_skip ?_
              refine fin_block ?_
              refine fin_then ?_
              refine aw_text (rows := [_, _]) rfl (by kernel_rfl) ⟨
                ok_plain rfl rfl (op_bin (ltN rfl) rfl rfl (nw_add ⟨(by omega), (by omega)⟩)),
                ok_plain rfl rfl (op_move (ltN rfl) rfl),
                trivial⟩ ?_
              refine fin_keep (s' := [(.t 3, some (.x (.p 1 0))), (.t 4, some (.x (.p 2 0))), (.t 6, some (.x (.p 3 0))), (.t 11, some (.x (.p 5 0))), (.t 49, some (.x (.v (.slice press_p press.length press_c)))), (.t 50, some (.x (.v (.int .i64 (((press.length : Nat) : Int)))))), (.t 51, some (.x (.v (.int .i64 (((q.1 : Int)) + 1))))), (.b 1, some (.sh 25 11)), (.b 2, some (.sh 34 8)), (.b 3, some (.sh 32 2)), (.b 5, some (.sh 32 2)), (.c 1 0, some (.x (.v (.int .i64 s.Class)))), (.c 1 1, some (.x (.v (.int .i64 s.Power)))), (.c 1 2, some (.x (.v (.int .i64 s.Draught)))), (.c 1 3, some (.x (.v (.int .i64 s.Tonnes)))), (.c 1 4, some (.x (.v (.slice s_Thrust_p s.Thrust.length s_Thrust_c)))), (.c 1 5, some (.x (.v (.slice s_Water_p s.Water.length s_Water_c)))), (.c 1 6, some (.x (.v (.slice s_Ice_p s.Ice.length s_Ice_c)))), (.c 1 7, some (.x (.v (.int .i64 s.Slow)))), (.c 1 8, some (.x (.v (.int .i64 s.Brash)))), (.c 1 9, some (.x (.v (.int .i64 s.Ridge)))), (.c 1 10, some (.x (.v (.int .i64 s.Press)))), (.c 2 0, some (.x (.v (.int .i64 c.Conc.Lo)))), (.c 2 1, some (.x (.v (.int .i64 c.Conc.Hi)))), (.c 2 2, some (.x (.v (.int .i64 c.Thick.Lo)))), (.c 2 3, some (.x (.v (.int .i64 c.Thick.Hi)))), (.c 2 4, some (.x (.v (.int .i64 c.Ridge.Lo)))), (.c 2 5, some (.x (.v (.int .i64 c.Ridge.Hi)))), (.c 2 6, some (.x (.v (.int .i64 (((sp press ((q.1 : Int)))).Lo))))), (.c 2 7, some (.x (.v (.int .i64 (((sp press ((q.1 : Int)))).Hi))))), (.c 3 0, some (.x (.v (.int .i64 0)))), (.c 3 1, some (.x (.v (.int .i64 0)))), (.c 5 0, some (.x (.v (.int .i64 q.2.1)))), (.c 5 1, some (.x (.v (.int .i64 0))))]) ?_ ⟨rfl, rfl, rfl, rfl, rfl, rfl, rfl, rfl, rfl, rfl, rfl, rfl, rfl, rfl, rfl, rfl, rfl, rfl, rfl, rfl, rfl, rfl, rfl, rfl, rfl, rfl, rfl, rfl, rfl, rfl, rfl, rfl, rfl, rfl, trivial⟩ rfl
              exact fin_loop (q.1 + 1, q.2.1, sp press (q.1 : Int)) ⟨by simp only []; omega, by rw [hfr, drop_sp hlt, freeFrom, if_neg (of_decide_eq_false hz37), if_neg (f2t hz30)]; rfl⟩ (by simp only []; omega) ⟨rfl, rfl, rfl, rfl, rfl, rfl, rfl, rfl, rfl, rfl, rfl, rfl, rfl, rfl, rfl, rfl, rfl, rfl, rfl, rfl, rfl, rfl, rfl, rfl, rfl, rfl, rfl, rfl, rfl, rfl, rfl, rfl, rfl, rfl, trivial⟩ rfl
        · have _z := hz23
          have q40 := of_decide_eq_false hz23
          refine aw_exit ?_
          refine fin_then_exit ?_
          refine fin_then_exit ?_
          refine fin_block_exit ?_
          refine fin_then ?_
          refine aw_seq ?_
          refine aw_text (rows := [_, _, _]) rfl (by kernel_rfl) ⟨
            ok_plain rfl rfl (op_build (x := .g [.v (.int .i64 0), .v (.int .i64 0)]) (ltN rfl) EvL.nil (fun m w => by kernel_rfl)),
            ok_plain rfl rfl (op_storeN sz_32 rfl rfl rfl rfl rfl (by decide)),
            ok_plain rfl rfl (op_assign (ltN rfl) rfl),
            trivial⟩ ?_
          refine fin_keep (s' := [(.t 6, some (.x (.p 3 0))), (.t 7, some (.x (.v (.int .i64 4)))), (.b 3, some (.sh 32 2)), (.c 3 0, some (.x (.v (.int .i64 0)))), (.c 3 1, some (.x (.v (.int .i64 0))))]) ?_ ⟨rfl, rfl, rfl, rfl, rfl, trivial⟩ rfl
          refine fin_then ?_
          refine aw_ret ?_
          refine post_ret (x := .t [.g [.v (.int .i64 0), .v (.int .i64 0)], .v (.int .i64 4)]) rfl rfl (resOK_cellN (ys := [.v (.int .i64 0), .v (.int .i64 0)]) rfl sh_32 rfl ⟨rfl, rfl, trivial⟩ (resOK_tmp rfl resOK_nil)) rfl (fun mm aa ww hr => ?_)
          show Ending.returned (.tuple #[.agg #[.int .i64 0, .int .i64 0], .int .i64 4]) = _ ∧ _
          exact ⟨by rw [hfr, List.drop_of_length_le (by omega)]; rfl, hr.below⟩

end Go.Proofs.T
