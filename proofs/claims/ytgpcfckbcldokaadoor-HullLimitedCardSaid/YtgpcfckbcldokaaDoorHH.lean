import Derived.Test.YtgpcfckbcldokaaDoorHG
namespace Go.Proofs.T
open Go Go.AX Go.RowKit Hull
theorem ss_46 : sliceSz Tryd.prog 46 = some 10 := by kernel_rfl
theorem sh_48 : shapeOf Tryd.prog 48 = some (some 10) := by kernel_rfl
theorem zl_48 : zeroL Tryd.prog 48 = some [(.int .i64 0), (.int .i64 0), (.int .i64 0), (.int .i64 0), (.int .i64 0), (.int .i64 0), (.int .i64 0), (.int .i64 0), (.bool false), (.int .i64 0)] := by kernel_rfl
theorem sz_48 : sizeIn Tryd.prog 48 = some 10 := by kernel_rfl
theorem fo_48_0 : fieldOff Tryd.prog 48 0 = some 0 := by kernel_rfl
theorem fo_48_1 : fieldOff Tryd.prog 48 1 = some 8 := by kernel_rfl
theorem en_87 : Proofs.Enters Tryd.prog 87 := Proofs.enters_of Tryd.func87 (by kernel_rfl) rfl
theorem af_49 : appFact Tryd.prog 49 = some (3, 1, 8) := by kernel_rfl
theorem en_86 : Proofs.Enters Tryd.prog 86 := Proofs.enters_of Tryd.func86 (by kernel_rfl) rfl

set_option maxHeartbeats 2000000 in
theorem c23 (s : Ship) (s_Thrust_s : SlV) (s_Water_s : SlV) (s_Ice_s : SlV) (l : List Part) (l_s : SlV) (w : World) (hs_Thrust : SlIs encPt 2 w s_Thrust_s s.Thrust) (hs_Water : SlIs encPt 2 w s_Water_s s.Water) (hs_Ice : SlIs encPt 2 w s_Ice_s s.Ice) (hl : SlIs encPart 10 w l_s l) (hG : BoxAt w 0 (strengths.map (fun n => Value.int .i64 n))) : Calls Tryd.prog 23 #[.agg #[.int .i64 s.Class, .int .i64 s.Power, .int .i64 s.Draught, .int .i64 s.Tonnes, .slice s_Thrust_s.p s_Thrust_s.n s_Thrust_s.c, .slice s_Water_s.p s_Water_s.n s_Water_s.c, .slice s_Ice_s.p s_Ice_s.n s_Ice_s.c, .int .i64 s.Slow, .int .i64 s.Brash, .int .i64 s.Ridge, .int .i64 s.Press], .slice l_s.p l_s.n l_s.c] w fun e w' => ∃ p c, e = .returned (.tuple #[(.slice p ((leg s l).1.length) c), .agg #[.int .i64 (((leg s l).2.1).Lo), .int .i64 (((leg s l).2.1).Hi)], .int .i64 ((leg s l).2.2)]) ∧ NewAt w w' p ((leg s l).1.length) c 3 1 (((leg s l).1).flatMap encInt) ∧ Below w.heap.size w w' := by
  obtain ⟨s_Thrust_p, s_Thrust_n, s_Thrust_c⟩ := s_Thrust_s
  have hs_Thrust_l : s_Thrust_n = s.Thrust.length := hs_Thrust.1
  subst hs_Thrust_l
  obtain ⟨s_Thrust_b, s_Thrust_o, hs_Thrust_p, hs_Thrust_L⟩ := SlAt.lies' hs_Thrust
  obtain ⟨s_Water_p, s_Water_n, s_Water_c⟩ := s_Water_s
  have hs_Water_l : s_Water_n = s.Water.length := hs_Water.1
  subst hs_Water_l
  obtain ⟨s_Water_b, s_Water_o, hs_Water_p, hs_Water_L⟩ := SlAt.lies' hs_Water
  obtain ⟨s_Ice_p, s_Ice_n, s_Ice_c⟩ := s_Ice_s
  have hs_Ice_l : s_Ice_n = s.Ice.length := hs_Ice.1
  subst hs_Ice_l
  obtain ⟨s_Ice_b, s_Ice_o, hs_Ice_p, hs_Ice_L⟩ := SlAt.lies' hs_Ice
  obtain ⟨l_p, l_n, l_c⟩ := l_s
  have hl_l : l_n = l.length := hl.1
  subst hl_l
  obtain ⟨l_b, l_o, hl_p, hl_L⟩ := SlAt.lies' hl
  refine enter (args := [.g [.v (.int .i64 s.Class), .v (.int .i64 s.Power), .v (.int .i64 s.Draught), .v (.int .i64 s.Tonnes), .v (.slice s_Thrust_p s.Thrust.length s_Thrust_c), .v (.slice s_Water_p s.Water.length s_Water_c), .v (.slice s_Ice_p s.Ice.length s_Ice_c), .v (.int .i64 s.Slow), .v (.int .i64 s.Brash), .v (.int .i64 s.Ridge), .v (.int .i64 s.Press)], .v (.slice l_p l.length l_c)]) Tryd.func23 rfl (N := 103) rfl (Nat.le_of_ble_eq_true rfl) ?_
  refine aw_seq ?_
  refine aw_text (rows := [_, _, _, _]) rfl (by kernel_rfl) ⟨
    ok_plain rfl rfl (op_boxN (L := 1) (ltN rfl) rfl rfl rfl),
    ok_plain rfl rfl (op_assign (ltN rfl) rfl),
    ok_plain rfl rfl (op_alloc (L := 2) (ltN rfl) zl_32),
    ok_plain rfl rfl (op_assign (ltN rfl) rfl),
    trivial⟩ ?_
  refine fin_keep (s' := [(.t 1, some (.x (.v (.slice l_p l.length l_c)))), (.t 2, some (.x (.p 1 0))), (.t 5, some (.x (.p 2 0))), (.b 1, some (.sh 25 11)), (.b 2, some (.sh 32 2)), (.c 1 0, some (.x (.v (.int .i64 s.Class)))), (.c 1 1, some (.x (.v (.int .i64 s.Power)))), (.c 1 2, some (.x (.v (.int .i64 s.Draught)))), (.c 1 3, some (.x (.v (.int .i64 s.Tonnes)))), (.c 1 4, some (.x (.v (.slice s_Thrust_p s.Thrust.length s_Thrust_c)))), (.c 1 5, some (.x (.v (.slice s_Water_p s.Water.length s_Water_c)))), (.c 1 6, some (.x (.v (.slice s_Ice_p s.Ice.length s_Ice_c)))), (.c 1 7, some (.x (.v (.int .i64 s.Slow)))), (.c 1 8, some (.x (.v (.int .i64 s.Brash)))), (.c 1 9, some (.x (.v (.int .i64 s.Ridge)))), (.c 1 10, some (.x (.v (.int .i64 s.Press)))), (.c 2 0, some (.x (.v (.int .i64 0)))), (.c 2 1, some (.x (.v (.int .i64 0))))]) ?_ ⟨rfl, rfl, rfl, rfl, rfl, rfl, rfl, rfl, rfl, rfl, rfl, rfl, rfl, rfl, rfl, rfl, rfl, rfl, trivial⟩ rfl
  refine fin_then ?_
  refine aw_seq ?_
  refine aw_seq ?_
  refine aw_text (rows := [_, _, _]) rfl (by kernel_rfl) ⟨
    ok_plain rfl rfl (op_loadN (ys := [.v (.int .i64 s.Class), .v (.int .i64 s.Power), .v (.int .i64 s.Draught), .v (.int .i64 s.Tonnes), .v (.slice s_Thrust_p s.Thrust.length s_Thrust_c), .v (.slice s_Water_p s.Water.length s_Water_c), .v (.slice s_Ice_p s.Ice.length s_Ice_c), .v (.int .i64 s.Slow), .v (.int .i64 s.Brash), .v (.int .i64 s.Ridge), .v (.int .i64 s.Press)]) (ltN rfl) sh_25 rfl rfl ⟨rfl, rfl, rfl, rfl, rfl, rfl, rfl, rfl, rfl, rfl, rfl, trivial⟩),
    ok_plain rfl rfl (op_call (x := .v (.int .i64 (check s))) (fs := []) (caps := []) (extra := []) (ltN rfl) en_46 rfl ⟨rfl, rfl, rfl⟩ (EvL.cons rfl EvL.nil) (fun mm aa ww gg hr hrel => (c46 s ⟨s_Thrust_p, s.Thrust.length, s_Thrust_c⟩ ⟨s_Water_p, s.Water.length, s_Water_c⟩ ⟨s_Ice_p, s.Ice.length, s_Ice_c⟩ ww (SlIs.mono hs_Thrust hrel.below) (SlIs.mono hs_Water hrel.below) (SlIs.mono hs_Ice hrel.below)))),
    ok_plain rfl rfl (op_assign (ltN rfl) rfl),
    trivial⟩ ?_
  refine fin_keep (s' := [(.t 1, some (.x (.v (.slice l_p l.length l_c)))), (.t 2, some (.x (.p 1 0))), (.t 5, some (.x (.p 2 0))), (.t 7, some (.x (.v (.int .i64 (check s))))), (.b 1, some (.sh 25 11)), (.b 2, some (.sh 32 2)), (.c 1 0, some (.x (.v (.int .i64 s.Class)))), (.c 1 1, some (.x (.v (.int .i64 s.Power)))), (.c 1 2, some (.x (.v (.int .i64 s.Draught)))), (.c 1 3, some (.x (.v (.int .i64 s.Tonnes)))), (.c 1 4, some (.x (.v (.slice s_Thrust_p s.Thrust.length s_Thrust_c)))), (.c 1 5, some (.x (.v (.slice s_Water_p s.Water.length s_Water_c)))), (.c 1 6, some (.x (.v (.slice s_Ice_p s.Ice.length s_Ice_c)))), (.c 1 7, some (.x (.v (.int .i64 s.Slow)))), (.c 1 8, some (.x (.v (.int .i64 s.Brash)))), (.c 1 9, some (.x (.v (.int .i64 s.Ridge)))), (.c 1 10, some (.x (.v (.int .i64 s.Press)))), (.c 2 0, some (.x (.v (.int .i64 0)))), (.c 2 1, some (.x (.v (.int .i64 0))))]) ?_ ⟨rfl, rfl, rfl, rfl, rfl, rfl, rfl, rfl, rfl, rfl, rfl, rfl, rfl, rfl, rfl, rfl, rfl, rfl, rfl, trivial⟩ rfl
  refine fin_then ?_
  refine aw_seq ?_
  refine aw_text (rows := [_, _]) rfl (by kernel_rfl) ⟨
    ok_plain rfl rfl (op_move (ltN rfl) rfl),
    ok_plain rfl rfl (op_bin (ltN rfl) rfl rfl rfl),
    trivial⟩ ?_
  refine fin_keep (s' := [(.t 1, some (.x (.v (.slice l_p l.length l_c)))), (.t 2, some (.x (.p 1 0))), (.t 5, some (.x (.p 2 0))), (.t 7, some (.x (.v (.int .i64 (check s))))), (.t 23, some (.x (.v (.bool ((check s) != 0))))), (.b 1, some (.sh 25 11)), (.b 2, some (.sh 32 2)), (.c 1 0, some (.x (.v (.int .i64 s.Class)))), (.c 1 1, some (.x (.v (.int .i64 s.Power)))), (.c 1 2, some (.x (.v (.int .i64 s.Draught)))), (.c 1 3, some (.x (.v (.int .i64 s.Tonnes)))), (.c 1 4, some (.x (.v (.slice s_Thrust_p s.Thrust.length s_Thrust_c)))), (.c 1 5, some (.x (.v (.slice s_Water_p s.Water.length s_Water_c)))), (.c 1 6, some (.x (.v (.slice s_Ice_p s.Ice.length s_Ice_c)))), (.c 1 7, some (.x (.v (.int .i64 s.Slow)))), (.c 1 8, some (.x (.v (.int .i64 s.Brash)))), (.c 1 9, some (.x (.v (.int .i64 s.Ridge)))), (.c 1 10, some (.x (.v (.int .i64 s.Press)))), (.c 2 0, some (.x (.v (.int .i64 0)))), (.c 2 1, some (.x (.v (.int .i64 0))))]) ?_ ⟨rfl, rfl, rfl, rfl, rfl, rfl, rfl, rfl, rfl, rfl, rfl, rfl, rfl, rfl, rfl, rfl, rfl, rfl, rfl, rfl, trivial⟩ rfl
  refine fin_then ?_
  refine aw_cond rfl (fun hz1 => ?_) (fun hz1 => ?_)
  · have _z := hz1
    have q2 := ne_t hz1
    refine aw_seq ?_
    refine aw_text (rows := [_, _, _, _, _]) rfl (by kernel_rfl) ⟨
      ok_plain rfl rfl (op_build (x := .g [.v (.int .i64 0), .v (.int .i64 0)]) (ltN rfl) EvL.nil (fun m w => by kernel_rfl)),
      ok_plain rfl rfl (op_move (ltN rfl) rfl),
      ok_plain rfl rfl (op_assign (ltN rfl) rfl),
      ok_plain rfl rfl (op_storeN sz_32 rfl rfl rfl rfl rfl (by decide)),
      ok_plain rfl rfl (op_assign (ltN rfl) rfl),
      trivial⟩ ?_
    refine fin_keep (s' := [(.t 4, some (.x (.v (.slice none 0 0)))), (.t 5, some (.x (.p 2 0))), (.t 6, some (.x (.v (.int .i64 (check s))))), (.b 2, some (.sh 32 2)), (.c 2 0, some (.x (.v (.int .i64 0)))), (.c 2 1, some (.x (.v (.int .i64 0))))]) ?_ ⟨rfl, rfl, rfl, rfl, rfl, rfl, trivial⟩ rfl
    refine fin_then ?_
    refine aw_ret ?_
    refine fin_then_ret ?_
    refine post_ret (x := .t [.v (.slice none 0 0), .g [.v (.int .i64 0), .v (.int .i64 0)], .v (.int .i64 (check s))]) rfl rfl (resOK_tmp rfl (resOK_cellN (ys := [.v (.int .i64 0), .v (.int .i64 0)]) rfl sh_32 rfl ⟨rfl, rfl, trivial⟩ (resOK_tmp rfl resOK_nil))) rfl (fun mm aa ww hr => ?_)
    exact ⟨none, 0, by rw [leg, if_pos (ne_t hz1)]; rfl, by rw [leg, if_pos (ne_t hz1)]; exact newAt_nil, hr.below⟩
  · have _z := hz1
    have q3 := ne_f hz1
    refine aw_skip ?_
    refine fin_then ?_
    refine aw_seq ?_
    refine aw_seq ?_
    refine aw_text (rows := [_, _, _, _]) rfl (by kernel_rfl) ⟨
      ok_plain rfl rfl (op_move (ltN rfl) rfl),
      ok_plain rfl rfl (op_len (n := l.length) (ltN rfl) (by rw [ss_46]; rfl) rfl rfl),
      ok_plain rfl rfl (op_call (x := .v (.bool (within (((l.length : Nat) : Int)) 1 100))) (fs := []) (caps := []) (extra := []) (ltN rfl) en_84 rfl ⟨rfl, rfl, rfl⟩ (EvL.cons rfl (EvL.cons rfl (EvL.cons rfl EvL.nil))) (fun mm aa ww gg hr hrel => (c84 (((l.length : Nat) : Int)) 1 100 ww))),
      ok_plain rfl rfl (op_not (ltN rfl) rfl),
      trivial⟩ ?_
    refine fin_keep (s' := [(.t 1, some (.x (.v (.slice l_p l.length l_c)))), (.t 2, some (.x (.p 1 0))), (.t 5, some (.x (.p 2 0))), (.t 29, some (.x (.v (.bool (!(within (((l.length : Nat) : Int)) 1 100)))))), (.b 1, some (.sh 25 11)), (.b 2, some (.sh 32 2)), (.c 1 0, some (.x (.v (.int .i64 s.Class)))), (.c 1 1, some (.x (.v (.int .i64 s.Power)))), (.c 1 2, some (.x (.v (.int .i64 s.Draught)))), (.c 1 3, some (.x (.v (.int .i64 s.Tonnes)))), (.c 1 4, some (.x (.v (.slice s_Thrust_p s.Thrust.length s_Thrust_c)))), (.c 1 5, some (.x (.v (.slice s_Water_p s.Water.length s_Water_c)))), (.c 1 6, some (.x (.v (.slice s_Ice_p s.Ice.length s_Ice_c)))), (.c 1 7, some (.x (.v (.int .i64 s.Slow)))), (.c 1 8, some (.x (.v (.int .i64 s.Brash)))), (.c 1 9, some (.x (.v (.int .i64 s.Ridge)))), (.c 1 10, some (.x (.v (.int .i64 s.Press)))), (.c 2 0, some (.x (.v (.int .i64 0)))), (.c 2 1, some (.x (.v (.int .i64 0))))]) ?_ ⟨rfl, rfl, rfl, rfl, rfl, rfl, rfl, rfl, rfl, rfl, rfl, rfl, rfl, rfl, rfl, rfl, rfl, rfl, rfl, trivial⟩ rfl
    refine fin_then ?_
    refine aw_cond rfl (fun hz4 => ?_) (fun hz4 => ?_)
    · have _z := hz4
      have q5 := within_f (not_t hz4)
      refine aw_seq ?_
      refine aw_text (rows := [_, _, _, _]) rfl (by kernel_rfl) ⟨
        ok_plain rfl rfl (op_build (x := .g [.v (.int .i64 0), .v (.int .i64 0)]) (ltN rfl) EvL.nil (fun m w => by kernel_rfl)),
        ok_plain rfl rfl (op_assign (ltN rfl) rfl),
        ok_plain rfl rfl (op_storeN sz_32 rfl rfl rfl rfl rfl (by decide)),
        ok_plain rfl rfl (op_assign (ltN rfl) rfl),
        trivial⟩ ?_
      refine fin_keep (s' := [(.t 4, some (.x (.v (.slice none 0 0)))), (.t 5, some (.x (.p 2 0))), (.t 6, some (.x (.v (.int .i64 2)))), (.b 2, some (.sh 32 2)), (.c 2 0, some (.x (.v (.int .i64 0)))), (.c 2 1, some (.x (.v (.int .i64 0))))]) ?_ ⟨rfl, rfl, rfl, rfl, rfl, rfl, trivial⟩ rfl
      refine fin_then ?_
      refine aw_ret ?_
      refine fin_then_ret ?_
      refine post_ret (x := .t [.v (.slice none 0 0), .g [.v (.int .i64 0), .v (.int .i64 0)], .v (.int .i64 2)]) rfl rfl (resOK_tmp rfl (resOK_cellN (ys := [.v (.int .i64 0), .v (.int .i64 0)]) rfl sh_32 rfl ⟨rfl, rfl, trivial⟩ (resOK_tmp rfl resOK_nil))) rfl (fun mm aa ww hr => ?_)
      exact ⟨none, 0, by rw [leg, if_neg (by rw [ne_f hz1]; decide), if_pos (not_t hz4)]; rfl, by rw [leg, if_neg (by rw [ne_f hz1]; decide), if_pos (not_t hz4)]; exact newAt_nil, hr.below⟩
    · have _z := hz4
      have q6 := within_t (not_f hz4)
      refine aw_skip ?_
      refine fin_then ?_
      refine aw_seq ?_
      refine aw_seq ?_
      refine aw_text (rows := [_, _, _]) rfl (by kernel_rfl) ⟨
        ok_plain rfl rfl (op_move (ltN rfl) rfl),
        ok_plain rfl rfl (op_len (n := l.length) (ltN rfl) (by rw [ss_46]; rfl) rfl rfl),
        ok_plain rfl rfl (op_move (ltN rfl) rfl),
        trivial⟩ ?_
      refine fin_keep (s' := [(.t 1, some (.x (.v (.slice l_p l.length l_c)))), (.t 2, some (.x (.p 1 0))), (.t 5, some (.x (.p 2 0))), (.t 31, some (.x (.v (.slice l_p l.length l_c)))), (.t 32, some (.x (.v (.int .i64 (((l.length : Nat) : Int)))))), (.t 33, some (.x (.v (.int .i64 0)))), (.b 1, some (.sh 25 11)), (.b 2, some (.sh 32 2)), (.c 1 0, some (.x (.v (.int .i64 s.Class)))), (.c 1 1, some (.x (.v (.int .i64 s.Power)))), (.c 1 2, some (.x (.v (.int .i64 s.Draught)))), (.c 1 3, some (.x (.v (.int .i64 s.Tonnes)))), (.c 1 4, some (.x (.v (.slice s_Thrust_p s.Thrust.length s_Thrust_c)))), (.c 1 5, some (.x (.v (.slice s_Water_p s.Water.length s_Water_c)))), (.c 1 6, some (.x (.v (.slice s_Ice_p s.Ice.length s_Ice_c)))), (.c 1 7, some (.x (.v (.int .i64 s.Slow)))), (.c 1 8, some (.x (.v (.int .i64 s.Brash)))), (.c 1 9, some (.x (.v (.int .i64 s.Ridge)))), (.c 1 10, some (.x (.v (.int .i64 s.Press)))), (.c 2 0, some (.x (.v (.int .i64 0)))), (.c 2 1, some (.x (.v (.int .i64 0))))]) ?_ ⟨rfl, rfl, rfl, rfl, rfl, rfl, rfl, rfl, rfl, rfl, rfl, rfl, rfl, rfl, rfl, rfl, rfl, rfl, rfl, rfl, rfl, trivial⟩ rfl
      refine fin_then ?_
      refine aw_block ?_
      refine AW.keep (s' := (fun (k : Nat) => [(.t 1, some (.x (.v (.slice l_p l.length l_c)))), (.t 2, some (.x (.p 1 0))), (.t 5, some (.x (.p 2 0))), (.t 31, some (.x (.v (.slice l_p l.length l_c)))), (.t 32, some (.x (.v (.int .i64 (((l.length : Nat) : Int)))))), (.t 33, some (.x (.v (.int .i64 ((k : Int)))))), (.b 1, some (.sh 25 11)), (.b 2, some (.sh 32 2)), (.c 1 0, some (.x (.v (.int .i64 s.Class)))), (.c 1 1, some (.x (.v (.int .i64 s.Power)))), (.c 1 2, some (.x (.v (.int .i64 s.Draught)))), (.c 1 3, some (.x (.v (.int .i64 s.Tonnes)))), (.c 1 4, some (.x (.v (.slice s_Thrust_p s.Thrust.length s_Thrust_c)))), (.c 1 5, some (.x (.v (.slice s_Water_p s.Water.length s_Water_c)))), (.c 1 6, some (.x (.v (.slice s_Ice_p s.Ice.length s_Ice_c)))), (.c 1 7, some (.x (.v (.int .i64 s.Slow)))), (.c 1 8, some (.x (.v (.int .i64 s.Brash)))), (.c 1 9, some (.x (.v (.int .i64 s.Ridge)))), (.c 1 10, some (.x (.v (.int .i64 s.Press)))), (.c 2 0, some (.x (.v (.int .i64 0)))), (.c 2 1, some (.x (.v (.int .i64 0))))]) ((0 : Nat))) ?_ ⟨rfl, rfl, rfl, rfl, rfl, rfl, rfl, rfl, rfl, rfl, rfl, rfl, rfl, rfl, rfl, rfl, rfl, rfl, rfl, rfl, rfl, trivial⟩ rfl
      refine aw_loop (ι := Nat) (fun k => k ≤ l.length ∧ (∀ j < k, goodPart (prt l (j : Int))) ∧ partsErr l = partsErr (l.drop k)) (fun k => [(.t 1, some (.x (.v (.slice l_p l.length l_c)))), (.t 2, some (.x (.p 1 0))), (.t 5, some (.x (.p 2 0))), (.t 31, some (.x (.v (.slice l_p l.length l_c)))), (.t 32, some (.x (.v (.int .i64 (((l.length : Nat) : Int)))))), (.t 33, some (.x (.v (.int .i64 ((k : Int)))))), (.b 1, some (.sh 25 11)), (.b 2, some (.sh 32 2)), (.c 1 0, some (.x (.v (.int .i64 s.Class)))), (.c 1 1, some (.x (.v (.int .i64 s.Power)))), (.c 1 2, some (.x (.v (.int .i64 s.Draught)))), (.c 1 3, some (.x (.v (.int .i64 s.Tonnes)))), (.c 1 4, some (.x (.v (.slice s_Thrust_p s.Thrust.length s_Thrust_c)))), (.c 1 5, some (.x (.v (.slice s_Water_p s.Water.length s_Water_c)))), (.c 1 6, some (.x (.v (.slice s_Ice_p s.Ice.length s_Ice_c)))), (.c 1 7, some (.x (.v (.int .i64 s.Slow)))), (.c 1 8, some (.x (.v (.int .i64 s.Brash)))), (.c 1 9, some (.x (.v (.int .i64 s.Ridge)))), (.c 1 10, some (.x (.v (.int .i64 s.Press)))), (.c 2 0, some (.x (.v (.int .i64 0)))), (.c 2 1, some (.x (.v (.int .i64 0))))]) (fun k => l.length - k) ⟨Nat.zero_le _, fun j hj => absurd hj (Nat.not_lt_zero j), rfl⟩ (fun k hI => ?_)
      obtain ⟨hk, hall, hpe⟩ := hI
      refine aw_seq ?_
      refine aw_text (rows := [_]) rfl (by kernel_rfl) ⟨
        ok_plain rfl rfl (op_bin (ltN rfl) rfl rfl rfl),
        trivial⟩ ?_
      refine fin_keep (s' := [(.t 1, some (.x (.v (.slice l_p l.length l_c)))), (.t 2, some (.x (.p 1 0))), (.t 5, some (.x (.p 2 0))), (.t 31, some (.x (.v (.slice l_p l.length l_c)))), (.t 32, some (.x (.v (.int .i64 (((l.length : Nat) : Int)))))), (.t 33, some (.x (.v (.int .i64 ((k : Int)))))), (.t 34, some (.x (.v (.bool (decide (((k : Int)) < (((l.length : Nat) : Int)))))))), (.b 1, some (.sh 25 11)), (.b 2, some (.sh 32 2)), (.c 1 0, some (.x (.v (.int .i64 s.Class)))), (.c 1 1, some (.x (.v (.int .i64 s.Power)))), (.c 1 2, some (.x (.v (.int .i64 s.Draught)))), (.c 1 3, some (.x (.v (.int .i64 s.Tonnes)))), (.c 1 4, some (.x (.v (.slice s_Thrust_p s.Thrust.length s_Thrust_c)))), (.c 1 5, some (.x (.v (.slice s_Water_p s.Water.length s_Water_c)))), (.c 1 6, some (.x (.v (.slice s_Ice_p s.Ice.length s_Ice_c)))), (.c 1 7, some (.x (.v (.int .i64 s.Slow)))), (.c 1 8, some (.x (.v (.int .i64 s.Brash)))), (.c 1 9, some (.x (.v (.int .i64 s.Ridge)))), (.c 1 10, some (.x (.v (.int .i64 s.Press)))), (.c 2 0, some (.x (.v (.int .i64 0)))), (.c 2 1, some (.x (.v (.int .i64 0))))]) ?_ ⟨rfl, rfl, rfl, rfl, rfl, rfl, rfl, rfl, rfl, rfl, rfl, rfl, rfl, rfl, rfl, rfl, rfl, rfl, rfl, rfl, rfl, rfl, trivial⟩ rfl
      refine fin_then ?_
      refine aw_seq ?_
      refine aw_cond rfl (fun hz7 => ?_) (fun hz7 => ?_)
      · have _z := hz7
        have q8 := of_decide_eq_true hz7
        refine aw_skip ?_
        refine fin_then ?_
        refine aw_seq ?_
        refine aw_block ?_
        refine aw_seq ?_
        refine aw_text (rows := [_, _, _, _]) rfl (by kernel_rfl) ⟨
          ok_plain rfl rfl (op_ixB (ltN rfl) rfl rfl ss_46 (hl_p (ne_of_ix (i := (k : Int)) (by omega) (by omega))) (by omega) (by omega)),
          ok_plain rfl rfl (op_loadB (y := .g [.v (.int .i64 (((((prt l ((k : Int)))).Cell).Conc).Lo)), .v (.int .i64 (((((prt l ((k : Int)))).Cell).Conc).Hi)), .v (.int .i64 (((((prt l ((k : Int)))).Cell).Thick).Lo)), .v (.int .i64 (((((prt l ((k : Int)))).Cell).Thick).Hi)), .v (.int .i64 (((((prt l ((k : Int)))).Cell).Ridge).Lo)), .v (.int .i64 (((((prt l ((k : Int)))).Cell).Ridge).Hi)), .v (.int .i64 (((((prt l ((k : Int)))).Cell).Press).Lo)), .v (.int .i64 (((((prt l ((k : Int)))).Cell).Press).Hi)), .v (.bool (((prt l ((k : Int)))).Channel)), .v (.int .i64 (((prt l ((k : Int)))).Length))]) (ltN rfl) rfl (ldN (hl_L (ne_of_ix (i := (k : Int)) (by omega) (by omega))) default (i := (k : Int)) (by omega) (by omega) 0 (vs := [(.int .i64 (((((prt l ((k : Int)))).Cell).Conc).Lo)), (.int .i64 (((((prt l ((k : Int)))).Cell).Conc).Hi)), (.int .i64 (((((prt l ((k : Int)))).Cell).Thick).Lo)), (.int .i64 (((((prt l ((k : Int)))).Cell).Thick).Hi)), (.int .i64 (((((prt l ((k : Int)))).Cell).Ridge).Lo)), (.int .i64 (((((prt l ((k : Int)))).Cell).Ridge).Hi)), (.int .i64 (((((prt l ((k : Int)))).Cell).Press).Lo)), (.int .i64 (((((prt l ((k : Int)))).Cell).Press).Hi)), (.bool (((prt l ((k : Int)))).Channel)), (.int .i64 (((prt l ((k : Int)))).Length))]) (fun zq zv zh => sub_get (vs := [(.int .i64 (((((prt l ((k : Int)))).Cell).Conc).Lo)), (.int .i64 (((((prt l ((k : Int)))).Cell).Conc).Hi)), (.int .i64 (((((prt l ((k : Int)))).Cell).Thick).Lo)), (.int .i64 (((((prt l ((k : Int)))).Cell).Thick).Hi)), (.int .i64 (((((prt l ((k : Int)))).Cell).Ridge).Lo)), (.int .i64 (((((prt l ((k : Int)))).Cell).Ridge).Hi)), (.int .i64 (((((prt l ((k : Int)))).Cell).Press).Lo)), (.int .i64 (((((prt l ((k : Int)))).Cell).Press).Hi)), (.bool (((prt l ((k : Int)))).Channel)), (.int .i64 (((prt l ((k : Int)))).Length))]) rfl zh) rfl sh_48 rfl)),
          ok_plain rfl rfl (op_alloc (L := 3) (ltN rfl) zl_48),
          ok_plain rfl rfl (op_storeN sz_48 rfl rfl rfl rfl rfl (by decide)),
          trivial⟩ ?_
        refine fin_keep (s' := [(.t 1, some (.x (.v (.slice l_p l.length l_c)))), (.t 2, some (.x (.p 1 0))), (.t 5, some (.x (.p 2 0))), (.t 9, some (.x (.p 3 0))), (.t 31, some (.x (.v (.slice l_p l.length l_c)))), (.t 32, some (.x (.v (.int .i64 (((l.length : Nat) : Int)))))), (.t 33, some (.x (.v (.int .i64 ((k : Int)))))), (.b 1, some (.sh 25 11)), (.b 2, some (.sh 32 2)), (.b 3, some (.sh 48 10)), (.c 1 0, some (.x (.v (.int .i64 s.Class)))), (.c 1 1, some (.x (.v (.int .i64 s.Power)))), (.c 1 2, some (.x (.v (.int .i64 s.Draught)))), (.c 1 3, some (.x (.v (.int .i64 s.Tonnes)))), (.c 1 4, some (.x (.v (.slice s_Thrust_p s.Thrust.length s_Thrust_c)))), (.c 1 5, some (.x (.v (.slice s_Water_p s.Water.length s_Water_c)))), (.c 1 6, some (.x (.v (.slice s_Ice_p s.Ice.length s_Ice_c)))), (.c 1 7, some (.x (.v (.int .i64 s.Slow)))), (.c 1 8, some (.x (.v (.int .i64 s.Brash)))), (.c 1 9, some (.x (.v (.int .i64 s.Ridge)))), (.c 1 10, some (.x (.v (.int .i64 s.Press)))), (.c 2 0, some (.x (.v (.int .i64 0)))), (.c 2 1, some (.x (.v (.int .i64 0)))), (.c 3 0, some (.x (.v (.int .i64 (((((prt l ((k : Int)))).Cell).Conc).Lo))))), (.c 3 1, some (.x (.v (.int .i64 (((((prt l ((k : Int)))).Cell).Conc).Hi))))), (.c 3 2, some (.x (.v (.int .i64 (((((prt l ((k : Int)))).Cell).Thick).Lo))))), (.c 3 3, some (.x (.v (.int .i64 (((((prt l ((k : Int)))).Cell).Thick).Hi))))), (.c 3 4, some (.x (.v (.int .i64 (((((prt l ((k : Int)))).Cell).Ridge).Lo))))), (.c 3 5, some (.x (.v (.int .i64 (((((prt l ((k : Int)))).Cell).Ridge).Hi))))), (.c 3 6, some (.x (.v (.int .i64 (((((prt l ((k : Int)))).Cell).Press).Lo))))), (.c 3 7, some (.x (.v (.int .i64 (((((prt l ((k : Int)))).Cell).Press).Hi))))), (.c 3 8, some (.x (.v (.bool (((prt l ((k : Int)))).Channel))))), (.c 3 9, some (.x (.v (.int .i64 (((prt l ((k : Int)))).Length)))))]) ?_ ⟨rfl, rfl, rfl, rfl, rfl, rfl, rfl, rfl, rfl, rfl, rfl, rfl, rfl, rfl, rfl, rfl, rfl, rfl, rfl, rfl, rfl, rfl, rfl, rfl, rfl, rfl, rfl, rfl, rfl, rfl, rfl, rfl, rfl, trivial⟩ rfl
        refine fin_then ?_
        refine aw_seq ?_
        refine aw_seq ?_
        have hlt : k < l.length := by omega
        refine aw_text (rows := [_, _, _, _]) rfl (by kernel_rfl) ⟨
          ok_plain rfl rfl (op_fieldAddr (ltN rfl) rfl fo_48_2),
          ok_plain rfl rfl (op_load1 (ltN rfl) sh_3 rfl rfl),
          ok_plain rfl rfl (op_call (x := .v (.bool (within (((prt l ((k : Int)))).Length) 1 10000))) (fs := []) (caps := []) (extra := []) (ltN rfl) en_84 rfl ⟨rfl, rfl, rfl⟩ (EvL.cons rfl (EvL.cons rfl (EvL.cons rfl EvL.nil))) (fun mm aa ww gg hr hrel => (c84 (((prt l ((k : Int)))).Length) 1 10000 ww))),
          ok_plain rfl rfl (op_not (ltN rfl) rfl),
          trivial⟩ ?_
        refine fin_keep (s' := [(.t 1, some (.x (.v (.slice l_p l.length l_c)))), (.t 2, some (.x (.p 1 0))), (.t 5, some (.x (.p 2 0))), (.t 9, some (.x (.p 3 0))), (.t 31, some (.x (.v (.slice l_p l.length l_c)))), (.t 32, some (.x (.v (.int .i64 (((l.length : Nat) : Int)))))), (.t 33, some (.x (.v (.int .i64 ((k : Int)))))), (.t 40, some (.x (.v (.bool (!(within (((prt l ((k : Int)))).Length) 1 10000)))))), (.b 1, some (.sh 25 11)), (.b 2, some (.sh 32 2)), (.b 3, some (.sh 48 10)), (.c 1 0, some (.x (.v (.int .i64 s.Class)))), (.c 1 1, some (.x (.v (.int .i64 s.Power)))), (.c 1 2, some (.x (.v (.int .i64 s.Draught)))), (.c 1 3, some (.x (.v (.int .i64 s.Tonnes)))), (.c 1 4, some (.x (.v (.slice s_Thrust_p s.Thrust.length s_Thrust_c)))), (.c 1 5, some (.x (.v (.slice s_Water_p s.Water.length s_Water_c)))), (.c 1 6, some (.x (.v (.slice s_Ice_p s.Ice.length s_Ice_c)))), (.c 1 7, some (.x (.v (.int .i64 s.Slow)))), (.c 1 8, some (.x (.v (.int .i64 s.Brash)))), (.c 1 9, some (.x (.v (.int .i64 s.Ridge)))), (.c 1 10, some (.x (.v (.int .i64 s.Press)))), (.c 2 0, some (.x (.v (.int .i64 0)))), (.c 2 1, some (.x (.v (.int .i64 0)))), (.c 3 0, some (.x (.v (.int .i64 (((((prt l ((k : Int)))).Cell).Conc).Lo))))), (.c 3 1, some (.x (.v (.int .i64 (((((prt l ((k : Int)))).Cell).Conc).Hi))))), (.c 3 2, some (.x (.v (.int .i64 (((((prt l ((k : Int)))).Cell).Thick).Lo))))), (.c 3 3, some (.x (.v (.int .i64 (((((prt l ((k : Int)))).Cell).Thick).Hi))))), (.c 3 4, some (.x (.v (.int .i64 (((((prt l ((k : Int)))).Cell).Ridge).Lo))))), (.c 3 5, some (.x (.v (.int .i64 (((((prt l ((k : Int)))).Cell).Ridge).Hi))))), (.c 3 6, some (.x (.v (.int .i64 (((((prt l ((k : Int)))).Cell).Press).Lo))))), (.c 3 7, some (.x (.v (.int .i64 (((((prt l ((k : Int)))).Cell).Press).Hi))))), (.c 3 8, some (.x (.v (.bool (((prt l ((k : Int)))).Channel))))), (.c 3 9, some (.x (.v (.int .i64 (((prt l ((k : Int)))).Length)))))]) ?_ ⟨rfl, rfl, rfl, rfl, rfl, rfl, rfl, rfl, rfl, rfl, rfl, rfl, rfl, rfl, rfl, rfl, rfl, rfl, rfl, rfl, rfl, rfl, rfl, rfl, rfl, rfl, rfl, rfl, rfl, rfl, rfl, rfl, rfl, rfl, trivial⟩ rfl
        refine fin_then ?_
        refine aw_cond rfl (fun hz9 => ?_) (fun hz9 => ?_)
        · have _z := hz9
          have q10 := within_f (not_t hz9)
          refine aw_seq ?_
          refine aw_text (rows := [_, _, _, _]) rfl (by kernel_rfl) ⟨
            ok_plain rfl rfl (op_build (x := .g [.v (.int .i64 0), .v (.int .i64 0)]) (ltN rfl) EvL.nil (fun m w => by kernel_rfl)),
            ok_plain rfl rfl (op_assign (ltN rfl) rfl),
            ok_plain rfl rfl (op_storeN sz_32 rfl rfl rfl rfl rfl (by decide)),
            ok_plain rfl rfl (op_assign (ltN rfl) rfl),
            trivial⟩ ?_
          refine fin_keep (s' := [(.t 4, some (.x (.v (.slice none 0 0)))), (.t 5, some (.x (.p 2 0))), (.t 6, some (.x (.v (.int .i64 6)))), (.b 2, some (.sh 32 2)), (.c 2 0, some (.x (.v (.int .i64 0)))), (.c 2 1, some (.x (.v (.int .i64 0))))]) ?_ ⟨rfl, rfl, rfl, rfl, rfl, rfl, trivial⟩ rfl
          refine fin_then ?_
          refine aw_ret ?_
          refine fin_then_ret ?_
          refine fin_block_ret ?_
          refine fin_then_ret ?_
          refine fin_then_ret ?_
          refine fin_block_ret ?_
          refine fin_then_ret ?_
          refine post_ret (x := .t [.v (.slice none 0 0), .g [.v (.int .i64 0), .v (.int .i64 0)], .v (.int .i64 6)]) rfl rfl (resOK_tmp rfl (resOK_cellN (ys := [.v (.int .i64 0), .v (.int .i64 0)]) rfl sh_32 rfl ⟨rfl, rfl, trivial⟩ (resOK_tmp rfl resOK_nil))) rfl (fun mm aa ww hr => ?_)
          have hpk : partErr (prt l (k : Int)) = 6 := by rw [partErr, not_t hz9]; rfl
          have hps : partsErr l = 6 := by rw [hpe, drop_prt hlt, partsErr, if_pos (show partErr (prt l (k : Int)) ≠ 0 by rw [hpk]; decide), hpk]
          have hlq : leg s l = ([], ⟨0, 0⟩, 6) := by rw [leg, if_neg (by rw [ne_f hz1]; decide), if_neg (by rw [not_f hz4]; decide), if_pos (show partsErr l ≠ 0 by rw [hps]; decide), hps]
          exact ⟨none, 0, by rw [hlq]; rfl, by rw [hlq]; exact newAt_nil, hr.below⟩
        · have _z := hz9
          have q11 := within_t (not_f hz9)
          refine aw_skip ?_
          refine fin_then ?_
          refine aw_seq ?_
          refine aw_text (rows := [_, _, _, _]) rfl (by kernel_rfl) ⟨
            ok_plain rfl rfl (op_fieldAddr (ltN rfl) rfl fo_48_0),
            ok_plain rfl rfl (op_loadN (ys := [.v (.int .i64 (((((prt l ((k : Int)))).Cell).Conc).Lo)), .v (.int .i64 (((((prt l ((k : Int)))).Cell).Conc).Hi)), .v (.int .i64 (((((prt l ((k : Int)))).Cell).Thick).Lo)), .v (.int .i64 (((((prt l ((k : Int)))).Cell).Thick).Hi)), .v (.int .i64 (((((prt l ((k : Int)))).Cell).Ridge).Lo)), .v (.int .i64 (((((prt l ((k : Int)))).Cell).Ridge).Hi)), .v (.int .i64 (((((prt l ((k : Int)))).Cell).Press).Lo)), .v (.int .i64 (((((prt l ((k : Int)))).Cell).Press).Hi))]) (ltN rfl) sh_34 rfl rfl ⟨rfl, rfl, rfl, rfl, rfl, rfl, rfl, rfl, trivial⟩),
            ok_plain rfl rfl (op_call (x := .v (.int .i64 (checkCell ((((prt l ((k : Int)))).Cell))))) (fs := []) (caps := []) (extra := []) (ltN rfl) en_85 rfl ⟨rfl, rfl, rfl⟩ (EvL.cons rfl EvL.nil) (fun mm aa ww gg hr hrel => (c85 ((((prt l ((k : Int)))).Cell)) ww))),
            ok_plain rfl rfl (op_assign (ltN rfl) rfl),
            trivial⟩ ?_
          refine fin_keep (s' := [(.t 1, some (.x (.v (.slice l_p l.length l_c)))), (.t 2, some (.x (.p 1 0))), (.t 5, some (.x (.p 2 0))), (.t 10, some (.x (.v (.int .i64 (checkCell ((((prt l ((k : Int)))).Cell))))))), (.t 31, some (.x (.v (.slice l_p l.length l_c)))), (.t 32, some (.x (.v (.int .i64 (((l.length : Nat) : Int)))))), (.t 33, some (.x (.v (.int .i64 ((k : Int)))))), (.b 1, some (.sh 25 11)), (.b 2, some (.sh 32 2)), (.c 1 0, some (.x (.v (.int .i64 s.Class)))), (.c 1 1, some (.x (.v (.int .i64 s.Power)))), (.c 1 2, some (.x (.v (.int .i64 s.Draught)))), (.c 1 3, some (.x (.v (.int .i64 s.Tonnes)))), (.c 1 4, some (.x (.v (.slice s_Thrust_p s.Thrust.length s_Thrust_c)))), (.c 1 5, some (.x (.v (.slice s_Water_p s.Water.length s_Water_c)))), (.c 1 6, some (.x (.v (.slice s_Ice_p s.Ice.length s_Ice_c)))), (.c 1 7, some (.x (.v (.int .i64 s.Slow)))), (.c 1 8, some (.x (.v (.int .i64 s.Brash)))), (.c 1 9, some (.x (.v (.int .i64 s.Ridge)))), (.c 1 10, some (.x (.v (.int .i64 s.Press)))), (.c 2 0, some (.x (.v (.int .i64 0)))), (.c 2 1, some (.x (.v (.int .i64 0))))]) ?_ ⟨rfl, rfl, rfl, rfl, rfl, rfl, rfl, rfl, rfl, rfl, rfl, rfl, rfl, rfl, rfl, rfl, rfl, rfl, rfl, rfl, rfl, rfl, trivial⟩ rfl
          refine fin_then ?_
          refine aw_seq ?_
          refine aw_text (rows := [_, _]) rfl (by kernel_rfl) ⟨
            ok_plain rfl rfl (op_move (ltN rfl) rfl),
            ok_plain rfl rfl (op_bin (ltN rfl) rfl rfl rfl),
            trivial⟩ ?_
          refine fin_keep (s' := [(.t 1, some (.x (.v (.slice l_p l.length l_c)))), (.t 2, some (.x (.p 1 0))), (.t 5, some (.x (.p 2 0))), (.t 10, some (.x (.v (.int .i64 (checkCell ((((prt l ((k : Int)))).Cell))))))), (.t 31, some (.x (.v (.slice l_p l.length l_c)))), (.t 32, some (.x (.v (.int .i64 (((l.length : Nat) : Int)))))), (.t 33, some (.x (.v (.int .i64 ((k : Int)))))), (.t 46, some (.x (.v (.bool ((checkCell ((((prt l ((k : Int)))).Cell))) != 0))))), (.b 1, some (.sh 25 11)), (.b 2, some (.sh 32 2)), (.c 1 0, some (.x (.v (.int .i64 s.Class)))), (.c 1 1, some (.x (.v (.int .i64 s.Power)))), (.c 1 2, some (.x (.v (.int .i64 s.Draught)))), (.c 1 3, some (.x (.v (.int .i64 s.Tonnes)))), (.c 1 4, some (.x (.v (.slice s_Thrust_p s.Thrust.length s_Thrust_c)))), (.c 1 5, some (.x (.v (.slice s_Water_p s.Water.length s_Water_c)))), (.c 1 6, some (.x (.v (.slice s_Ice_p s.Ice.length s_Ice_c)))), (.c 1 7, some (.x (.v (.int .i64 s.Slow)))), (.c 1 8, some (.x (.v (.int .i64 s.Brash)))), (.c 1 9, some (.x (.v (.int .i64 s.Ridge)))), (.c 1 10, some (.x (.v (.int .i64 s.Press)))), (.c 2 0, some (.x (.v (.int .i64 0)))), (.c 2 1, some (.x (.v (.int .i64 0))))]) ?_ ⟨rfl, rfl, rfl, rfl, rfl, rfl, rfl, rfl, rfl, rfl, rfl, rfl, rfl, rfl, rfl, rfl, rfl, rfl, rfl, rfl, rfl, rfl, rfl, trivial⟩ rfl
          refine fin_then ?_
          refine aw_cond rfl (fun hz12 => ?_) (fun hz12 => ?_)
          · have _z := hz12
            have q13 := ne_t hz12
            refine aw_seq ?_
            refine aw_text (rows := [_, _, _, _, _]) rfl (by kernel_rfl) ⟨
              ok_plain rfl rfl (op_build (x := .g [.v (.int .i64 0), .v (.int .i64 0)]) (ltN rfl) EvL.nil (fun m w => by kernel_rfl)),
              ok_plain rfl rfl (op_move (ltN rfl) rfl),
              ok_plain rfl rfl (op_assign (ltN rfl) rfl),
              ok_plain rfl rfl (op_storeN sz_32 rfl rfl rfl rfl rfl (by decide)),
              ok_plain rfl rfl (op_assign (ltN rfl) rfl),
              trivial⟩ ?_
            refine fin_keep (s' := [(.t 4, some (.x (.v (.slice none 0 0)))), (.t 5, some (.x (.p 2 0))), (.t 6, some (.x (.v (.int .i64 (checkCell ((((prt l ((k : Int)))).Cell))))))), (.b 2, some (.sh 32 2)), (.c 2 0, some (.x (.v (.int .i64 0)))), (.c 2 1, some (.x (.v (.int .i64 0))))]) ?_ ⟨rfl, rfl, rfl, rfl, rfl, rfl, trivial⟩ rfl
            refine fin_then ?_
            refine aw_ret ?_
            refine fin_block_ret ?_
            refine fin_then_ret ?_
            refine fin_then_ret ?_
            refine fin_block_ret ?_
            refine fin_then_ret ?_
            refine post_ret (x := .t [.v (.slice none 0 0), .g [.v (.int .i64 0), .v (.int .i64 0)], .v (.int .i64 (checkCell ((((prt l ((k : Int)))).Cell))))]) rfl rfl (resOK_tmp rfl (resOK_cellN (ys := [.v (.int .i64 0), .v (.int .i64 0)]) rfl sh_32 rfl ⟨rfl, rfl, trivial⟩ (resOK_tmp rfl resOK_nil))) rfl (fun mm aa ww hr => ?_)
            have hpk : partErr (prt l (k : Int)) = checkCell (prt l (k : Int)).Cell := by rw [partErr, not_f hz9]; rfl
            have hps : partsErr l = checkCell (prt l (k : Int)).Cell := by rw [hpe, drop_prt hlt, partsErr, if_pos (show partErr (prt l (k : Int)) ≠ 0 by rw [hpk]; exact ne_t hz12), hpk]
            have hlq : leg s l = ([], ⟨0, 0⟩, checkCell (prt l (k : Int)).Cell) := by rw [leg, if_neg (by rw [ne_f hz1]; decide), if_neg (by rw [not_f hz4]; decide), if_pos (show partsErr l ≠ 0 by rw [hps]; exact ne_t hz12), hps]
            exact ⟨none, 0, by rw [hlq]; rfl, by rw [hlq]; exact newAt_nil, hr.below⟩
          · have _z := hz12
            have q14 := ne_f hz12
            refine aw_skip ?_
            refine fin_block ?_
            refine fin_then ?_
            have hpk : partErr (prt l (k : Int)) = 0 := by rw [partErr, not_f hz9]; exact ne_f hz12
            have hgp := partErr_ok.1 hpk
            refine aw_text (rows := [_, _]) rfl (by kernel_rfl) ⟨
              ok_plain rfl rfl (op_bin (ltN rfl) rfl rfl (nw_add ⟨(by omega), (by omega)⟩)),
              ok_plain rfl rfl (op_move (ltN rfl) rfl),
              trivial⟩ ?_
            refine fin_keep (s' := [(.t 1, some (.x (.v (.slice l_p l.length l_c)))), (.t 2, some (.x (.p 1 0))), (.t 5, some (.x (.p 2 0))), (.t 31, some (.x (.v (.slice l_p l.length l_c)))), (.t 32, some (.x (.v (.int .i64 (((l.length : Nat) : Int)))))), (.t 33, some (.x (.v (.int .i64 (((k : Int)) + 1))))), (.b 1, some (.sh 25 11)), (.b 2, some (.sh 32 2)), (.c 1 0, some (.x (.v (.int .i64 s.Class)))), (.c 1 1, some (.x (.v (.int .i64 s.Power)))), (.c 1 2, some (.x (.v (.int .i64 s.Draught)))), (.c 1 3, some (.x (.v (.int .i64 s.Tonnes)))), (.c 1 4, some (.x (.v (.slice s_Thrust_p s.Thrust.length s_Thrust_c)))), (.c 1 5, some (.x (.v (.slice s_Water_p s.Water.length s_Water_c)))), (.c 1 6, some (.x (.v (.slice s_Ice_p s.Ice.length s_Ice_c)))), (.c 1 7, some (.x (.v (.int .i64 s.Slow)))), (.c 1 8, some (.x (.v (.int .i64 s.Brash)))), (.c 1 9, some (.x (.v (.int .i64 s.Ridge)))), (.c 1 10, some (.x (.v (.int .i64 s.Press)))), (.c 2 0, some (.x (.v (.int .i64 0)))), (.c 2 1, some (.x (.v (.int .i64 0))))]) ?_ ⟨rfl, rfl, rfl, rfl, rfl, rfl, rfl, rfl, rfl, rfl, rfl, rfl, rfl, rfl, rfl, rfl, rfl, rfl, rfl, rfl, rfl, trivial⟩ rfl
            exact fin_loop (k + 1) ⟨by omega, fun j hj => by rcases Nat.lt_succ_iff_lt_or_eq.1 hj with h | rfl; exact hall j h; exact hgp, by rw [hpe, drop_prt hlt, partsErr, if_neg (by rw [hpk]; decide)]⟩ (by omega) ⟨rfl, rfl, rfl, rfl, rfl, rfl, rfl, rfl, rfl, rfl, rfl, rfl, rfl, rfl, rfl, rfl, rfl, rfl, rfl, rfl, rfl, trivial⟩ rfl
      · have _z := hz7
        have q15 := of_decide_eq_false hz7
        refine aw_exit ?_
        refine fin_then_exit ?_
        refine fin_then_exit ?_
        refine fin_block_exit ?_
        refine fin_then ?_
        refine aw_seq ?_
        refine aw_text (rows := [_]) rfl (by kernel_rfl) ⟨
          ok_plain rfl rfl (op_assign (ltN rfl) rfl),
          trivial⟩ ?_
        refine fin_keep (s' := [(.t 1, some (.x (.v (.slice l_p l.length l_c)))), (.t 2, some (.x (.p 1 0))), (.t 5, some (.x (.p 2 0))), (.t 11, some (.x (.v (.func (.func 86) #[] #[])))), (.b 1, some (.sh 25 11)), (.b 2, some (.sh 32 2)), (.c 1 0, some (.x (.v (.int .i64 s.Class)))), (.c 1 1, some (.x (.v (.int .i64 s.Power)))), (.c 1 2, some (.x (.v (.int .i64 s.Draught)))), (.c 1 3, some (.x (.v (.int .i64 s.Tonnes)))), (.c 1 4, some (.x (.v (.slice s_Thrust_p s.Thrust.length s_Thrust_c)))), (.c 1 5, some (.x (.v (.slice s_Water_p s.Water.length s_Water_c)))), (.c 1 6, some (.x (.v (.slice s_Ice_p s.Ice.length s_Ice_c)))), (.c 1 7, some (.x (.v (.int .i64 s.Slow)))), (.c 1 8, some (.x (.v (.int .i64 s.Brash)))), (.c 1 9, some (.x (.v (.int .i64 s.Ridge)))), (.c 1 10, some (.x (.v (.int .i64 s.Press)))), (.c 2 0, some (.x (.v (.int .i64 0)))), (.c 2 1, some (.x (.v (.int .i64 0))))]) ?_ ⟨rfl, rfl, rfl, rfl, rfl, rfl, rfl, rfl, rfl, rfl, rfl, rfl, rfl, rfl, rfl, rfl, rfl, rfl, rfl, trivial⟩ rfl
        refine fin_then ?_
        refine aw_seq ?_
        have hps : partsErr l = 0 := by rw [hpe, List.drop_of_length_le (by omega)]; rfl
        have hlen := within_t (not_f hz4)
        have hc := ne_f hz1
        have hleg0 : leg s l = legFrom s (l.drop 0) 0 [] 0 0 := by rw [leg, if_neg (by rw [hc]; decide), if_neg (by rw [not_f hz4]; decide), if_neg (by rw [hps]; decide)]; rfl
        refine aw_text (rows := [_]) rfl (by kernel_rfl) ⟨
          ok_plain rfl rfl (op_assign (ltN rfl) rfl),
          trivial⟩ ?_
        refine fin_keep (s' := [(.t 1, some (.x (.v (.slice l_p l.length l_c)))), (.t 2, some (.x (.p 1 0))), (.t 5, some (.x (.p 2 0))), (.t 11, some (.x (.v (.func (.func 86) #[] #[])))), (.t 12, some (.x (.v (.slice none 0 0)))), (.b 1, some (.sh 25 11)), (.b 2, some (.sh 32 2)), (.c 1 0, some (.x (.v (.int .i64 s.Class)))), (.c 1 1, some (.x (.v (.int .i64 s.Power)))), (.c 1 2, some (.x (.v (.int .i64 s.Draught)))), (.c 1 3, some (.x (.v (.int .i64 s.Tonnes)))), (.c 1 4, some (.x (.v (.slice s_Thrust_p s.Thrust.length s_Thrust_c)))), (.c 1 5, some (.x (.v (.slice s_Water_p s.Water.length s_Water_c)))), (.c 1 6, some (.x (.v (.slice s_Ice_p s.Ice.length s_Ice_c)))), (.c 1 7, some (.x (.v (.int .i64 s.Slow)))), (.c 1 8, some (.x (.v (.int .i64 s.Brash)))), (.c 1 9, some (.x (.v (.int .i64 s.Ridge)))), (.c 1 10, some (.x (.v (.int .i64 s.Press)))), (.c 2 0, some (.x (.v (.int .i64 0)))), (.c 2 1, some (.x (.v (.int .i64 0))))]) ?_ ⟨rfl, rfl, rfl, rfl, rfl, rfl, rfl, rfl, rfl, rfl, rfl, rfl, rfl, rfl, rfl, rfl, rfl, rfl, rfl, rfl, trivial⟩ rfl
        refine fin_then ?_
        refine aw_seq ?_
        refine aw_text (rows := [_]) rfl (by kernel_rfl) ⟨
          ok_plain rfl rfl (op_alloc (L := 4) (ltN rfl) zl_32),
          trivial⟩ ?_
        refine fin_keep (s' := [(.t 1, some (.x (.v (.slice l_p l.length l_c)))), (.t 2, some (.x (.p 1 0))), (.t 5, some (.x (.p 2 0))), (.t 11, some (.x (.v (.func (.func 86) #[] #[])))), (.t 12, some (.x (.v (.slice none 0 0)))), (.t 13, some (.x (.p 4 0))), (.b 1, some (.sh 25 11)), (.b 2, some (.sh 32 2)), (.b 4, some (.sh 32 2)), (.c 1 0, some (.x (.v (.int .i64 s.Class)))), (.c 1 1, some (.x (.v (.int .i64 s.Power)))), (.c 1 2, some (.x (.v (.int .i64 s.Draught)))), (.c 1 3, some (.x (.v (.int .i64 s.Tonnes)))), (.c 1 4, some (.x (.v (.slice s_Thrust_p s.Thrust.length s_Thrust_c)))), (.c 1 5, some (.x (.v (.slice s_Water_p s.Water.length s_Water_c)))), (.c 1 6, some (.x (.v (.slice s_Ice_p s.Ice.length s_Ice_c)))), (.c 1 7, some (.x (.v (.int .i64 s.Slow)))), (.c 1 8, some (.x (.v (.int .i64 s.Brash)))), (.c 1 9, some (.x (.v (.int .i64 s.Ridge)))), (.c 1 10, some (.x (.v (.int .i64 s.Press)))), (.c 2 0, some (.x (.v (.int .i64 0)))), (.c 2 1, some (.x (.v (.int .i64 0)))), (.c 4 0, some (.x (.v (.int .i64 0)))), (.c 4 1, some (.x (.v (.int .i64 0))))]) ?_ ⟨rfl, rfl, rfl, rfl, rfl, rfl, rfl, rfl, rfl, rfl, rfl, rfl, rfl, rfl, rfl, rfl, rfl, rfl, rfl, rfl, rfl, rfl, rfl, rfl, trivial⟩ rfl
        refine fin_then ?_
        refine aw_seq ?_
        refine aw_seq ?_
        refine aw_text (rows := [_, _, _]) rfl (by kernel_rfl) ⟨
          ok_plain rfl rfl (op_move (ltN rfl) rfl),
          ok_plain rfl rfl (op_len (n := l.length) (ltN rfl) (by rw [ss_46]; rfl) rfl rfl),
          ok_plain rfl rfl (op_move (ltN rfl) rfl),
          trivial⟩ ?_
        refine fin_keep (s' := [(.t 2, some (.x (.p 1 0))), (.t 5, some (.x (.p 2 0))), (.t 11, some (.x (.v (.func (.func 86) #[] #[])))), (.t 12, some (.x (.v (.slice none 0 0)))), (.t 13, some (.x (.p 4 0))), (.t 50, some (.x (.v (.slice l_p l.length l_c)))), (.t 51, some (.x (.v (.int .i64 (((l.length : Nat) : Int)))))), (.t 52, some (.x (.v (.int .i64 0)))), (.b 1, some (.sh 25 11)), (.b 2, some (.sh 32 2)), (.b 4, some (.sh 32 2)), (.c 1 0, some (.x (.v (.int .i64 s.Class)))), (.c 1 1, some (.x (.v (.int .i64 s.Power)))), (.c 1 2, some (.x (.v (.int .i64 s.Draught)))), (.c 1 3, some (.x (.v (.int .i64 s.Tonnes)))), (.c 1 4, some (.x (.v (.slice s_Thrust_p s.Thrust.length s_Thrust_c)))), (.c 1 5, some (.x (.v (.slice s_Water_p s.Water.length s_Water_c)))), (.c 1 6, some (.x (.v (.slice s_Ice_p s.Ice.length s_Ice_c)))), (.c 1 7, some (.x (.v (.int .i64 s.Slow)))), (.c 1 8, some (.x (.v (.int .i64 s.Brash)))), (.c 1 9, some (.x (.v (.int .i64 s.Ridge)))), (.c 1 10, some (.x (.v (.int .i64 s.Press)))), (.c 2 0, some (.x (.v (.int .i64 0)))), (.c 2 1, some (.x (.v (.int .i64 0)))), (.c 4 0, some (.x (.v (.int .i64 0)))), (.c 4 1, some (.x (.v (.int .i64 0))))]) ?_ ⟨rfl, rfl, rfl, rfl, rfl, rfl, rfl, rfl, rfl, rfl, rfl, rfl, rfl, rfl, rfl, rfl, rfl, rfl, rfl, rfl, rfl, rfl, rfl, rfl, rfl, rfl, trivial⟩ rfl
        refine fin_then ?_
        refine aw_block ?_
        refine aw_nilRow (i := 12) (L := 101) (C := 102) 3 1 rfl rfl (by decide) ?_
        refine AW.keep (s' := (fun (q : Nat × List Int × Int × Int) => [(.t 2, some (.x (.p 1 0))), (.t 5, some (.x (.p 2 0))), (.t 11, some (.x (.v (.func (.func 86) #[] #[])))), (.t 12, some (.x (.o 101 102 q.2.1.length))), (.t 13, some (.x (.p 4 0))), (.t 50, some (.x (.v (.slice l_p l.length l_c)))), (.t 51, some (.x (.v (.int .i64 (((l.length : Nat) : Int)))))), (.t 52, some (.x (.v (.int .i64 ((q.1 : Int)))))), (.b 1, some (.sh 25 11)), (.b 2, some (.sh 32 2)), (.b 4, some (.sh 32 2)), (.r 101, some (.vec true 102 3 1 (q.2.1.flatMap encInt))), (.c 1 0, some (.x (.v (.int .i64 s.Class)))), (.c 1 1, some (.x (.v (.int .i64 s.Power)))), (.c 1 2, some (.x (.v (.int .i64 s.Draught)))), (.c 1 3, some (.x (.v (.int .i64 s.Tonnes)))), (.c 1 4, some (.x (.v (.slice s_Thrust_p s.Thrust.length s_Thrust_c)))), (.c 1 5, some (.x (.v (.slice s_Water_p s.Water.length s_Water_c)))), (.c 1 6, some (.x (.v (.slice s_Ice_p s.Ice.length s_Ice_c)))), (.c 1 7, some (.x (.v (.int .i64 s.Slow)))), (.c 1 8, some (.x (.v (.int .i64 s.Brash)))), (.c 1 9, some (.x (.v (.int .i64 s.Ridge)))), (.c 1 10, some (.x (.v (.int .i64 s.Press)))), (.c 2 0, some (.x (.v (.int .i64 0)))), (.c 2 1, some (.x (.v (.int .i64 0)))), (.c 4 0, some (.x (.v (.int .i64 q.2.2.1)))), (.c 4 1, some (.x (.v (.int .i64 q.2.2.2))))]) (((0 : Nat), ([] : List Int), (0 : Int), (0 : Int)))) ?_ ⟨rfl, rfl, rfl, rfl, rfl, rfl, rfl, rfl, rfl, rfl, rfl, rfl, rfl, rfl, rfl, rfl, rfl, rfl, rfl, rfl, rfl, rfl, rfl, rfl, rfl, rfl, rfl, trivial⟩ rfl
        refine aw_loop (ι := Nat × List Int × Int × Int) (fun q => q.1 ≤ l.length ∧ (0 ≤ q.2.2.1 ∧ q.2.2.1 ≤ 60025 * (q.1 : Int)) ∧ (0 ≤ q.2.2.2 ∧ q.2.2.2 ≤ 60025 * (q.1 : Int)) ∧ q.2.1.length = q.1 ∧ leg s l = legFrom s (l.drop q.1) (q.1 : Int) q.2.1 q.2.2.1 q.2.2.2) (fun q => [(.t 2, some (.x (.p 1 0))), (.t 5, some (.x (.p 2 0))), (.t 11, some (.x (.v (.func (.func 86) #[] #[])))), (.t 12, some (.x (.o 101 102 q.2.1.length))), (.t 13, some (.x (.p 4 0))), (.t 50, some (.x (.v (.slice l_p l.length l_c)))), (.t 51, some (.x (.v (.int .i64 (((l.length : Nat) : Int)))))), (.t 52, some (.x (.v (.int .i64 ((q.1 : Int)))))), (.b 1, some (.sh 25 11)), (.b 2, some (.sh 32 2)), (.b 4, some (.sh 32 2)), (.r 101, some (.vec true 102 3 1 (q.2.1.flatMap encInt))), (.c 1 0, some (.x (.v (.int .i64 s.Class)))), (.c 1 1, some (.x (.v (.int .i64 s.Power)))), (.c 1 2, some (.x (.v (.int .i64 s.Draught)))), (.c 1 3, some (.x (.v (.int .i64 s.Tonnes)))), (.c 1 4, some (.x (.v (.slice s_Thrust_p s.Thrust.length s_Thrust_c)))), (.c 1 5, some (.x (.v (.slice s_Water_p s.Water.length s_Water_c)))), (.c 1 6, some (.x (.v (.slice s_Ice_p s.Ice.length s_Ice_c)))), (.c 1 7, some (.x (.v (.int .i64 s.Slow)))), (.c 1 8, some (.x (.v (.int .i64 s.Brash)))), (.c 1 9, some (.x (.v (.int .i64 s.Ridge)))), (.c 1 10, some (.x (.v (.int .i64 s.Press)))), (.c 2 0, some (.x (.v (.int .i64 0)))), (.c 2 1, some (.x (.v (.int .i64 0)))), (.c 4 0, some (.x (.v (.int .i64 q.2.2.1)))), (.c 4 1, some (.x (.v (.int .i64 q.2.2.2))))]) (fun q => l.length - q.1) ⟨Nat.zero_le _, ⟨Int.le_refl _, by simp⟩, ⟨Int.le_refl _, by simp⟩, rfl, hleg0⟩ (fun q hI => ?_)
        obtain ⟨hk, hlo, hhi, hvl, hlg⟩ := hI
        refine aw_seq ?_
        refine aw_text (rows := [_]) rfl (by kernel_rfl) ⟨
          ok_plain rfl rfl (op_bin (ltN rfl) rfl rfl rfl),
          trivial⟩ ?_
        refine fin_keep (s' := [(.t 2, some (.x (.p 1 0))), (.t 5, some (.x (.p 2 0))), (.t 11, some (.x (.v (.func (.func 86) #[] #[])))), (.t 12, some (.x (.o 101 102 q.2.1.length))), (.t 13, some (.x (.p 4 0))), (.t 50, some (.x (.v (.slice l_p l.length l_c)))), (.t 51, some (.x (.v (.int .i64 (((l.length : Nat) : Int)))))), (.t 52, some (.x (.v (.int .i64 ((q.1 : Int)))))), (.t 53, some (.x (.v (.bool (decide (((q.1 : Int)) < (((l.length : Nat) : Int)))))))), (.b 1, some (.sh 25 11)), (.b 2, some (.sh 32 2)), (.b 4, some (.sh 32 2)), (.r 101, some (.vec true 102 3 1 (q.2.1.flatMap encInt))), (.c 1 0, some (.x (.v (.int .i64 s.Class)))), (.c 1 1, some (.x (.v (.int .i64 s.Power)))), (.c 1 2, some (.x (.v (.int .i64 s.Draught)))), (.c 1 3, some (.x (.v (.int .i64 s.Tonnes)))), (.c 1 4, some (.x (.v (.slice s_Thrust_p s.Thrust.length s_Thrust_c)))), (.c 1 5, some (.x (.v (.slice s_Water_p s.Water.length s_Water_c)))), (.c 1 6, some (.x (.v (.slice s_Ice_p s.Ice.length s_Ice_c)))), (.c 1 7, some (.x (.v (.int .i64 s.Slow)))), (.c 1 8, some (.x (.v (.int .i64 s.Brash)))), (.c 1 9, some (.x (.v (.int .i64 s.Ridge)))), (.c 1 10, some (.x (.v (.int .i64 s.Press)))), (.c 2 0, some (.x (.v (.int .i64 0)))), (.c 2 1, some (.x (.v (.int .i64 0)))), (.c 4 0, some (.x (.v (.int .i64 q.2.2.1)))), (.c 4 1, some (.x (.v (.int .i64 q.2.2.2))))]) ?_ ⟨rfl, rfl, rfl, rfl, rfl, rfl, rfl, rfl, rfl, rfl, rfl, rfl, rfl, rfl, rfl, rfl, rfl, rfl, rfl, rfl, rfl, rfl, rfl, rfl, rfl, rfl, rfl, rfl, trivial⟩ rfl
        refine fin_then ?_
        refine aw_seq ?_
        refine aw_cond rfl (fun hz16 => ?_) (fun hz16 => ?_)
        · have _z := hz16
          have q17 := of_decide_eq_true hz16
          refine aw_skip ?_
          refine fin_then ?_
          refine aw_seq ?_
          refine aw_block ?_
          refine aw_seq ?_
          have hlt : q.1 < l.length := by omega
          have hgp := hall q.1 (by omega)
          have hg := hgp.2
          have hgf := goodCell_first hg
          refine aw_text (rows := [_, _, _, _, _, _]) rfl (by kernel_rfl) ⟨
            ok_plain rfl rfl (op_move (ltN rfl) rfl),
            ok_plain rfl rfl (op_ixB (ltN rfl) rfl rfl ss_46 (hl_p (ne_of_ix (i := (q.1 : Int)) (by omega) (by omega))) (by omega) (by omega)),
            ok_plain rfl rfl (op_loadB (y := .g [.v (.int .i64 (((((prt l ((q.1 : Int)))).Cell).Conc).Lo)), .v (.int .i64 (((((prt l ((q.1 : Int)))).Cell).Conc).Hi)), .v (.int .i64 (((((prt l ((q.1 : Int)))).Cell).Thick).Lo)), .v (.int .i64 (((((prt l ((q.1 : Int)))).Cell).Thick).Hi)), .v (.int .i64 (((((prt l ((q.1 : Int)))).Cell).Ridge).Lo)), .v (.int .i64 (((((prt l ((q.1 : Int)))).Cell).Ridge).Hi)), .v (.int .i64 (((((prt l ((q.1 : Int)))).Cell).Press).Lo)), .v (.int .i64 (((((prt l ((q.1 : Int)))).Cell).Press).Hi)), .v (.bool (((prt l ((q.1 : Int)))).Channel)), .v (.int .i64 (((prt l ((q.1 : Int)))).Length))]) (ltN rfl) rfl (ldN (hl_L (ne_of_ix (i := (q.1 : Int)) (by omega) (by omega))) default (i := (q.1 : Int)) (by omega) (by omega) 0 (vs := [(.int .i64 (((((prt l ((q.1 : Int)))).Cell).Conc).Lo)), (.int .i64 (((((prt l ((q.1 : Int)))).Cell).Conc).Hi)), (.int .i64 (((((prt l ((q.1 : Int)))).Cell).Thick).Lo)), (.int .i64 (((((prt l ((q.1 : Int)))).Cell).Thick).Hi)), (.int .i64 (((((prt l ((q.1 : Int)))).Cell).Ridge).Lo)), (.int .i64 (((((prt l ((q.1 : Int)))).Cell).Ridge).Hi)), (.int .i64 (((((prt l ((q.1 : Int)))).Cell).Press).Lo)), (.int .i64 (((((prt l ((q.1 : Int)))).Cell).Press).Hi)), (.bool (((prt l ((q.1 : Int)))).Channel)), (.int .i64 (((prt l ((q.1 : Int)))).Length))]) (fun zq zv zh => sub_get (vs := [(.int .i64 (((((prt l ((q.1 : Int)))).Cell).Conc).Lo)), (.int .i64 (((((prt l ((q.1 : Int)))).Cell).Conc).Hi)), (.int .i64 (((((prt l ((q.1 : Int)))).Cell).Thick).Lo)), (.int .i64 (((((prt l ((q.1 : Int)))).Cell).Thick).Hi)), (.int .i64 (((((prt l ((q.1 : Int)))).Cell).Ridge).Lo)), (.int .i64 (((((prt l ((q.1 : Int)))).Cell).Ridge).Hi)), (.int .i64 (((((prt l ((q.1 : Int)))).Cell).Press).Lo)), (.int .i64 (((((prt l ((q.1 : Int)))).Cell).Press).Hi)), (.bool (((prt l ((q.1 : Int)))).Channel)), (.int .i64 (((prt l ((q.1 : Int)))).Length))]) rfl zh) rfl sh_48 rfl)),
            ok_plain rfl rfl (op_alloc (L := 5) (ltN rfl) zl_48),
            ok_plain rfl rfl (op_assign (ltN rfl) rfl),
            ok_plain rfl rfl (op_storeN sz_48 rfl rfl rfl rfl rfl (by decide)),
            trivial⟩ ?_
          refine fin_keep (s' := [(.t 2, some (.x (.p 1 0))), (.t 5, some (.x (.p 2 0))), (.t 11, some (.x (.v (.func (.func 86) #[] #[])))), (.t 12, some (.x (.o 101 102 q.2.1.length))), (.t 13, some (.x (.p 4 0))), (.t 14, some (.x (.v (.int .i64 ((q.1 : Int)))))), (.t 15, some (.x (.p 5 0))), (.t 50, some (.x (.v (.slice l_p l.length l_c)))), (.t 51, some (.x (.v (.int .i64 (((l.length : Nat) : Int)))))), (.t 52, some (.x (.v (.int .i64 ((q.1 : Int)))))), (.b 1, some (.sh 25 11)), (.b 2, some (.sh 32 2)), (.b 4, some (.sh 32 2)), (.b 5, some (.sh 48 10)), (.r 101, some (.vec true 102 3 1 (q.2.1.flatMap encInt))), (.c 1 0, some (.x (.v (.int .i64 s.Class)))), (.c 1 1, some (.x (.v (.int .i64 s.Power)))), (.c 1 2, some (.x (.v (.int .i64 s.Draught)))), (.c 1 3, some (.x (.v (.int .i64 s.Tonnes)))), (.c 1 4, some (.x (.v (.slice s_Thrust_p s.Thrust.length s_Thrust_c)))), (.c 1 5, some (.x (.v (.slice s_Water_p s.Water.length s_Water_c)))), (.c 1 6, some (.x (.v (.slice s_Ice_p s.Ice.length s_Ice_c)))), (.c 1 7, some (.x (.v (.int .i64 s.Slow)))), (.c 1 8, some (.x (.v (.int .i64 s.Brash)))), (.c 1 9, some (.x (.v (.int .i64 s.Ridge)))), (.c 1 10, some (.x (.v (.int .i64 s.Press)))), (.c 2 0, some (.x (.v (.int .i64 0)))), (.c 2 1, some (.x (.v (.int .i64 0)))), (.c 4 0, some (.x (.v (.int .i64 q.2.2.1)))), (.c 4 1, some (.x (.v (.int .i64 q.2.2.2)))), (.c 5 0, some (.x (.v (.int .i64 (((((prt l ((q.1 : Int)))).Cell).Conc).Lo))))), (.c 5 1, some (.x (.v (.int .i64 (((((prt l ((q.1 : Int)))).Cell).Conc).Hi))))), (.c 5 2, some (.x (.v (.int .i64 (((((prt l ((q.1 : Int)))).Cell).Thick).Lo))))), (.c 5 3, some (.x (.v (.int .i64 (((((prt l ((q.1 : Int)))).Cell).Thick).Hi))))), (.c 5 4, some (.x (.v (.int .i64 (((((prt l ((q.1 : Int)))).Cell).Ridge).Lo))))), (.c 5 5, some (.x (.v (.int .i64 (((((prt l ((q.1 : Int)))).Cell).Ridge).Hi))))), (.c 5 6, some (.x (.v (.int .i64 (((((prt l ((q.1 : Int)))).Cell).Press).Lo))))), (.c 5 7, some (.x (.v (.int .i64 (((((prt l ((q.1 : Int)))).Cell).Press).Hi))))), (.c 5 8, some (.x (.v (.bool (((prt l ((q.1 : Int)))).Channel))))), (.c 5 9, some (.x (.v (.int .i64 (((prt l ((q.1 : Int)))).Length)))))]) ?_ ⟨rfl, rfl, rfl, rfl, rfl, rfl, rfl, rfl, rfl, rfl, rfl, rfl, rfl, rfl, rfl, rfl, rfl, rfl, rfl, rfl, rfl, rfl, rfl, rfl, rfl, rfl, rfl, rfl, rfl, rfl, rfl, rfl, rfl, rfl, rfl, rfl, rfl, rfl, rfl, rfl, trivial⟩ rfl
          refine fin_then ?_
          refine aw_seq ?_
          refine aw_text (rows := [_, _, _, _, _, _, _, _, _, _]) rfl (by kernel_rfl) ⟨
            ok_plain rfl rfl (op_fieldAddr (ltN rfl) rfl fo_48_0),
            ok_plain rfl rfl (op_loadN (ys := [.v (.int .i64 (((((prt l ((q.1 : Int)))).Cell).Conc).Lo)), .v (.int .i64 (((((prt l ((q.1 : Int)))).Cell).Conc).Hi)), .v (.int .i64 (((((prt l ((q.1 : Int)))).Cell).Thick).Lo)), .v (.int .i64 (((((prt l ((q.1 : Int)))).Cell).Thick).Hi)), .v (.int .i64 (((((prt l ((q.1 : Int)))).Cell).Ridge).Lo)), .v (.int .i64 (((((prt l ((q.1 : Int)))).Cell).Ridge).Hi)), .v (.int .i64 (((((prt l ((q.1 : Int)))).Cell).Press).Lo)), .v (.int .i64 (((((prt l ((q.1 : Int)))).Cell).Press).Hi))]) (ltN rfl) sh_34 rfl rfl ⟨rfl, rfl, rfl, rfl, rfl, rfl, rfl, rfl, trivial⟩),
            ok_plain rfl rfl (op_fieldAddr (ltN rfl) rfl fo_48_1),
            ok_plain rfl rfl (op_load1 (ltN rfl) sh_4 rfl rfl),
            ok_plain rfl rfl (op_call (x := .t [.v (.int .i64 ((safe s ((((prt l ((q.1 : Int)))).Cell)) (((prt l ((q.1 : Int)))).Channel)).1)), .v (.int .i64 ((safe s ((((prt l ((q.1 : Int)))).Cell)) (((prt l ((q.1 : Int)))).Channel)).2))]) (fs := []) (caps := []) (extra := (.b 1 :: cellKeys 1 0 11) ++ []) (ltN rfl) en_87 rfl ⟨rfl, rfl, rfl⟩ (EvL.cons rfl (EvL.cons rfl (EvL.cons rfl EvL.nil))) (fun mm aa ww gg hr hrel => (c87 s ⟨s_Thrust_p, s.Thrust.length, s_Thrust_c⟩ ⟨s_Water_p, s.Water.length, s_Water_c⟩ ⟨s_Ice_p, s.Ice.length, s_Ice_c⟩ (mm 1) ((((prt l ((q.1 : Int)))).Cell)) (((prt l ((q.1 : Int)))).Channel) ww (SlIs.mono hs_Thrust hrel.below) (SlIs.mono hs_Water hrel.below) (SlIs.mono hs_Ice hrel.below) (boxAt (L := 1) (vs := [(.int .i64 s.Class), (.int .i64 s.Power), (.int .i64 s.Draught), (.int .i64 s.Tonnes), (.slice s_Thrust_p s.Thrust.length s_Thrust_c), (.slice s_Water_p s.Water.length s_Water_c), (.slice s_Ice_p s.Ice.length s_Ice_c), (.int .i64 s.Slow), (.int .i64 s.Brash), (.int .i64 s.Ridge), (.int .i64 s.Press)]) hrel (fun k hk => hr k (List.mem_append_left _ hk)) rfl ⟨rfl, rfl, rfl, rfl, rfl, rfl, rfl, rfl, rfl, rfl, rfl, trivial⟩) (BoxAt.mono hG hrel.below) (by first | assumption | omega) (by first | assumption | omega)))),
            ok_plain rfl rfl (op_move (ltN rfl) rfl),
            ok_plain rfl rfl (op_extract (ltN rfl) rfl rfl),
            ok_plain rfl rfl (op_extract (ltN rfl) rfl rfl),
            ok_plain rfl rfl (op_assign (ltN rfl) rfl),
            ok_plain rfl rfl (op_assign (ltN rfl) rfl),
            trivial⟩ ?_
          refine fin_keep (s' := [(.t 2, some (.x (.p 1 0))), (.t 5, some (.x (.p 2 0))), (.t 11, some (.x (.v (.func (.func 86) #[] #[])))), (.t 12, some (.x (.o 101 102 q.2.1.length))), (.t 13, some (.x (.p 4 0))), (.t 14, some (.x (.v (.int .i64 ((q.1 : Int)))))), (.t 15, some (.x (.p 5 0))), (.t 16, some (.x (.v (.int .i64 ((safe s ((((prt l ((q.1 : Int)))).Cell)) (((prt l ((q.1 : Int)))).Channel)).1))))), (.t 17, some (.x (.v (.int .i64 ((safe s ((((prt l ((q.1 : Int)))).Cell)) (((prt l ((q.1 : Int)))).Channel)).2))))), (.t 50, some (.x (.v (.slice l_p l.length l_c)))), (.t 51, some (.x (.v (.int .i64 (((l.length : Nat) : Int)))))), (.t 52, some (.x (.v (.int .i64 ((q.1 : Int)))))), (.b 1, some (.sh 25 11)), (.b 2, some (.sh 32 2)), (.b 4, some (.sh 32 2)), (.b 5, some (.sh 48 10)), (.r 101, some (.vec true 102 3 1 (q.2.1.flatMap encInt))), (.c 1 0, some (.x (.v (.int .i64 s.Class)))), (.c 1 1, some (.x (.v (.int .i64 s.Power)))), (.c 1 2, some (.x (.v (.int .i64 s.Draught)))), (.c 1 3, some (.x (.v (.int .i64 s.Tonnes)))), (.c 1 4, some (.x (.v (.slice s_Thrust_p s.Thrust.length s_Thrust_c)))), (.c 1 5, some (.x (.v (.slice s_Water_p s.Water.length s_Water_c)))), (.c 1 6, some (.x (.v (.slice s_Ice_p s.Ice.length s_Ice_c)))), (.c 1 7, some (.x (.v (.int .i64 s.Slow)))), (.c 1 8, some (.x (.v (.int .i64 s.Brash)))), (.c 1 9, some (.x (.v (.int .i64 s.Ridge)))), (.c 1 10, some (.x (.v (.int .i64 s.Press)))), (.c 2 0, some (.x (.v (.int .i64 0)))), (.c 2 1, some (.x (.v (.int .i64 0)))), (.c 4 0, some (.x (.v (.int .i64 q.2.2.1)))), (.c 4 1, some (.x (.v (.int .i64 q.2.2.2)))), (.c 5 0, some (.x (.v (.int .i64 (((((prt l ((q.1 : Int)))).Cell).Conc).Lo))))), (.c 5 1, some (.x (.v (.int .i64 (((((prt l ((q.1 : Int)))).Cell).Conc).Hi))))), (.c 5 2, some (.x (.v (.int .i64 (((((prt l ((q.1 : Int)))).Cell).Thick).Lo))))), (.c 5 3, some (.x (.v (.int .i64 (((((prt l ((q.1 : Int)))).Cell).Thick).Hi))))), (.c 5 4, some (.x (.v (.int .i64 (((((prt l ((q.1 : Int)))).Cell).Ridge).Lo))))), (.c 5 5, some (.x (.v (.int .i64 (((((prt l ((q.1 : Int)))).Cell).Ridge).Hi))))), (.c 5 6, some (.x (.v (.int .i64 (((((prt l ((q.1 : Int)))).Cell).Press).Lo))))), (.c 5 7, some (.x (.v (.int .i64 (((((prt l ((q.1 : Int)))).Cell).Press).Hi))))), (.c 5 8, some (.x (.v (.bool (((prt l ((q.1 : Int)))).Channel))))), (.c 5 9, some (.x (.v (.int .i64 (((prt l ((q.1 : Int)))).Length)))))]) ?_ ⟨rfl, rfl, rfl, rfl, rfl, rfl, rfl, rfl, rfl, rfl, rfl, rfl, rfl, rfl, rfl, rfl, rfl, rfl, rfl, rfl, rfl, rfl, rfl, rfl, rfl, rfl, rfl, rfl, rfl, rfl, rfl, rfl, rfl, rfl, rfl, rfl, rfl, rfl, rfl, rfl, rfl, rfl, trivial⟩ rfl
          refine fin_then ?_
          refine aw_seq ?_
          refine aw_seq ?_
          refine aw_text (rows := [_, _]) rfl (by kernel_rfl) ⟨
            ok_plain rfl rfl (op_move (ltN rfl) rfl),
            ok_plain rfl rfl (op_bin (ltN rfl) rfl rfl rfl),
            trivial⟩ ?_
          refine fin_keep (s' := [(.t 2, some (.x (.p 1 0))), (.t 5, some (.x (.p 2 0))), (.t 11, some (.x (.v (.func (.func 86) #[] #[])))), (.t 12, some (.x (.o 101 102 q.2.1.length))), (.t 13, some (.x (.p 4 0))), (.t 14, some (.x (.v (.int .i64 ((q.1 : Int)))))), (.t 15, some (.x (.p 5 0))), (.t 16, some (.x (.v (.int .i64 ((safe s ((((prt l ((q.1 : Int)))).Cell)) (((prt l ((q.1 : Int)))).Channel)).1))))), (.t 17, some (.x (.v (.int .i64 ((safe s ((((prt l ((q.1 : Int)))).Cell)) (((prt l ((q.1 : Int)))).Channel)).2))))), (.t 50, some (.x (.v (.slice l_p l.length l_c)))), (.t 51, some (.x (.v (.int .i64 (((l.length : Nat) : Int)))))), (.t 52, some (.x (.v (.int .i64 ((q.1 : Int)))))), (.t 66, some (.x (.v (.bool (((safe s ((((prt l ((q.1 : Int)))).Cell)) (((prt l ((q.1 : Int)))).Channel)).2) != 0))))), (.b 1, some (.sh 25 11)), (.b 2, some (.sh 32 2)), (.b 4, some (.sh 32 2)), (.b 5, some (.sh 48 10)), (.r 101, some (.vec true 102 3 1 (q.2.1.flatMap encInt))), (.c 1 0, some (.x (.v (.int .i64 s.Class)))), (.c 1 1, some (.x (.v (.int .i64 s.Power)))), (.c 1 2, some (.x (.v (.int .i64 s.Draught)))), (.c 1 3, some (.x (.v (.int .i64 s.Tonnes)))), (.c 1 4, some (.x (.v (.slice s_Thrust_p s.Thrust.length s_Thrust_c)))), (.c 1 5, some (.x (.v (.slice s_Water_p s.Water.length s_Water_c)))), (.c 1 6, some (.x (.v (.slice s_Ice_p s.Ice.length s_Ice_c)))), (.c 1 7, some (.x (.v (.int .i64 s.Slow)))), (.c 1 8, some (.x (.v (.int .i64 s.Brash)))), (.c 1 9, some (.x (.v (.int .i64 s.Ridge)))), (.c 1 10, some (.x (.v (.int .i64 s.Press)))), (.c 2 0, some (.x (.v (.int .i64 0)))), (.c 2 1, some (.x (.v (.int .i64 0)))), (.c 4 0, some (.x (.v (.int .i64 q.2.2.1)))), (.c 4 1, some (.x (.v (.int .i64 q.2.2.2)))), (.c 5 0, some (.x (.v (.int .i64 (((((prt l ((q.1 : Int)))).Cell).Conc).Lo))))), (.c 5 1, some (.x (.v (.int .i64 (((((prt l ((q.1 : Int)))).Cell).Conc).Hi))))), (.c 5 2, some (.x (.v (.int .i64 (((((prt l ((q.1 : Int)))).Cell).Thick).Lo))))), (.c 5 3, some (.x (.v (.int .i64 (((((prt l ((q.1 : Int)))).Cell).Thick).Hi))))), (.c 5 4, some (.x (.v (.int .i64 (((((prt l ((q.1 : Int)))).Cell).Ridge).Lo))))), (.c 5 5, some (.x (.v (.int .i64 (((((prt l ((q.1 : Int)))).Cell).Ridge).Hi))))), (.c 5 6, some (.x (.v (.int .i64 (((((prt l ((q.1 : Int)))).Cell).Press).Lo))))), (.c 5 7, some (.x (.v (.int .i64 (((((prt l ((q.1 : Int)))).Cell).Press).Hi))))), (.c 5 8, some (.x (.v (.bool (((prt l ((q.1 : Int)))).Channel))))), (.c 5 9, some (.x (.v (.int .i64 (((prt l ((q.1 : Int)))).Length)))))]) ?_ ⟨rfl, rfl, rfl, rfl, rfl, rfl, rfl, rfl, rfl, rfl, rfl, rfl, rfl, rfl, rfl, rfl, rfl, rfl, rfl, rfl, rfl, rfl, rfl, rfl, rfl, rfl, rfl, rfl, rfl, rfl, rfl, rfl, rfl, rfl, rfl, rfl, rfl, rfl, rfl, rfl, rfl, rfl, rfl, trivial⟩ rfl
          refine fin_then ?_
          refine aw_cond rfl (fun hz18 => ?_) (fun hz18 => ?_)
          · have _z := hz18
            have q19 := ne_t hz18
            refine aw_seq ?_
            refine aw_text (rows := [_, _, _, _, _, _]) rfl (by kernel_rfl) ⟨
              ok_plain rfl rfl (op_move (ltN rfl) rfl),
              ok_plain rfl rfl (op_build (x := .g [.v (.int .i64 ((q.1 : Int))), .v (.int .i64 0)]) (ltN rfl) (EvL.cons rfl EvL.nil) (fun m w => by kernel_rfl)),
              ok_plain rfl rfl (op_move (ltN rfl) rfl),
              ok_plain rfl rfl (op_assign (ltN rfl) rfl),
              ok_plain rfl rfl (op_storeN sz_32 rfl rfl rfl rfl rfl (by decide)),
              ok_plain rfl rfl (op_assign (ltN rfl) rfl),
              trivial⟩ ?_
            refine fin_keep (s' := [(.t 4, some (.x (.v (.slice none 0 0)))), (.t 5, some (.x (.p 2 0))), (.t 6, some (.x (.v (.int .i64 ((safe s ((((prt l ((q.1 : Int)))).Cell)) (((prt l ((q.1 : Int)))).Channel)).2))))), (.b 2, some (.sh 32 2)), (.c 2 0, some (.x (.v (.int .i64 ((q.1 : Int)))))), (.c 2 1, some (.x (.v (.int .i64 0))))]) ?_ ⟨rfl, rfl, rfl, rfl, rfl, rfl, trivial⟩ rfl
            refine fin_then ?_
            refine aw_ret ?_
            refine fin_then_ret ?_
            refine fin_block_ret ?_
            refine fin_then_ret ?_
            refine fin_then_ret ?_
            refine fin_block_ret ?_
            refine fin_then_ret ?_
            refine post_ret (x := .t [.v (.slice none 0 0), .g [.v (.int .i64 ((q.1 : Int))), .v (.int .i64 0)], .v (.int .i64 ((safe s ((((prt l ((q.1 : Int)))).Cell)) (((prt l ((q.1 : Int)))).Channel)).2))]) rfl rfl (resOK_tmp rfl (resOK_cellN (ys := [.v (.int .i64 ((q.1 : Int))), .v (.int .i64 0)]) rfl sh_32 rfl ⟨rfl, rfl, trivial⟩ (resOK_tmp rfl resOK_nil))) rfl (fun mm aa ww hr => ?_)
            have hlq : leg s l = ([], ⟨(q.1 : Int), 0⟩, (safe s (prt l (q.1 : Int)).Cell (prt l (q.1 : Int)).Channel).2) := by rw [hlg, drop_prt hlt, legFrom, if_pos (ne_t hz18)]
            exact ⟨none, 0, by rw [hlq]; rfl, by rw [hlq]; exact newAt_nil, hr.below⟩
          · have _z := hz18
            have q20 := ne_f hz18
            refine aw_skip ?_
            refine fin_then ?_
            refine aw_seq ?_
            have hsg := safe_goes hc hg (ne_f hz18)
            refine aw_any (rows := [_, _, _, _, _, _, _, _, _, _, _, _]) (M := [0, 1, 3, 0, 8, 31, 63, 127, 255, 255, 511, 2047]) Tryd_mixed (by kernel_rfl) rfl (by kernel_rfl) ⟨
              ok_plain rfl rfl (op_fieldAddr (ltN rfl) rfl fo_48_0),
              ok_plain rfl rfl (op_loadN (ys := [.v (.int .i64 (((((prt l ((q.1 : Int)))).Cell).Conc).Lo)), .v (.int .i64 (((((prt l ((q.1 : Int)))).Cell).Conc).Hi)), .v (.int .i64 (((((prt l ((q.1 : Int)))).Cell).Thick).Lo)), .v (.int .i64 (((((prt l ((q.1 : Int)))).Cell).Thick).Hi)), .v (.int .i64 (((((prt l ((q.1 : Int)))).Cell).Ridge).Lo)), .v (.int .i64 (((((prt l ((q.1 : Int)))).Cell).Ridge).Hi)), .v (.int .i64 (((((prt l ((q.1 : Int)))).Cell).Press).Lo)), .v (.int .i64 (((((prt l ((q.1 : Int)))).Cell).Press).Hi))]) (ltN rfl) sh_34 rfl rfl ⟨rfl, rfl, rfl, rfl, rfl, rfl, rfl, rfl, trivial⟩),
              ok_plain rfl rfl (op_call (x := .g [.v (.int .i64 ((firstI ((((prt l ((q.1 : Int)))).Cell))).Conc)), .v (.int .i64 ((firstI ((((prt l ((q.1 : Int)))).Cell))).Thick)), .v (.int .i64 ((firstI ((((prt l ((q.1 : Int)))).Cell))).Ridge)), .v (.int .i64 ((firstI ((((prt l ((q.1 : Int)))).Cell))).Press))]) (fs := []) (caps := []) (extra := []) (ltN rfl) en_88 rfl ⟨rfl, rfl, rfl⟩ (EvL.cons rfl EvL.nil) (fun mm aa ww gg hr hrel => (c88 ((((prt l ((q.1 : Int)))).Cell)) ww))),
              ok_plain rfl rfl (op_fieldAddr (ltN rfl) rfl fo_48_1),
              ok_plain rfl rfl (op_load1 (ltN rfl) sh_4 rfl rfl),
              ok_plain rfl rfl (op_build (x := .g [.p 1 0, .v (.int .i64 ((firstI ((((prt l ((q.1 : Int)))).Cell))).Conc)), .v (.int .i64 ((firstI ((((prt l ((q.1 : Int)))).Cell))).Thick)), .v (.int .i64 ((firstI ((((prt l ((q.1 : Int)))).Cell))).Ridge)), .v (.int .i64 ((firstI ((((prt l ((q.1 : Int)))).Cell))).Press)), .v (.bool (((prt l ((q.1 : Int)))).Channel))]) (ltN rfl) (EvL.cons rfl (EvL.cons rfl (EvL.cons rfl EvL.nil))) (fun m w => by kernel_rfl)),
              ok_plain rfl rfl (op_call (x := .t [.v (.int .i64 ((goes s ((firstI ((((prt l ((q.1 : Int)))).Cell)))) (((prt l ((q.1 : Int)))).Channel)).1)), .v (.bool ((goes s ((firstI ((((prt l ((q.1 : Int)))).Cell)))) (((prt l ((q.1 : Int)))).Channel)).2))]) (fs := []) (caps := []) (extra := (.b 1 :: cellKeys 1 0 11) ++ []) (ltN rfl) en_89 rfl ⟨rfl, rfl, rfl⟩ (EvL.cons rfl EvL.nil) (fun mm aa ww gg hr hrel => (c89 s ⟨s_Thrust_p, s.Thrust.length, s_Thrust_c⟩ ⟨s_Water_p, s.Water.length, s_Water_c⟩ ⟨s_Ice_p, s.Ice.length, s_Ice_c⟩ (mm 1) ((firstI ((((prt l ((q.1 : Int)))).Cell)))) (((prt l ((q.1 : Int)))).Channel) ww (SlIs.mono hs_Thrust hrel.below) (SlIs.mono hs_Water hrel.below) (SlIs.mono hs_Ice hrel.below) (boxAt (L := 1) (vs := [(.int .i64 s.Class), (.int .i64 s.Power), (.int .i64 s.Draught), (.int .i64 s.Tonnes), (.slice s_Thrust_p s.Thrust.length s_Thrust_c), (.slice s_Water_p s.Water.length s_Water_c), (.slice s_Ice_p s.Ice.length s_Ice_c), (.int .i64 s.Slow), (.int .i64 s.Brash), (.int .i64 s.Ridge), (.int .i64 s.Press)]) hrel (fun k hk => hr k (List.mem_append_left _ hk)) rfl ⟨rfl, rfl, rfl, rfl, rfl, rfl, rfl, rfl, rfl, rfl, rfl, trivial⟩) (BoxAt.mono hG hrel.below) (by first | assumption | omega) (by first | assumption | omega)))),
              ok_plain rfl rfl (op_move (ltN rfl) rfl),
              ok_plain rfl rfl (op_extract (ltN rfl) rfl rfl),
              ok_plain rfl rfl (op_extract (ltN rfl) rfl rfl),
              ok_plain rfl rfl (op_assign (ltN rfl) rfl),
              ok_plain rfl rfl (op_assign (ltN rfl) rfl),
              trivial⟩ ?_
            refine fin_keep (s' := [(.t 2, some (.x (.p 1 0))), (.t 5, some (.x (.p 2 0))), (.t 11, some (.x (.v (.func (.func 86) #[] #[])))), (.t 12, some (.x (.o 101 102 q.2.1.length))), (.t 13, some (.x (.p 4 0))), (.t 15, some (.x (.p 5 0))), (.t 16, some (.x (.v (.int .i64 ((safe s ((((prt l ((q.1 : Int)))).Cell)) (((prt l ((q.1 : Int)))).Channel)).1))))), (.t 18, some (.x (.v (.int .i64 ((goes s ((firstI ((((prt l ((q.1 : Int)))).Cell)))) (((prt l ((q.1 : Int)))).Channel)).1))))), (.t 50, some (.x (.v (.slice l_p l.length l_c)))), (.t 51, some (.x (.v (.int .i64 (((l.length : Nat) : Int)))))), (.t 52, some (.x (.v (.int .i64 ((q.1 : Int)))))), (.b 1, some (.sh 25 11)), (.b 2, some (.sh 32 2)), (.b 4, some (.sh 32 2)), (.b 5, some (.sh 48 10)), (.r 101, some (.vec true 102 3 1 (q.2.1.flatMap encInt))), (.c 1 0, some (.x (.v (.int .i64 s.Class)))), (.c 1 1, some (.x (.v (.int .i64 s.Power)))), (.c 1 2, some (.x (.v (.int .i64 s.Draught)))), (.c 1 3, some (.x (.v (.int .i64 s.Tonnes)))), (.c 1 4, some (.x (.v (.slice s_Thrust_p s.Thrust.length s_Thrust_c)))), (.c 1 5, some (.x (.v (.slice s_Water_p s.Water.length s_Water_c)))), (.c 1 6, some (.x (.v (.slice s_Ice_p s.Ice.length s_Ice_c)))), (.c 1 7, some (.x (.v (.int .i64 s.Slow)))), (.c 1 8, some (.x (.v (.int .i64 s.Brash)))), (.c 1 9, some (.x (.v (.int .i64 s.Ridge)))), (.c 1 10, some (.x (.v (.int .i64 s.Press)))), (.c 2 0, some (.x (.v (.int .i64 0)))), (.c 2 1, some (.x (.v (.int .i64 0)))), (.c 4 0, some (.x (.v (.int .i64 q.2.2.1)))), (.c 4 1, some (.x (.v (.int .i64 q.2.2.2)))), (.c 5 0, some (.x (.v (.int .i64 (((((prt l ((q.1 : Int)))).Cell).Conc).Lo))))), (.c 5 1, some (.x (.v (.int .i64 (((((prt l ((q.1 : Int)))).Cell).Conc).Hi))))), (.c 5 2, some (.x (.v (.int .i64 (((((prt l ((q.1 : Int)))).Cell).Thick).Lo))))), (.c 5 3, some (.x (.v (.int .i64 (((((prt l ((q.1 : Int)))).Cell).Thick).Hi))))), (.c 5 4, some (.x (.v (.int .i64 (((((prt l ((q.1 : Int)))).Cell).Ridge).Lo))))), (.c 5 5, some (.x (.v (.int .i64 (((((prt l ((q.1 : Int)))).Cell).Ridge).Hi))))), (.c 5 6, some (.x (.v (.int .i64 (((((prt l ((q.1 : Int)))).Cell).Press).Lo))))), (.c 5 7, some (.x (.v (.int .i64 (((((prt l ((q.1 : Int)))).Cell).Press).Hi))))), (.c 5 8, some (.x (.v (.bool (((prt l ((q.1 : Int)))).Channel))))), (.c 5 9, some (.x (.v (.int .i64 (((prt l ((q.1 : Int)))).Length)))))]) ?_ ⟨rfl, rfl, rfl, rfl, rfl, rfl, rfl, rfl, rfl, rfl, rfl, rfl, rfl, rfl, rfl, rfl, rfl, rfl, rfl, rfl, rfl, rfl, rfl, rfl, rfl, rfl, rfl, rfl, rfl, rfl, rfl, rfl, rfl, rfl, rfl, rfl, rfl, rfl, rfl, rfl, rfl, trivial⟩ rfl
            refine fin_then ?_
            refine aw_seq ?_
            have ht1 := takes_bd hgp.1 hsg.2.2
            have ht2 := takes_bd hgp.1 hsg.2.1
            refine aw_text (rows := [_, _, _, _, _]) rfl (by kernel_rfl) ⟨
              ok_plain rfl rfl (op_move (ltN rfl) rfl),
              ok_plain rfl rfl (op_move (ltN rfl) rfl),
              ok_plain rfl rfl (op_buildSlice (L := 6) (ety := 3) (cs := [.v (.int .i64 ((safe s ((((prt l ((q.1 : Int)))).Cell)) (((prt l ((q.1 : Int)))).Channel)).1))]) (ltN rfl) (EvL.cons rfl EvL.nil) rfl (fun m w => by kernel_rfl)),
              ok_plain rfl rfl (op_append (L' := 7) (C' := 8) (vs := [(.int .i64 ((safe s ((((prt l ((q.1 : Int)))).Cell)) (((prt l ((q.1 : Int)))).Channel)).1))]) (ltN rfl) af_49 rfl rfl (flat_length (enc := encInt) (fun _ => rfl) q.2.1) rfl ⟨rfl, trivial⟩ rfl rfl (by decide) (by omega) (by omega) (by decide)),
              ok_plain rfl rfl (op_assign (ltN rfl) rfl),
              trivial⟩ ?_
            refine fin_keep (s' := [(.t 2, some (.x (.p 1 0))), (.t 5, some (.x (.p 2 0))), (.t 11, some (.x (.v (.func (.func 86) #[] #[])))), (.t 12, some (.x (.o 7 8 ((q.2.1 ++ [(safe s ((((prt l ((q.1 : Int)))).Cell)) (((prt l ((q.1 : Int)))).Channel)).1]).length)))), (.t 13, some (.x (.p 4 0))), (.t 15, some (.x (.p 5 0))), (.t 16, some (.x (.v (.int .i64 ((safe s ((((prt l ((q.1 : Int)))).Cell)) (((prt l ((q.1 : Int)))).Channel)).1))))), (.t 18, some (.x (.v (.int .i64 ((goes s ((firstI ((((prt l ((q.1 : Int)))).Cell)))) (((prt l ((q.1 : Int)))).Channel)).1))))), (.t 50, some (.x (.v (.slice l_p l.length l_c)))), (.t 51, some (.x (.v (.int .i64 (((l.length : Nat) : Int)))))), (.t 52, some (.x (.v (.int .i64 ((q.1 : Int)))))), (.b 1, some (.sh 25 11)), (.b 2, some (.sh 32 2)), (.b 4, some (.sh 32 2)), (.b 5, some (.sh 48 10)), (.r 7, some (.vec true 8 3 1 ((q.2.1 ++ [(safe s ((((prt l ((q.1 : Int)))).Cell)) (((prt l ((q.1 : Int)))).Channel)).1]).flatMap encInt))), (.c 1 0, some (.x (.v (.int .i64 s.Class)))), (.c 1 1, some (.x (.v (.int .i64 s.Power)))), (.c 1 2, some (.x (.v (.int .i64 s.Draught)))), (.c 1 3, some (.x (.v (.int .i64 s.Tonnes)))), (.c 1 4, some (.x (.v (.slice s_Thrust_p s.Thrust.length s_Thrust_c)))), (.c 1 5, some (.x (.v (.slice s_Water_p s.Water.length s_Water_c)))), (.c 1 6, some (.x (.v (.slice s_Ice_p s.Ice.length s_Ice_c)))), (.c 1 7, some (.x (.v (.int .i64 s.Slow)))), (.c 1 8, some (.x (.v (.int .i64 s.Brash)))), (.c 1 9, some (.x (.v (.int .i64 s.Ridge)))), (.c 1 10, some (.x (.v (.int .i64 s.Press)))), (.c 2 0, some (.x (.v (.int .i64 0)))), (.c 2 1, some (.x (.v (.int .i64 0)))), (.c 4 0, some (.x (.v (.int .i64 q.2.2.1)))), (.c 4 1, some (.x (.v (.int .i64 q.2.2.2)))), (.c 5 0, some (.x (.v (.int .i64 (((((prt l ((q.1 : Int)))).Cell).Conc).Lo))))), (.c 5 1, some (.x (.v (.int .i64 (((((prt l ((q.1 : Int)))).Cell).Conc).Hi))))), (.c 5 2, some (.x (.v (.int .i64 (((((prt l ((q.1 : Int)))).Cell).Thick).Lo))))), (.c 5 3, some (.x (.v (.int .i64 (((((prt l ((q.1 : Int)))).Cell).Thick).Hi))))), (.c 5 4, some (.x (.v (.int .i64 (((((prt l ((q.1 : Int)))).Cell).Ridge).Lo))))), (.c 5 5, some (.x (.v (.int .i64 (((((prt l ((q.1 : Int)))).Cell).Ridge).Hi))))), (.c 5 6, some (.x (.v (.int .i64 (((((prt l ((q.1 : Int)))).Cell).Press).Lo))))), (.c 5 7, some (.x (.v (.int .i64 (((((prt l ((q.1 : Int)))).Cell).Press).Hi))))), (.c 5 8, some (.x (.v (.bool (((prt l ((q.1 : Int)))).Channel))))), (.c 5 9, some (.x (.v (.int .i64 (((prt l ((q.1 : Int)))).Length)))))]) ?_ ⟨rfl, rfl, rfl, (congrArg (fun q => some (Val.x (SV.o 7 8 q))) (len_snoc q.2.1 ((safe s ((((prt l ((q.1 : Int)))).Cell)) (((prt l ((q.1 : Int)))).Channel)).1))), rfl, rfl, rfl, rfl, rfl, rfl, rfl, rfl, rfl, rfl, rfl, (Eq.trans (b := some (Val.vec true 8 3 1 (q.2.1.flatMap encInt ++ [(.int .i64 ((safe s ((((prt l ((q.1 : Int)))).Cell)) (((prt l ((q.1 : Int)))).Channel)).1))]))) rfl (congrArg (fun q => some (Val.vec true 8 3 1 q)) (flat_snoc (enc := encInt) q.2.1 ((safe s ((((prt l ((q.1 : Int)))).Cell)) (((prt l ((q.1 : Int)))).Channel)).1)))), rfl, rfl, rfl, rfl, rfl, rfl, rfl, rfl, rfl, rfl, rfl, rfl, rfl, rfl, rfl, rfl, rfl, rfl, rfl, rfl, rfl, rfl, rfl, rfl, rfl, trivial⟩ rfl
            refine fin_then ?_
            have hpl := hgp.1
            have hv1 := hsg.2.1
            have hv2 := hsg.2.2
            refine aw_any (rows := [_, _, _, _, _, _, _, _, _, _, _, _, _, _, _, _, _, _]) (M := [0, 1, 0, 0, 0, 28, 63, 0, 128, 0, 0, 0, 3644, 8124, 511, 24575, 65535, 131071]) Tryd_mixed (by kernel_rfl) rfl (by kernel_rfl) ⟨
              ok_plain rfl rfl (op_fieldAddr (ltN rfl) rfl fo_32_0),
              ok_plain rfl rfl (op_load1 (ltN rfl) sh_3 rfl rfl),
              ok_plain rfl rfl (op_move (ltN rfl) rfl),
              ok_plain rfl rfl (op_loadN (ys := [.v (.int .i64 (((((prt l ((q.1 : Int)))).Cell).Conc).Lo)), .v (.int .i64 (((((prt l ((q.1 : Int)))).Cell).Conc).Hi)), .v (.int .i64 (((((prt l ((q.1 : Int)))).Cell).Thick).Lo)), .v (.int .i64 (((((prt l ((q.1 : Int)))).Cell).Thick).Hi)), .v (.int .i64 (((((prt l ((q.1 : Int)))).Cell).Ridge).Lo)), .v (.int .i64 (((((prt l ((q.1 : Int)))).Cell).Ridge).Hi)), .v (.int .i64 (((((prt l ((q.1 : Int)))).Cell).Press).Lo)), .v (.int .i64 (((((prt l ((q.1 : Int)))).Cell).Press).Hi)), .v (.bool (((prt l ((q.1 : Int)))).Channel)), .v (.int .i64 (((prt l ((q.1 : Int)))).Length))]) (ltN rfl) sh_48 rfl rfl ⟨rfl, rfl, rfl, rfl, rfl, rfl, rfl, rfl, rfl, rfl, trivial⟩),
              ok_plain rfl rfl (op_move (ltN rfl) rfl),
              ok_plain rfl rfl (op_call (x := .v (.int .i64 (takes ((prt l ((q.1 : Int)))) ((goes s ((firstI ((((prt l ((q.1 : Int)))).Cell)))) (((prt l ((q.1 : Int)))).Channel)).1)))) (fs := []) (caps := []) (extra := []) (ltN rfl) en_86 rfl ⟨rfl, rfl, rfl⟩ (EvL.cons rfl (EvL.cons rfl EvL.nil)) (fun mm aa ww gg hr hrel => (c86 ((prt l ((q.1 : Int)))) ((goes s ((firstI ((((prt l ((q.1 : Int)))).Cell)))) (((prt l ((q.1 : Int)))).Channel)).1) ww (by first | assumption | omega) (by first | assumption | omega)))),
              ok_plain rfl rfl (op_bin (ltN rfl) rfl rfl (nw_add ⟨(by omega), (by omega)⟩)),
              ok_plain rfl rfl (op_fieldAddr (ltN rfl) rfl fo_32_1),
              ok_plain rfl rfl (op_load1 (ltN rfl) sh_3 rfl rfl),
              ok_plain rfl rfl (op_move (ltN rfl) rfl),
              ok_plain rfl rfl (op_loadN (ys := [.v (.int .i64 (((((prt l ((q.1 : Int)))).Cell).Conc).Lo)), .v (.int .i64 (((((prt l ((q.1 : Int)))).Cell).Conc).Hi)), .v (.int .i64 (((((prt l ((q.1 : Int)))).Cell).Thick).Lo)), .v (.int .i64 (((((prt l ((q.1 : Int)))).Cell).Thick).Hi)), .v (.int .i64 (((((prt l ((q.1 : Int)))).Cell).Ridge).Lo)), .v (.int .i64 (((((prt l ((q.1 : Int)))).Cell).Ridge).Hi)), .v (.int .i64 (((((prt l ((q.1 : Int)))).Cell).Press).Lo)), .v (.int .i64 (((((prt l ((q.1 : Int)))).Cell).Press).Hi)), .v (.bool (((prt l ((q.1 : Int)))).Channel)), .v (.int .i64 (((prt l ((q.1 : Int)))).Length))]) (ltN rfl) sh_48 rfl rfl ⟨rfl, rfl, rfl, rfl, rfl, rfl, rfl, rfl, rfl, rfl, trivial⟩),
              ok_plain rfl rfl (op_move (ltN rfl) rfl),
              ok_plain rfl rfl (op_call (x := .v (.int .i64 (takes ((prt l ((q.1 : Int)))) ((safe s ((((prt l ((q.1 : Int)))).Cell)) (((prt l ((q.1 : Int)))).Channel)).1)))) (fs := []) (caps := []) (extra := []) (ltN rfl) en_86 rfl ⟨rfl, rfl, rfl⟩ (EvL.cons rfl (EvL.cons rfl EvL.nil)) (fun mm aa ww gg hr hrel => (c86 ((prt l ((q.1 : Int)))) ((safe s ((((prt l ((q.1 : Int)))).Cell)) (((prt l ((q.1 : Int)))).Channel)).1) ww (by first | assumption | omega) (by first | assumption | omega)))),
              ok_plain rfl rfl (op_bin (ltN rfl) rfl rfl (nw_add ⟨(by omega), (by omega)⟩)),
              ok_plain rfl rfl (op_fieldAddr (ltN rfl) rfl fo_32_0),
              ok_plain rfl rfl (op_store1 sz_3 rfl rfl rfl rfl (ltN rfl)),
              ok_plain rfl rfl (op_fieldAddr (ltN rfl) rfl fo_32_1),
              ok_plain rfl rfl (op_store1 sz_3 rfl rfl rfl rfl (ltN rfl)),
              trivial⟩ ?_
            refine fin_keep (s' := [(.t 2, some (.x (.p 1 0))), (.t 5, some (.x (.p 2 0))), (.t 11, some (.x (.v (.func (.func 86) #[] #[])))), (.t 12, some (.x (.o 7 8 ((q.2.1 ++ [(safe s ((((prt l ((q.1 : Int)))).Cell)) (((prt l ((q.1 : Int)))).Channel)).1]).length)))), (.t 13, some (.x (.p 4 0))), (.t 50, some (.x (.v (.slice l_p l.length l_c)))), (.t 51, some (.x (.v (.int .i64 (((l.length : Nat) : Int)))))), (.t 52, some (.x (.v (.int .i64 ((q.1 : Int)))))), (.b 1, some (.sh 25 11)), (.b 2, some (.sh 32 2)), (.b 4, some (.sh 32 2)), (.r 7, some (.vec true 8 3 1 ((q.2.1 ++ [(safe s ((((prt l ((q.1 : Int)))).Cell)) (((prt l ((q.1 : Int)))).Channel)).1]).flatMap encInt))), (.c 1 0, some (.x (.v (.int .i64 s.Class)))), (.c 1 1, some (.x (.v (.int .i64 s.Power)))), (.c 1 2, some (.x (.v (.int .i64 s.Draught)))), (.c 1 3, some (.x (.v (.int .i64 s.Tonnes)))), (.c 1 4, some (.x (.v (.slice s_Thrust_p s.Thrust.length s_Thrust_c)))), (.c 1 5, some (.x (.v (.slice s_Water_p s.Water.length s_Water_c)))), (.c 1 6, some (.x (.v (.slice s_Ice_p s.Ice.length s_Ice_c)))), (.c 1 7, some (.x (.v (.int .i64 s.Slow)))), (.c 1 8, some (.x (.v (.int .i64 s.Brash)))), (.c 1 9, some (.x (.v (.int .i64 s.Ridge)))), (.c 1 10, some (.x (.v (.int .i64 s.Press)))), (.c 2 0, some (.x (.v (.int .i64 0)))), (.c 2 1, some (.x (.v (.int .i64 0)))), (.c 4 0, some (.x (.v (.int .i64 (q.2.2.1 + (takes ((prt l ((q.1 : Int)))) ((goes s ((firstI ((((prt l ((q.1 : Int)))).Cell)))) (((prt l ((q.1 : Int)))).Channel)).1))))))), (.c 4 1, some (.x (.v (.int .i64 (q.2.2.2 + (takes ((prt l ((q.1 : Int)))) ((safe s ((((prt l ((q.1 : Int)))).Cell)) (((prt l ((q.1 : Int)))).Channel)).1)))))))]) ?_ ⟨rfl, rfl, rfl, rfl, rfl, rfl, rfl, rfl, rfl, rfl, rfl, rfl, rfl, rfl, rfl, rfl, rfl, rfl, rfl, rfl, rfl, rfl, rfl, rfl, rfl, rfl, rfl, trivial⟩ rfl
            refine fin_block ?_
            refine fin_then ?_
            refine aw_text (rows := [_, _]) rfl (by kernel_rfl) ⟨
              ok_plain rfl rfl (op_bin (ltN rfl) rfl rfl (nw_add ⟨(by omega), (by omega)⟩)),
              ok_plain rfl rfl (op_move (ltN rfl) rfl),
              trivial⟩ ?_
            refine fin_keep (s' := [(.t 2, some (.x (.p 1 0))), (.t 5, some (.x (.p 2 0))), (.t 11, some (.x (.v (.func (.func 86) #[] #[])))), (.t 12, some (.x (.o 7 8 ((q.2.1 ++ [(safe s ((((prt l ((q.1 : Int)))).Cell)) (((prt l ((q.1 : Int)))).Channel)).1]).length)))), (.t 13, some (.x (.p 4 0))), (.t 50, some (.x (.v (.slice l_p l.length l_c)))), (.t 51, some (.x (.v (.int .i64 (((l.length : Nat) : Int)))))), (.t 52, some (.x (.v (.int .i64 (((q.1 : Int)) + 1))))), (.b 1, some (.sh 25 11)), (.b 2, some (.sh 32 2)), (.b 4, some (.sh 32 2)), (.r 7, some (.vec true 8 3 1 ((q.2.1 ++ [(safe s ((((prt l ((q.1 : Int)))).Cell)) (((prt l ((q.1 : Int)))).Channel)).1]).flatMap encInt))), (.c 1 0, some (.x (.v (.int .i64 s.Class)))), (.c 1 1, some (.x (.v (.int .i64 s.Power)))), (.c 1 2, some (.x (.v (.int .i64 s.Draught)))), (.c 1 3, some (.x (.v (.int .i64 s.Tonnes)))), (.c 1 4, some (.x (.v (.slice s_Thrust_p s.Thrust.length s_Thrust_c)))), (.c 1 5, some (.x (.v (.slice s_Water_p s.Water.length s_Water_c)))), (.c 1 6, some (.x (.v (.slice s_Ice_p s.Ice.length s_Ice_c)))), (.c 1 7, some (.x (.v (.int .i64 s.Slow)))), (.c 1 8, some (.x (.v (.int .i64 s.Brash)))), (.c 1 9, some (.x (.v (.int .i64 s.Ridge)))), (.c 1 10, some (.x (.v (.int .i64 s.Press)))), (.c 2 0, some (.x (.v (.int .i64 0)))), (.c 2 1, some (.x (.v (.int .i64 0)))), (.c 4 0, some (.x (.v (.int .i64 (q.2.2.1 + (takes ((prt l ((q.1 : Int)))) ((goes s ((firstI ((((prt l ((q.1 : Int)))).Cell)))) (((prt l ((q.1 : Int)))).Channel)).1))))))), (.c 4 1, some (.x (.v (.int .i64 (q.2.2.2 + (takes ((prt l ((q.1 : Int)))) ((safe s ((((prt l ((q.1 : Int)))).Cell)) (((prt l ((q.1 : Int)))).Channel)).1)))))))]) ?_ ⟨rfl, rfl, rfl, rfl, rfl, rfl, rfl, rfl, rfl, rfl, rfl, rfl, rfl, rfl, rfl, rfl, rfl, rfl, rfl, rfl, rfl, rfl, rfl, rfl, rfl, rfl, rfl, trivial⟩ rfl
            refine fin_swp [(7, 101), (8, 102)] rfl ?_
            exact fin_loop (q.1 + 1, (q.2.1 ++ [(safe s ((((prt l ((q.1 : Int)))).Cell)) (((prt l ((q.1 : Int)))).Channel)).1]), q.2.2.1 + (takes ((prt l ((q.1 : Int)))) ((goes s ((firstI ((((prt l ((q.1 : Int)))).Cell)))) (((prt l ((q.1 : Int)))).Channel)).1)), q.2.2.2 + (takes ((prt l ((q.1 : Int)))) ((safe s ((((prt l ((q.1 : Int)))).Cell)) (((prt l ((q.1 : Int)))).Channel)).1))) ⟨by simp only []; omega, by simp only []; omega, by simp only []; omega, by simp [hvl], by rw [hlg, drop_prt hlt, legFrom, if_neg (by rw [ne_f hz18]; decide)]; rfl⟩ (by simp only []; omega) ⟨rfl, rfl, rfl, rfl, rfl, rfl, rfl, rfl, rfl, rfl, rfl, rfl, rfl, rfl, rfl, rfl, rfl, rfl, rfl, rfl, rfl, rfl, rfl, rfl, rfl, rfl, rfl, trivial⟩ rfl
        · have _z := hz16
          have q21 := of_decide_eq_false hz16
          refine aw_exit ?_
          refine fin_then_exit ?_
          refine fin_then_exit ?_
          refine fin_block_exit ?_
          refine fin_then ?_
          refine aw_seq ?_
          refine aw_any (rows := [_, _, _, _, _]) (M := [0, 0, 1, 7, 15]) Tryd_mixed (by kernel_rfl) rfl (by kernel_rfl) ⟨
            ok_plain rfl rfl (op_move (ltN rfl) rfl),
            ok_plain rfl rfl (op_loadN (ys := [.v (.int .i64 q.2.2.1), .v (.int .i64 q.2.2.2)]) (ltN rfl) sh_32 rfl rfl ⟨rfl, rfl, trivial⟩),
            ok_plain rfl rfl (op_assign (ltN rfl) rfl),
            ok_plain rfl rfl (op_storeN sz_32 rfl rfl rfl rfl rfl (by decide)),
            ok_plain rfl rfl (op_assign (ltN rfl) rfl),
            trivial⟩ ?_
          refine fin_keep (s' := [(.t 4, some (.x (.o 101 102 q.2.1.length))), (.t 5, some (.x (.p 2 0))), (.t 6, some (.x (.v (.int .i64 0)))), (.b 2, some (.sh 32 2)), (.r 101, some (.vec true 102 3 1 (q.2.1.flatMap encInt))), (.c 2 0, some (.x (.v (.int .i64 q.2.2.1)))), (.c 2 1, some (.x (.v (.int .i64 q.2.2.2))))]) ?_ ⟨rfl, rfl, rfl, rfl, rfl, rfl, rfl, trivial⟩ rfl
          refine fin_then ?_
          refine aw_ret ?_
          refine post_ret (x := .t [.o 101 102 q.2.1.length, .g [.v (.int .i64 q.2.2.1), .v (.int .i64 q.2.2.2)], .v (.int .i64 0)]) rfl rfl (resOK_tmp rfl (resOK_cellN (ys := [.v (.int .i64 q.2.2.1), .v (.int .i64 q.2.2.2)]) rfl sh_32 rfl ⟨rfl, rfl, trivial⟩ (resOK_tmp rfl resOK_nil))) rfl (fun mm aa ww hr => ?_)
          have hlq : leg s l = (q.2.1, ⟨q.2.2.1, q.2.2.2⟩, 0) := by rw [hlg, List.drop_of_length_le (by omega)]; rfl
          rw [hlq]
          exact ⟨_, _, rfl, newAt_row hr mine_nil rfl (flat_length (enc := encInt) (fun _ => rfl) _), hr.below⟩

end Go.Proofs.T
