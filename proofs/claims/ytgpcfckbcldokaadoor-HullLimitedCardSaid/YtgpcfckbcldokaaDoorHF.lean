import Derived.Test.YtgpcfckbcldokaaDoorHE
namespace Go.Proofs.T
open Go Go.AX Go.RowKit Hull
theorem en_132 : Proofs.Enters Tryd.prog 132 := Proofs.enters_of Tryd.func132 (by kernel_rfl) rfl
theorem en_46 : Proofs.Enters Tryd.prog 46 := Proofs.enters_of Tryd.func46 (by kernel_rfl) rfl
theorem en_78 : Proofs.Enters Tryd.prog 78 := Proofs.enters_of Tryd.func78 (by kernel_rfl) rfl
theorem en_85 : Proofs.Enters Tryd.prog 85 := Proofs.enters_of Tryd.func85 (by kernel_rfl) rfl
theorem en_100 : Proofs.Enters Tryd.prog 100 := Proofs.enters_of Tryd.func100 (by kernel_rfl) rfl
theorem zl_136 : zeroL Tryd.prog 136 = some [(.pointer none), (.int .i64 0), (.int .i64 0), (.int .i64 0), (.int .i64 0), (.bool false)] := by kernel_rfl
theorem sz_136 : sizeIn Tryd.prog 136 = some 6 := by kernel_rfl
theorem en_76 : Proofs.Enters Tryd.prog 76 := Proofs.enters_of Tryd.func76 (by kernel_rfl) rfl
theorem en_89 : Proofs.Enters Tryd.prog 89 := Proofs.enters_of Tryd.func89 (by kernel_rfl) rfl
theorem en_75 : Proofs.Enters Tryd.prog 75 := Proofs.enters_of Tryd.func75 (by kernel_rfl) rfl
theorem fo_48_2 : fieldOff Tryd.prog 48 2 = some 9 := by kernel_rfl

theorem c78 (i : Ice) (v : Int) (w : World)  : Calls Tryd.prog 78 #[.agg #[.int .i64 i.Conc, .int .i64 i.Thick, .int .i64 i.Ridge, .int .i64 i.Press], .int .i64 v] w fun e w' => e = .returned (.int .i64 (loaded i v)) ∧ Below w.heap.size w w' := by
  refine enter (args := [.g [.v (.int .i64 i.Conc), .v (.int .i64 i.Thick), .v (.int .i64 i.Ridge), .v (.int .i64 i.Press)], .v (.int .i64 v)]) Tryd.func78 rfl (N := 14) rfl (Nat.le_of_ble_eq_true rfl) ?_
  refine aw_seq ?_
  refine aw_text (rows := [_, _]) rfl (by kernel_rfl) ⟨
    ok_plain rfl rfl (op_boxN (L := 1) (ltN rfl) rfl rfl rfl),
    ok_plain rfl rfl (op_assign (ltN rfl) rfl),
    trivial⟩ ?_
  refine fin_keep (s' := [(.t 1, some (.x (.v (.int .i64 v)))), (.t 2, some (.x (.p 1 0))), (.b 1, some (.sh 28 4)), (.c 1 0, some (.x (.v (.int .i64 i.Conc)))), (.c 1 1, some (.x (.v (.int .i64 i.Thick)))), (.c 1 2, some (.x (.v (.int .i64 i.Ridge)))), (.c 1 3, some (.x (.v (.int .i64 i.Press))))]) ?_ ⟨rfl, rfl, rfl, rfl, rfl, rfl, rfl, trivial⟩ rfl
  refine fin_then ?_
  refine aw_seq ?_
  refine aw_seq ?_
  refine aw_text (rows := [_, _, _]) rfl (by kernel_rfl) ⟨
    ok_plain rfl rfl (op_loadN (ys := [.v (.int .i64 i.Conc), .v (.int .i64 i.Thick), .v (.int .i64 i.Ridge), .v (.int .i64 i.Press)]) (ltN rfl) sh_28 rfl rfl ⟨rfl, rfl, rfl, rfl, trivial⟩),
    ok_plain rfl rfl (op_call (x := .v (.int .i64 (checkIce i))) (fs := []) (caps := []) (extra := []) (ltN rfl) en_132 rfl ⟨rfl, rfl, rfl⟩ (EvL.cons rfl EvL.nil) (fun mm aa ww gg hr hrel => (c132 i ww))),
    ok_plain rfl rfl (op_assign (ltN rfl) rfl),
    trivial⟩ ?_
  refine fin_keep (s' := [(.t 1, some (.x (.v (.int .i64 v)))), (.t 5, some (.x (.v (.int .i64 (checkIce i)))))]) ?_ ⟨rfl, rfl, trivial⟩ rfl
  refine fin_then ?_
  refine aw_seq ?_
  refine aw_text (rows := [_, _]) rfl (by kernel_rfl) ⟨
    ok_plain rfl rfl (op_move (ltN rfl) rfl),
    ok_plain rfl rfl (op_bin (ltN rfl) rfl rfl rfl),
    trivial⟩ ?_
  refine fin_keep (s' := [(.t 1, some (.x (.v (.int .i64 v)))), (.t 5, some (.x (.v (.int .i64 (checkIce i))))), (.t 9, some (.x (.v (.bool ((checkIce i) != 0)))))]) ?_ ⟨rfl, rfl, rfl, trivial⟩ rfl
  refine fin_then ?_
  refine aw_cond rfl (fun hz1 => ?_) (fun hz1 => ?_)
  · have _z := hz1
    have q2 := ne_t hz1
    refine aw_seq ?_
    refine aw_text (rows := [_, _]) rfl (by kernel_rfl) ⟨
      ok_plain rfl rfl (op_move (ltN rfl) rfl),
      ok_plain rfl rfl (op_assign (ltN rfl) rfl),
      trivial⟩ ?_
    refine fin_keep (s' := [(.t 4, some (.x (.v (.int .i64 (checkIce i)))))]) ?_ ⟨rfl, trivial⟩ rfl
    refine fin_then ?_
    refine aw_ret ?_
    refine fin_then_ret ?_
    refine post_ret (x := .v (.int .i64 (checkIce i))) rfl rfl (resOK_tmp rfl resOK_nil) rfl (fun mm aa ww hr => ?_)
    show Ending.returned (.int .i64 (checkIce i)) = _ ∧ _
    exact ⟨by clear hr; simp_all [loaded], hr.below⟩
  · have _z := hz1
    have q3 := ne_f hz1
    refine aw_skip ?_
    refine fin_then ?_
    refine aw_seq ?_
    refine aw_seq ?_
    refine aw_text (rows := [_, _, _]) rfl (by kernel_rfl) ⟨
      ok_plain rfl rfl (op_move (ltN rfl) rfl),
      ok_plain rfl rfl (op_call (x := .v (.bool (within v 0 250))) (fs := []) (caps := []) (extra := []) (ltN rfl) en_84 rfl ⟨rfl, rfl, rfl⟩ (EvL.cons rfl (EvL.cons rfl (EvL.cons rfl EvL.nil))) (fun mm aa ww gg hr hrel => (c84 v 0 250 ww))),
      ok_plain rfl rfl (op_not (ltN rfl) rfl),
      trivial⟩ ?_
    refine fin_keep (s' := [(.t 13, some (.x (.v (.bool (!(within v 0 250))))))]) ?_ ⟨rfl, trivial⟩ rfl
    refine fin_then ?_
    refine aw_cond rfl (fun hz4 => ?_) (fun hz4 => ?_)
    · have _z := hz4
      have q5 := within_f (not_t hz4)
      refine aw_seq ?_
      refine aw_text (rows := [_]) rfl (by kernel_rfl) ⟨
        ok_plain rfl rfl (op_assign (ltN rfl) rfl),
        trivial⟩ ?_
      refine fin_keep (s' := [(.t 4, some (.x (.v (.int .i64 6))))]) ?_ ⟨rfl, trivial⟩ rfl
      refine fin_then ?_
      refine aw_ret ?_
      refine fin_then_ret ?_
      refine post_ret (x := .v (.int .i64 6)) rfl rfl (resOK_tmp rfl resOK_nil) rfl (fun mm aa ww hr => ?_)
      show Ending.returned (.int .i64 6) = _ ∧ _
      exact ⟨by clear hr; simp_all [loaded], hr.below⟩
    · have _z := hz4
      have q6 := within_t (not_f hz4)
      refine aw_skip ?_
      refine fin_then ?_
      refine aw_seq ?_
      refine aw_text (rows := [_]) rfl (by kernel_rfl) ⟨
        ok_plain rfl rfl (op_assign (ltN rfl) rfl),
        trivial⟩ ?_
      refine fin_keep (s' := [(.t 4, some (.x (.v (.int .i64 0))))]) ?_ ⟨rfl, trivial⟩ rfl
      refine fin_then ?_
      refine aw_ret ?_
      refine post_ret (x := .v (.int .i64 0)) rfl rfl (resOK_tmp rfl resOK_nil) rfl (fun mm aa ww hr => ?_)
      show Ending.returned (.int .i64 0) = _ ∧ _
      exact ⟨by clear hr; simp_all [loaded], hr.below⟩

theorem c75 (s : Ship) (s_Thrust_s : SlV) (s_Water_s : SlV) (s_Ice_s : SlV) (i : Ice) (v : Int) (w : World) (hs_Thrust : SlIs encPt 2 w s_Thrust_s s.Thrust) (hs_Water : SlIs encPt 2 w s_Water_s s.Water) (hs_Ice : SlIs encPt 2 w s_Ice_s s.Ice) : Calls Tryd.prog 75 #[.agg #[.int .i64 s.Class, .int .i64 s.Power, .int .i64 s.Draught, .int .i64 s.Tonnes, .slice s_Thrust_s.p s_Thrust_s.n s_Thrust_s.c, .slice s_Water_s.p s_Water_s.n s_Water_s.c, .slice s_Ice_s.p s_Ice_s.n s_Ice_s.c, .int .i64 s.Slow, .int .i64 s.Brash, .int .i64 s.Ridge, .int .i64 s.Press], .agg #[.int .i64 i.Conc, .int .i64 i.Thick, .int .i64 i.Ridge, .int .i64 i.Press], .int .i64 v] w fun e w' => e = .returned (.int .i64 (asked s i v)) ∧ Below w.heap.size w w' := by
  obtain ⟨s_Thrust_p, s_Thrust_n, s_Thrust_c⟩ := s_Thrust_s
  have hs_Thrust_l : s_Thrust_n = s.Thrust.length := hs_Thrust.1
  subst hs_Thrust_l
  obtain ⟨s_Thrust_b, s_Thrust_o, hs_Thrust_p, hs_Thrust_L⟩ := SlAt.lies' hs_Thrust
  obtain ⟨s_Water_p, s_Water_n, s_Water_c⟩ := s_Water_s
  have hs_Water_l : s_Water_n = s.Water.length := hs_Water.1
  subst hs_Water_l
  obtain ⟨s_Water_b, s_Water_o, hs_Water_p, hs_Water_L⟩ := SlAt.lies' hs_Water
  obtain ⟨s_Ice_p, s_Ice_n, s_Ice_c⟩ := s_Ice_s
  have hs_Ice_l : s_Ice_n = s.Ice.length := hs_Ice.1
  subst hs_Ice_l
  obtain ⟨s_Ice_b, s_Ice_o, hs_Ice_p, hs_Ice_L⟩ := SlAt.lies' hs_Ice
  refine enter (args := [.g [.v (.int .i64 s.Class), .v (.int .i64 s.Power), .v (.int .i64 s.Draught), .v (.int .i64 s.Tonnes), .v (.slice s_Thrust_p s.Thrust.length s_Thrust_c), .v (.slice s_Water_p s.Water.length s_Water_c), .v (.slice s_Ice_p s.Ice.length s_Ice_c), .v (.int .i64 s.Slow), .v (.int .i64 s.Brash), .v (.int .i64 s.Ridge), .v (.int .i64 s.Press)], .g [.v (.int .i64 i.Conc), .v (.int .i64 i.Thick), .v (.int .i64 i.Ridge), .v (.int .i64 i.Press)], .v (.int .i64 v)]) Tryd.func75 rfl (N := 16) rfl (Nat.le_of_ble_eq_true rfl) ?_
  refine aw_seq ?_
  refine aw_text (rows := [_, _, _]) rfl (by kernel_rfl) ⟨
    ok_plain rfl rfl (op_boxN (L := 1) (ltN rfl) rfl rfl rfl),
    ok_plain rfl rfl (op_boxN (L := 2) (ltN rfl) rfl rfl rfl),
    ok_plain rfl rfl (op_assign (ltN rfl) rfl),
    trivial⟩ ?_
  refine fin_keep (s' := [(.t 2, some (.x (.v (.int .i64 v)))), (.t 3, some (.x (.p 1 0))), (.t 4, some (.x (.p 2 0))), (.b 1, some (.sh 25 11)), (.b 2, some (.sh 28 4)), (.c 1 0, some (.x (.v (.int .i64 s.Class)))), (.c 1 1, some (.x (.v (.int .i64 s.Power)))), (.c 1 2, some (.x (.v (.int .i64 s.Draught)))), (.c 1 3, some (.x (.v (.int .i64 s.Tonnes)))), (.c 1 4, some (.x (.v (.slice s_Thrust_p s.Thrust.length s_Thrust_c)))), (.c 1 5, some (.x (.v (.slice s_Water_p s.Water.length s_Water_c)))), (.c 1 6, some (.x (.v (.slice s_Ice_p s.Ice.length s_Ice_c)))), (.c 1 7, some (.x (.v (.int .i64 s.Slow)))), (.c 1 8, some (.x (.v (.int .i64 s.Brash)))), (.c 1 9, some (.x (.v (.int .i64 s.Ridge)))), (.c 1 10, some (.x (.v (.int .i64 s.Press)))), (.c 2 0, some (.x (.v (.int .i64 i.Conc)))), (.c 2 1, some (.x (.v (.int .i64 i.Thick)))), (.c 2 2, some (.x (.v (.int .i64 i.Ridge)))), (.c 2 3, some (.x (.v (.int .i64 i.Press))))]) ?_ ⟨rfl, rfl, rfl, rfl, rfl, rfl, rfl, rfl, rfl, rfl, rfl, rfl, rfl, rfl, rfl, rfl, rfl, rfl, rfl, rfl, trivial⟩ rfl
  refine fin_then ?_
  refine aw_seq ?_
  refine aw_seq ?_
  refine aw_text (rows := [_, _, _]) rfl (by kernel_rfl) ⟨
    ok_plain rfl rfl (op_loadN (ys := [.v (.int .i64 s.Class), .v (.int .i64 s.Power), .v (.int .i64 s.Draught), .v (.int .i64 s.Tonnes), .v (.slice s_Thrust_p s.Thrust.length s_Thrust_c), .v (.slice s_Water_p s.Water.length s_Water_c), .v (.slice s_Ice_p s.Ice.length s_Ice_c), .v (.int .i64 s.Slow), .v (.int .i64 s.Brash), .v (.int .i64 s.Ridge), .v (.int .i64 s.Press)]) (ltN rfl) sh_25 rfl rfl ⟨rfl, rfl, rfl, rfl, rfl, rfl, rfl, rfl, rfl, rfl, rfl, trivial⟩),
    ok_plain rfl rfl (op_call (x := .v (.int .i64 (check s))) (fs := []) (caps := []) (extra := []) (ltN rfl) en_46 rfl ⟨rfl, rfl, rfl⟩ (EvL.cons rfl EvL.nil) (fun mm aa ww gg hr hrel => (c46 s ⟨s_Thrust_p, s.Thrust.length, s_Thrust_c⟩ ⟨s_Water_p, s.Water.length, s_Water_c⟩ ⟨s_Ice_p, s.Ice.length, s_Ice_c⟩ ww (SlIs.mono hs_Thrust hrel.below) (SlIs.mono hs_Water hrel.below) (SlIs.mono hs_Ice hrel.below)))),
    ok_plain rfl rfl (op_assign (ltN rfl) rfl),
    trivial⟩ ?_
  refine fin_keep (s' := [(.t 2, some (.x (.v (.int .i64 v)))), (.t 4, some (.x (.p 2 0))), (.t 7, some (.x (.v (.int .i64 (check s))))), (.b 2, some (.sh 28 4)), (.c 2 0, some (.x (.v (.int .i64 i.Conc)))), (.c 2 1, some (.x (.v (.int .i64 i.Thick)))), (.c 2 2, some (.x (.v (.int .i64 i.Ridge)))), (.c 2 3, some (.x (.v (.int .i64 i.Press))))]) ?_ ⟨rfl, rfl, rfl, rfl, rfl, rfl, rfl, rfl, trivial⟩ rfl
  refine fin_then ?_
  refine aw_seq ?_
  refine aw_text (rows := [_, _]) rfl (by kernel_rfl) ⟨
    ok_plain rfl rfl (op_move (ltN rfl) rfl),
    ok_plain rfl rfl (op_bin (ltN rfl) rfl rfl rfl),
    trivial⟩ ?_
  refine fin_keep (s' := [(.t 2, some (.x (.v (.int .i64 v)))), (.t 4, some (.x (.p 2 0))), (.t 7, some (.x (.v (.int .i64 (check s))))), (.t 11, some (.x (.v (.bool ((check s) != 0))))), (.b 2, some (.sh 28 4)), (.c 2 0, some (.x (.v (.int .i64 i.Conc)))), (.c 2 1, some (.x (.v (.int .i64 i.Thick)))), (.c 2 2, some (.x (.v (.int .i64 i.Ridge)))), (.c 2 3, some (.x (.v (.int .i64 i.Press))))]) ?_ ⟨rfl, rfl, rfl, rfl, rfl, rfl, rfl, rfl, rfl, trivial⟩ rfl
  refine fin_then ?_
  refine aw_cond rfl (fun hz1 => ?_) (fun hz1 => ?_)
  · have _z := hz1
    have q2 := ne_t hz1
    refine aw_seq ?_
    refine aw_text (rows := [_, _]) rfl (by kernel_rfl) ⟨
      ok_plain rfl rfl (op_move (ltN rfl) rfl),
      ok_plain rfl rfl (op_assign (ltN rfl) rfl),
      trivial⟩ ?_
    refine fin_keep (s' := [(.t 6, some (.x (.v (.int .i64 (check s)))))]) ?_ ⟨rfl, trivial⟩ rfl
    refine fin_then ?_
    refine aw_ret ?_
    refine fin_then_ret ?_
    refine post_ret (x := .v (.int .i64 (check s))) rfl rfl (resOK_tmp rfl resOK_nil) rfl (fun mm aa ww hr => ?_)
    show Ending.returned (.int .i64 (check s)) = _ ∧ _
    exact ⟨by clear hr; simp_all [asked], hr.below⟩
  · have _z := hz1
    have q3 := ne_f hz1
    refine aw_skip ?_
    refine fin_then ?_
    refine aw_seq ?_
    refine aw_text (rows := [_, _, _, _]) rfl (by kernel_rfl) ⟨
      ok_plain rfl rfl (op_loadN (ys := [.v (.int .i64 i.Conc), .v (.int .i64 i.Thick), .v (.int .i64 i.Ridge), .v (.int .i64 i.Press)]) (ltN rfl) sh_28 rfl rfl ⟨rfl, rfl, rfl, rfl, trivial⟩),
      ok_plain rfl rfl (op_move (ltN rfl) rfl),
      ok_plain rfl rfl (op_call (x := .v (.int .i64 (loaded i v))) (fs := []) (caps := []) (extra := []) (ltN rfl) en_78 rfl ⟨rfl, rfl, rfl⟩ (EvL.cons rfl (EvL.cons rfl EvL.nil)) (fun mm aa ww gg hr hrel => (c78 i v ww))),
      ok_plain rfl rfl (op_assign (ltN rfl) rfl),
      trivial⟩ ?_
    refine fin_keep (s' := [(.t 6, some (.x (.v (.int .i64 (loaded i v)))))]) ?_ ⟨rfl, trivial⟩ rfl
    refine fin_then ?_
    refine aw_ret ?_
    refine post_ret (x := .v (.int .i64 (loaded i v))) rfl rfl (resOK_tmp rfl resOK_nil) rfl (fun mm aa ww hr => ?_)
    show Ending.returned (.int .i64 (loaded i v)) = _ ∧ _
    exact ⟨by clear hr; simp_all [asked], hr.below⟩

theorem c90 (s : Ship) (s_Thrust_s : SlV) (s_Water_s : SlV) (s_Ice_s : SlV) (c : Cell) (w : World) (hs_Thrust : SlIs encPt 2 w s_Thrust_s s.Thrust) (hs_Water : SlIs encPt 2 w s_Water_s s.Water) (hs_Ice : SlIs encPt 2 w s_Ice_s s.Ice) : Calls Tryd.prog 90 #[.agg #[.int .i64 s.Class, .int .i64 s.Power, .int .i64 s.Draught, .int .i64 s.Tonnes, .slice s_Thrust_s.p s_Thrust_s.n s_Thrust_s.c, .slice s_Water_s.p s_Water_s.n s_Water_s.c, .slice s_Ice_s.p s_Ice_s.n s_Ice_s.c, .int .i64 s.Slow, .int .i64 s.Brash, .int .i64 s.Ridge, .int .i64 s.Press], .agg #[.int .i64 c.Conc.Lo, .int .i64 c.Conc.Hi, .int .i64 c.Thick.Lo, .int .i64 c.Thick.Hi, .int .i64 c.Ridge.Lo, .int .i64 c.Ridge.Hi, .int .i64 c.Press.Lo, .int .i64 c.Press.Hi]] w fun e w' => e = .returned (.int .i64 (met s c)) ∧ Below w.heap.size w w' := by
  obtain ⟨s_Thrust_p, s_Thrust_n, s_Thrust_c⟩ := s_Thrust_s
  have hs_Thrust_l : s_Thrust_n = s.Thrust.length := hs_Thrust.1
  subst hs_Thrust_l
  obtain ⟨s_Thrust_b, s_Thrust_o, hs_Thrust_p, hs_Thrust_L⟩ := SlAt.lies' hs_Thrust
  obtain ⟨s_Water_p, s_Water_n, s_Water_c⟩ := s_Water_s
  have hs_Water_l : s_Water_n = s.Water.length := hs_Water.1
  subst hs_Water_l
  obtain ⟨s_Water_b, s_Water_o, hs_Water_p, hs_Water_L⟩ := SlAt.lies' hs_Water
  obtain ⟨s_Ice_p, s_Ice_n, s_Ice_c⟩ := s_Ice_s
  have hs_Ice_l : s_Ice_n = s.Ice.length := hs_Ice.1
  subst hs_Ice_l
  obtain ⟨s_Ice_b, s_Ice_o, hs_Ice_p, hs_Ice_L⟩ := SlAt.lies' hs_Ice
  refine enter (args := [.g [.v (.int .i64 s.Class), .v (.int .i64 s.Power), .v (.int .i64 s.Draught), .v (.int .i64 s.Tonnes), .v (.slice s_Thrust_p s.Thrust.length s_Thrust_c), .v (.slice s_Water_p s.Water.length s_Water_c), .v (.slice s_Ice_p s.Ice.length s_Ice_c), .v (.int .i64 s.Slow), .v (.int .i64 s.Brash), .v (.int .i64 s.Ridge), .v (.int .i64 s.Press)], .g [.v (.int .i64 c.Conc.Lo), .v (.int .i64 c.Conc.Hi), .v (.int .i64 c.Thick.Lo), .v (.int .i64 c.Thick.Hi), .v (.int .i64 c.Ridge.Lo), .v (.int .i64 c.Ridge.Hi), .v (.int .i64 c.Press.Lo), .v (.int .i64 c.Press.Hi)]]) Tryd.func90 rfl (N := 13) rfl (Nat.le_of_ble_eq_true rfl) ?_
  refine aw_seq ?_
  refine aw_text (rows := [_, _, _]) rfl (by kernel_rfl) ⟨
    ok_plain rfl rfl (op_boxN (L := 1) (ltN rfl) rfl rfl rfl),
    ok_plain rfl rfl (op_boxN (L := 2) (ltN rfl) rfl rfl rfl),
    ok_plain rfl rfl (op_assign (ltN rfl) rfl),
    trivial⟩ ?_
  refine fin_keep (s' := [(.t 2, some (.x (.p 1 0))), (.t 3, some (.x (.p 2 0))), (.b 1, some (.sh 25 11)), (.b 2, some (.sh 34 8)), (.c 1 0, some (.x (.v (.int .i64 s.Class)))), (.c 1 1, some (.x (.v (.int .i64 s.Power)))), (.c 1 2, some (.x (.v (.int .i64 s.Draught)))), (.c 1 3, some (.x (.v (.int .i64 s.Tonnes)))), (.c 1 4, some (.x (.v (.slice s_Thrust_p s.Thrust.length s_Thrust_c)))), (.c 1 5, some (.x (.v (.slice s_Water_p s.Water.length s_Water_c)))), (.c 1 6, some (.x (.v (.slice s_Ice_p s.Ice.length s_Ice_c)))), (.c 1 7, some (.x (.v (.int .i64 s.Slow)))), (.c 1 8, some (.x (.v (.int .i64 s.Brash)))), (.c 1 9, some (.x (.v (.int .i64 s.Ridge)))), (.c 1 10, some (.x (.v (.int .i64 s.Press)))), (.c 2 0, some (.x (.v (.int .i64 c.Conc.Lo)))), (.c 2 1, some (.x (.v (.int .i64 c.Conc.Hi)))), (.c 2 2, some (.x (.v (.int .i64 c.Thick.Lo)))), (.c 2 3, some (.x (.v (.int .i64 c.Thick.Hi)))), (.c 2 4, some (.x (.v (.int .i64 c.Ridge.Lo)))), (.c 2 5, some (.x (.v (.int .i64 c.Ridge.Hi)))), (.c 2 6, some (.x (.v (.int .i64 c.Press.Lo)))), (.c 2 7, some (.x (.v (.int .i64 c.Press.Hi))))]) ?_ ⟨rfl, rfl, rfl, rfl, rfl, rfl, rfl, rfl, rfl, rfl, rfl, rfl, rfl, rfl, rfl, rfl, rfl, rfl, rfl, rfl, rfl, rfl, rfl, trivial⟩ rfl
  refine fin_then ?_
  refine aw_seq ?_
  refine aw_seq ?_
  refine aw_text (rows := [_, _, _]) rfl (by kernel_rfl) ⟨
    ok_plain rfl rfl (op_loadN (ys := [.v (.int .i64 s.Class), .v (.int .i64 s.Power), .v (.int .i64 s.Draught), .v (.int .i64 s.Tonnes), .v (.slice s_Thrust_p s.Thrust.length s_Thrust_c), .v (.slice s_Water_p s.Water.length s_Water_c), .v (.slice s_Ice_p s.Ice.length s_Ice_c), .v (.int .i64 s.Slow), .v (.int .i64 s.Brash), .v (.int .i64 s.Ridge), .v (.int .i64 s.Press)]) (ltN rfl) sh_25 rfl rfl ⟨rfl, rfl, rfl, rfl, rfl, rfl, rfl, rfl, rfl, rfl, rfl, trivial⟩),
    ok_plain rfl rfl (op_call (x := .v (.int .i64 (check s))) (fs := []) (caps := []) (extra := []) (ltN rfl) en_46 rfl ⟨rfl, rfl, rfl⟩ (EvL.cons rfl EvL.nil) (fun mm aa ww gg hr hrel => (c46 s ⟨s_Thrust_p, s.Thrust.length, s_Thrust_c⟩ ⟨s_Water_p, s.Water.length, s_Water_c⟩ ⟨s_Ice_p, s.Ice.length, s_Ice_c⟩ ww (SlIs.mono hs_Thrust hrel.below) (SlIs.mono hs_Water hrel.below) (SlIs.mono hs_Ice hrel.below)))),
    ok_plain rfl rfl (op_assign (ltN rfl) rfl),
    trivial⟩ ?_
  refine fin_keep (s' := [(.t 3, some (.x (.p 2 0))), (.t 5, some (.x (.v (.int .i64 (check s))))), (.b 2, some (.sh 34 8)), (.c 2 0, some (.x (.v (.int .i64 c.Conc.Lo)))), (.c 2 1, some (.x (.v (.int .i64 c.Conc.Hi)))), (.c 2 2, some (.x (.v (.int .i64 c.Thick.Lo)))), (.c 2 3, some (.x (.v (.int .i64 c.Thick.Hi)))), (.c 2 4, some (.x (.v (.int .i64 c.Ridge.Lo)))), (.c 2 5, some (.x (.v (.int .i64 c.Ridge.Hi)))), (.c 2 6, some (.x (.v (.int .i64 c.Press.Lo)))), (.c 2 7, some (.x (.v (.int .i64 c.Press.Hi))))]) ?_ ⟨rfl, rfl, rfl, rfl, rfl, rfl, rfl, rfl, rfl, rfl, rfl, trivial⟩ rfl
  refine fin_then ?_
  refine aw_seq ?_
  refine aw_text (rows := [_, _]) rfl (by kernel_rfl) ⟨
    ok_plain rfl rfl (op_move (ltN rfl) rfl),
    ok_plain rfl rfl (op_bin (ltN rfl) rfl rfl rfl),
    trivial⟩ ?_
  refine fin_keep (s' := [(.t 3, some (.x (.p 2 0))), (.t 5, some (.x (.v (.int .i64 (check s))))), (.t 9, some (.x (.v (.bool ((check s) != 0))))), (.b 2, some (.sh 34 8)), (.c 2 0, some (.x (.v (.int .i64 c.Conc.Lo)))), (.c 2 1, some (.x (.v (.int .i64 c.Conc.Hi)))), (.c 2 2, some (.x (.v (.int .i64 c.Thick.Lo)))), (.c 2 3, some (.x (.v (.int .i64 c.Thick.Hi)))), (.c 2 4, some (.x (.v (.int .i64 c.Ridge.Lo)))), (.c 2 5, some (.x (.v (.int .i64 c.Ridge.Hi)))), (.c 2 6, some (.x (.v (.int .i64 c.Press.Lo)))), (.c 2 7, some (.x (.v (.int .i64 c.Press.Hi))))]) ?_ ⟨rfl, rfl, rfl, rfl, rfl, rfl, rfl, rfl, rfl, rfl, rfl, rfl, trivial⟩ rfl
  refine fin_then ?_
  refine aw_cond rfl (fun hz1 => ?_) (fun hz1 => ?_)
  · have _z := hz1
    have q2 := ne_t hz1
    refine aw_seq ?_
    refine aw_text (rows := [_, _]) rfl (by kernel_rfl) ⟨
      ok_plain rfl rfl (op_move (ltN rfl) rfl),
      ok_plain rfl rfl (op_assign (ltN rfl) rfl),
      trivial⟩ ?_
    refine fin_keep (s' := [(.t 4, some (.x (.v (.int .i64 (check s)))))]) ?_ ⟨rfl, trivial⟩ rfl
    refine fin_then ?_
    refine aw_ret ?_
    refine fin_then_ret ?_
    refine post_ret (x := .v (.int .i64 (check s))) rfl rfl (resOK_tmp rfl resOK_nil) rfl (fun mm aa ww hr => ?_)
    show Ending.returned (.int .i64 (check s)) = _ ∧ _
    exact ⟨by clear hr; simp_all [met], hr.below⟩
  · have _z := hz1
    have q3 := ne_f hz1
    refine aw_skip ?_
    refine fin_then ?_
    refine aw_seq ?_
    refine aw_text (rows := [_, _, _]) rfl (by kernel_rfl) ⟨
      ok_plain rfl rfl (op_loadN (ys := [.v (.int .i64 c.Conc.Lo), .v (.int .i64 c.Conc.Hi), .v (.int .i64 c.Thick.Lo), .v (.int .i64 c.Thick.Hi), .v (.int .i64 c.Ridge.Lo), .v (.int .i64 c.Ridge.Hi), .v (.int .i64 c.Press.Lo), .v (.int .i64 c.Press.Hi)]) (ltN rfl) sh_34 rfl rfl ⟨rfl, rfl, rfl, rfl, rfl, rfl, rfl, rfl, trivial⟩),
      ok_plain rfl rfl (op_call (x := .v (.int .i64 (checkCell c))) (fs := []) (caps := []) (extra := []) (ltN rfl) en_85 rfl ⟨rfl, rfl, rfl⟩ (EvL.cons rfl EvL.nil) (fun mm aa ww gg hr hrel => (c85 c ww))),
      ok_plain rfl rfl (op_assign (ltN rfl) rfl),
      trivial⟩ ?_
    refine fin_keep (s' := [(.t 4, some (.x (.v (.int .i64 (checkCell c)))))]) ?_ ⟨rfl, trivial⟩ rfl
    refine fin_then ?_
    refine aw_ret ?_
    refine post_ret (x := .v (.int .i64 (checkCell c))) rfl rfl (resOK_tmp rfl resOK_nil) rfl (fun mm aa ww hr => ?_)
    show Ending.returned (.int .i64 (checkCell c)) = _ ∧ _
    exact ⟨by clear hr; simp_all [met], hr.below⟩

theorem c87 (s : Ship) (s_Thrust_s : SlV) (s_Water_s : SlV) (s_Ice_s : SlV) (s_b : Nat) (c : Cell) (ch : Bool) (w : World) (hs_Thrust : SlIs encPt 2 w s_Thrust_s s.Thrust) (hs_Water : SlIs encPt 2 w s_Water_s s.Water) (hs_Ice : SlIs encPt 2 w s_Ice_s s.Ice) (hs_box : BoxAt w s_b [.int .i64 s.Class, .int .i64 s.Power, .int .i64 s.Draught, .int .i64 s.Tonnes, .slice s_Thrust_s.p s_Thrust_s.n s_Thrust_s.c, .slice s_Water_s.p s_Water_s.n s_Water_s.c, .slice s_Ice_s.p s_Ice_s.n s_Ice_s.c, .int .i64 s.Slow, .int .i64 s.Brash, .int .i64 s.Ridge, .int .i64 s.Press]) (hG : BoxAt w 0 (strengths.map (fun n => Value.int .i64 n))) (hc : check s = 0) (hg : goodCell c) : Calls Tryd.prog 87 #[.pointer (some ⟨s_b, 0, none⟩), .agg #[.int .i64 c.Conc.Lo, .int .i64 c.Conc.Hi, .int .i64 c.Thick.Lo, .int .i64 c.Thick.Hi, .int .i64 c.Ridge.Lo, .int .i64 c.Ridge.Hi, .int .i64 c.Press.Lo, .int .i64 c.Press.Hi], .bool ch] w fun e w' => e = .returned (.tuple #[.int .i64 ((safe s c ch).1), .int .i64 ((safe s c ch).2)]) ∧ Below w.heap.size w w' := by
  obtain ⟨s_Thrust_p, s_Thrust_n, s_Thrust_c⟩ := s_Thrust_s
  have hs_Thrust_l : s_Thrust_n = s.Thrust.length := hs_Thrust.1
  subst hs_Thrust_l
  obtain ⟨s_Thrust_b, s_Thrust_o, hs_Thrust_p, hs_Thrust_L⟩ := SlAt.lies' hs_Thrust
  obtain ⟨s_Water_p, s_Water_n, s_Water_c⟩ := s_Water_s
  have hs_Water_l : s_Water_n = s.Water.length := hs_Water.1
  subst hs_Water_l
  obtain ⟨s_Water_b, s_Water_o, hs_Water_p, hs_Water_L⟩ := SlAt.lies' hs_Water
  obtain ⟨s_Ice_p, s_Ice_n, s_Ice_c⟩ := s_Ice_s
  have hs_Ice_l : s_Ice_n = s.Ice.length := hs_Ice.1
  subst hs_Ice_l
  obtain ⟨s_Ice_b, s_Ice_o, hs_Ice_p, hs_Ice_L⟩ := SlAt.lies' hs_Ice
  have hlast := goodCell_last hg
  refine enter (args := [.v (.pointer (some ⟨s_b, 0, none⟩)), .g [.v (.int .i64 c.Conc.Lo), .v (.int .i64 c.Conc.Hi), .v (.int .i64 c.Thick.Lo), .v (.int .i64 c.Thick.Hi), .v (.int .i64 c.Ridge.Lo), .v (.int .i64 c.Ridge.Hi), .v (.int .i64 c.Press.Lo), .v (.int .i64 c.Press.Hi)], .v (.bool ch)]) Tryd.func87 rfl (N := 27) rfl (Nat.le_of_ble_eq_true rfl) ?_
  refine aw_seq ?_
  refine aw_text (rows := [_, _, _]) rfl (by kernel_rfl) ⟨
    ok_plain rfl rfl (op_boxN (L := 1) (ltN rfl) rfl rfl rfl),
    ok_plain rfl rfl (op_assign (ltN rfl) rfl),
    ok_plain rfl rfl (op_assign (ltN rfl) rfl),
    trivial⟩ ?_
  refine fin_keep (s' := [(.t 0, some (.x (.v (.pointer (some ⟨s_b, 0, none⟩))))), (.t 2, some (.x (.v (.bool ch)))), (.t 4, some (.x (.p 1 0))), (.b 1, some (.sh 34 8)), (.c 1 0, some (.x (.v (.int .i64 c.Conc.Lo)))), (.c 1 1, some (.x (.v (.int .i64 c.Conc.Hi)))), (.c 1 2, some (.x (.v (.int .i64 c.Thick.Lo)))), (.c 1 3, some (.x (.v (.int .i64 c.Thick.Hi)))), (.c 1 4, some (.x (.v (.int .i64 c.Ridge.Lo)))), (.c 1 5, some (.x (.v (.int .i64 c.Ridge.Hi)))), (.c 1 6, some (.x (.v (.int .i64 c.Press.Lo)))), (.c 1 7, some (.x (.v (.int .i64 c.Press.Hi))))]) ?_ ⟨rfl, rfl, rfl, rfl, rfl, rfl, rfl, rfl, rfl, rfl, rfl, rfl, trivial⟩ rfl
  refine fin_then ?_
  refine aw_seq ?_
  refine aw_text (rows := [_, _, _, _, _, _, _]) rfl (by kernel_rfl) ⟨
    ok_plain rfl rfl (op_move (ltN rfl) rfl),
    ok_plain rfl rfl (op_loadN (ys := [.v (.int .i64 c.Conc.Lo), .v (.int .i64 c.Conc.Hi), .v (.int .i64 c.Thick.Lo), .v (.int .i64 c.Thick.Hi), .v (.int .i64 c.Ridge.Lo), .v (.int .i64 c.Ridge.Hi), .v (.int .i64 c.Press.Lo), .v (.int .i64 c.Press.Hi)]) (ltN rfl) sh_34 rfl rfl ⟨rfl, rfl, rfl, rfl, rfl, rfl, rfl, rfl, trivial⟩),
    ok_plain rfl rfl (op_call (x := .g [.v (.int .i64 ((lastI c).Conc)), .v (.int .i64 ((lastI c).Thick)), .v (.int .i64 ((lastI c).Ridge)), .v (.int .i64 ((lastI c).Press))]) (fs := []) (caps := []) (extra := []) (ltN rfl) en_100 rfl ⟨rfl, rfl, rfl⟩ (EvL.cons rfl EvL.nil) (fun mm aa ww gg hr hrel => (c100 c ww))),
    ok_plain rfl rfl (op_move (ltN rfl) rfl),
    ok_plain rfl rfl (op_build (x := .g [.v (.pointer (some ⟨s_b, 0, none⟩)), .v (.int .i64 ((lastI c).Conc)), .v (.int .i64 ((lastI c).Thick)), .v (.int .i64 ((lastI c).Ridge)), .v (.int .i64 ((lastI c).Press)), .v (.bool ch)]) (ltN rfl) (EvL.cons rfl (EvL.cons rfl (EvL.cons rfl EvL.nil))) (fun m w => by kernel_rfl)),
    ok_plain rfl rfl (op_alloc (L := 2) (ltN rfl) zl_136),
    ok_plain rfl rfl (op_storeN sz_136 rfl rfl rfl rfl rfl (by decide)),
    trivial⟩ ?_
  refine fin_keep (s' := [(.t 8, some (.x (.p 2 0))), (.b 2, some (.sh 136 6)), (.c 2 0, some (.x (.v (.pointer (some ⟨s_b, 0, none⟩))))), (.c 2 1, some (.x (.v (.int .i64 ((lastI c).Conc))))), (.c 2 2, some (.x (.v (.int .i64 ((lastI c).Thick))))), (.c 2 3, some (.x (.v (.int .i64 ((lastI c).Ridge))))), (.c 2 4, some (.x (.v (.int .i64 ((lastI c).Press))))), (.c 2 5, some (.x (.v (.bool ch))))]) ?_ ⟨rfl, rfl, rfl, rfl, rfl, rfl, rfl, rfl, trivial⟩ rfl
  refine fin_then ?_
  refine aw_seq ?_
  refine aw_seq ?_
  refine aw_text (rows := [_, _, _]) rfl (by kernel_rfl) ⟨
    ok_plain rfl rfl (op_loadN (ys := [.v (.pointer (some ⟨s_b, 0, none⟩)), .v (.int .i64 ((lastI c).Conc)), .v (.int .i64 ((lastI c).Thick)), .v (.int .i64 ((lastI c).Ridge)), .v (.int .i64 ((lastI c).Press)), .v (.bool ch)]) (ltN rfl) sh_136 rfl rfl ⟨rfl, rfl, rfl, rfl, rfl, rfl, trivial⟩),
    ok_plain rfl rfl (op_call (x := .v (.int .i64 (speed s ((lastI c)) ch))) (fs := []) (caps := []) (extra := []) (ltN rfl) en_76 rfl ⟨rfl, rfl, rfl⟩ (EvL.cons rfl EvL.nil) (fun mm aa ww gg hr hrel => (c76 s ⟨s_Thrust_p, s.Thrust.length, s_Thrust_c⟩ ⟨s_Water_p, s.Water.length, s_Water_c⟩ ⟨s_Ice_p, s.Ice.length, s_Ice_c⟩ s_b ((lastI c)) ch ww (SlIs.mono hs_Thrust hrel.below) (SlIs.mono hs_Water hrel.below) (SlIs.mono hs_Ice hrel.below) (BoxAt.mono hs_box hrel.below) (by first | assumption | omega) (by first | assumption | omega)))),
    ok_plain rfl rfl (op_bin (ltN rfl) rfl rfl rfl),
    trivial⟩ ?_
  refine fin_keep (s' := [(.t 8, some (.x (.p 2 0))), (.t 18, some (.x (.v (.bool (decide ((speed s ((lastI c)) ch) < 10)))))), (.b 2, some (.sh 136 6)), (.c 2 0, some (.x (.v (.pointer (some ⟨s_b, 0, none⟩))))), (.c 2 1, some (.x (.v (.int .i64 ((lastI c).Conc))))), (.c 2 2, some (.x (.v (.int .i64 ((lastI c).Thick))))), (.c 2 3, some (.x (.v (.int .i64 ((lastI c).Ridge))))), (.c 2 4, some (.x (.v (.int .i64 ((lastI c).Press))))), (.c 2 5, some (.x (.v (.bool ch))))]) ?_ ⟨rfl, rfl, rfl, rfl, rfl, rfl, rfl, rfl, rfl, trivial⟩ rfl
  refine fin_then ?_
  refine aw_cond rfl (fun hz1 => ?_) (fun hz1 => ?_)
  · have _z := hz1
    have q2 := of_decide_eq_true hz1
    refine aw_seq ?_
    refine aw_text (rows := [_, _]) rfl (by kernel_rfl) ⟨
      ok_plain rfl rfl (op_assign (ltN rfl) rfl),
      ok_plain rfl rfl (op_assign (ltN rfl) rfl),
      trivial⟩ ?_
    refine fin_keep (s' := [(.t 6, some (.x (.v (.int .i64 0)))), (.t 7, some (.x (.v (.int .i64 4))))]) ?_ ⟨rfl, rfl, trivial⟩ rfl
    refine fin_then ?_
    refine aw_ret ?_
    refine fin_then_ret ?_
    refine post_ret (x := .t [.v (.int .i64 0), .v (.int .i64 4)]) rfl rfl (resOK_tmp rfl (resOK_tmp rfl resOK_nil)) rfl (fun mm aa ww hr => ?_)
    show Ending.returned (.tuple #[.int .i64 0, .int .i64 4]) = _ ∧ _
    exact ⟨by rw [safe, if_pos (of_decide_eq_true hz1)], hr.below⟩
  · have _z := hz1
    have q3 := of_decide_eq_false hz1
    refine aw_skip ?_
    refine fin_then ?_
    refine aw_seq ?_
    refine aw_text (rows := [_, _, _, _, _, _, _]) rfl (by kernel_rfl) ⟨
      ok_plain rfl rfl (op_loadN (ys := [.v (.pointer (some ⟨s_b, 0, none⟩)), .v (.int .i64 ((lastI c).Conc)), .v (.int .i64 ((lastI c).Thick)), .v (.int .i64 ((lastI c).Ridge)), .v (.int .i64 ((lastI c).Press)), .v (.bool ch)]) (ltN rfl) sh_136 rfl rfl ⟨rfl, rfl, rfl, rfl, rfl, rfl, trivial⟩),
      ok_plain rfl rfl (op_call (x := .t [.v (.int .i64 ((goes s ((lastI c)) ch).1)), .v (.bool ((goes s ((lastI c)) ch).2))]) (fs := []) (caps := []) (extra := []) (ltN rfl) en_89 rfl ⟨rfl, rfl, rfl⟩ (EvL.cons rfl EvL.nil) (fun mm aa ww gg hr hrel => (c89 s ⟨s_Thrust_p, s.Thrust.length, s_Thrust_c⟩ ⟨s_Water_p, s.Water.length, s_Water_c⟩ ⟨s_Ice_p, s.Ice.length, s_Ice_c⟩ s_b ((lastI c)) ch ww (SlIs.mono hs_Thrust hrel.below) (SlIs.mono hs_Water hrel.below) (SlIs.mono hs_Ice hrel.below) (BoxAt.mono hs_box hrel.below) (BoxAt.mono hG hrel.below) (by first | assumption | omega) (by first | assumption | omega)))),
      ok_plain rfl rfl (op_move (ltN rfl) rfl),
      ok_plain rfl rfl (op_extract (ltN rfl) rfl rfl),
      ok_plain rfl rfl (op_extract (ltN rfl) rfl rfl),
      ok_plain rfl rfl (op_assign (ltN rfl) rfl),
      ok_plain rfl rfl (op_assign (ltN rfl) rfl),
      trivial⟩ ?_
    refine fin_keep (s' := [(.t 9, some (.x (.v (.int .i64 ((goes s ((lastI c)) ch).1))))), (.t 10, some (.x (.v (.bool ((goes s ((lastI c)) ch).2)))))]) ?_ ⟨rfl, rfl, trivial⟩ rfl
    refine fin_then ?_
    refine aw_seq ?_
    refine aw_seq ?_
    refine aw_text (rows := [_, _]) rfl (by kernel_rfl) ⟨
      ok_plain rfl rfl (op_move (ltN rfl) rfl),
      ok_plain rfl rfl (op_not (ltN rfl) rfl),
      trivial⟩ ?_
    refine fin_keep (s' := [(.t 9, some (.x (.v (.int .i64 ((goes s ((lastI c)) ch).1))))), (.t 25, some (.x (.v (.bool (!((goes s ((lastI c)) ch).2))))))]) ?_ ⟨rfl, rfl, trivial⟩ rfl
    refine fin_then ?_
    refine aw_cond rfl (fun hz4 => ?_) (fun hz4 => ?_)
    · have _z := hz4
      have q5 := not_t hz4
      refine aw_seq ?_
      refine aw_text (rows := [_, _]) rfl (by kernel_rfl) ⟨
        ok_plain rfl rfl (op_assign (ltN rfl) rfl),
        ok_plain rfl rfl (op_assign (ltN rfl) rfl),
        trivial⟩ ?_
      refine fin_keep (s' := [(.t 6, some (.x (.v (.int .i64 0)))), (.t 7, some (.x (.v (.int .i64 41))))]) ?_ ⟨rfl, rfl, trivial⟩ rfl
      refine fin_then ?_
      refine aw_ret ?_
      refine fin_then_ret ?_
      refine post_ret (x := .t [.v (.int .i64 0), .v (.int .i64 41)]) rfl rfl (resOK_tmp rfl (resOK_tmp rfl resOK_nil)) rfl (fun mm aa ww hr => ?_)
      show Ending.returned (.tuple #[.int .i64 0, .int .i64 41]) = _ ∧ _
      exact ⟨by rw [safe, if_neg (of_decide_eq_false hz1), not_t hz4]; rfl, hr.below⟩
    · have _z := hz4
      have q6 := not_f hz4
      refine aw_skip ?_
      refine fin_then ?_
      refine aw_seq ?_
      refine aw_text (rows := [_, _, _]) rfl (by kernel_rfl) ⟨
        ok_plain rfl rfl (op_move (ltN rfl) rfl),
        ok_plain rfl rfl (op_assign (ltN rfl) rfl),
        ok_plain rfl rfl (op_assign (ltN rfl) rfl),
        trivial⟩ ?_
      refine fin_keep (s' := [(.t 6, some (.x (.v (.int .i64 ((goes s ((lastI c)) ch).1))))), (.t 7, some (.x (.v (.int .i64 0))))]) ?_ ⟨rfl, rfl, trivial⟩ rfl
      refine fin_then ?_
      refine aw_ret ?_
      refine post_ret (x := .t [.v (.int .i64 ((goes s ((lastI c)) ch).1)), .v (.int .i64 0)]) rfl rfl (resOK_tmp rfl (resOK_tmp rfl resOK_nil)) rfl (fun mm aa ww hr => ?_)
      show Ending.returned (.tuple #[.int .i64 ((goes s ((lastI c)) ch).1), .int .i64 0]) = _ ∧ _
      exact ⟨by rw [safe, if_neg (of_decide_eq_false hz1), not_f hz4]; rfl, hr.below⟩

theorem c105 (n : Int) (w : World)  : Calls Tryd.prog 105 #[.int .i64 n] w fun e w' => e = .returned (.agg #[.int .i64 100, .int .i64 n, .int .i64 0, .int .i64 0]) ∧ Below w.heap.size w w' := by
  refine enter (args := [.v (.int .i64 n)]) Tryd.func105 rfl (N := 5) rfl (Nat.le_of_ble_eq_true rfl) ?_
  refine aw_seq ?_
  refine aw_text (rows := [_]) rfl (by kernel_rfl) ⟨
    ok_plain rfl rfl (op_alloc (L := 1) (ltN rfl) zl_28),
    trivial⟩ ?_
  refine fin_keep (s' := [(.t 0, some (.x (.v (.int .i64 n)))), (.t 2, some (.x (.p 1 0))), (.b 1, some (.sh 28 4)), (.c 1 0, some (.x (.v (.int .i64 0)))), (.c 1 1, some (.x (.v (.int .i64 0)))), (.c 1 2, some (.x (.v (.int .i64 0)))), (.c 1 3, some (.x (.v (.int .i64 0))))]) ?_ ⟨rfl, rfl, rfl, rfl, rfl, rfl, rfl, trivial⟩ rfl
  refine fin_then ?_
  refine aw_seq ?_
  refine aw_text (rows := [_, _, _]) rfl (by kernel_rfl) ⟨
    ok_plain rfl rfl (op_move (ltN rfl) rfl),
    ok_plain rfl rfl (op_build (x := .g [.v (.int .i64 100), .v (.int .i64 n), .v (.int .i64 0), .v (.int .i64 0)]) (ltN rfl) (EvL.cons rfl (EvL.cons rfl EvL.nil)) (fun m w => by kernel_rfl)),
    ok_plain rfl rfl (op_storeN sz_28 rfl rfl rfl rfl rfl (by decide)),
    trivial⟩ ?_
  refine fin_keep (s' := [(.t 2, some (.x (.p 1 0))), (.b 1, some (.sh 28 4)), (.c 1 0, some (.x (.v (.int .i64 100)))), (.c 1 1, some (.x (.v (.int .i64 n)))), (.c 1 2, some (.x (.v (.int .i64 0)))), (.c 1 3, some (.x (.v (.int .i64 0))))]) ?_ ⟨rfl, rfl, rfl, rfl, rfl, rfl, trivial⟩ rfl
  refine fin_then ?_
  refine aw_ret ?_
  refine post_ret (x := .g [.v (.int .i64 100), .v (.int .i64 n), .v (.int .i64 0), .v (.int .i64 0)]) rfl rfl (resOK_cellN (ys := [.v (.int .i64 100), .v (.int .i64 n), .v (.int .i64 0), .v (.int .i64 0)]) rfl sh_28 rfl ⟨rfl, rfl, rfl, rfl, trivial⟩ resOK_nil) rfl (fun mm aa ww hr => ?_)
  show Ending.returned (.agg #[.int .i64 100, .int .i64 n, .int .i64 0, .int .i64 0]) = _ ∧ _
  first
    | exact ⟨rfl, hr.below⟩

theorem c18 (s : Ship) (s_Thrust_s : SlV) (s_Water_s : SlV) (s_Ice_s : SlV) (i : Ice) (ch : Bool) (w : World) (hs_Thrust : SlIs encPt 2 w s_Thrust_s s.Thrust) (hs_Water : SlIs encPt 2 w s_Water_s s.Water) (hs_Ice : SlIs encPt 2 w s_Ice_s s.Ice) : Calls Tryd.prog 18 #[.agg #[.int .i64 s.Class, .int .i64 s.Power, .int .i64 s.Draught, .int .i64 s.Tonnes, .slice s_Thrust_s.p s_Thrust_s.n s_Thrust_s.c, .slice s_Water_s.p s_Water_s.n s_Water_s.c, .slice s_Ice_s.p s_Ice_s.n s_Ice_s.c, .int .i64 s.Slow, .int .i64 s.Brash, .int .i64 s.Ridge, .int .i64 s.Press], .agg #[.int .i64 i.Conc, .int .i64 i.Thick, .int .i64 i.Ridge, .int .i64 i.Press], .bool ch] w fun e w' => e = .returned (.tuple #[.int .i64 ((speedE s i ch).1), .int .i64 ((speedE s i ch).2)]) ∧ Below w.heap.size w w' := by
  obtain ⟨s_Thrust_p, s_Thrust_n, s_Thrust_c⟩ := s_Thrust_s
  have hs_Thrust_l : s_Thrust_n = s.Thrust.length := hs_Thrust.1
  subst hs_Thrust_l
  obtain ⟨s_Thrust_b, s_Thrust_o, hs_Thrust_p, hs_Thrust_L⟩ := SlAt.lies' hs_Thrust
  obtain ⟨s_Water_p, s_Water_n, s_Water_c⟩ := s_Water_s
  have hs_Water_l : s_Water_n = s.Water.length := hs_Water.1
  subst hs_Water_l
  obtain ⟨s_Water_b, s_Water_o, hs_Water_p, hs_Water_L⟩ := SlAt.lies' hs_Water
  obtain ⟨s_Ice_p, s_Ice_n, s_Ice_c⟩ := s_Ice_s
  have hs_Ice_l : s_Ice_n = s.Ice.length := hs_Ice.1
  subst hs_Ice_l
  obtain ⟨s_Ice_b, s_Ice_o, hs_Ice_p, hs_Ice_L⟩ := SlAt.lies' hs_Ice
  refine enter (args := [.g [.v (.int .i64 s.Class), .v (.int .i64 s.Power), .v (.int .i64 s.Draught), .v (.int .i64 s.Tonnes), .v (.slice s_Thrust_p s.Thrust.length s_Thrust_c), .v (.slice s_Water_p s.Water.length s_Water_c), .v (.slice s_Ice_p s.Ice.length s_Ice_c), .v (.int .i64 s.Slow), .v (.int .i64 s.Brash), .v (.int .i64 s.Ridge), .v (.int .i64 s.Press)], .g [.v (.int .i64 i.Conc), .v (.int .i64 i.Thick), .v (.int .i64 i.Ridge), .v (.int .i64 i.Press)], .v (.bool ch)]) Tryd.func18 rfl (N := 19) rfl (Nat.le_of_ble_eq_true rfl) ?_
  refine aw_seq ?_
  refine aw_text (rows := [_, _, _, _]) rfl (by kernel_rfl) ⟨
    ok_plain rfl rfl (op_boxN (L := 1) (ltN rfl) rfl rfl rfl),
    ok_plain rfl rfl (op_boxN (L := 2) (ltN rfl) rfl rfl rfl),
    ok_plain rfl rfl (op_assign (ltN rfl) rfl),
    ok_plain rfl rfl (op_assign (ltN rfl) rfl),
    trivial⟩ ?_
  refine fin_keep (s' := [(.t 2, some (.x (.v (.bool ch)))), (.t 3, some (.x (.p 1 0))), (.t 4, some (.x (.p 2 0))), (.b 1, some (.sh 25 11)), (.b 2, some (.sh 28 4)), (.c 1 0, some (.x (.v (.int .i64 s.Class)))), (.c 1 1, some (.x (.v (.int .i64 s.Power)))), (.c 1 2, some (.x (.v (.int .i64 s.Draught)))), (.c 1 3, some (.x (.v (.int .i64 s.Tonnes)))), (.c 1 4, some (.x (.v (.slice s_Thrust_p s.Thrust.length s_Thrust_c)))), (.c 1 5, some (.x (.v (.slice s_Water_p s.Water.length s_Water_c)))), (.c 1 6, some (.x (.v (.slice s_Ice_p s.Ice.length s_Ice_c)))), (.c 1 7, some (.x (.v (.int .i64 s.Slow)))), (.c 1 8, some (.x (.v (.int .i64 s.Brash)))), (.c 1 9, some (.x (.v (.int .i64 s.Ridge)))), (.c 1 10, some (.x (.v (.int .i64 s.Press)))), (.c 2 0, some (.x (.v (.int .i64 i.Conc)))), (.c 2 1, some (.x (.v (.int .i64 i.Thick)))), (.c 2 2, some (.x (.v (.int .i64 i.Ridge)))), (.c 2 3, some (.x (.v (.int .i64 i.Press))))]) ?_ ⟨rfl, rfl, rfl, rfl, rfl, rfl, rfl, rfl, rfl, rfl, rfl, rfl, rfl, rfl, rfl, rfl, rfl, rfl, rfl, rfl, trivial⟩ rfl
  refine fin_then ?_
  refine aw_seq ?_
  refine aw_seq ?_
  refine aw_text (rows := [_, _, _, _]) rfl (by kernel_rfl) ⟨
    ok_plain rfl rfl (op_loadN (ys := [.v (.int .i64 s.Class), .v (.int .i64 s.Power), .v (.int .i64 s.Draught), .v (.int .i64 s.Tonnes), .v (.slice s_Thrust_p s.Thrust.length s_Thrust_c), .v (.slice s_Water_p s.Water.length s_Water_c), .v (.slice s_Ice_p s.Ice.length s_Ice_c), .v (.int .i64 s.Slow), .v (.int .i64 s.Brash), .v (.int .i64 s.Ridge), .v (.int .i64 s.Press)]) (ltN rfl) sh_25 rfl rfl ⟨rfl, rfl, rfl, rfl, rfl, rfl, rfl, rfl, rfl, rfl, rfl, trivial⟩),
    ok_plain rfl rfl (op_loadN (ys := [.v (.int .i64 i.Conc), .v (.int .i64 i.Thick), .v (.int .i64 i.Ridge), .v (.int .i64 i.Press)]) (ltN rfl) sh_28 rfl rfl ⟨rfl, rfl, rfl, rfl, trivial⟩),
    ok_plain rfl rfl (op_call (x := .v (.int .i64 (asked s i 0))) (fs := []) (caps := []) (extra := []) (ltN rfl) en_75 rfl ⟨rfl, rfl, rfl⟩ (EvL.cons rfl (EvL.cons rfl (EvL.cons rfl EvL.nil))) (fun mm aa ww gg hr hrel => (c75 s ⟨s_Thrust_p, s.Thrust.length, s_Thrust_c⟩ ⟨s_Water_p, s.Water.length, s_Water_c⟩ ⟨s_Ice_p, s.Ice.length, s_Ice_c⟩ i 0 ww (SlIs.mono hs_Thrust hrel.below) (SlIs.mono hs_Water hrel.below) (SlIs.mono hs_Ice hrel.below)))),
    ok_plain rfl rfl (op_assign (ltN rfl) rfl),
    trivial⟩ ?_
  refine fin_keep (s' := [(.t 2, some (.x (.v (.bool ch)))), (.t 3, some (.x (.p 1 0))), (.t 4, some (.x (.p 2 0))), (.t 8, some (.x (.v (.int .i64 (asked s i 0))))), (.b 1, some (.sh 25 11)), (.b 2, some (.sh 28 4)), (.c 1 0, some (.x (.v (.int .i64 s.Class)))), (.c 1 1, some (.x (.v (.int .i64 s.Power)))), (.c 1 2, some (.x (.v (.int .i64 s.Draught)))), (.c 1 3, some (.x (.v (.int .i64 s.Tonnes)))), (.c 1 4, some (.x (.v (.slice s_Thrust_p s.Thrust.length s_Thrust_c)))), (.c 1 5, some (.x (.v (.slice s_Water_p s.Water.length s_Water_c)))), (.c 1 6, some (.x (.v (.slice s_Ice_p s.Ice.length s_Ice_c)))), (.c 1 7, some (.x (.v (.int .i64 s.Slow)))), (.c 1 8, some (.x (.v (.int .i64 s.Brash)))), (.c 1 9, some (.x (.v (.int .i64 s.Ridge)))), (.c 1 10, some (.x (.v (.int .i64 s.Press)))), (.c 2 0, some (.x (.v (.int .i64 i.Conc)))), (.c 2 1, some (.x (.v (.int .i64 i.Thick)))), (.c 2 2, some (.x (.v (.int .i64 i.Ridge)))), (.c 2 3, some (.x (.v (.int .i64 i.Press))))]) ?_ ⟨rfl, rfl, rfl, rfl, rfl, rfl, rfl, rfl, rfl, rfl, rfl, rfl, rfl, rfl, rfl, rfl, rfl, rfl, rfl, rfl, rfl, trivial⟩ rfl
  refine fin_then ?_
  refine aw_seq ?_
  refine aw_text (rows := [_, _]) rfl (by kernel_rfl) ⟨
    ok_plain rfl rfl (op_move (ltN rfl) rfl),
    ok_plain rfl rfl (op_bin (ltN rfl) rfl rfl rfl),
    trivial⟩ ?_
  refine fin_keep (s' := [(.t 2, some (.x (.v (.bool ch)))), (.t 3, some (.x (.p 1 0))), (.t 4, some (.x (.p 2 0))), (.t 8, some (.x (.v (.int .i64 (asked s i 0))))), (.t 13, some (.x (.v (.bool ((asked s i 0) != 0))))), (.b 1, some (.sh 25 11)), (.b 2, some (.sh 28 4)), (.c 1 0, some (.x (.v (.int .i64 s.Class)))), (.c 1 1, some (.x (.v (.int .i64 s.Power)))), (.c 1 2, some (.x (.v (.int .i64 s.Draught)))), (.c 1 3, some (.x (.v (.int .i64 s.Tonnes)))), (.c 1 4, some (.x (.v (.slice s_Thrust_p s.Thrust.length s_Thrust_c)))), (.c 1 5, some (.x (.v (.slice s_Water_p s.Water.length s_Water_c)))), (.c 1 6, some (.x (.v (.slice s_Ice_p s.Ice.length s_Ice_c)))), (.c 1 7, some (.x (.v (.int .i64 s.Slow)))), (.c 1 8, some (.x (.v (.int .i64 s.Brash)))), (.c 1 9, some (.x (.v (.int .i64 s.Ridge)))), (.c 1 10, some (.x (.v (.int .i64 s.Press)))), (.c 2 0, some (.x (.v (.int .i64 i.Conc)))), (.c 2 1, some (.x (.v (.int .i64 i.Thick)))), (.c 2 2, some (.x (.v (.int .i64 i.Ridge)))), (.c 2 3, some (.x (.v (.int .i64 i.Press))))]) ?_ ⟨rfl, rfl, rfl, rfl, rfl, rfl, rfl, rfl, rfl, rfl, rfl, rfl, rfl, rfl, rfl, rfl, rfl, rfl, rfl, rfl, rfl, rfl, trivial⟩ rfl
  refine fin_then ?_
  refine aw_cond rfl (fun hz1 => ?_) (fun hz1 => ?_)
  · have _z := hz1
    have q2 := ne_t hz1
    refine aw_seq ?_
    refine aw_text (rows := [_, _, _]) rfl (by kernel_rfl) ⟨
      ok_plain rfl rfl (op_move (ltN rfl) rfl),
      ok_plain rfl rfl (op_assign (ltN rfl) rfl),
      ok_plain rfl rfl (op_assign (ltN rfl) rfl),
      trivial⟩ ?_
    refine fin_keep (s' := [(.t 6, some (.x (.v (.int .i64 0)))), (.t 7, some (.x (.v (.int .i64 (asked s i 0)))))]) ?_ ⟨rfl, rfl, trivial⟩ rfl
    refine fin_then ?_
    refine aw_ret ?_
    refine fin_then_ret ?_
    refine post_ret (x := .t [.v (.int .i64 0), .v (.int .i64 (asked s i 0))]) rfl rfl (resOK_tmp rfl (resOK_tmp rfl resOK_nil)) rfl (fun mm aa ww hr => ?_)
    show Ending.returned (.tuple #[.int .i64 0, .int .i64 (asked s i 0)]) = _ ∧ _
    exact ⟨by rw [speedE, if_pos (ne_t hz1)], hr.below⟩
  · have _z := hz1
    have q3 := ne_f hz1
    refine aw_skip ?_
    refine fin_then ?_
    refine aw_seq ?_
    have hak := asked_ok (ne_f hz1)
    have hc := hak.1
    have hi := hak.2.1
    refine aw_text (rows := [_, _, _, _, _, _]) rfl (by kernel_rfl) ⟨
      ok_plain rfl rfl (op_loadN (ys := [.v (.int .i64 i.Conc), .v (.int .i64 i.Thick), .v (.int .i64 i.Ridge), .v (.int .i64 i.Press)]) (ltN rfl) sh_28 rfl rfl ⟨rfl, rfl, rfl, rfl, trivial⟩),
      ok_plain rfl rfl (op_move (ltN rfl) rfl),
      ok_plain rfl rfl (op_build (x := .g [.p 1 0, .v (.int .i64 i.Conc), .v (.int .i64 i.Thick), .v (.int .i64 i.Ridge), .v (.int .i64 i.Press), .v (.bool ch)]) (ltN rfl) (EvL.cons rfl (EvL.cons rfl (EvL.cons rfl EvL.nil))) (fun m w => by kernel_rfl)),
      ok_plain rfl rfl (op_call (x := .v (.int .i64 (speed s i ch))) (fs := []) (caps := []) (extra := (.b 1 :: cellKeys 1 0 11) ++ []) (ltN rfl) en_76 rfl ⟨rfl, rfl, rfl⟩ (EvL.cons rfl EvL.nil) (fun mm aa ww gg hr hrel => (c76 s ⟨s_Thrust_p, s.Thrust.length, s_Thrust_c⟩ ⟨s_Water_p, s.Water.length, s_Water_c⟩ ⟨s_Ice_p, s.Ice.length, s_Ice_c⟩ (mm 1) i ch ww (SlIs.mono hs_Thrust hrel.below) (SlIs.mono hs_Water hrel.below) (SlIs.mono hs_Ice hrel.below) (boxAt (L := 1) (vs := [(.int .i64 s.Class), (.int .i64 s.Power), (.int .i64 s.Draught), (.int .i64 s.Tonnes), (.slice s_Thrust_p s.Thrust.length s_Thrust_c), (.slice s_Water_p s.Water.length s_Water_c), (.slice s_Ice_p s.Ice.length s_Ice_c), (.int .i64 s.Slow), (.int .i64 s.Brash), (.int .i64 s.Ridge), (.int .i64 s.Press)]) hrel (fun k hk => hr k (List.mem_append_left _ hk)) rfl ⟨rfl, rfl, rfl, rfl, rfl, rfl, rfl, rfl, rfl, rfl, rfl, trivial⟩) (by first | assumption | omega) (by first | assumption | omega)))),
      ok_plain rfl rfl (op_assign (ltN rfl) rfl),
      ok_plain rfl rfl (op_assign (ltN rfl) rfl),
      trivial⟩ ?_
    refine fin_keep (s' := [(.t 6, some (.x (.v (.int .i64 (speed s i ch))))), (.t 7, some (.x (.v (.int .i64 0))))]) ?_ ⟨rfl, rfl, trivial⟩ rfl
    refine fin_then ?_
    refine aw_ret ?_
    refine post_ret (x := .t [.v (.int .i64 (speed s i ch)), .v (.int .i64 0)]) rfl rfl (resOK_tmp rfl (resOK_tmp rfl resOK_nil)) rfl (fun mm aa ww hr => ?_)
    show Ending.returned (.tuple #[.int .i64 (speed s i ch), .int .i64 0]) = _ ∧ _
    exact ⟨by rw [speedE, if_neg (by rw [ne_f hz1]; decide)], hr.below⟩

theorem c19 (s : Ship) (s_Thrust_s : SlV) (s_Water_s : SlV) (s_Ice_s : SlV) (i : Ice) (v : Int) (ch : Bool) (w : World) (hs_Thrust : SlIs encPt 2 w s_Thrust_s s.Thrust) (hs_Water : SlIs encPt 2 w s_Water_s s.Water) (hs_Ice : SlIs encPt 2 w s_Ice_s s.Ice) : Calls Tryd.prog 19 #[.agg #[.int .i64 s.Class, .int .i64 s.Power, .int .i64 s.Draught, .int .i64 s.Tonnes, .slice s_Thrust_s.p s_Thrust_s.n s_Thrust_s.c, .slice s_Water_s.p s_Water_s.n s_Water_s.c, .slice s_Ice_s.p s_Ice_s.n s_Ice_s.c, .int .i64 s.Slow, .int .i64 s.Brash, .int .i64 s.Ridge, .int .i64 s.Press], .agg #[.int .i64 i.Conc, .int .i64 i.Thick, .int .i64 i.Ridge, .int .i64 i.Press], .int .i64 v, .bool ch] w fun e w' => e = .returned (.tuple #[.int .i64 ((resistanceE s i v ch).1), .int .i64 ((resistanceE s i v ch).2)]) ∧ Below w.heap.size w w' := by
  obtain ⟨s_Thrust_p, s_Thrust_n, s_Thrust_c⟩ := s_Thrust_s
  have hs_Thrust_l : s_Thrust_n = s.Thrust.length := hs_Thrust.1
  subst hs_Thrust_l
  obtain ⟨s_Thrust_b, s_Thrust_o, hs_Thrust_p, hs_Thrust_L⟩ := SlAt.lies' hs_Thrust
  obtain ⟨s_Water_p, s_Water_n, s_Water_c⟩ := s_Water_s
  have hs_Water_l : s_Water_n = s.Water.length := hs_Water.1
  subst hs_Water_l
  obtain ⟨s_Water_b, s_Water_o, hs_Water_p, hs_Water_L⟩ := SlAt.lies' hs_Water
  obtain ⟨s_Ice_p, s_Ice_n, s_Ice_c⟩ := s_Ice_s
  have hs_Ice_l : s_Ice_n = s.Ice.length := hs_Ice.1
  subst hs_Ice_l
  obtain ⟨s_Ice_b, s_Ice_o, hs_Ice_p, hs_Ice_L⟩ := SlAt.lies' hs_Ice
  refine enter (args := [.g [.v (.int .i64 s.Class), .v (.int .i64 s.Power), .v (.int .i64 s.Draught), .v (.int .i64 s.Tonnes), .v (.slice s_Thrust_p s.Thrust.length s_Thrust_c), .v (.slice s_Water_p s.Water.length s_Water_c), .v (.slice s_Ice_p s.Ice.length s_Ice_c), .v (.int .i64 s.Slow), .v (.int .i64 s.Brash), .v (.int .i64 s.Ridge), .v (.int .i64 s.Press)], .g [.v (.int .i64 i.Conc), .v (.int .i64 i.Thick), .v (.int .i64 i.Ridge), .v (.int .i64 i.Press)], .v (.int .i64 v), .v (.bool ch)]) Tryd.func19 rfl (N := 23) rfl (Nat.le_of_ble_eq_true rfl) ?_
  refine aw_seq ?_
  refine aw_text (rows := [_, _, _, _]) rfl (by kernel_rfl) ⟨
    ok_plain rfl rfl (op_boxN (L := 1) (ltN rfl) rfl rfl rfl),
    ok_plain rfl rfl (op_boxN (L := 2) (ltN rfl) rfl rfl rfl),
    ok_plain rfl rfl (op_assign (ltN rfl) rfl),
    ok_plain rfl rfl (op_assign (ltN rfl) rfl),
    trivial⟩ ?_
  refine fin_keep (s' := [(.t 2, some (.x (.v (.int .i64 v)))), (.t 3, some (.x (.v (.bool ch)))), (.t 4, some (.x (.p 1 0))), (.t 5, some (.x (.p 2 0))), (.b 1, some (.sh 25 11)), (.b 2, some (.sh 28 4)), (.c 1 0, some (.x (.v (.int .i64 s.Class)))), (.c 1 1, some (.x (.v (.int .i64 s.Power)))), (.c 1 2, some (.x (.v (.int .i64 s.Draught)))), (.c 1 3, some (.x (.v (.int .i64 s.Tonnes)))), (.c 1 4, some (.x (.v (.slice s_Thrust_p s.Thrust.length s_Thrust_c)))), (.c 1 5, some (.x (.v (.slice s_Water_p s.Water.length s_Water_c)))), (.c 1 6, some (.x (.v (.slice s_Ice_p s.Ice.length s_Ice_c)))), (.c 1 7, some (.x (.v (.int .i64 s.Slow)))), (.c 1 8, some (.x (.v (.int .i64 s.Brash)))), (.c 1 9, some (.x (.v (.int .i64 s.Ridge)))), (.c 1 10, some (.x (.v (.int .i64 s.Press)))), (.c 2 0, some (.x (.v (.int .i64 i.Conc)))), (.c 2 1, some (.x (.v (.int .i64 i.Thick)))), (.c 2 2, some (.x (.v (.int .i64 i.Ridge)))), (.c 2 3, some (.x (.v (.int .i64 i.Press))))]) ?_ ⟨rfl, rfl, rfl, rfl, rfl, rfl, rfl, rfl, rfl, rfl, rfl, rfl, rfl, rfl, rfl, rfl, rfl, rfl, rfl, rfl, rfl, trivial⟩ rfl
  refine fin_then ?_
  refine aw_seq ?_
  refine aw_seq ?_
  refine aw_text (rows := [_, _, _, _, _]) rfl (by kernel_rfl) ⟨
    ok_plain rfl rfl (op_loadN (ys := [.v (.int .i64 s.Class), .v (.int .i64 s.Power), .v (.int .i64 s.Draught), .v (.int .i64 s.Tonnes), .v (.slice s_Thrust_p s.Thrust.length s_Thrust_c), .v (.slice s_Water_p s.Water.length s_Water_c), .v (.slice s_Ice_p s.Ice.length s_Ice_c), .v (.int .i64 s.Slow), .v (.int .i64 s.Brash), .v (.int .i64 s.Ridge), .v (.int .i64 s.Press)]) (ltN rfl) sh_25 rfl rfl ⟨rfl, rfl, rfl, rfl, rfl, rfl, rfl, rfl, rfl, rfl, rfl, trivial⟩),
    ok_plain rfl rfl (op_loadN (ys := [.v (.int .i64 i.Conc), .v (.int .i64 i.Thick), .v (.int .i64 i.Ridge), .v (.int .i64 i.Press)]) (ltN rfl) sh_28 rfl rfl ⟨rfl, rfl, rfl, rfl, trivial⟩),
    ok_plain rfl rfl (op_move (ltN rfl) rfl),
    ok_plain rfl rfl (op_call (x := .v (.int .i64 (asked s i v))) (fs := []) (caps := []) (extra := []) (ltN rfl) en_75 rfl ⟨rfl, rfl, rfl⟩ (EvL.cons rfl (EvL.cons rfl (EvL.cons rfl EvL.nil))) (fun mm aa ww gg hr hrel => (c75 s ⟨s_Thrust_p, s.Thrust.length, s_Thrust_c⟩ ⟨s_Water_p, s.Water.length, s_Water_c⟩ ⟨s_Ice_p, s.Ice.length, s_Ice_c⟩ i v ww (SlIs.mono hs_Thrust hrel.below) (SlIs.mono hs_Water hrel.below) (SlIs.mono hs_Ice hrel.below)))),
    ok_plain rfl rfl (op_assign (ltN rfl) rfl),
    trivial⟩ ?_
  refine fin_keep (s' := [(.t 2, some (.x (.v (.int .i64 v)))), (.t 3, some (.x (.v (.bool ch)))), (.t 4, some (.x (.p 1 0))), (.t 5, some (.x (.p 2 0))), (.t 10, some (.x (.v (.int .i64 (asked s i v))))), (.b 1, some (.sh 25 11)), (.b 2, some (.sh 28 4)), (.c 1 0, some (.x (.v (.int .i64 s.Class)))), (.c 1 1, some (.x (.v (.int .i64 s.Power)))), (.c 1 2, some (.x (.v (.int .i64 s.Draught)))), (.c 1 3, some (.x (.v (.int .i64 s.Tonnes)))), (.c 1 4, some (.x (.v (.slice s_Thrust_p s.Thrust.length s_Thrust_c)))), (.c 1 5, some (.x (.v (.slice s_Water_p s.Water.length s_Water_c)))), (.c 1 6, some (.x (.v (.slice s_Ice_p s.Ice.length s_Ice_c)))), (.c 1 7, some (.x (.v (.int .i64 s.Slow)))), (.c 1 8, some (.x (.v (.int .i64 s.Brash)))), (.c 1 9, some (.x (.v (.int .i64 s.Ridge)))), (.c 1 10, some (.x (.v (.int .i64 s.Press)))), (.c 2 0, some (.x (.v (.int .i64 i.Conc)))), (.c 2 1, some (.x (.v (.int .i64 i.Thick)))), (.c 2 2, some (.x (.v (.int .i64 i.Ridge)))), (.c 2 3, some (.x (.v (.int .i64 i.Press))))]) ?_ ⟨rfl, rfl, rfl, rfl, rfl, rfl, rfl, rfl, rfl, rfl, rfl, rfl, rfl, rfl, rfl, rfl, rfl, rfl, rfl, rfl, rfl, rfl, trivial⟩ rfl
  refine fin_then ?_
  refine aw_seq ?_
  refine aw_text (rows := [_, _]) rfl (by kernel_rfl) ⟨
    ok_plain rfl rfl (op_move (ltN rfl) rfl),
    ok_plain rfl rfl (op_bin (ltN rfl) rfl rfl rfl),
    trivial⟩ ?_
  refine fin_keep (s' := [(.t 2, some (.x (.v (.int .i64 v)))), (.t 3, some (.x (.v (.bool ch)))), (.t 4, some (.x (.p 1 0))), (.t 5, some (.x (.p 2 0))), (.t 10, some (.x (.v (.int .i64 (asked s i v))))), (.t 16, some (.x (.v (.bool ((asked s i v) != 0))))), (.b 1, some (.sh 25 11)), (.b 2, some (.sh 28 4)), (.c 1 0, some (.x (.v (.int .i64 s.Class)))), (.c 1 1, some (.x (.v (.int .i64 s.Power)))), (.c 1 2, some (.x (.v (.int .i64 s.Draught)))), (.c 1 3, some (.x (.v (.int .i64 s.Tonnes)))), (.c 1 4, some (.x (.v (.slice s_Thrust_p s.Thrust.length s_Thrust_c)))), (.c 1 5, some (.x (.v (.slice s_Water_p s.Water.length s_Water_c)))), (.c 1 6, some (.x (.v (.slice s_Ice_p s.Ice.length s_Ice_c)))), (.c 1 7, some (.x (.v (.int .i64 s.Slow)))), (.c 1 8, some (.x (.v (.int .i64 s.Brash)))), (.c 1 9, some (.x (.v (.int .i64 s.Ridge)))), (.c 1 10, some (.x (.v (.int .i64 s.Press)))), (.c 2 0, some (.x (.v (.int .i64 i.Conc)))), (.c 2 1, some (.x (.v (.int .i64 i.Thick)))), (.c 2 2, some (.x (.v (.int .i64 i.Ridge)))), (.c 2 3, some (.x (.v (.int .i64 i.Press))))]) ?_ ⟨rfl, rfl, rfl, rfl, rfl, rfl, rfl, rfl, rfl, rfl, rfl, rfl, rfl, rfl, rfl, rfl, rfl, rfl, rfl, rfl, rfl, rfl, rfl, trivial⟩ rfl
  refine fin_then ?_
  refine aw_cond rfl (fun hz1 => ?_) (fun hz1 => ?_)
  · have _z := hz1
    have q2 := ne_t hz1
    refine aw_seq ?_
    refine aw_text (rows := [_, _, _]) rfl (by kernel_rfl) ⟨
      ok_plain rfl rfl (op_move (ltN rfl) rfl),
      ok_plain rfl rfl (op_assign (ltN rfl) rfl),
      ok_plain rfl rfl (op_assign (ltN rfl) rfl),
      trivial⟩ ?_
    refine fin_keep (s' := [(.t 8, some (.x (.v (.int .i64 0)))), (.t 9, some (.x (.v (.int .i64 (asked s i v)))))]) ?_ ⟨rfl, rfl, trivial⟩ rfl
    refine fin_then ?_
    refine aw_ret ?_
    refine fin_then_ret ?_
    refine post_ret (x := .t [.v (.int .i64 0), .v (.int .i64 (asked s i v))]) rfl rfl (resOK_tmp rfl (resOK_tmp rfl resOK_nil)) rfl (fun mm aa ww hr => ?_)
    show Ending.returned (.tuple #[.int .i64 0, .int .i64 (asked s i v)]) = _ ∧ _
    exact ⟨by rw [resistanceE, if_pos (ne_t hz1)], hr.below⟩
  · have _z := hz1
    have q3 := ne_f hz1
    refine aw_skip ?_
    refine fin_then ?_
    refine aw_seq ?_
    have hak := asked_ok (ne_f hz1)
    have hc := hak.1
    have hi := hak.2.1
    have hv := hak.2.2
    refine aw_text (rows := [_, _, _, _, _, _, _]) rfl (by kernel_rfl) ⟨
      ok_plain rfl rfl (op_loadN (ys := [.v (.int .i64 i.Conc), .v (.int .i64 i.Thick), .v (.int .i64 i.Ridge), .v (.int .i64 i.Press)]) (ltN rfl) sh_28 rfl rfl ⟨rfl, rfl, rfl, rfl, trivial⟩),
      ok_plain rfl rfl (op_move (ltN rfl) rfl),
      ok_plain rfl rfl (op_build (x := .g [.p 1 0, .v (.int .i64 i.Conc), .v (.int .i64 i.Thick), .v (.int .i64 i.Ridge), .v (.int .i64 i.Press), .v (.bool ch)]) (ltN rfl) (EvL.cons rfl (EvL.cons rfl (EvL.cons rfl EvL.nil))) (fun m w => by kernel_rfl)),
      ok_plain rfl rfl (op_move (ltN rfl) rfl),
      ok_plain rfl rfl (op_call (x := .v (.int .i64 (resistance s i ch v))) (fs := []) (caps := []) (extra := (.b 1 :: cellKeys 1 0 11) ++ []) (ltN rfl) en_77 rfl ⟨rfl, rfl, rfl⟩ (EvL.cons rfl (EvL.cons rfl EvL.nil)) (fun mm aa ww gg hr hrel => (c77 s ⟨s_Thrust_p, s.Thrust.length, s_Thrust_c⟩ ⟨s_Water_p, s.Water.length, s_Water_c⟩ ⟨s_Ice_p, s.Ice.length, s_Ice_c⟩ (mm 1) i ch v ww (SlIs.mono hs_Thrust hrel.below) (SlIs.mono hs_Water hrel.below) (SlIs.mono hs_Ice hrel.below) (boxAt (L := 1) (vs := [(.int .i64 s.Class), (.int .i64 s.Power), (.int .i64 s.Draught), (.int .i64 s.Tonnes), (.slice s_Thrust_p s.Thrust.length s_Thrust_c), (.slice s_Water_p s.Water.length s_Water_c), (.slice s_Ice_p s.Ice.length s_Ice_c), (.int .i64 s.Slow), (.int .i64 s.Brash), (.int .i64 s.Ridge), (.int .i64 s.Press)]) hrel (fun k hk => hr k (List.mem_append_left _ hk)) rfl ⟨rfl, rfl, rfl, rfl, rfl, rfl, rfl, rfl, rfl, rfl, rfl, trivial⟩) (by first | assumption | omega) (by first | assumption | omega) (by first | assumption | omega)))),
      ok_plain rfl rfl (op_assign (ltN rfl) rfl),
      ok_plain rfl rfl (op_assign (ltN rfl) rfl),
      trivial⟩ ?_
    refine fin_keep (s' := [(.t 8, some (.x (.v (.int .i64 (resistance s i ch v))))), (.t 9, some (.x (.v (.int .i64 0))))]) ?_ ⟨rfl, rfl, trivial⟩ rfl
    refine fin_then ?_
    refine aw_ret ?_
    refine post_ret (x := .t [.v (.int .i64 (resistance s i ch v)), .v (.int .i64 0)]) rfl rfl (resOK_tmp rfl (resOK_tmp rfl resOK_nil)) rfl (fun mm aa ww hr => ?_)
    show Ending.returned (.tuple #[.int .i64 (resistance s i ch v), .int .i64 0]) = _ ∧ _
    exact ⟨by rw [resistanceE, if_neg (by rw [ne_f hz1]; decide)], hr.below⟩

theorem c20 (i : Ice) (v : Int) (ch : Bool) (w : World)  : Calls Tryd.prog 20 #[.agg #[.int .i64 i.Conc, .int .i64 i.Thick, .int .i64 i.Ridge, .int .i64 i.Press], .int .i64 v, .bool ch] w fun e w' => e = .returned (.tuple #[.int .i64 ((loadE i v ch).1), .int .i64 ((loadE i v ch).2)]) ∧ Below w.heap.size w w' := by
  refine enter (args := [.g [.v (.int .i64 i.Conc), .v (.int .i64 i.Thick), .v (.int .i64 i.Ridge), .v (.int .i64 i.Press)], .v (.int .i64 v), .v (.bool ch)]) Tryd.func20 rfl (N := 19) rfl (Nat.le_of_ble_eq_true rfl) ?_
  refine aw_seq ?_
  refine aw_text (rows := [_, _, _]) rfl (by kernel_rfl) ⟨
    ok_plain rfl rfl (op_boxN (L := 1) (ltN rfl) rfl rfl rfl),
    ok_plain rfl rfl (op_assign (ltN rfl) rfl),
    ok_plain rfl rfl (op_assign (ltN rfl) rfl),
    trivial⟩ ?_
  refine fin_keep (s' := [(.t 1, some (.x (.v (.int .i64 v)))), (.t 2, some (.x (.v (.bool ch)))), (.t 3, some (.x (.p 1 0))), (.b 1, some (.sh 28 4)), (.c 1 0, some (.x (.v (.int .i64 i.Conc)))), (.c 1 1, some (.x (.v (.int .i64 i.Thick)))), (.c 1 2, some (.x (.v (.int .i64 i.Ridge)))), (.c 1 3, some (.x (.v (.int .i64 i.Press))))]) ?_ ⟨rfl, rfl, rfl, rfl, rfl, rfl, rfl, rfl, trivial⟩ rfl
  refine fin_then ?_
  refine aw_seq ?_
  refine aw_seq ?_
  refine aw_text (rows := [_, _, _, _]) rfl (by kernel_rfl) ⟨
    ok_plain rfl rfl (op_loadN (ys := [.v (.int .i64 i.Conc), .v (.int .i64 i.Thick), .v (.int .i64 i.Ridge), .v (.int .i64 i.Press)]) (ltN rfl) sh_28 rfl rfl ⟨rfl, rfl, rfl, rfl, trivial⟩),
    ok_plain rfl rfl (op_move (ltN rfl) rfl),
    ok_plain rfl rfl (op_call (x := .v (.int .i64 (loaded i v))) (fs := []) (caps := []) (extra := []) (ltN rfl) en_78 rfl ⟨rfl, rfl, rfl⟩ (EvL.cons rfl (EvL.cons rfl EvL.nil)) (fun mm aa ww gg hr hrel => (c78 i v ww))),
    ok_plain rfl rfl (op_assign (ltN rfl) rfl),
    trivial⟩ ?_
  refine fin_keep (s' := [(.t 1, some (.x (.v (.int .i64 v)))), (.t 2, some (.x (.v (.bool ch)))), (.t 3, some (.x (.p 1 0))), (.t 8, some (.x (.v (.int .i64 (loaded i v))))), (.b 1, some (.sh 28 4)), (.c 1 0, some (.x (.v (.int .i64 i.Conc)))), (.c 1 1, some (.x (.v (.int .i64 i.Thick)))), (.c 1 2, some (.x (.v (.int .i64 i.Ridge)))), (.c 1 3, some (.x (.v (.int .i64 i.Press))))]) ?_ ⟨rfl, rfl, rfl, rfl, rfl, rfl, rfl, rfl, rfl, trivial⟩ rfl
  refine fin_then ?_
  refine aw_seq ?_
  refine aw_text (rows := [_, _]) rfl (by kernel_rfl) ⟨
    ok_plain rfl rfl (op_move (ltN rfl) rfl),
    ok_plain rfl rfl (op_bin (ltN rfl) rfl rfl rfl),
    trivial⟩ ?_
  refine fin_keep (s' := [(.t 1, some (.x (.v (.int .i64 v)))), (.t 2, some (.x (.v (.bool ch)))), (.t 3, some (.x (.p 1 0))), (.t 8, some (.x (.v (.int .i64 (loaded i v))))), (.t 13, some (.x (.v (.bool ((loaded i v) != 0))))), (.b 1, some (.sh 28 4)), (.c 1 0, some (.x (.v (.int .i64 i.Conc)))), (.c 1 1, some (.x (.v (.int .i64 i.Thick)))), (.c 1 2, some (.x (.v (.int .i64 i.Ridge)))), (.c 1 3, some (.x (.v (.int .i64 i.Press))))]) ?_ ⟨rfl, rfl, rfl, rfl, rfl, rfl, rfl, rfl, rfl, rfl, trivial⟩ rfl
  refine fin_then ?_
  refine aw_cond rfl (fun hz1 => ?_) (fun hz1 => ?_)
  · have _z := hz1
    have q2 := ne_t hz1
    refine aw_seq ?_
    refine aw_text (rows := [_, _, _]) rfl (by kernel_rfl) ⟨
      ok_plain rfl rfl (op_move (ltN rfl) rfl),
      ok_plain rfl rfl (op_assign (ltN rfl) rfl),
      ok_plain rfl rfl (op_assign (ltN rfl) rfl),
      trivial⟩ ?_
    refine fin_keep (s' := [(.t 6, some (.x (.v (.int .i64 0)))), (.t 7, some (.x (.v (.int .i64 (loaded i v)))))]) ?_ ⟨rfl, rfl, trivial⟩ rfl
    refine fin_then ?_
    refine aw_ret ?_
    refine fin_then_ret ?_
    refine post_ret (x := .t [.v (.int .i64 0), .v (.int .i64 (loaded i v))]) rfl rfl (resOK_tmp rfl (resOK_tmp rfl resOK_nil)) rfl (fun mm aa ww hr => ?_)
    show Ending.returned (.tuple #[.int .i64 0, .int .i64 (loaded i v)]) = _ ∧ _
    exact ⟨by rw [loadE, if_pos (ne_t hz1)], hr.below⟩
  · have _z := hz1
    have q3 := ne_f hz1
    refine aw_skip ?_
    refine fin_then ?_
    refine aw_seq ?_
    have hak := loaded_ok (ne_f hz1)
    have hi := hak.1
    have hv := hak.2
    refine aw_text (rows := [_, _, _, _, _, _]) rfl (by kernel_rfl) ⟨
      ok_plain rfl rfl (op_loadN (ys := [.v (.int .i64 i.Conc), .v (.int .i64 i.Thick), .v (.int .i64 i.Ridge), .v (.int .i64 i.Press)]) (ltN rfl) sh_28 rfl rfl ⟨rfl, rfl, rfl, rfl, trivial⟩),
      ok_plain rfl rfl (op_move (ltN rfl) rfl),
      ok_plain rfl rfl (op_move (ltN rfl) rfl),
      ok_plain rfl rfl (op_call (x := .v (.int .i64 (loadI i v ch))) (fs := []) (caps := []) (extra := []) (ltN rfl) en_79 rfl ⟨rfl, rfl, rfl⟩ (EvL.cons rfl (EvL.cons rfl (EvL.cons rfl EvL.nil))) (fun mm aa ww gg hr hrel => (c79 i v ch ww (by first | assumption | omega) (by first | assumption | omega)))),
      ok_plain rfl rfl (op_assign (ltN rfl) rfl),
      ok_plain rfl rfl (op_assign (ltN rfl) rfl),
      trivial⟩ ?_
    refine fin_keep (s' := [(.t 6, some (.x (.v (.int .i64 (loadI i v ch))))), (.t 7, some (.x (.v (.int .i64 0))))]) ?_ ⟨rfl, rfl, trivial⟩ rfl
    refine fin_then ?_
    refine aw_ret ?_
    refine post_ret (x := .t [.v (.int .i64 (loadI i v ch)), .v (.int .i64 0)]) rfl rfl (resOK_tmp rfl (resOK_tmp rfl resOK_nil)) rfl (fun mm aa ww hr => ?_)
    show Ending.returned (.tuple #[.int .i64 (loadI i v ch), .int .i64 0]) = _ ∧ _
    exact ⟨by rw [loadE, if_neg (by rw [ne_f hz1]; decide)], hr.below⟩

theorem c86 (p : Part) (v : Int) (w : World) (hp : 1 ≤ p.Length ∧ p.Length ≤ 10000) (hv : 1 ≤ v ∧ v ≤ 250) : Calls Tryd.prog 86 #[.agg #[.int .i64 p.Cell.Conc.Lo, .int .i64 p.Cell.Conc.Hi, .int .i64 p.Cell.Thick.Lo, .int .i64 p.Cell.Thick.Hi, .int .i64 p.Cell.Ridge.Lo, .int .i64 p.Cell.Ridge.Hi, .int .i64 p.Cell.Press.Lo, .int .i64 p.Cell.Press.Hi, .bool p.Channel, .int .i64 p.Length], .int .i64 v] w fun e w' => e = .returned (.int .i64 (takes p v)) ∧ Below w.heap.size w w' := by
  refine enter (args := [.g [.v (.int .i64 p.Cell.Conc.Lo), .v (.int .i64 p.Cell.Conc.Hi), .v (.int .i64 p.Cell.Thick.Lo), .v (.int .i64 p.Cell.Thick.Hi), .v (.int .i64 p.Cell.Ridge.Lo), .v (.int .i64 p.Cell.Ridge.Hi), .v (.int .i64 p.Cell.Press.Lo), .v (.int .i64 p.Cell.Press.Hi), .v (.bool p.Channel), .v (.int .i64 p.Length)], .v (.int .i64 v)]) Tryd.func86 rfl (N := 13) rfl (Nat.le_of_ble_eq_true rfl) ?_
  refine aw_seq ?_
  refine aw_text (rows := [_, _]) rfl (by kernel_rfl) ⟨
    ok_plain rfl rfl (op_boxN (L := 1) (ltN rfl) rfl rfl rfl),
    ok_plain rfl rfl (op_assign (ltN rfl) rfl),
    trivial⟩ ?_
  refine fin_keep (s' := [(.t 1, some (.x (.v (.int .i64 v)))), (.t 2, some (.x (.p 1 0))), (.b 1, some (.sh 48 10)), (.c 1 0, some (.x (.v (.int .i64 p.Cell.Conc.Lo)))), (.c 1 1, some (.x (.v (.int .i64 p.Cell.Conc.Hi)))), (.c 1 2, some (.x (.v (.int .i64 p.Cell.Thick.Lo)))), (.c 1 3, some (.x (.v (.int .i64 p.Cell.Thick.Hi)))), (.c 1 4, some (.x (.v (.int .i64 p.Cell.Ridge.Lo)))), (.c 1 5, some (.x (.v (.int .i64 p.Cell.Ridge.Hi)))), (.c 1 6, some (.x (.v (.int .i64 p.Cell.Press.Lo)))), (.c 1 7, some (.x (.v (.int .i64 p.Cell.Press.Hi)))), (.c 1 8, some (.x (.v (.bool p.Channel)))), (.c 1 9, some (.x (.v (.int .i64 p.Length))))]) ?_ ⟨rfl, rfl, rfl, rfl, rfl, rfl, rfl, rfl, rfl, rfl, rfl, rfl, rfl, trivial⟩ rfl
  refine fin_then ?_
  refine aw_seq ?_
  refine aw_text (rows := [_, _, _, _, _, _, _, _, _]) rfl (by kernel_rfl) ⟨
    ok_plain rfl rfl (op_fieldAddr (ltN rfl) rfl fo_48_2),
    ok_plain rfl rfl (op_load1 (ltN rfl) sh_3 rfl rfl),
    ok_plain rfl rfl (op_bin (ltN rfl) rfl rfl (nw_mul ⟨(by omega), (by omega)⟩)),
    ok_plain rfl rfl (op_move (ltN rfl) rfl),
    ok_plain rfl rfl (op_bin (ltN rfl) rfl rfl (nw_add ⟨(by omega), (by omega)⟩)),
    ok_plain rfl rfl (op_bin (ltN rfl) rfl rfl (nw_sub ⟨(by omega), (by omega)⟩)),
    ok_plain rfl rfl (op_move (ltN rfl) rfl),
    ok_plain rfl rfl (op_quo (ltN rfl) rfl rfl (by omega) (quo_nn (by omega) (by omega) (by omega))),
    ok_plain rfl rfl (op_assign (ltN rfl) rfl),
    trivial⟩ ?_
  refine fin_keep (s' := [(.t 4, some (.x (.v (.int .i64 ((((60 * p.Length) + v) - 1) / v)))))]) ?_ ⟨rfl, trivial⟩ rfl
  refine fin_then ?_
  refine aw_ret ?_
  refine post_ret (x := .v (.int .i64 ((((60 * p.Length) + v) - 1) / v))) rfl rfl (resOK_tmp rfl resOK_nil) rfl (fun mm aa ww hr => ?_)
  show Ending.returned (.int .i64 ((((60 * p.Length) + v) - 1) / v)) = _ ∧ _
  first
    | exact ⟨rfl, hr.below⟩

end Go.Proofs.T
