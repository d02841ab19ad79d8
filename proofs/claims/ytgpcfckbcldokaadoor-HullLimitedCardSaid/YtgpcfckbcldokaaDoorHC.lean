import Derived.Test.YtgpcfckbcldokaaDoorHB
namespace Go.Proofs.T
open Go Go.AX Go.RowKit Hull
theorem fo_136_0 : fieldOff Tryd.prog 136 0 = some 0 := by kernel_rfl
theorem sh_134 : shapeOf Tryd.prog 134 = some none := by kernel_rfl
theorem fo_136_1 : fieldOff Tryd.prog 136 1 = some 1 := by kernel_rfl
theorem fo_136_2 : fieldOff Tryd.prog 136 2 = some 5 := by kernel_rfl
theorem sh_4 : shapeOf Tryd.prog 4 = some none := by kernel_rfl

theorem c114 (s : Ship) (s_Thrust_s : SlV) (s_Water_s : SlV) (s_Ice_s : SlV) (s_b : Nat) (v : Int) (w : World) (hs_Thrust : SlIs encPt 2 w s_Thrust_s s.Thrust) (hs_Water : SlIs encPt 2 w s_Water_s s.Water) (hs_Ice : SlIs encPt 2 w s_Ice_s s.Ice) (hs_box : BoxAt w s_b [.int .i64 s.Class, .int .i64 s.Power, .int .i64 s.Draught, .int .i64 s.Tonnes, .slice s_Thrust_s.p s_Thrust_s.n s_Thrust_s.c, .slice s_Water_s.p s_Water_s.n s_Water_s.c, .slice s_Ice_s.p s_Ice_s.n s_Ice_s.c, .int .i64 s.Slow, .int .i64 s.Brash, .int .i64 s.Ridge, .int .i64 s.Press]) (hc : check s = 0) (hv : 0 ≤ v ∧ v ≤ 255) : Calls Tryd.prog 114 #[.pointer (some ⟨s_b, 0, none⟩), .int .i64 v] w fun e w' => e = .returned (.int .i64 (thrust s v)) ∧ Below w.heap.size w w' := by
  obtain ⟨s_Thrust_p, s_Thrust_n, s_Thrust_c⟩ := s_Thrust_s
  have hs_Thrust_l : s_Thrust_n = s.Thrust.length := hs_Thrust.1
  subst hs_Thrust_l
  obtain ⟨s_Thrust_b, s_Thrust_o, hs_Thrust_p, hs_Thrust_L⟩ := SlAt.lies' hs_Thrust
  obtain ⟨s_Water_p, s_Water_n, s_Water_c⟩ := s_Water_s
  have hs_Water_l : s_Water_n = s.Water.length := hs_Water.1
  subst hs_Water_l
  obtain ⟨s_Water_b, s_Water_o, hs_Water_p, hs_Water_L⟩ := SlAt.lies' hs_Water
  obtain ⟨s_Ice_p, s_Ice_n, s_Ice_c⟩ := s_Ice_s
  have hs_Ice_l : s_Ice_n = s.Ice.length := hs_Ice.1
  subst hs_Ice_l
  obtain ⟨s_Ice_b, s_Ice_o, hs_Ice_p, hs_Ice_L⟩ := SlAt.lies' hs_Ice
  refine enter (args := [.v (.pointer (some ⟨s_b, 0, none⟩)), .v (.int .i64 v)]) Tryd.func114 rfl (N := 19) rfl (Nat.le_of_ble_eq_true rfl) ?_
  refine aw_seq ?_
  refine aw_text (rows := [_]) rfl (by kernel_rfl) ⟨
    ok_plain rfl rfl (op_assign (ltN rfl) rfl),
    trivial⟩ ?_
  refine fin_keep (s' := [(.t 0, some (.x (.v (.pointer (some ⟨s_b, 0, none⟩))))), (.t 1, some (.x (.v (.int .i64 v))))]) ?_ ⟨rfl, rfl, trivial⟩ rfl
  refine fin_then ?_
  refine aw_seq ?_
  refine aw_text (rows := [_, _, _, _, _, _, _, _, _, _, _]) rfl (by kernel_rfl) ⟨
    ok_plain rfl rfl (op_move (ltN rfl) rfl),
    ok_plain rfl rfl (op_nilCheck (ltN rfl) rfl trivial),
    ok_plain rfl rfl (op_fieldAddrB (ltN rfl) rfl fo_25_4),
    ok_plain rfl rfl (op_loadB (y := .v (.slice s_Thrust_p s.Thrust.length s_Thrust_c)) (ltN rfl) rfl (ldCell hs_box.1 (hs_box.2 4 _ rfl) rfl sh_23)),
    ok_plain rfl rfl (op_move (ltN rfl) rfl),
    ok_plain rfl rfl (op_call (x := .t [.v (.int .i64 ((value s.Thrust v).1)), .v (.int .i64 ((value s.Thrust v).2))]) (fs := []) (caps := []) (extra := []) (ltN rfl) en_109 rfl ⟨rfl, rfl, rfl⟩ (EvL.cons rfl (EvL.cons rfl EvL.nil)) (fun mm aa ww gg hr hrel => (c109 s.Thrust ⟨s_Thrust_p, s.Thrust.length, s_Thrust_c⟩ v ww (SlIs.mono hs_Thrust hrel.below) (check_curveThrust hc) (by first | assumption | omega)))),
    ok_plain rfl rfl (op_move (ltN rfl) rfl),
    ok_plain rfl rfl (op_extract (ltN rfl) rfl rfl),
    ok_plain rfl rfl (op_extract (ltN rfl) rfl rfl),
    ok_plain rfl rfl (op_assign (ltN rfl) rfl),
    ok_plain rfl rfl (op_assign (ltN rfl) rfl),
    trivial⟩ ?_
  refine fin_keep (s' := [(.t 5, some (.x (.v (.int .i64 ((value s.Thrust v).1))))), (.t 6, some (.x (.v (.int .i64 ((value s.Thrust v).2)))))]) ?_ ⟨rfl, rfl, trivial⟩ rfl
  refine fin_then ?_
  refine aw_seq ?_
  have hb := value_bd (check_curveThrust hc) hv.1
  refine aw_text (rows := [_, _, _, _]) rfl (by kernel_rfl) ⟨
    ok_plain rfl rfl (op_move (ltN rfl) rfl),
    ok_plain rfl rfl (op_move (ltN rfl) rfl),
    ok_plain rfl rfl (op_quo (ltN rfl) rfl rfl (by omega) (quo_nn (by omega) (by omega) (by omega))),
    ok_plain rfl rfl (op_assign (ltN rfl) rfl),
    trivial⟩ ?_
  refine fin_keep (s' := [(.t 4, some (.x (.v (.int .i64 (((value s.Thrust v).1) / ((value s.Thrust v).2))))))]) ?_ ⟨rfl, trivial⟩ rfl
  refine fin_then ?_
  refine aw_ret ?_
  refine post_ret (x := .v (.int .i64 (((value s.Thrust v).1) / ((value s.Thrust v).2)))) rfl rfl (resOK_tmp rfl resOK_nil) rfl (fun mm aa ww hr => ?_)
  show Ending.returned (.int .i64 (((value s.Thrust v).1) / ((value s.Thrust v).2))) = _ ∧ _
  first
    | exact ⟨rfl, hr.below⟩

theorem c77 (s : Ship) (s_Thrust_s : SlV) (s_Water_s : SlV) (s_Ice_s : SlV) (s_b : Nat) (i : Ice) (ch : Bool) (v : Int) (w : World) (hs_Thrust : SlIs encPt 2 w s_Thrust_s s.Thrust) (hs_Water : SlIs encPt 2 w s_Water_s s.Water) (hs_Ice : SlIs encPt 2 w s_Ice_s s.Ice) (hs_box : BoxAt w s_b [.int .i64 s.Class, .int .i64 s.Power, .int .i64 s.Draught, .int .i64 s.Tonnes, .slice s_Thrust_s.p s_Thrust_s.n s_Thrust_s.c, .slice s_Water_s.p s_Water_s.n s_Water_s.c, .slice s_Ice_s.p s_Ice_s.n s_Ice_s.c, .int .i64 s.Slow, .int .i64 s.Brash, .int .i64 s.Ridge, .int .i64 s.Press]) (hc : check s = 0) (hi : goodIce i) (hv : 0 ≤ v ∧ v ≤ 255) : Calls Tryd.prog 77 #[.agg #[.pointer (some ⟨s_b, 0, none⟩), .int .i64 i.Conc, .int .i64 i.Thick, .int .i64 i.Ridge, .int .i64 i.Press, .bool ch], .int .i64 v] w fun e w' => e = .returned (.int .i64 (resistance s i ch v)) ∧ Below w.heap.size w w' := by
  obtain ⟨s_Thrust_p, s_Thrust_n, s_Thrust_c⟩ := s_Thrust_s
  have hs_Thrust_l : s_Thrust_n = s.Thrust.length := hs_Thrust.1
  subst hs_Thrust_l
  obtain ⟨s_Thrust_b, s_Thrust_o, hs_Thrust_p, hs_Thrust_L⟩ := SlAt.lies' hs_Thrust
  obtain ⟨s_Water_p, s_Water_n, s_Water_c⟩ := s_Water_s
  have hs_Water_l : s_Water_n = s.Water.length := hs_Water.1
  subst hs_Water_l
  obtain ⟨s_Water_b, s_Water_o, hs_Water_p, hs_Water_L⟩ := SlAt.lies' hs_Water
  obtain ⟨s_Ice_p, s_Ice_n, s_Ice_c⟩ := s_Ice_s
  have hs_Ice_l : s_Ice_n = s.Ice.length := hs_Ice.1
  subst hs_Ice_l
  obtain ⟨s_Ice_b, s_Ice_o, hs_Ice_p, hs_Ice_L⟩ := SlAt.lies' hs_Ice
  have hsb := check_bd hc
  have hib := goodIce_bd hi
  have hw := value_bd (check_curveWater hc) hv.1
  have hn := value_bd (check_curveIce hc) hi.2.1.1
  refine enter (args := [.g [.v (.pointer (some ⟨s_b, 0, none⟩)), .v (.int .i64 i.Conc), .v (.int .i64 i.Thick), .v (.int .i64 i.Ridge), .v (.int .i64 i.Press), .v (.bool ch)], .v (.int .i64 v)]) Tryd.func77 rfl (N := 104) rfl (Nat.le_of_ble_eq_true rfl) ?_
  refine aw_seq ?_
  refine aw_text (rows := [_, _]) rfl (by kernel_rfl) ⟨
    ok_plain rfl rfl (op_boxN (L := 1) (ltN rfl) rfl rfl rfl),
    ok_plain rfl rfl (op_assign (ltN rfl) rfl),
    trivial⟩ ?_
  refine fin_keep (s' := [(.t 1, some (.x (.v (.int .i64 v)))), (.t 2, some (.x (.p 1 0))), (.b 1, some (.sh 136 6)), (.c 1 0, some (.x (.v (.pointer (some ⟨s_b, 0, none⟩))))), (.c 1 1, some (.x (.v (.int .i64 i.Conc)))), (.c 1 2, some (.x (.v (.int .i64 i.Thick)))), (.c 1 3, some (.x (.v (.int .i64 i.Ridge)))), (.c 1 4, some (.x (.v (.int .i64 i.Press)))), (.c 1 5, some (.x (.v (.bool ch))))]) ?_ ⟨rfl, rfl, rfl, rfl, rfl, rfl, rfl, rfl, rfl, trivial⟩ rfl
  refine fin_then ?_
  refine aw_seq ?_
  refine aw_text (rows := [_, _, _, _, _, _, _, _, _, _, _, _]) rfl (by kernel_rfl) ⟨
    ok_plain rfl rfl (op_fieldAddr (ltN rfl) rfl fo_136_0),
    ok_plain rfl rfl (op_load1 (ltN rfl) sh_134 rfl rfl),
    ok_plain rfl rfl (op_nilCheck (ltN rfl) rfl trivial),
    ok_plain rfl rfl (op_fieldAddrB (ltN rfl) rfl fo_25_5),
    ok_plain rfl rfl (op_loadB (y := .v (.slice s_Water_p s.Water.length s_Water_c)) (ltN rfl) rfl (ldCell hs_box.1 (hs_box.2 5 _ rfl) rfl sh_23)),
    ok_plain rfl rfl (op_move (ltN rfl) rfl),
    ok_plain rfl rfl (op_call (x := .t [.v (.int .i64 ((value s.Water v).1)), .v (.int .i64 ((value s.Water v).2))]) (fs := []) (caps := []) (extra := []) (ltN rfl) en_109 rfl ⟨rfl, rfl, rfl⟩ (EvL.cons rfl (EvL.cons rfl EvL.nil)) (fun mm aa ww gg hr hrel => (c109 s.Water ⟨s_Water_p, s.Water.length, s_Water_c⟩ v ww (SlIs.mono hs_Water hrel.below) (check_curveWater hc) (by first | assumption | omega)))),
    ok_plain rfl rfl (op_move (ltN rfl) rfl),
    ok_plain rfl rfl (op_extract (ltN rfl) rfl rfl),
    ok_plain rfl rfl (op_extract (ltN rfl) rfl rfl),
    ok_plain rfl rfl (op_assign (ltN rfl) rfl),
    ok_plain rfl rfl (op_assign (ltN rfl) rfl),
    trivial⟩ ?_
  refine fin_keep (s' := [(.t 1, some (.x (.v (.int .i64 v)))), (.t 2, some (.x (.p 1 0))), (.t 5, some (.x (.v (.int .i64 ((value s.Water v).1))))), (.t 6, some (.x (.v (.int .i64 ((value s.Water v).2))))), (.b 1, some (.sh 136 6)), (.c 1 0, some (.x (.v (.pointer (some ⟨s_b, 0, none⟩))))), (.c 1 1, some (.x (.v (.int .i64 i.Conc)))), (.c 1 2, some (.x (.v (.int .i64 i.Thick)))), (.c 1 3, some (.x (.v (.int .i64 i.Ridge)))), (.c 1 4, some (.x (.v (.int .i64 i.Press)))), (.c 1 5, some (.x (.v (.bool ch))))]) ?_ ⟨rfl, rfl, rfl, rfl, rfl, rfl, rfl, rfl, rfl, rfl, rfl, trivial⟩ rfl
  refine fin_then ?_
  refine aw_seq ?_
  refine aw_any (rows := [_, _, _, _, _, _, _, _, _, _, _, _, _, _]) (M := [0, 1, 3, 7, 15, 0, 32, 96, 255, 511, 1023, 1023, 2047, 8191]) Tryd_mixed (by kernel_rfl) rfl (by kernel_rfl) ⟨
    ok_plain rfl rfl (op_fieldAddr (ltN rfl) rfl fo_136_0),
    ok_plain rfl rfl (op_load1 (ltN rfl) sh_134 rfl rfl),
    ok_plain rfl rfl (op_nilCheck (ltN rfl) rfl trivial),
    ok_plain rfl rfl (op_fieldAddrB (ltN rfl) rfl fo_25_6),
    ok_plain rfl rfl (op_loadB (y := .v (.slice s_Ice_p s.Ice.length s_Ice_c)) (ltN rfl) rfl (ldCell hs_box.1 (hs_box.2 6 _ rfl) rfl sh_23)),
    ok_plain rfl rfl (op_fieldAddr (ltN rfl) rfl fo_136_1),
    ok_plain rfl rfl (op_fieldAddr (ltN rfl) rfl fo_28_1),
    ok_plain rfl rfl (op_load1 (ltN rfl) sh_3 rfl rfl),
    ok_plain rfl rfl (op_call (x := .t [.v (.int .i64 ((value s.Ice i.Thick).1)), .v (.int .i64 ((value s.Ice i.Thick).2))]) (fs := []) (caps := []) (extra := []) (ltN rfl) en_109 rfl ⟨rfl, rfl, rfl⟩ (EvL.cons rfl (EvL.cons rfl EvL.nil)) (fun mm aa ww gg hr hrel => (c109 s.Ice ⟨s_Ice_p, s.Ice.length, s_Ice_c⟩ i.Thick ww (SlIs.mono hs_Ice hrel.below) (check_curveIce hc) (by first | assumption | omega)))),
    ok_plain rfl rfl (op_move (ltN rfl) rfl),
    ok_plain rfl rfl (op_extract (ltN rfl) rfl rfl),
    ok_plain rfl rfl (op_extract (ltN rfl) rfl rfl),
    ok_plain rfl rfl (op_assign (ltN rfl) rfl),
    ok_plain rfl rfl (op_assign (ltN rfl) rfl),
    trivial⟩ ?_
  refine fin_keep (s' := [(.t 1, some (.x (.v (.int .i64 v)))), (.t 2, some (.x (.p 1 0))), (.t 5, some (.x (.v (.int .i64 ((value s.Water v).1))))), (.t 6, some (.x (.v (.int .i64 ((value s.Water v).2))))), (.t 7, some (.x (.v (.int .i64 ((value s.Ice i.Thick).1))))), (.t 8, some (.x (.v (.int .i64 ((value s.Ice i.Thick).2))))), (.b 1, some (.sh 136 6)), (.c 1 0, some (.x (.v (.pointer (some ⟨s_b, 0, none⟩))))), (.c 1 1, some (.x (.v (.int .i64 i.Conc)))), (.c 1 2, some (.x (.v (.int .i64 i.Thick)))), (.c 1 3, some (.x (.v (.int .i64 i.Ridge)))), (.c 1 4, some (.x (.v (.int .i64 i.Press)))), (.c 1 5, some (.x (.v (.bool ch))))]) ?_ ⟨rfl, rfl, rfl, rfl, rfl, rfl, rfl, rfl, rfl, rfl, rfl, rfl, rfl, trivial⟩ rfl
  refine fin_then ?_
  refine aw_seq ?_
  refine aw_any (rows := [_, _, _, _, _]) (M := [0, 1, 3, 0, 15]) Tryd_mixed (by kernel_rfl) rfl (by kernel_rfl) ⟨
    ok_plain rfl rfl (op_fieldAddr (ltN rfl) rfl fo_136_1),
    ok_plain rfl rfl (op_fieldAddr (ltN rfl) rfl fo_28_2),
    ok_plain rfl rfl (op_load1 (ltN rfl) sh_3 rfl rfl),
    ok_plain rfl rfl (op_assign (ltN rfl) rfl),
    ok_plain rfl rfl (op_assign (ltN rfl) rfl),
    trivial⟩ ?_
  refine fin_keep (s' := [(.t 1, some (.x (.v (.int .i64 v)))), (.t 2, some (.x (.p 1 0))), (.t 5, some (.x (.v (.int .i64 ((value s.Water v).1))))), (.t 6, some (.x (.v (.int .i64 ((value s.Water v).2))))), (.t 7, some (.x (.v (.int .i64 ((value s.Ice i.Thick).1))))), (.t 8, some (.x (.v (.int .i64 ((value s.Ice i.Thick).2))))), (.t 9, some (.x (.v (.int .i64 100)))), (.t 10, some (.x (.v (.int .i64 i.Ridge)))), (.b 1, some (.sh 136 6)), (.c 1 0, some (.x (.v (.pointer (some ⟨s_b, 0, none⟩))))), (.c 1 1, some (.x (.v (.int .i64 i.Conc)))), (.c 1 2, some (.x (.v (.int .i64 i.Thick)))), (.c 1 3, some (.x (.v (.int .i64 i.Ridge)))), (.c 1 4, some (.x (.v (.int .i64 i.Press)))), (.c 1 5, some (.x (.v (.bool ch))))]) ?_ ⟨rfl, rfl, rfl, rfl, rfl, rfl, rfl, rfl, rfl, rfl, rfl, rfl, rfl, rfl, rfl, trivial⟩ rfl
  refine fin_then ?_
  refine aw_seq ?_
  refine aw_seq ?_
  refine aw_text (rows := [_, _]) rfl (by kernel_rfl) ⟨
    ok_plain rfl rfl (op_fieldAddr (ltN rfl) rfl fo_136_2),
    ok_plain rfl rfl (op_load1 (ltN rfl) sh_4 rfl rfl),
    trivial⟩ ?_
  refine fin_keep (s' := [(.t 1, some (.x (.v (.int .i64 v)))), (.t 2, some (.x (.p 1 0))), (.t 5, some (.x (.v (.int .i64 ((value s.Water v).1))))), (.t 6, some (.x (.v (.int .i64 ((value s.Water v).2))))), (.t 7, some (.x (.v (.int .i64 ((value s.Ice i.Thick).1))))), (.t 8, some (.x (.v (.int .i64 ((value s.Ice i.Thick).2))))), (.t 9, some (.x (.v (.int .i64 100)))), (.t 10, some (.x (.v (.int .i64 i.Ridge)))), (.t 38, some (.x (.v (.bool ch)))), (.b 1, some (.sh 136 6)), (.c 1 0, some (.x (.v (.pointer (some ⟨s_b, 0, none⟩))))), (.c 1 1, some (.x (.v (.int .i64 i.Conc)))), (.c 1 2, some (.x (.v (.int .i64 i.Thick)))), (.c 1 3, some (.x (.v (.int .i64 i.Ridge)))), (.c 1 4, some (.x (.v (.int .i64 i.Press)))), (.c 1 5, some (.x (.v (.bool ch))))]) ?_ ⟨rfl, rfl, rfl, rfl, rfl, rfl, rfl, rfl, rfl, rfl, rfl, rfl, rfl, rfl, rfl, rfl, trivial⟩ rfl
  refine fin_then ?_
  refine aw_cond rfl (fun hz1 => ?_) (fun hz1 => ?_)
  · have _z := hz1
    have q2 := hz1
    refine aw_text (rows := [_, _, _, _, _, _, _]) rfl (by kernel_rfl) ⟨
      ok_plain rfl rfl (op_fieldAddr (ltN rfl) rfl fo_136_0),
      ok_plain rfl rfl (op_load1 (ltN rfl) sh_134 rfl rfl),
      ok_plain rfl rfl (op_nilCheck (ltN rfl) rfl trivial),
      ok_plain rfl rfl (op_fieldAddrB (ltN rfl) rfl fo_25_8),
      ok_plain rfl rfl (op_loadB (y := .v (.int .i64 s.Brash)) (ltN rfl) rfl (ldCell hs_box.1 (hs_box.2 8 _ rfl) rfl sh_3)),
      ok_plain rfl rfl (op_assign (ltN rfl) rfl),
      ok_plain rfl rfl (op_assign (ltN rfl) rfl),
      trivial⟩ ?_
    refine fin_keep (s' := [(.t 1, some (.x (.v (.int .i64 v)))), (.t 2, some (.x (.p 1 0))), (.t 5, some (.x (.v (.int .i64 ((value s.Water v).1))))), (.t 6, some (.x (.v (.int .i64 ((value s.Water v).2))))), (.t 7, some (.x (.v (.int .i64 ((value s.Ice i.Thick).1))))), (.t 8, some (.x (.v (.int .i64 ((value s.Ice i.Thick).2))))), (.t 9, some (.x (.v (.int .i64 s.Brash)))), (.t 10, some (.x (.v (.int .i64 0)))), (.b 1, some (.sh 136 6)), (.c 1 0, some (.x (.v (.pointer (some ⟨s_b, 0, none⟩))))), (.c 1 1, some (.x (.v (.int .i64 i.Conc)))), (.c 1 2, some (.x (.v (.int .i64 i.Thick)))), (.c 1 3, some (.x (.v (.int .i64 i.Ridge)))), (.c 1 4, some (.x (.v (.int .i64 i.Press)))), (.c 1 5, some (.x (.v (.bool ch))))]) ?_ ⟨rfl, rfl, rfl, rfl, rfl, rfl, rfl, rfl, rfl, rfl, rfl, rfl, rfl, rfl, rfl, trivial⟩ rfl
    refine fin_then ?_
    refine aw_seq ?_
    have hm3 := mul_nn (x := s.Slow) (y := v) (a := 0) (A := 20) (b := 0) (B := 255) (by omega) (by omega) (by decide) (by decide)
    have hm4 := mul_nn (x := ((value s.Ice i.Thick).1)) (y := (1000 + (s.Slow * v))) (a := 0) (A := 8000000) (b := 1000) (B := 6100) (by omega) (by omega) (by decide) (by decide)
    have hm5 := mul_nn (x := (((value s.Ice i.Thick).1) * (1000 + (s.Slow * v)))) (y := s.Brash) (a := 0) (A := 48800000000) (b := 0) (B := 100) (by omega) (by omega) (by decide) (by decide)
    have hm6 := mul_nn (x := (s.Ridge * 0)) (y := ((value s.Ice i.Thick).2)) (a := 0) (A := 0) (b := 1) (B := 400) (by omega) (by omega) (by decide) (by decide)
    have hm7 := mul_nn (x := i.Conc) (y := (((((value s.Ice i.Thick).1) * (1000 + (s.Slow * v))) * s.Brash) + (((s.Ridge * 0) * ((value s.Ice i.Thick).2)) * 100000))) (a := 0) (A := 100) (b := 0) (B := 4880000000000) (by omega) (by omega) (by decide) (by decide)
    refine aw_any (rows := [_, _, _, _, _, _, _, _, _, _, _, _, _, _, _, _, _, _, _, _, _, _, _, _, _, _, _, _]) (M := [0, 1, 3, 0, 0, 16, 48, 112, 240, 0, 1008, 2032, 4088, 0, 16376, 0, 32768, 98304, 229376, 491520, 0, 2064384, 0, 8355840, 16744448, 33554424, 67108863, 134217727]) Tryd_mixed (by kernel_rfl) rfl (by kernel_rfl) ⟨
      ok_plain rfl rfl (op_fieldAddr (ltN rfl) rfl fo_136_1),
      ok_plain rfl rfl (op_fieldAddr (ltN rfl) rfl fo_28_0),
      ok_plain rfl rfl (op_load1 (ltN rfl) sh_3 rfl rfl),
      ok_plain rfl rfl (op_move (ltN rfl) rfl),
      ok_plain rfl rfl (op_fieldAddr (ltN rfl) rfl fo_136_0),
      ok_plain rfl rfl (op_load1 (ltN rfl) sh_134 rfl rfl),
      ok_plain rfl rfl (op_nilCheck (ltN rfl) rfl trivial),
      ok_plain rfl rfl (op_fieldAddrB (ltN rfl) rfl fo_25_7),
      ok_plain rfl rfl (op_loadB (y := .v (.int .i64 s.Slow)) (ltN rfl) rfl (ldCell hs_box.1 (hs_box.2 7 _ rfl) rfl sh_3)),
      ok_plain rfl rfl (op_move (ltN rfl) rfl),
      ok_plain rfl rfl (op_bin (ltN rfl) rfl rfl (nw_mul ⟨(by omega), (by omega)⟩)),
      ok_plain rfl rfl (op_bin (ltN rfl) rfl rfl (nw_add ⟨(by omega), (by omega)⟩)),
      ok_plain rfl rfl (op_bin (ltN rfl) rfl rfl (nw_mul ⟨(by omega), (by omega)⟩)),
      ok_plain rfl rfl (op_move (ltN rfl) rfl),
      ok_plain rfl rfl (op_bin (ltN rfl) rfl rfl (nw_mul ⟨(by omega), (by omega)⟩)),
      ok_plain rfl rfl (op_fieldAddr (ltN rfl) rfl fo_136_0),
      ok_plain rfl rfl (op_load1 (ltN rfl) sh_134 rfl rfl),
      ok_plain rfl rfl (op_nilCheck (ltN rfl) rfl trivial),
      ok_plain rfl rfl (op_fieldAddrB (ltN rfl) rfl fo_25_9),
      ok_plain rfl rfl (op_loadB (y := .v (.int .i64 s.Ridge)) (ltN rfl) rfl (ldCell hs_box.1 (hs_box.2 9 _ rfl) rfl sh_3)),
      ok_plain rfl rfl (op_move (ltN rfl) rfl),
      ok_plain rfl rfl (op_bin (ltN rfl) rfl rfl (nw_mul ⟨(by omega), (by omega)⟩)),
      ok_plain rfl rfl (op_move (ltN rfl) rfl),
      ok_plain rfl rfl (op_bin (ltN rfl) rfl rfl (nw_mul ⟨(by omega), (by omega)⟩)),
      ok_plain rfl rfl (op_bin (ltN rfl) rfl rfl (nw_mul ⟨(by omega), (by omega)⟩)),
      ok_plain rfl rfl (op_bin (ltN rfl) rfl rfl (nw_add ⟨(by omega), (by omega)⟩)),
      ok_plain rfl rfl (op_bin (ltN rfl) rfl rfl (nw_mul ⟨(by omega), (by omega)⟩)),
      ok_plain rfl rfl (op_assign (ltN rfl) rfl),
      trivial⟩ ?_
    refine fin_keep (s' := [(.t 2, some (.x (.p 1 0))), (.t 5, some (.x (.v (.int .i64 ((value s.Water v).1))))), (.t 6, some (.x (.v (.int .i64 ((value s.Water v).2))))), (.t 7, some (.x (.v (.int .i64 (i.Conc * (((((value s.Ice i.Thick).1) * (1000 + (s.Slow * v))) * s.Brash) + (((s.Ridge * 0) * ((value s.Ice i.Thick).2)) * 100000))))))), (.t 8, some (.x (.v (.int .i64 ((value s.Ice i.Thick).2))))), (.b 1, some (.sh 136 6)), (.c 1 0, some (.x (.v (.pointer (some ⟨s_b, 0, none⟩))))), (.c 1 1, some (.x (.v (.int .i64 i.Conc)))), (.c 1 2, some (.x (.v (.int .i64 i.Thick)))), (.c 1 3, some (.x (.v (.int .i64 i.Ridge)))), (.c 1 4, some (.x (.v (.int .i64 i.Press)))), (.c 1 5, some (.x (.v (.bool ch))))]) ?_ ⟨rfl, rfl, rfl, rfl, rfl, rfl, rfl, rfl, rfl, rfl, rfl, rfl, trivial⟩ rfl
    refine fin_then ?_
    refine aw_seq ?_
    refine aw_text (rows := [_, _, _]) rfl (by kernel_rfl) ⟨
      ok_plain rfl rfl (op_move (ltN rfl) rfl),
      ok_plain rfl rfl (op_bin (ltN rfl) rfl rfl (nw_mul ⟨(by omega), (by omega)⟩)),
      ok_plain rfl rfl (op_assign (ltN rfl) rfl),
      trivial⟩ ?_
    refine fin_keep (s' := [(.t 2, some (.x (.p 1 0))), (.t 5, some (.x (.v (.int .i64 ((value s.Water v).1))))), (.t 6, some (.x (.v (.int .i64 ((value s.Water v).2))))), (.t 7, some (.x (.v (.int .i64 (i.Conc * (((((value s.Ice i.Thick).1) * (1000 + (s.Slow * v))) * s.Brash) + (((s.Ridge * 0) * ((value s.Ice i.Thick).2)) * 100000))))))), (.t 8, some (.x (.v (.int .i64 (((value s.Ice i.Thick).2) * 10000000))))), (.b 1, some (.sh 136 6)), (.c 1 0, some (.x (.v (.pointer (some ⟨s_b, 0, none⟩))))), (.c 1 1, some (.x (.v (.int .i64 i.Conc)))), (.c 1 2, some (.x (.v (.int .i64 i.Thick)))), (.c 1 3, some (.x (.v (.int .i64 i.Ridge)))), (.c 1 4, some (.x (.v (.int .i64 i.Press)))), (.c 1 5, some (.x (.v (.bool ch))))]) ?_ ⟨rfl, rfl, rfl, rfl, rfl, rfl, rfl, rfl, rfl, rfl, rfl, rfl, trivial⟩ rfl
    refine fin_then ?_
    refine aw_seq ?_
    have hm8 := mul_nn (x := ((value s.Water v).1)) (y := (((value s.Ice i.Thick).2) * 10000000)) (a := 0) (A := 8000000) (b := 10000000) (B := 4000000000) (by omega) (by omega) (by decide) (by decide)
    have hm9 := mul_nn (x := (i.Conc * (((((value s.Ice i.Thick).1) * (1000 + (s.Slow * v))) * s.Brash) + (((s.Ridge * 0) * ((value s.Ice i.Thick).2)) * 100000)))) (y := ((value s.Water v).2)) (a := 0) (A := 488000000000000) (b := 1) (B := 400) (by omega) (by omega) (by decide) (by decide)
    have hm10 := mul_nn (x := s.Press) (y := i.Press) (a := 0) (A := 5000) (b := 0) (B := 3) (by omega) (by omega) (by decide) (by decide)
    have hm11 := mul_nn (x := (s.Press * i.Press)) (y := ((value s.Water v).2)) (a := 0) (A := 15000) (b := 1) (B := 400) (by omega) (by omega) (by decide) (by decide)
    have hm12 := mul_nn (x := ((s.Press * i.Press) * ((value s.Water v).2))) (y := (((value s.Ice i.Thick).2) * 10000000)) (a := 0) (A := 6000000) (b := 10000000) (B := 4000000000) (by omega) (by omega) (by decide) (by decide)
    refine aw_any (rows := [_, _, _, _, _, _, _, _, _, _, _, _, _, _, _, _, _, _, _, _, _, _]) (M := [0, 0, 3, 0, 0, 24, 63, 0, 128, 384, 896, 1920, 0, 4096, 12288, 32640, 0, 130944, 0, 524160, 1048575, 2097151]) Tryd_mixed (by kernel_rfl) rfl (by kernel_rfl) ⟨
      ok_plain rfl rfl (op_move (ltN rfl) rfl),
      ok_plain rfl rfl (op_move (ltN rfl) rfl),
      ok_plain rfl rfl (op_bin (ltN rfl) rfl rfl (nw_mul ⟨(by omega), (by omega)⟩)),
      ok_plain rfl rfl (op_move (ltN rfl) rfl),
      ok_plain rfl rfl (op_move (ltN rfl) rfl),
      ok_plain rfl rfl (op_bin (ltN rfl) rfl rfl (nw_mul ⟨(by omega), (by omega)⟩)),
      ok_plain rfl rfl (op_bin (ltN rfl) rfl rfl (nw_add ⟨(by omega), (by omega)⟩)),
      ok_plain rfl rfl (op_fieldAddr (ltN rfl) rfl fo_136_0),
      ok_plain rfl rfl (op_load1 (ltN rfl) sh_134 rfl rfl),
      ok_plain rfl rfl (op_nilCheck (ltN rfl) rfl trivial),
      ok_plain rfl rfl (op_fieldAddrB (ltN rfl) rfl fo_25_10),
      ok_plain rfl rfl (op_loadB (y := .v (.int .i64 s.Press)) (ltN rfl) rfl (ldCell hs_box.1 (hs_box.2 10 _ rfl) rfl sh_3)),
      ok_plain rfl rfl (op_fieldAddr (ltN rfl) rfl fo_136_1),
      ok_plain rfl rfl (op_fieldAddr (ltN rfl) rfl fo_28_3),
      ok_plain rfl rfl (op_load1 (ltN rfl) sh_3 rfl rfl),
      ok_plain rfl rfl (op_bin (ltN rfl) rfl rfl (nw_mul ⟨(by omega), (by omega)⟩)),
      ok_plain rfl rfl (op_move (ltN rfl) rfl),
      ok_plain rfl rfl (op_bin (ltN rfl) rfl rfl (nw_mul ⟨(by omega), (by omega)⟩)),
      ok_plain rfl rfl (op_move (ltN rfl) rfl),
      ok_plain rfl rfl (op_bin (ltN rfl) rfl rfl (nw_mul ⟨(by omega), (by omega)⟩)),
      ok_plain rfl rfl (op_bin (ltN rfl) rfl rfl (nw_add ⟨(by omega), (by omega)⟩)),
      ok_plain rfl rfl (op_assign (ltN rfl) rfl),
      trivial⟩ ?_
    refine fin_keep (s' := [(.t 6, some (.x (.v (.int .i64 ((value s.Water v).2))))), (.t 8, some (.x (.v (.int .i64 (((value s.Ice i.Thick).2) * 10000000))))), (.t 11, some (.x (.v (.int .i64 (((((value s.Water v).1) * (((value s.Ice i.Thick).2) * 10000000)) + ((i.Conc * (((((value s.Ice i.Thick).1) * (1000 + (s.Slow * v))) * s.Brash) + (((s.Ridge * 0) * ((value s.Ice i.Thick).2)) * 100000))) * ((value s.Water v).2))) + (((s.Press * i.Press) * ((value s.Water v).2)) * (((value s.Ice i.Thick).2) * 10000000)))))))]) ?_ ⟨rfl, rfl, rfl, trivial⟩ rfl
    refine fin_then ?_
    refine aw_seq ?_
    have hm13 := mul_nn (x := ((value s.Water v).2)) (y := (((value s.Ice i.Thick).2) * 10000000)) (a := 1) (A := 400) (b := 10000000) (B := 4000000000) (by omega) (by omega) (by decide) (by decide)
    refine aw_text (rows := [_, _, _, _, _, _, _, _, _, _, _]) rfl (by kernel_rfl) ⟨
      ok_plain rfl rfl (op_move (ltN rfl) rfl),
      ok_plain rfl rfl (op_move (ltN rfl) rfl),
      ok_plain rfl rfl (op_move (ltN rfl) rfl),
      ok_plain rfl rfl (op_bin (ltN rfl) rfl rfl (nw_mul ⟨(by omega), (by omega)⟩)),
      ok_plain rfl rfl (op_bin (ltN rfl) rfl rfl (nw_add ⟨(by omega), (by omega)⟩)),
      ok_plain rfl rfl (op_bin (ltN rfl) rfl rfl (nw_sub ⟨(by omega), (by omega)⟩)),
      ok_plain rfl rfl (op_move (ltN rfl) rfl),
      ok_plain rfl rfl (op_move (ltN rfl) rfl),
      ok_plain rfl rfl (op_bin (ltN rfl) rfl rfl (nw_mul ⟨(by omega), (by omega)⟩)),
      ok_plain rfl rfl (op_quo (ltN rfl) rfl rfl (by omega) (quo_nn (by omega) (by omega) (by omega))),
      ok_plain rfl rfl (op_assign (ltN rfl) rfl),
      trivial⟩ ?_
    refine fin_keep (s' := [(.t 4, some (.x (.v (.int .i64 ((((((((value s.Water v).1) * (((value s.Ice i.Thick).2) * 10000000)) + ((i.Conc * (((((value s.Ice i.Thick).1) * (1000 + (s.Slow * v))) * s.Brash) + (((s.Ridge * 0) * ((value s.Ice i.Thick).2)) * 100000))) * ((value s.Water v).2))) + (((s.Press * i.Press) * ((value s.Water v).2)) * (((value s.Ice i.Thick).2) * 10000000))) + (((value s.Water v).2) * (((value s.Ice i.Thick).2) * 10000000))) - 1) / (((value s.Water v).2) * (((value s.Ice i.Thick).2) * 10000000)))))))]) ?_ ⟨rfl, trivial⟩ rfl
    refine fin_then ?_
    refine aw_ret ?_
    refine post_ret (x := .v (.int .i64 ((((((((value s.Water v).1) * (((value s.Ice i.Thick).2) * 10000000)) + ((i.Conc * (((((value s.Ice i.Thick).1) * (1000 + (s.Slow * v))) * s.Brash) + (((s.Ridge * 0) * ((value s.Ice i.Thick).2)) * 100000))) * ((value s.Water v).2))) + (((s.Press * i.Press) * ((value s.Water v).2)) * (((value s.Ice i.Thick).2) * 10000000))) + (((value s.Water v).2) * (((value s.Ice i.Thick).2) * 10000000))) - 1) / (((value s.Water v).2) * (((value s.Ice i.Thick).2) * 10000000))))) rfl rfl (resOK_tmp rfl resOK_nil) rfl (fun mm aa ww hr => ?_)
    show Ending.returned (.int .i64 ((((((((value s.Water v).1) * (((value s.Ice i.Thick).2) * 10000000)) + ((i.Conc * (((((value s.Ice i.Thick).1) * (1000 + (s.Slow * v))) * s.Brash) + (((s.Ridge * 0) * ((value s.Ice i.Thick).2)) * 100000))) * ((value s.Water v).2))) + (((s.Press * i.Press) * ((value s.Water v).2)) * (((value s.Ice i.Thick).2) * 10000000))) + (((value s.Water v).2) * (((value s.Ice i.Thick).2) * 10000000))) - 1) / (((value s.Water v).2) * (((value s.Ice i.Thick).2) * 10000000)))) = _ ∧ _
    exact ⟨by rw [resistance, hz1]; rfl, hr.below⟩
  · have _z := hz1
    have q14 := hz1
    refine aw_skip ?_
    refine fin_then ?_
    refine aw_seq ?_
    have hm15 := mul_nn (x := s.Slow) (y := v) (a := 0) (A := 20) (b := 0) (B := 255) (by omega) (by omega) (by decide) (by decide)
    have hm16 := mul_nn (x := ((value s.Ice i.Thick).1)) (y := (1000 + (s.Slow * v))) (a := 0) (A := 8000000) (b := 1000) (B := 6100) (by omega) (by omega) (by decide) (by decide)
    have hm17 := mul_nn (x := s.Ridge) (y := i.Ridge) (a := 0) (A := 500) (b := 0) (B := 100) (by omega) (by omega) (by decide) (by decide)
    have hm18 := mul_nn (x := (s.Ridge * i.Ridge)) (y := ((value s.Ice i.Thick).2)) (a := 0) (A := 50000) (b := 1) (B := 400) (by omega) (by omega) (by decide) (by decide)
    have hm19 := mul_nn (x := i.Conc) (y := (((((value s.Ice i.Thick).1) * (1000 + (s.Slow * v))) * 100) + (((s.Ridge * i.Ridge) * ((value s.Ice i.Thick).2)) * 100000))) (a := 0) (A := 100) (b := 0) (B := 6880000000000) (by omega) (by omega) (by decide) (by decide)
    refine aw_any (rows := [_, _, _, _, _, _, _, _, _, _, _, _, _, _, _, _, _, _, _, _, _, _, _, _, _, _, _, _]) (M := [0, 1, 3, 0, 0, 16, 48, 112, 240, 0, 1008, 2032, 4088, 0, 16376, 0, 32768, 98304, 229376, 491520, 0, 2064384, 0, 8355840, 16744448, 33554424, 67108863, 134217727]) Tryd_mixed (by kernel_rfl) rfl (by kernel_rfl) ⟨
      ok_plain rfl rfl (op_fieldAddr (ltN rfl) rfl fo_136_1),
      ok_plain rfl rfl (op_fieldAddr (ltN rfl) rfl fo_28_0),
      ok_plain rfl rfl (op_load1 (ltN rfl) sh_3 rfl rfl),
      ok_plain rfl rfl (op_move (ltN rfl) rfl),
      ok_plain rfl rfl (op_fieldAddr (ltN rfl) rfl fo_136_0),
      ok_plain rfl rfl (op_load1 (ltN rfl) sh_134 rfl rfl),
      ok_plain rfl rfl (op_nilCheck (ltN rfl) rfl trivial),
      ok_plain rfl rfl (op_fieldAddrB (ltN rfl) rfl fo_25_7),
      ok_plain rfl rfl (op_loadB (y := .v (.int .i64 s.Slow)) (ltN rfl) rfl (ldCell hs_box.1 (hs_box.2 7 _ rfl) rfl sh_3)),
      ok_plain rfl rfl (op_move (ltN rfl) rfl),
      ok_plain rfl rfl (op_bin (ltN rfl) rfl rfl (nw_mul ⟨(by omega), (by omega)⟩)),
      ok_plain rfl rfl (op_bin (ltN rfl) rfl rfl (nw_add ⟨(by omega), (by omega)⟩)),
      ok_plain rfl rfl (op_bin (ltN rfl) rfl rfl (nw_mul ⟨(by omega), (by omega)⟩)),
      ok_plain rfl rfl (op_move (ltN rfl) rfl),
      ok_plain rfl rfl (op_bin (ltN rfl) rfl rfl (nw_mul ⟨(by omega), (by omega)⟩)),
      ok_plain rfl rfl (op_fieldAddr (ltN rfl) rfl fo_136_0),
      ok_plain rfl rfl (op_load1 (ltN rfl) sh_134 rfl rfl),
      ok_plain rfl rfl (op_nilCheck (ltN rfl) rfl trivial),
      ok_plain rfl rfl (op_fieldAddrB (ltN rfl) rfl fo_25_9),
      ok_plain rfl rfl (op_loadB (y := .v (.int .i64 s.Ridge)) (ltN rfl) rfl (ldCell hs_box.1 (hs_box.2 9 _ rfl) rfl sh_3)),
      ok_plain rfl rfl (op_move (ltN rfl) rfl),
      ok_plain rfl rfl (op_bin (ltN rfl) rfl rfl (nw_mul ⟨(by omega), (by omega)⟩)),
      ok_plain rfl rfl (op_move (ltN rfl) rfl),
      ok_plain rfl rfl (op_bin (ltN rfl) rfl rfl (nw_mul ⟨(by omega), (by omega)⟩)),
      ok_plain rfl rfl (op_bin (ltN rfl) rfl rfl (nw_mul ⟨(by omega), (by omega)⟩)),
      ok_plain rfl rfl (op_bin (ltN rfl) rfl rfl (nw_add ⟨(by omega), (by omega)⟩)),
      ok_plain rfl rfl (op_bin (ltN rfl) rfl rfl (nw_mul ⟨(by omega), (by omega)⟩)),
      ok_plain rfl rfl (op_assign (ltN rfl) rfl),
      trivial⟩ ?_
    refine fin_keep (s' := [(.t 2, some (.x (.p 1 0))), (.t 5, some (.x (.v (.int .i64 ((value s.Water v).1))))), (.t 6, some (.x (.v (.int .i64 ((value s.Water v).2))))), (.t 7, some (.x (.v (.int .i64 (i.Conc * (((((value s.Ice i.Thick).1) * (1000 + (s.Slow * v))) * 100) + (((s.Ridge * i.Ridge) * ((value s.Ice i.Thick).2)) * 100000))))))), (.t 8, some (.x (.v (.int .i64 ((value s.Ice i.Thick).2))))), (.b 1, some (.sh 136 6)), (.c 1 0, some (.x (.v (.pointer (some ⟨s_b, 0, none⟩))))), (.c 1 1, some (.x (.v (.int .i64 i.Conc)))), (.c 1 2, some (.x (.v (.int .i64 i.Thick)))), (.c 1 3, some (.x (.v (.int .i64 i.Ridge)))), (.c 1 4, some (.x (.v (.int .i64 i.Press)))), (.c 1 5, some (.x (.v (.bool ch))))]) ?_ ⟨rfl, rfl, rfl, rfl, rfl, rfl, rfl, rfl, rfl, rfl, rfl, rfl, trivial⟩ rfl
    refine fin_then ?_
    refine aw_seq ?_
    refine aw_text (rows := [_, _, _]) rfl (by kernel_rfl) ⟨
      ok_plain rfl rfl (op_move (ltN rfl) rfl),
      ok_plain rfl rfl (op_bin (ltN rfl) rfl rfl (nw_mul ⟨(by omega), (by omega)⟩)),
      ok_plain rfl rfl (op_assign (ltN rfl) rfl),
      trivial⟩ ?_
    refine fin_keep (s' := [(.t 2, some (.x (.p 1 0))), (.t 5, some (.x (.v (.int .i64 ((value s.Water v).1))))), (.t 6, some (.x (.v (.int .i64 ((value s.Water v).2))))), (.t 7, some (.x (.v (.int .i64 (i.Conc * (((((value s.Ice i.Thick).1) * (1000 + (s.Slow * v))) * 100) + (((s.Ridge * i.Ridge) * ((value s.Ice i.Thick).2)) * 100000))))))), (.t 8, some (.x (.v (.int .i64 (((value s.Ice i.Thick).2) * 10000000))))), (.b 1, some (.sh 136 6)), (.c 1 0, some (.x (.v (.pointer (some ⟨s_b, 0, none⟩))))), (.c 1 1, some (.x (.v (.int .i64 i.Conc)))), (.c 1 2, some (.x (.v (.int .i64 i.Thick)))), (.c 1 3, some (.x (.v (.int .i64 i.Ridge)))), (.c 1 4, some (.x (.v (.int .i64 i.Press)))), (.c 1 5, some (.x (.v (.bool ch))))]) ?_ ⟨rfl, rfl, rfl, rfl, rfl, rfl, rfl, rfl, rfl, rfl, rfl, rfl, trivial⟩ rfl
    refine fin_then ?_
    refine aw_seq ?_
    have hm20 := mul_nn (x := ((value s.Water v).1)) (y := (((value s.Ice i.Thick).2) * 10000000)) (a := 0) (A := 8000000) (b := 10000000) (B := 4000000000) (by omega) (by omega) (by decide) (by decide)
    have hm21 := mul_nn (x := (i.Conc * (((((value s.Ice i.Thick).1) * (1000 + (s.Slow * v))) * 100) + (((s.Ridge * i.Ridge) * ((value s.Ice i.Thick).2)) * 100000)))) (y := ((value s.Water v).2)) (a := 0) (A := 688000000000000) (b := 1) (B := 400) (by omega) (by omega) (by decide) (by decide)
    have hm22 := mul_nn (x := s.Press) (y := i.Press) (a := 0) (A := 5000) (b := 0) (B := 3) (by omega) (by omega) (by decide) (by decide)
    have hm23 := mul_nn (x := (s.Press * i.Press)) (y := ((value s.Water v).2)) (a := 0) (A := 15000) (b := 1) (B := 400) (by omega) (by omega) (by decide) (by decide)
    have hm24 := mul_nn (x := ((s.Press * i.Press) * ((value s.Water v).2))) (y := (((value s.Ice i.Thick).2) * 10000000)) (a := 0) (A := 6000000) (b := 10000000) (B := 4000000000) (by omega) (by omega) (by decide) (by decide)
    refine aw_any (rows := [_, _, _, _, _, _, _, _, _, _, _, _, _, _, _, _, _, _, _, _, _, _]) (M := [0, 0, 3, 0, 0, 24, 63, 0, 128, 384, 896, 1920, 0, 4096, 12288, 32640, 0, 130944, 0, 524160, 1048575, 2097151]) Tryd_mixed (by kernel_rfl) rfl (by kernel_rfl) ⟨
      ok_plain rfl rfl (op_move (ltN rfl) rfl),
      ok_plain rfl rfl (op_move (ltN rfl) rfl),
      ok_plain rfl rfl (op_bin (ltN rfl) rfl rfl (nw_mul ⟨(by omega), (by omega)⟩)),
      ok_plain rfl rfl (op_move (ltN rfl) rfl),
      ok_plain rfl rfl (op_move (ltN rfl) rfl),
      ok_plain rfl rfl (op_bin (ltN rfl) rfl rfl (nw_mul ⟨(by omega), (by omega)⟩)),
      ok_plain rfl rfl (op_bin (ltN rfl) rfl rfl (nw_add ⟨(by omega), (by omega)⟩)),
      ok_plain rfl rfl (op_fieldAddr (ltN rfl) rfl fo_136_0),
      ok_plain rfl rfl (op_load1 (ltN rfl) sh_134 rfl rfl),
      ok_plain rfl rfl (op_nilCheck (ltN rfl) rfl trivial),
      ok_plain rfl rfl (op_fieldAddrB (ltN rfl) rfl fo_25_10),
      ok_plain rfl rfl (op_loadB (y := .v (.int .i64 s.Press)) (ltN rfl) rfl (ldCell hs_box.1 (hs_box.2 10 _ rfl) rfl sh_3)),
      ok_plain rfl rfl (op_fieldAddr (ltN rfl) rfl fo_136_1),
      ok_plain rfl rfl (op_fieldAddr (ltN rfl) rfl fo_28_3),
      ok_plain rfl rfl (op_load1 (ltN rfl) sh_3 rfl rfl),
      ok_plain rfl rfl (op_bin (ltN rfl) rfl rfl (nw_mul ⟨(by omega), (by omega)⟩)),
      ok_plain rfl rfl (op_move (ltN rfl) rfl),
      ok_plain rfl rfl (op_bin (ltN rfl) rfl rfl (nw_mul ⟨(by omega), (by omega)⟩)),
      ok_plain rfl rfl (op_move (ltN rfl) rfl),
      ok_plain rfl rfl (op_bin (ltN rfl) rfl rfl (nw_mul ⟨(by omega), (by omega)⟩)),
      ok_plain rfl rfl (op_bin (ltN rfl) rfl rfl (nw_add ⟨(by omega), (by omega)⟩)),
      ok_plain rfl rfl (op_assign (ltN rfl) rfl),
      trivial⟩ ?_
    refine fin_keep (s' := [(.t 6, some (.x (.v (.int .i64 ((value s.Water v).2))))), (.t 8, some (.x (.v (.int .i64 (((value s.Ice i.Thick).2) * 10000000))))), (.t 11, some (.x (.v (.int .i64 (((((value s.Water v).1) * (((value s.Ice i.Thick).2) * 10000000)) + ((i.Conc * (((((value s.Ice i.Thick).1) * (1000 + (s.Slow * v))) * 100) + (((s.Ridge * i.Ridge) * ((value s.Ice i.Thick).2)) * 100000))) * ((value s.Water v).2))) + (((s.Press * i.Press) * ((value s.Water v).2)) * (((value s.Ice i.Thick).2) * 10000000)))))))]) ?_ ⟨rfl, rfl, rfl, trivial⟩ rfl
    refine fin_then ?_
    refine aw_seq ?_
    have hm25 := mul_nn (x := ((value s.Water v).2)) (y := (((value s.Ice i.Thick).2) * 10000000)) (a := 1) (A := 400) (b := 10000000) (B := 4000000000) (by omega) (by omega) (by decide) (by decide)
    refine aw_text (rows := [_, _, _, _, _, _, _, _, _, _, _]) rfl (by kernel_rfl) ⟨
      ok_plain rfl rfl (op_move (ltN rfl) rfl),
      ok_plain rfl rfl (op_move (ltN rfl) rfl),
      ok_plain rfl rfl (op_move (ltN rfl) rfl),
      ok_plain rfl rfl (op_bin (ltN rfl) rfl rfl (nw_mul ⟨(by omega), (by omega)⟩)),
      ok_plain rfl rfl (op_bin (ltN rfl) rfl rfl (nw_add ⟨(by omega), (by omega)⟩)),
      ok_plain rfl rfl (op_bin (ltN rfl) rfl rfl (nw_sub ⟨(by omega), (by omega)⟩)),
      ok_plain rfl rfl (op_move (ltN rfl) rfl),
      ok_plain rfl rfl (op_move (ltN rfl) rfl),
      ok_plain rfl rfl (op_bin (ltN rfl) rfl rfl (nw_mul ⟨(by omega), (by omega)⟩)),
      ok_plain rfl rfl (op_quo (ltN rfl) rfl rfl (by omega) (quo_nn (by omega) (by omega) (by omega))),
      ok_plain rfl rfl (op_assign (ltN rfl) rfl),
      trivial⟩ ?_
    refine fin_keep (s' := [(.t 4, some (.x (.v (.int .i64 ((((((((value s.Water v).1) * (((value s.Ice i.Thick).2) * 10000000)) + ((i.Conc * (((((value s.Ice i.Thick).1) * (1000 + (s.Slow * v))) * 100) + (((s.Ridge * i.Ridge) * ((value s.Ice i.Thick).2)) * 100000))) * ((value s.Water v).2))) + (((s.Press * i.Press) * ((value s.Water v).2)) * (((value s.Ice i.Thick).2) * 10000000))) + (((value s.Water v).2) * (((value s.Ice i.Thick).2) * 10000000))) - 1) / (((value s.Water v).2) * (((value s.Ice i.Thick).2) * 10000000)))))))]) ?_ ⟨rfl, trivial⟩ rfl
    refine fin_then ?_
    refine aw_ret ?_
    refine post_ret (x := .v (.int .i64 ((((((((value s.Water v).1) * (((value s.Ice i.Thick).2) * 10000000)) + ((i.Conc * (((((value s.Ice i.Thick).1) * (1000 + (s.Slow * v))) * 100) + (((s.Ridge * i.Ridge) * ((value s.Ice i.Thick).2)) * 100000))) * ((value s.Water v).2))) + (((s.Press * i.Press) * ((value s.Water v).2)) * (((value s.Ice i.Thick).2) * 10000000))) + (((value s.Water v).2) * (((value s.Ice i.Thick).2) * 10000000))) - 1) / (((value s.Water v).2) * (((value s.Ice i.Thick).2) * 10000000))))) rfl rfl (resOK_tmp rfl resOK_nil) rfl (fun mm aa ww hr => ?_)
    show Ending.returned (.int .i64 ((((((((value s.Water v).1) * (((value s.Ice i.Thick).2) * 10000000)) + ((i.Conc * (((((value s.Ice i.Thick).1) * (1000 + (s.Slow * v))) * 100) + (((s.Ridge * i.Ridge) * ((value s.Ice i.Thick).2)) * 100000))) * ((value s.Water v).2))) + (((s.Press * i.Press) * ((value s.Water v).2)) * (((value s.Ice i.Thick).2) * 10000000))) + (((value s.Water v).2) * (((value s.Ice i.Thick).2) * 10000000))) - 1) / (((value s.Water v).2) * (((value s.Ice i.Thick).2) * 10000000)))) = _ ∧ _
    exact ⟨by rw [resistance, hz1]; rfl, hr.below⟩

end Go.Proofs.T
