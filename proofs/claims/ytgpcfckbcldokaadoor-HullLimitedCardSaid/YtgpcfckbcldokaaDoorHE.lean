import Derived.Test.YtgpcfckbcldokaaDoorHD
namespace Go.Proofs.T
open Go Go.AX Go.RowKit Hull
theorem en_106 : Proofs.Enters Tryd.prog 106 := Proofs.enters_of Tryd.func106 (by kernel_rfl) rfl
theorem en_103 : Proofs.Enters Tryd.prog 103 := Proofs.enters_of Tryd.func103 (by kernel_rfl) rfl
theorem en_119 : Proofs.Enters Tryd.prog 119 := Proofs.enters_of Tryd.func119 (by kernel_rfl) rfl
theorem en_136 : Proofs.Enters Tryd.prog 136 := Proofs.enters_of Tryd.func136 (by kernel_rfl) rfl
theorem zl_206 : zeroL Tryd.prog 206 = some [(.int .i64 0), (.int .i64 0), (.int .i64 0), (.int .i64 0)] := by kernel_rfl
theorem sz_206 : sizeIn Tryd.prog 206 = some 4 := by kernel_rfl
theorem sh_206 : shapeOf Tryd.prog 206 = some (some 4) := by kernel_rfl
theorem zl_187 : zeroL Tryd.prog 187 = some [(.int .i64 0), (.int .i64 0), (.int .i64 0), (.int .i64 0), (.int .i64 0), (.int .i64 0), (.int .i64 0), (.int .i64 0)] := by kernel_rfl
theorem sh_32 : shapeOf Tryd.prog 32 = some (some 2) := by kernel_rfl
theorem sz_187 : sizeIn Tryd.prog 187 = some 8 := by kernel_rfl
theorem sh_187 : shapeOf Tryd.prog 187 = some (some 8) := by kernel_rfl
theorem en_151 : Proofs.Enters Tryd.prog 151 := Proofs.enters_of Tryd.func151 (by kernel_rfl) rfl
theorem ar_206 : arrSz Tryd.prog 206 = some (4, 1) := by kernel_rfl
theorem un_206 : Tryd.prog.underlying 206 = some (.array 4 3) := by kernel_rfl
theorem en_124 : Proofs.Enters Tryd.prog 124 := Proofs.enters_of Tryd.func124 (by kernel_rfl) rfl
theorem en_146 : Proofs.Enters Tryd.prog 146 := Proofs.enters_of Tryd.func146 (by kernel_rfl) rfl
theorem en_162 : Proofs.Enters Tryd.prog 162 := Proofs.enters_of Tryd.func162 (by kernel_rfl) rfl
theorem en_133 : Proofs.Enters Tryd.prog 133 := Proofs.enters_of Tryd.func133 (by kernel_rfl) rfl
theorem ar_187 : arrSz Tryd.prog 187 = some (4, 2) := by kernel_rfl
theorem en_135 : Proofs.Enters Tryd.prog 135 := Proofs.enters_of Tryd.func135 (by kernel_rfl) rfl
theorem sh_34 : shapeOf Tryd.prog 34 = some (some 8) := by kernel_rfl
theorem en_125 : Proofs.Enters Tryd.prog 125 := Proofs.enters_of Tryd.func125 (by kernel_rfl) rfl
theorem en_134 : Proofs.Enters Tryd.prog 134 := Proofs.enters_of Tryd.func134 (by kernel_rfl) rfl

theorem c76 (s : Ship) (s_Thrust_s : SlV) (s_Water_s : SlV) (s_Ice_s : SlV) (s_b : Nat) (i : Ice) (ch : Bool) (w : World) (hs_Thrust : SlIs encPt 2 w s_Thrust_s s.Thrust) (hs_Water : SlIs encPt 2 w s_Water_s s.Water) (hs_Ice : SlIs encPt 2 w s_Ice_s s.Ice) (hs_box : BoxAt w s_b [.int .i64 s.Class, .int .i64 s.Power, .int .i64 s.Draught, .int .i64 s.Tonnes, .slice s_Thrust_s.p s_Thrust_s.n s_Thrust_s.c, .slice s_Water_s.p s_Water_s.n s_Water_s.c, .slice s_Ice_s.p s_Ice_s.n s_Ice_s.c, .int .i64 s.Slow, .int .i64 s.Brash, .int .i64 s.Ridge, .int .i64 s.Press]) (hc : check s = 0) (hi : goodIce i) : Calls Tryd.prog 76 #[.agg #[.pointer (some ⟨s_b, 0, none⟩), .int .i64 i.Conc, .int .i64 i.Thick, .int .i64 i.Ridge, .int .i64 i.Press, .bool ch]] w fun e w' => e = .returned (.int .i64 (speed s i ch)) ∧ Below w.heap.size w w' := by
  obtain ⟨s_Thrust_p, s_Thrust_n, s_Thrust_c⟩ := s_Thrust_s
  have hs_Thrust_l : s_Thrust_n = s.Thrust.length := hs_Thrust.1
  subst hs_Thrust_l
  obtain ⟨s_Thrust_b, s_Thrust_o, hs_Thrust_p, hs_Thrust_L⟩ := SlAt.lies' hs_Thrust
  obtain ⟨s_Water_p, s_Water_n, s_Water_c⟩ := s_Water_s
  have hs_Water_l : s_Water_n = s.Water.length := hs_Water.1
  subst hs_Water_l
  obtain ⟨s_Water_b, s_Water_o, hs_Water_p, hs_Water_L⟩ := SlAt.lies' hs_Water
  obtain ⟨s_Ice_p, s_Ice_n, s_Ice_c⟩ := s_Ice_s
  have hs_Ice_l : s_Ice_n = s.Ice.length := hs_Ice.1
  subst hs_Ice_l
  obtain ⟨s_Ice_b, s_Ice_o, hs_Ice_p, hs_Ice_L⟩ := SlAt.lies' hs_Ice
  refine enter (args := [.g [.v (.pointer (some ⟨s_b, 0, none⟩)), .v (.int .i64 i.Conc), .v (.int .i64 i.Thick), .v (.int .i64 i.Ridge), .v (.int .i64 i.Press), .v (.bool ch)]]) Tryd.func76 rfl (N := 12) rfl (Nat.le_of_ble_eq_true rfl) ?_
  refine aw_seq ?_
  refine aw_text (rows := [_, _]) rfl (by kernel_rfl) ⟨
    ok_plain rfl rfl (op_boxN (L := 1) (ltN rfl) rfl rfl rfl),
    ok_plain rfl rfl (op_assign (ltN rfl) rfl),
    trivial⟩ ?_
  refine fin_keep (s' := [(.t 1, some (.x (.p 1 0))), (.b 1, some (.sh 136 6)), (.c 1 0, some (.x (.v (.pointer (some ⟨s_b, 0, none⟩))))), (.c 1 1, some (.x (.v (.int .i64 i.Conc)))), (.c 1 2, some (.x (.v (.int .i64 i.Thick)))), (.c 1 3, some (.x (.v (.int .i64 i.Ridge)))), (.c 1 4, some (.x (.v (.int .i64 i.Press)))), (.c 1 5, some (.x (.v (.bool ch))))]) ?_ ⟨rfl, rfl, rfl, rfl, rfl, rfl, rfl, rfl, trivial⟩ rfl
  refine fin_then ?_
  refine aw_seq ?_
  refine aw_text (rows := [_, _, _, _, _, _, _, _]) rfl (by kernel_rfl) ⟨
    ok_plain rfl rfl (op_loadN (ys := [.v (.pointer (some ⟨s_b, 0, none⟩)), .v (.int .i64 i.Conc), .v (.int .i64 i.Thick), .v (.int .i64 i.Ridge), .v (.int .i64 i.Press), .v (.bool ch)]) (ltN rfl) sh_136 rfl rfl ⟨rfl, rfl, rfl, rfl, rfl, rfl, trivial⟩),
    ok_plain rfl rfl (op_mkfn (ltN rfl) (EvL.cons rfl EvL.nil) EvL.nil),
    ok_plain rfl rfl (op_call (x := .t [.v (.int .i64 ((greatest ((fun vv => makes s i ch vv)) 0 250).1)), .v (.bool ((greatest ((fun vv => makes s i ch vv)) 0 250).2))]) (fs := []) (caps := []) (extra := []) (ltN rfl) en_103 rfl ⟨rfl, rfl, rfl⟩ (EvL.cons rfl (EvL.cons rfl (EvL.cons rfl EvL.nil))) (fun mm aa ww gg hr hrel => (c103 0 250 106 (denL mm [.g [.v (.pointer (some ⟨s_b, 0, none⟩)), .v (.int .i64 i.Conc), .v (.int .i64 i.Thick), .v (.int .i64 i.Ridge), .v (.int .i64 i.Press), .v (.bool ch)]]) (denL mm []) (fun vv => makes s i ch vv) ww en_106 (fun vv w1 hb1 h1 h2 => (c106 s ⟨s_Thrust_p, s.Thrust.length, s_Thrust_c⟩ ⟨s_Water_p, s.Water.length, s_Water_c⟩ ⟨s_Ice_p, s.Ice.length, s_Ice_c⟩ s_b i ch vv w1 (SlIs.mono (SlIs.mono hs_Thrust hrel.below) hb1) (SlIs.mono (SlIs.mono hs_Water hrel.below) hb1) (SlIs.mono (SlIs.mono hs_Ice hrel.below) hb1) (BoxAt.mono (BoxAt.mono hs_box hrel.below) hb1) (by omega) (by omega) (by omega))) (by first | assumption | omega)))),
    ok_plain rfl rfl (op_move (ltN rfl) rfl),
    ok_plain rfl rfl (op_extract (ltN rfl) rfl rfl),
    ok_plain rfl rfl (op_extract (ltN rfl) rfl rfl),
    ok_plain rfl rfl (op_assign (ltN rfl) rfl),
    ok_plain rfl rfl (op_assign (ltN rfl) rfl),
    trivial⟩ ?_
  refine fin_keep (s' := [(.t 3, some (.x (.v (.int .i64 ((greatest ((fun vv => makes s i ch vv)) 0 250).1)))))]) ?_ ⟨rfl, trivial⟩ rfl
  refine fin_then ?_
  refine aw_seq ?_
  refine aw_text (rows := [_, _]) rfl (by kernel_rfl) ⟨
    ok_plain rfl rfl (op_move (ltN rfl) rfl),
    ok_plain rfl rfl (op_assign (ltN rfl) rfl),
    trivial⟩ ?_
  refine fin_keep (s' := [(.t 2, some (.x (.v (.int .i64 ((greatest ((fun vv => makes s i ch vv)) 0 250).1)))))]) ?_ ⟨rfl, trivial⟩ rfl
  refine fin_then ?_
  refine aw_ret ?_
  refine post_ret (x := .v (.int .i64 ((greatest ((fun vv => makes s i ch vv)) 0 250).1))) rfl rfl (resOK_tmp rfl resOK_nil) rfl (fun mm aa ww hr => ?_)
  show Ending.returned (.int .i64 ((greatest ((fun vv => makes s i ch vv)) 0 250).1)) = _ ∧ _
  first
    | exact ⟨rfl, hr.below⟩

theorem c136 (v : Int) (s : Ship) (s_Thrust_s : SlV) (s_Water_s : SlV) (s_Ice_s : SlV) (s_b : Nat) (i : Ice) (ch : Bool) (r_b : Nat) (w : World) (hs_Thrust : SlIs encPt 2 w s_Thrust_s s.Thrust) (hs_Water : SlIs encPt 2 w s_Water_s s.Water) (hs_Ice : SlIs encPt 2 w s_Ice_s s.Ice) (hs_box : BoxAt w s_b [.int .i64 s.Class, .int .i64 s.Power, .int .i64 s.Draught, .int .i64 s.Tonnes, .slice s_Thrust_s.p s_Thrust_s.n s_Thrust_s.c, .slice s_Water_s.p s_Water_s.n s_Water_s.c, .slice s_Ice_s.p s_Ice_s.n s_Ice_s.c, .int .i64 s.Slow, .int .i64 s.Brash, .int .i64 s.Ridge, .int .i64 s.Press]) (hr_box : BoxAt w r_b [.pointer (some ⟨s_b, 0, none⟩), .int .i64 i.Conc, .int .i64 i.Thick, .int .i64 i.Ridge, .int .i64 i.Press, .bool ch]) (hG : BoxAt w 0 (strengths.map (fun n => Value.int .i64 n))) (hc : check s = 0) (hi : goodIce i) (hv : 0 ≤ v ∧ v ≤ 255) : Calls Tryd.prog 136 #[.int .i64 v, .pointer (some ⟨r_b, 0, none⟩)] w fun e w' => e = .returned (.bool (makes s i ch v && bears s i ch v)) ∧ Below w.heap.size w w' := by
  obtain ⟨s_Thrust_p, s_Thrust_n, s_Thrust_c⟩ := s_Thrust_s
  have hs_Thrust_l : s_Thrust_n = s.Thrust.length := hs_Thrust.1
  subst hs_Thrust_l
  obtain ⟨s_Thrust_b, s_Thrust_o, hs_Thrust_p, hs_Thrust_L⟩ := SlAt.lies' hs_Thrust
  obtain ⟨s_Water_p, s_Water_n, s_Water_c⟩ := s_Water_s
  have hs_Water_l : s_Water_n = s.Water.length := hs_Water.1
  subst hs_Water_l
  obtain ⟨s_Water_b, s_Water_o, hs_Water_p, hs_Water_L⟩ := SlAt.lies' hs_Water
  obtain ⟨s_Ice_p, s_Ice_n, s_Ice_c⟩ := s_Ice_s
  have hs_Ice_l : s_Ice_n = s.Ice.length := hs_Ice.1
  subst hs_Ice_l
  obtain ⟨s_Ice_b, s_Ice_o, hs_Ice_p, hs_Ice_L⟩ := SlAt.lies' hs_Ice
  refine enter (args := [.v (.int .i64 v), .v (.pointer (some ⟨r_b, 0, none⟩))]) Tryd.func136 rfl (N := 12) rfl (Nat.le_of_ble_eq_true rfl) ?_
  refine aw_seq ?_
  refine aw_text (rows := [_]) rfl (by kernel_rfl) ⟨
    ok_plain rfl rfl (op_assign (ltN rfl) rfl),
    trivial⟩ ?_
  refine fin_keep (s' := [(.t 0, some (.x (.v (.int .i64 v)))), (.t 1, some (.x (.v (.pointer (some ⟨r_b, 0, none⟩)))))]) ?_ ⟨rfl, rfl, trivial⟩ rfl
  refine fin_then ?_
  refine aw_seq ?_
  refine aw_text (rows := [_, _, _, _, _, _, _, _, _]) rfl (by kernel_rfl) ⟨
    ok_plain rfl rfl (op_loadB (y := .g [.v (.pointer (some ⟨s_b, 0, none⟩)), .v (.int .i64 i.Conc), .v (.int .i64 i.Thick), .v (.int .i64 i.Ridge), .v (.int .i64 i.Press), .v (.bool ch)]) (ltN rfl) rfl (ldCells hr_box.1 (o := 0) (vs := [(.pointer (some ⟨s_b, 0, none⟩)), (.int .i64 i.Conc), (.int .i64 i.Thick), (.int .i64 i.Ridge), (.int .i64 i.Press), (.bool ch)]) (fun zq zv zh => hr_box.2 _ zv (sub_get (n := 0) rfl zh)) rfl sh_136 rfl)),
    ok_plain rfl rfl (op_move (ltN rfl) rfl),
    ok_plain rfl rfl (op_call (x := .v (.bool (makes s i ch v))) (fs := []) (caps := []) (extra := []) (ltN rfl) en_106 rfl ⟨rfl, rfl, rfl⟩ (EvL.cons rfl (EvL.cons rfl EvL.nil)) (fun mm aa ww gg hr hrel => (c106 s ⟨s_Thrust_p, s.Thrust.length, s_Thrust_c⟩ ⟨s_Water_p, s.Water.length, s_Water_c⟩ ⟨s_Ice_p, s.Ice.length, s_Ice_c⟩ s_b i ch v ww (SlIs.mono hs_Thrust hrel.below) (SlIs.mono hs_Water hrel.below) (SlIs.mono hs_Ice hrel.below) (BoxAt.mono hs_box hrel.below) (by first | assumption | omega) (by first | assumption | omega) (by first | assumption | omega)))),
    ok_plain rfl rfl (op_move (ltN rfl) rfl),
    ok_if (ltN rfl) rfl rfl rfl rfl rfl rfl (fun hg1 => op_loadB (y := .g [.v (.pointer (some ⟨s_b, 0, none⟩)), .v (.int .i64 i.Conc), .v (.int .i64 i.Thick), .v (.int .i64 i.Ridge), .v (.int .i64 i.Press), .v (.bool ch)]) (ltN rfl) (force_x rfl) (ldCells hr_box.1 (o := 0) (vs := [(.pointer (some ⟨s_b, 0, none⟩)), (.int .i64 i.Conc), (.int .i64 i.Thick), (.int .i64 i.Ridge), (.int .i64 i.Press), (.bool ch)]) (fun zq zv zh => hr_box.2 _ zv (sub_get (n := 0) rfl zh)) rfl sh_136 rfl)),
    ok_if (ltN rfl) rfl rfl rfl rfl rfl rfl (fun hg2 => op_move (ltN rfl) (force_x rfl)),
    ok_if (ltN rfl) rfl rfl rfl rfl rfl rfl (fun hg3 => op_call (x := .v (.bool (bears s i ch v))) (fs := []) (caps := []) (extra := []) (ltN rfl) en_119 rfl ⟨rfl, rfl, rfl⟩ (EvL.cons (force_eq (beq_iff_eq.2 hg3) rfl) (EvL.cons (force_eq (beq_iff_eq.2 hg3) rfl) EvL.nil)) (fun mm aa ww gg hr hrel => (c119 s ⟨s_Thrust_p, s.Thrust.length, s_Thrust_c⟩ ⟨s_Water_p, s.Water.length, s_Water_c⟩ ⟨s_Ice_p, s.Ice.length, s_Ice_c⟩ s_b i ch v ww (SlIs.mono hs_Thrust hrel.below) (SlIs.mono hs_Water hrel.below) (SlIs.mono hs_Ice hrel.below) (BoxAt.mono hs_box hrel.below) (BoxAt.mono hG hrel.below) (by have g0 := hg3; first | assumption | omega) (by have g0 := hg3; first | assumption | omega) (by have g0 := hg3; first | assumption | omega)))),
    ok_plain rfl rfl (op_and (ltN rfl) rfl rfl),
    ok_plain rfl rfl (op_assign (ltN rfl) rfl),
    trivial⟩ ?_
  refine fin_keep (s' := [(.t 3, some (.x (.v (.bool ((makes s i ch v) && (bears s i ch v))))))]) ?_ ⟨rfl, trivial⟩ rfl
  refine fin_then ?_
  refine aw_ret ?_
  refine post_ret (x := .v (.bool ((makes s i ch v) && (bears s i ch v)))) rfl rfl (resOK_tmp rfl resOK_nil) rfl (fun mm aa ww hr => ?_)
  show Ending.returned (.bool ((makes s i ch v) && (bears s i ch v))) = _ ∧ _
  first
    | exact ⟨rfl, hr.below⟩

theorem c89 (s : Ship) (s_Thrust_s : SlV) (s_Water_s : SlV) (s_Ice_s : SlV) (s_b : Nat) (i : Ice) (ch : Bool) (w : World) (hs_Thrust : SlIs encPt 2 w s_Thrust_s s.Thrust) (hs_Water : SlIs encPt 2 w s_Water_s s.Water) (hs_Ice : SlIs encPt 2 w s_Ice_s s.Ice) (hs_box : BoxAt w s_b [.int .i64 s.Class, .int .i64 s.Power, .int .i64 s.Draught, .int .i64 s.Tonnes, .slice s_Thrust_s.p s_Thrust_s.n s_Thrust_s.c, .slice s_Water_s.p s_Water_s.n s_Water_s.c, .slice s_Ice_s.p s_Ice_s.n s_Ice_s.c, .int .i64 s.Slow, .int .i64 s.Brash, .int .i64 s.Ridge, .int .i64 s.Press]) (hG : BoxAt w 0 (strengths.map (fun n => Value.int .i64 n))) (hc : check s = 0) (hi : goodIce i) : Calls Tryd.prog 89 #[.agg #[.pointer (some ⟨s_b, 0, none⟩), .int .i64 i.Conc, .int .i64 i.Thick, .int .i64 i.Ridge, .int .i64 i.Press, .bool ch]] w fun e w' => e = .returned (.tuple #[.int .i64 ((goes s i ch).1), .bool ((goes s i ch).2)]) ∧ Below w.heap.size w w' := by
  obtain ⟨s_Thrust_p, s_Thrust_n, s_Thrust_c⟩ := s_Thrust_s
  have hs_Thrust_l : s_Thrust_n = s.Thrust.length := hs_Thrust.1
  subst hs_Thrust_l
  obtain ⟨s_Thrust_b, s_Thrust_o, hs_Thrust_p, hs_Thrust_L⟩ := SlAt.lies' hs_Thrust
  obtain ⟨s_Water_p, s_Water_n, s_Water_c⟩ := s_Water_s
  have hs_Water_l : s_Water_n = s.Water.length := hs_Water.1
  subst hs_Water_l
  obtain ⟨s_Water_b, s_Water_o, hs_Water_p, hs_Water_L⟩ := SlAt.lies' hs_Water
  obtain ⟨s_Ice_p, s_Ice_n, s_Ice_c⟩ := s_Ice_s
  have hs_Ice_l : s_Ice_n = s.Ice.length := hs_Ice.1
  subst hs_Ice_l
  obtain ⟨s_Ice_b, s_Ice_o, hs_Ice_p, hs_Ice_L⟩ := SlAt.lies' hs_Ice
  refine enter (args := [.g [.v (.pointer (some ⟨s_b, 0, none⟩)), .v (.int .i64 i.Conc), .v (.int .i64 i.Thick), .v (.int .i64 i.Ridge), .v (.int .i64 i.Press), .v (.bool ch)]]) Tryd.func89 rfl (N := 8) rfl (Nat.le_of_ble_eq_true rfl) ?_
  refine aw_seq ?_
  refine aw_text (rows := [_, _, _]) rfl (by kernel_rfl) ⟨
    ok_plain rfl rfl (op_boxN (L := 1) (ltN rfl) rfl rfl rfl),
    ok_plain rfl rfl (op_assign (ltN rfl) rfl),
    ok_plain rfl rfl (op_assign (ltN rfl) rfl),
    trivial⟩ ?_
  refine fin_keep (s' := [(.t 1, some (.x (.p 1 0))), (.b 1, some (.sh 136 6)), (.c 1 0, some (.x (.v (.pointer (some ⟨s_b, 0, none⟩))))), (.c 1 1, some (.x (.v (.int .i64 i.Conc)))), (.c 1 2, some (.x (.v (.int .i64 i.Thick)))), (.c 1 3, some (.x (.v (.int .i64 i.Ridge)))), (.c 1 4, some (.x (.v (.int .i64 i.Press)))), (.c 1 5, some (.x (.v (.bool ch))))]) ?_ ⟨rfl, rfl, rfl, rfl, rfl, rfl, rfl, rfl, trivial⟩ rfl
  refine fin_then ?_
  refine aw_seq ?_
  refine aw_text (rows := [_, _, _, _, _, _]) rfl (by kernel_rfl) ⟨
    ok_plain rfl rfl (op_mkfn (ltN rfl) EvL.nil (EvL.cons rfl EvL.nil)),
    ok_plain rfl rfl (op_call (x := .t [.v (.int .i64 ((greatest ((fun vv => makes s i ch vv && bears s i ch vv)) 10 250).1)), .v (.bool ((greatest ((fun vv => makes s i ch vv && bears s i ch vv)) 10 250).2))]) (fs := []) (caps := []) (extra := (.b 1 :: cellKeys 1 0 6) ++ []) (ltN rfl) en_103 rfl ⟨rfl, rfl, rfl⟩ (EvL.cons rfl (EvL.cons rfl (EvL.cons rfl EvL.nil))) (fun mm aa ww gg hr hrel => (c103 10 250 136 (denL mm []) (denL mm [.p 1 0]) (fun vv => makes s i ch vv && bears s i ch vv) ww en_136 (fun vv w1 hb1 h1 h2 => (c136 vv s ⟨s_Thrust_p, s.Thrust.length, s_Thrust_c⟩ ⟨s_Water_p, s.Water.length, s_Water_c⟩ ⟨s_Ice_p, s.Ice.length, s_Ice_c⟩ s_b i ch (mm 1) w1 (SlIs.mono (SlIs.mono hs_Thrust hrel.below) hb1) (SlIs.mono (SlIs.mono hs_Water hrel.below) hb1) (SlIs.mono (SlIs.mono hs_Ice hrel.below) hb1) (BoxAt.mono (BoxAt.mono hs_box hrel.below) hb1) (BoxAt.mono (boxAt (L := 1) (vs := [(.pointer (some ⟨s_b, 0, none⟩)), (.int .i64 i.Conc), (.int .i64 i.Thick), (.int .i64 i.Ridge), (.int .i64 i.Press), (.bool ch)]) hrel (fun k hk => hr k (List.mem_append_left _ hk)) rfl ⟨rfl, rfl, rfl, rfl, rfl, rfl, trivial⟩) hb1) (BoxAt.mono (BoxAt.mono hG hrel.below) hb1) (by omega) (by omega) (by omega))) (by first | assumption | omega)))),
    ok_plain rfl rfl (op_extract (ltN rfl) rfl rfl),
    ok_plain rfl rfl (op_extract (ltN rfl) rfl rfl),
    ok_plain rfl rfl (op_assign (ltN rfl) rfl),
    ok_plain rfl rfl (op_assign (ltN rfl) rfl),
    trivial⟩ ?_
  refine fin_keep (s' := [(.t 2, some (.x (.v (.int .i64 ((greatest ((fun vv => makes s i ch vv && bears s i ch vv)) 10 250).1))))), (.t 3, some (.x (.v (.bool ((greatest ((fun vv => makes s i ch vv && bears s i ch vv)) 10 250).2)))))]) ?_ ⟨rfl, rfl, trivial⟩ rfl
  refine fin_then ?_
  refine aw_ret ?_
  refine post_ret (x := .t [.v (.int .i64 ((greatest ((fun vv => makes s i ch vv && bears s i ch vv)) 10 250).1)), .v (.bool ((greatest ((fun vv => makes s i ch vv && bears s i ch vv)) 10 250).2))]) rfl rfl (resOK_tmp rfl (resOK_tmp rfl resOK_nil)) rfl (fun mm aa ww hr => ?_)
  show Ending.returned (.tuple #[.int .i64 ((greatest ((fun vv => makes s i ch vv && bears s i ch vv)) 10 250).1), .bool ((greatest ((fun vv => makes s i ch vv && bears s i ch vv)) 10 250).2)]) = _ ∧ _
  first
    | exact ⟨rfl, hr.below⟩

theorem c124 (n : Int) (a : Int) (b : Int) (w : World)  : Calls Tryd.prog 124 #[.int .i64 n, .int .i64 a, .int .i64 b] w fun e w' => e = .returned (.bool (inI n a b)) ∧ Below w.heap.size w w' := by
  refine enter (args := [.v (.int .i64 n), .v (.int .i64 a), .v (.int .i64 b)]) Tryd.func124 rfl (N := 15) rfl (Nat.le_of_ble_eq_true rfl) ?_
  refine aw_seq ?_
  refine aw_text (rows := [_]) rfl (by kernel_rfl) ⟨
    ok_plain rfl rfl (op_assign (ltN rfl) rfl),
    trivial⟩ ?_
  refine fin_keep (s' := [(.t 0, some (.x (.v (.int .i64 n)))), (.t 1, some (.x (.v (.int .i64 a)))), (.t 2, some (.x (.v (.int .i64 b))))]) ?_ ⟨rfl, rfl, rfl, trivial⟩ rfl
  refine fin_then ?_
  refine aw_seq ?_
  refine aw_text (rows := [_, _, _, _, _, _, _, _, _]) rfl (by kernel_rfl) ⟨
    ok_plain rfl rfl (op_move (ltN rfl) rfl),
    ok_plain rfl rfl (op_move (ltN rfl) rfl),
    ok_plain rfl rfl (op_bin (ltN rfl) rfl rfl rfl),
    ok_plain rfl rfl (op_move (ltN rfl) rfl),
    ok_if (ltN rfl) rfl rfl rfl rfl rfl rfl (fun hg1 => op_move (ltN rfl) (force_x rfl)),
    ok_if (ltN rfl) rfl rfl rfl rfl rfl rfl (fun hg2 => op_move (ltN rfl) (force_x rfl)),
    ok_if (ltN rfl) rfl rfl rfl rfl rfl rfl (fun hg3 => op_bin (ltN rfl) (force_eq (beq_iff_eq.2 hg3) rfl) (force_eq (beq_iff_eq.2 hg3) rfl) rfl),
    ok_plain rfl rfl (op_and (ltN rfl) rfl rfl),
    ok_plain rfl rfl (op_assign (ltN rfl) rfl),
    trivial⟩ ?_
  refine fin_keep (s' := [(.t 6, some (.x (.v (.bool ((decide (n ≥ a)) && (decide (n ≤ b)))))))]) ?_ ⟨rfl, trivial⟩ rfl
  refine fin_then ?_
  refine aw_ret ?_
  refine post_ret (x := .v (.bool ((decide (n ≥ a)) && (decide (n ≤ b))))) rfl rfl (resOK_tmp rfl resOK_nil) rfl (fun mm aa ww hr => ?_)
  show Ending.returned (.bool ((decide (n ≥ a)) && (decide (n ≤ b)))) = _ ∧ _
  first
    | exact ⟨rfl, hr.below⟩

theorem c151  (w : World)  : Calls Tryd.prog 151 #[] w fun e w' => e = .returned (.agg #[.int .i64 100, .int .i64 400, .int .i64 100, .int .i64 3]) ∧ Below w.heap.size w w' := by
  refine enter (args := []) Tryd.func151 rfl (N := 2) rfl (Nat.le_of_ble_eq_true rfl) ?_
  refine aw_seq ?_
  refine aw_text (rows := [_]) rfl (by kernel_rfl) ⟨
    ok_plain rfl rfl (op_alloc (L := 1) (ltN rfl) zl_206),
    trivial⟩ ?_
  refine fin_keep (s' := [(.t 0, some (.x (.p 1 0))), (.b 1, some (.sh 206 4)), (.c 1 0, some (.x (.v (.int .i64 0)))), (.c 1 1, some (.x (.v (.int .i64 0)))), (.c 1 2, some (.x (.v (.int .i64 0)))), (.c 1 3, some (.x (.v (.int .i64 0))))]) ?_ ⟨rfl, rfl, rfl, rfl, rfl, rfl, trivial⟩ rfl
  refine fin_then ?_
  refine aw_seq ?_
  refine aw_text (rows := [_, _]) rfl (by kernel_rfl) ⟨
    ok_plain rfl rfl (op_build (x := .g [.v (.int .i64 100), .v (.int .i64 400), .v (.int .i64 100), .v (.int .i64 3)]) (ltN rfl) (EvL.cons rfl (EvL.cons rfl (EvL.cons rfl (EvL.cons rfl EvL.nil)))) (fun m w => by kernel_rfl)),
    ok_plain rfl rfl (op_storeN sz_206 rfl rfl rfl rfl rfl (by decide)),
    trivial⟩ ?_
  refine fin_keep (s' := [(.t 0, some (.x (.p 1 0))), (.b 1, some (.sh 206 4)), (.c 1 0, some (.x (.v (.int .i64 100)))), (.c 1 1, some (.x (.v (.int .i64 400)))), (.c 1 2, some (.x (.v (.int .i64 100)))), (.c 1 3, some (.x (.v (.int .i64 3))))]) ?_ ⟨rfl, rfl, rfl, rfl, rfl, rfl, trivial⟩ rfl
  refine fin_then ?_
  refine aw_ret ?_
  refine post_ret (x := .g [.v (.int .i64 100), .v (.int .i64 400), .v (.int .i64 100), .v (.int .i64 3)]) rfl rfl (resOK_cellN (ys := [.v (.int .i64 100), .v (.int .i64 400), .v (.int .i64 100), .v (.int .i64 3)]) rfl sh_206 rfl ⟨rfl, rfl, rfl, rfl, trivial⟩ resOK_nil) rfl (fun mm aa ww hr => ?_)
  show Ending.returned (.agg #[.int .i64 100, .int .i64 400, .int .i64 100, .int .i64 3]) = _ ∧ _
  first
    | exact ⟨rfl, hr.below⟩

theorem c146 (i : Ice) (w : World)  : Calls Tryd.prog 146 #[.agg #[.int .i64 i.Conc, .int .i64 i.Thick, .int .i64 i.Ridge, .int .i64 i.Press]] w fun e w' => e = .returned (.agg #[.int .i64 i.Conc, .int .i64 i.Thick, .int .i64 i.Ridge, .int .i64 i.Press]) ∧ Below w.heap.size w w' := by
  refine enter (args := [.g [.v (.int .i64 i.Conc), .v (.int .i64 i.Thick), .v (.int .i64 i.Ridge), .v (.int .i64 i.Press)]]) Tryd.func146 rfl (N := 12) rfl (Nat.le_of_ble_eq_true rfl) ?_
  refine aw_seq ?_
  refine aw_text (rows := [_, _]) rfl (by kernel_rfl) ⟨
    ok_plain rfl rfl (op_boxN (L := 1) (ltN rfl) rfl rfl rfl),
    ok_plain rfl rfl (op_alloc (L := 2) (ltN rfl) zl_206),
    trivial⟩ ?_
  refine fin_keep (s' := [(.t 1, some (.x (.p 1 0))), (.t 2, some (.x (.p 2 0))), (.b 1, some (.sh 28 4)), (.b 2, some (.sh 206 4)), (.c 1 0, some (.x (.v (.int .i64 i.Conc)))), (.c 1 1, some (.x (.v (.int .i64 i.Thick)))), (.c 1 2, some (.x (.v (.int .i64 i.Ridge)))), (.c 1 3, some (.x (.v (.int .i64 i.Press)))), (.c 2 0, some (.x (.v (.int .i64 0)))), (.c 2 1, some (.x (.v (.int .i64 0)))), (.c 2 2, some (.x (.v (.int .i64 0)))), (.c 2 3, some (.x (.v (.int .i64 0))))]) ?_ ⟨rfl, rfl, rfl, rfl, rfl, rfl, rfl, rfl, rfl, rfl, rfl, rfl, trivial⟩ rfl
  refine fin_then ?_
  refine aw_seq ?_
  refine aw_text (rows := [_, _, _, _, _, _, _, _, _, _]) rfl (by kernel_rfl) ⟨
    ok_plain rfl rfl (op_fieldAddr (ltN rfl) rfl fo_28_0),
    ok_plain rfl rfl (op_load1 (ltN rfl) sh_3 rfl rfl),
    ok_plain rfl rfl (op_fieldAddr (ltN rfl) rfl fo_28_1),
    ok_plain rfl rfl (op_load1 (ltN rfl) sh_3 rfl rfl),
    ok_plain rfl rfl (op_fieldAddr (ltN rfl) rfl fo_28_2),
    ok_plain rfl rfl (op_load1 (ltN rfl) sh_3 rfl rfl),
    ok_plain rfl rfl (op_fieldAddr (ltN rfl) rfl fo_28_3),
    ok_plain rfl rfl (op_load1 (ltN rfl) sh_3 rfl rfl),
    ok_plain rfl rfl (op_build (x := .g [.v (.int .i64 i.Conc), .v (.int .i64 i.Thick), .v (.int .i64 i.Ridge), .v (.int .i64 i.Press)]) (ltN rfl) (EvL.cons rfl (EvL.cons rfl (EvL.cons rfl (EvL.cons rfl EvL.nil)))) (fun m w => by kernel_rfl)),
    ok_plain rfl rfl (op_storeN sz_206 rfl rfl rfl rfl rfl (by decide)),
    trivial⟩ ?_
  refine fin_keep (s' := [(.t 2, some (.x (.p 2 0))), (.b 2, some (.sh 206 4)), (.c 2 0, some (.x (.v (.int .i64 i.Conc)))), (.c 2 1, some (.x (.v (.int .i64 i.Thick)))), (.c 2 2, some (.x (.v (.int .i64 i.Ridge)))), (.c 2 3, some (.x (.v (.int .i64 i.Press))))]) ?_ ⟨rfl, rfl, rfl, rfl, rfl, rfl, trivial⟩ rfl
  refine fin_then ?_
  refine aw_ret ?_
  refine post_ret (x := .g [.v (.int .i64 i.Conc), .v (.int .i64 i.Thick), .v (.int .i64 i.Ridge), .v (.int .i64 i.Press)]) rfl rfl (resOK_cellN (ys := [.v (.int .i64 i.Conc), .v (.int .i64 i.Thick), .v (.int .i64 i.Ridge), .v (.int .i64 i.Press)]) rfl sh_206 rfl ⟨rfl, rfl, rfl, rfl, trivial⟩ resOK_nil) rfl (fun mm aa ww hr => ?_)
  show Ending.returned (.agg #[.int .i64 i.Conc, .int .i64 i.Thick, .int .i64 i.Ridge, .int .i64 i.Press]) = _ ∧ _
  first
    | exact ⟨rfl, hr.below⟩

theorem c125 (c : Cell) (w : World)  : Calls Tryd.prog 125 #[.agg #[.int .i64 c.Conc.Lo, .int .i64 c.Conc.Hi, .int .i64 c.Thick.Lo, .int .i64 c.Thick.Hi, .int .i64 c.Ridge.Lo, .int .i64 c.Ridge.Hi, .int .i64 c.Press.Lo, .int .i64 c.Press.Hi]] w fun e w' => e = .returned (.agg #[.int .i64 c.Conc.Lo, .int .i64 c.Conc.Hi, .int .i64 c.Thick.Lo, .int .i64 c.Thick.Hi, .int .i64 c.Ridge.Lo, .int .i64 c.Ridge.Hi, .int .i64 c.Press.Lo, .int .i64 c.Press.Hi]) ∧ Below w.heap.size w w' := by
  refine enter (args := [.g [.v (.int .i64 c.Conc.Lo), .v (.int .i64 c.Conc.Hi), .v (.int .i64 c.Thick.Lo), .v (.int .i64 c.Thick.Hi), .v (.int .i64 c.Ridge.Lo), .v (.int .i64 c.Ridge.Hi), .v (.int .i64 c.Press.Lo), .v (.int .i64 c.Press.Hi)]]) Tryd.func125 rfl (N := 12) rfl (Nat.le_of_ble_eq_true rfl) ?_
  refine aw_seq ?_
  refine aw_text (rows := [_, _]) rfl (by kernel_rfl) ⟨
    ok_plain rfl rfl (op_boxN (L := 1) (ltN rfl) rfl rfl rfl),
    ok_plain rfl rfl (op_alloc (L := 2) (ltN rfl) zl_187),
    trivial⟩ ?_
  refine fin_keep (s' := [(.t 1, some (.x (.p 1 0))), (.t 2, some (.x (.p 2 0))), (.b 1, some (.sh 34 8)), (.b 2, some (.sh 187 8)), (.c 1 0, some (.x (.v (.int .i64 c.Conc.Lo)))), (.c 1 1, some (.x (.v (.int .i64 c.Conc.Hi)))), (.c 1 2, some (.x (.v (.int .i64 c.Thick.Lo)))), (.c 1 3, some (.x (.v (.int .i64 c.Thick.Hi)))), (.c 1 4, some (.x (.v (.int .i64 c.Ridge.Lo)))), (.c 1 5, some (.x (.v (.int .i64 c.Ridge.Hi)))), (.c 1 6, some (.x (.v (.int .i64 c.Press.Lo)))), (.c 1 7, some (.x (.v (.int .i64 c.Press.Hi)))), (.c 2 0, some (.x (.v (.int .i64 0)))), (.c 2 1, some (.x (.v (.int .i64 0)))), (.c 2 2, some (.x (.v (.int .i64 0)))), (.c 2 3, some (.x (.v (.int .i64 0)))), (.c 2 4, some (.x (.v (.int .i64 0)))), (.c 2 5, some (.x (.v (.int .i64 0)))), (.c 2 6, some (.x (.v (.int .i64 0)))), (.c 2 7, some (.x (.v (.int .i64 0))))]) ?_ ⟨rfl, rfl, rfl, rfl, rfl, rfl, rfl, rfl, rfl, rfl, rfl, rfl, rfl, rfl, rfl, rfl, rfl, rfl, rfl, rfl, trivial⟩ rfl
  refine fin_then ?_
  refine aw_seq ?_
  refine aw_text (rows := [_, _, _, _, _, _, _, _, _, _]) rfl (by kernel_rfl) ⟨
    ok_plain rfl rfl (op_fieldAddr (ltN rfl) rfl fo_34_0),
    ok_plain rfl rfl (op_loadN (ys := [.v (.int .i64 c.Conc.Lo), .v (.int .i64 c.Conc.Hi)]) (ltN rfl) sh_32 rfl rfl ⟨rfl, rfl, trivial⟩),
    ok_plain rfl rfl (op_fieldAddr (ltN rfl) rfl fo_34_1),
    ok_plain rfl rfl (op_loadN (ys := [.v (.int .i64 c.Thick.Lo), .v (.int .i64 c.Thick.Hi)]) (ltN rfl) sh_32 rfl rfl ⟨rfl, rfl, trivial⟩),
    ok_plain rfl rfl (op_fieldAddr (ltN rfl) rfl fo_34_2),
    ok_plain rfl rfl (op_loadN (ys := [.v (.int .i64 c.Ridge.Lo), .v (.int .i64 c.Ridge.Hi)]) (ltN rfl) sh_32 rfl rfl ⟨rfl, rfl, trivial⟩),
    ok_plain rfl rfl (op_fieldAddr (ltN rfl) rfl fo_34_3),
    ok_plain rfl rfl (op_loadN (ys := [.v (.int .i64 c.Press.Lo), .v (.int .i64 c.Press.Hi)]) (ltN rfl) sh_32 rfl rfl ⟨rfl, rfl, trivial⟩),
    ok_plain rfl rfl (op_build (x := .g [.v (.int .i64 c.Conc.Lo), .v (.int .i64 c.Conc.Hi), .v (.int .i64 c.Thick.Lo), .v (.int .i64 c.Thick.Hi), .v (.int .i64 c.Ridge.Lo), .v (.int .i64 c.Ridge.Hi), .v (.int .i64 c.Press.Lo), .v (.int .i64 c.Press.Hi)]) (ltN rfl) (EvL.cons rfl (EvL.cons rfl (EvL.cons rfl (EvL.cons rfl EvL.nil)))) (fun m w => by kernel_rfl)),
    ok_plain rfl rfl (op_storeN sz_187 rfl rfl rfl rfl rfl (by decide)),
    trivial⟩ ?_
  refine fin_keep (s' := [(.t 2, some (.x (.p 2 0))), (.b 2, some (.sh 187 8)), (.c 2 0, some (.x (.v (.int .i64 c.Conc.Lo)))), (.c 2 1, some (.x (.v (.int .i64 c.Conc.Hi)))), (.c 2 2, some (.x (.v (.int .i64 c.Thick.Lo)))), (.c 2 3, some (.x (.v (.int .i64 c.Thick.Hi)))), (.c 2 4, some (.x (.v (.int .i64 c.Ridge.Lo)))), (.c 2 5, some (.x (.v (.int .i64 c.Ridge.Hi)))), (.c 2 6, some (.x (.v (.int .i64 c.Press.Lo)))), (.c 2 7, some (.x (.v (.int .i64 c.Press.Hi))))]) ?_ ⟨rfl, rfl, rfl, rfl, rfl, rfl, rfl, rfl, rfl, rfl, trivial⟩ rfl
  refine fin_then ?_
  refine aw_ret ?_
  refine post_ret (x := .g [.v (.int .i64 c.Conc.Lo), .v (.int .i64 c.Conc.Hi), .v (.int .i64 c.Thick.Lo), .v (.int .i64 c.Thick.Hi), .v (.int .i64 c.Ridge.Lo), .v (.int .i64 c.Ridge.Hi), .v (.int .i64 c.Press.Lo), .v (.int .i64 c.Press.Hi)]) rfl rfl (resOK_cellN (ys := [.v (.int .i64 c.Conc.Lo), .v (.int .i64 c.Conc.Hi), .v (.int .i64 c.Thick.Lo), .v (.int .i64 c.Thick.Hi), .v (.int .i64 c.Ridge.Lo), .v (.int .i64 c.Ridge.Hi), .v (.int .i64 c.Press.Lo), .v (.int .i64 c.Press.Hi)]) rfl sh_187 rfl ⟨rfl, rfl, rfl, rfl, rfl, rfl, rfl, rfl, trivial⟩ resOK_nil) rfl (fun mm aa ww hr => ?_)
  show Ending.returned (.agg #[.int .i64 c.Conc.Lo, .int .i64 c.Conc.Hi, .int .i64 c.Thick.Lo, .int .i64 c.Thick.Hi, .int .i64 c.Ridge.Lo, .int .i64 c.Ridge.Hi, .int .i64 c.Press.Lo, .int .i64 c.Press.Hi]) = _ ∧ _
  first
    | exact ⟨rfl, hr.below⟩

theorem c133 (fk : Nat) (fF fC : List Value) (so : Int → Bool) (w : World) (hen : Proofs.Enters Tryd.prog fk) (hso : ∀ v w1, Below w.heap.size w w1 → 0 ≤ v → v ≤ 3 → Calls Tryd.prog fk (fF ++ (.int .i64 v :: fC)).toArray w1 fun e w2 => e = .returned (.bool (so v)) ∧ Below w1.heap.size w1 w2) : Calls Tryd.prog 133 #[.func (.func fk) fF.toArray fC.toArray] w fun e w' => e = .returned (.bool (all4 so)) ∧ Below w.heap.size w w' := by
  refine enter (args := [.v (.func (.func fk) fF.toArray fC.toArray)]) Tryd.func133 rfl (N := 13) rfl (Nat.le_of_ble_eq_true rfl) ?_
  refine aw_seq ?_
  refine aw_text (rows := [_]) rfl (by kernel_rfl) ⟨
    ok_plain rfl rfl (op_assign (ltN rfl) rfl),
    trivial⟩ ?_
  refine fin_keep (s' := [(.t 0, some (.x (.v (.func (.func fk) fF.toArray fC.toArray))))]) ?_ ⟨rfl, trivial⟩ rfl
  refine fin_then ?_
  refine aw_seq ?_
  refine aw_seq ?_
  refine aw_text (rows := [_, _]) rfl (by kernel_rfl) ⟨
    ok_plain rfl rfl (op_call (x := .g [.v (.int .i64 100), .v (.int .i64 400), .v (.int .i64 100), .v (.int .i64 3)]) (fs := []) (caps := []) (extra := []) (ltN rfl) en_151 rfl ⟨rfl, rfl, rfl⟩ EvL.nil (fun mm aa ww gg hr hrel => (c151 ww))),
    ok_plain rfl rfl (op_move (ltN rfl) rfl),
    trivial⟩ ?_
  refine fin_keep (s' := [(.t 0, some (.x (.v (.func (.func fk) fF.toArray fC.toArray)))), (.t 5, some (.x (.v (.int .i64 0))))]) ?_ ⟨rfl, rfl, trivial⟩ rfl
  refine fin_then ?_
  refine aw_block ?_
  refine aw_rounds 4 ?_
  refine aw_seq ?_
  refine aw_text (rows := [_]) rfl (by kernel_rfl) ⟨
    ok_plain rfl rfl (op_bin (r := .bool true) (ltN rfl) rfl rfl rfl),
    trivial⟩ ?_
  refine fin_keep (s' := [(.t 0, some (.x (.v (.func (.func fk) fF.toArray fC.toArray)))), (.t 5, some (.x (.v (.int .i64 0)))), (.t 6, some (.x (.v (.bool true))))]) ?_ ⟨rfl, rfl, rfl, trivial⟩ rfl
  refine fin_then ?_
  refine aw_seq ?_
  refine aw_cond rfl (fun hz1 => ?_) (fun hz1 => by cases hz1)
  refine aw_skip ?_
  refine fin_then ?_
  refine aw_seq ?_
  refine aw_block ?_
  refine aw_seq ?_
  refine aw_text (rows := [_, _]) rfl (by kernel_rfl) ⟨
    ok_plain rfl rfl (op_move (ltN rfl) rfl),
    ok_plain rfl rfl (op_assign (ltN rfl) rfl),
    trivial⟩ ?_
  refine fin_keep (s' := [(.t 0, some (.x (.v (.func (.func fk) fF.toArray fC.toArray)))), (.t 3, some (.x (.v (.int .i64 0)))), (.t 5, some (.x (.v (.int .i64 0))))]) ?_ ⟨rfl, rfl, rfl, trivial⟩ rfl
  refine fin_then ?_
  refine aw_seq ?_
  refine aw_text (rows := [_, _, _, _]) rfl (by kernel_rfl) ⟨
    ok_plain rfl rfl (op_move (ltN rfl) rfl),
    ok_plain rfl rfl (op_move (ltN rfl) rfl),
    ok_plain rfl rfl (op_callVL (x := .v (.bool (so 0))) (extra := []) (ltN rfl) hen rfl (EvL.cons rfl EvL.nil) (fun mm aa ww gg hr hrel => hso _ ww hrel.below (by omega) (by omega))),
    ok_plain rfl rfl (op_not (ltN rfl) rfl),
    trivial⟩ ?_
  refine fin_keep (s' := [(.t 0, some (.x (.v (.func (.func fk) fF.toArray fC.toArray)))), (.t 5, some (.x (.v (.int .i64 0)))), (.t 11, some (.x (.v (.bool (!(so 0))))))]) ?_ ⟨rfl, rfl, rfl, trivial⟩ rfl
  refine fin_then ?_
  refine aw_cond rfl (fun hz2 => ?_) (fun hz2 => ?_)
  · have _z := hz2
    have q3 := not_t hz2
    refine aw_seq ?_
    refine aw_text (rows := [_]) rfl (by kernel_rfl) ⟨
      ok_plain rfl rfl (op_assign (ltN rfl) rfl),
      trivial⟩ ?_
    refine fin_keep (s' := [(.t 2, some (.x (.v (.bool false))))]) ?_ ⟨rfl, trivial⟩ rfl
    refine fin_then ?_
    refine aw_ret ?_
    refine fin_block_ret ?_
    refine fin_then_ret ?_
    refine fin_then_ret ?_
    refine fin_block_ret ?_
    refine fin_then_ret ?_
    refine post_ret (x := .v (.bool false)) rfl rfl (resOK_tmp rfl resOK_nil) rfl (fun mm aa ww hr => ?_)
    show Ending.returned (.bool false) = _ ∧ _
    exact ⟨by clear hr; simp_all [all4], hr.below⟩
  · have _z := hz2
    have q4 := not_f hz2
    refine aw_skip ?_
    refine fin_block ?_
    refine fin_then ?_
    refine aw_text (rows := [_, _]) rfl (by kernel_rfl) ⟨
      ok_plain rfl rfl (op_bin (r := .int .i64 1) (ltN rfl) rfl rfl rfl),
      ok_plain rfl rfl (op_move (ltN rfl) rfl),
      trivial⟩ ?_
    refine fin_keep (s' := [(.t 0, some (.x (.v (.func (.func fk) fF.toArray fC.toArray)))), (.t 5, some (.x (.v (.int .i64 1))))]) ?_ ⟨rfl, rfl, trivial⟩ rfl
    refine fin_round ?_
    refine aw_seq ?_
    refine aw_text (rows := [_]) rfl (by kernel_rfl) ⟨
      ok_plain rfl rfl (op_bin (r := .bool true) (ltN rfl) rfl rfl rfl),
      trivial⟩ ?_
    refine fin_keep (s' := [(.t 0, some (.x (.v (.func (.func fk) fF.toArray fC.toArray)))), (.t 5, some (.x (.v (.int .i64 1)))), (.t 6, some (.x (.v (.bool true))))]) ?_ ⟨rfl, rfl, rfl, trivial⟩ rfl
    refine fin_then ?_
    refine aw_seq ?_
    refine aw_cond rfl (fun hz5 => ?_) (fun hz5 => by cases hz5)
    refine aw_skip ?_
    refine fin_then ?_
    refine aw_seq ?_
    refine aw_block ?_
    refine aw_seq ?_
    refine aw_text (rows := [_, _]) rfl (by kernel_rfl) ⟨
      ok_plain rfl rfl (op_move (ltN rfl) rfl),
      ok_plain rfl rfl (op_assign (ltN rfl) rfl),
      trivial⟩ ?_
    refine fin_keep (s' := [(.t 0, some (.x (.v (.func (.func fk) fF.toArray fC.toArray)))), (.t 3, some (.x (.v (.int .i64 1)))), (.t 5, some (.x (.v (.int .i64 1))))]) ?_ ⟨rfl, rfl, rfl, trivial⟩ rfl
    refine fin_then ?_
    refine aw_seq ?_
    refine aw_text (rows := [_, _, _, _]) rfl (by kernel_rfl) ⟨
      ok_plain rfl rfl (op_move (ltN rfl) rfl),
      ok_plain rfl rfl (op_move (ltN rfl) rfl),
      ok_plain rfl rfl (op_callVL (x := .v (.bool (so 1))) (extra := []) (ltN rfl) hen rfl (EvL.cons rfl EvL.nil) (fun mm aa ww gg hr hrel => hso _ ww hrel.below (by omega) (by omega))),
      ok_plain rfl rfl (op_not (ltN rfl) rfl),
      trivial⟩ ?_
    refine fin_keep (s' := [(.t 0, some (.x (.v (.func (.func fk) fF.toArray fC.toArray)))), (.t 5, some (.x (.v (.int .i64 1)))), (.t 11, some (.x (.v (.bool (!(so 1))))))]) ?_ ⟨rfl, rfl, rfl, trivial⟩ rfl
    refine fin_then ?_
    refine aw_cond rfl (fun hz6 => ?_) (fun hz6 => ?_)
    · have _z := hz6
      have q7 := not_t hz6
      refine aw_seq ?_
      refine aw_text (rows := [_]) rfl (by kernel_rfl) ⟨
        ok_plain rfl rfl (op_assign (ltN rfl) rfl),
        trivial⟩ ?_
      refine fin_keep (s' := [(.t 2, some (.x (.v (.bool false))))]) ?_ ⟨rfl, trivial⟩ rfl
      refine fin_then ?_
      refine aw_ret ?_
      refine fin_block_ret ?_
      refine fin_then_ret ?_
      refine fin_then_ret ?_
      refine fin_block_ret ?_
      refine fin_then_ret ?_
      refine post_ret (x := .v (.bool false)) rfl rfl (resOK_tmp rfl resOK_nil) rfl (fun mm aa ww hr => ?_)
      show Ending.returned (.bool false) = _ ∧ _
      exact ⟨by clear hr; simp_all [all4], hr.below⟩
    · have _z := hz6
      have q8 := not_f hz6
      refine aw_skip ?_
      refine fin_block ?_
      refine fin_then ?_
      refine aw_text (rows := [_, _]) rfl (by kernel_rfl) ⟨
        ok_plain rfl rfl (op_bin (r := .int .i64 2) (ltN rfl) rfl rfl rfl),
        ok_plain rfl rfl (op_move (ltN rfl) rfl),
        trivial⟩ ?_
      refine fin_keep (s' := [(.t 0, some (.x (.v (.func (.func fk) fF.toArray fC.toArray)))), (.t 5, some (.x (.v (.int .i64 2))))]) ?_ ⟨rfl, rfl, trivial⟩ rfl
      refine fin_round ?_
      refine aw_seq ?_
      refine aw_text (rows := [_]) rfl (by kernel_rfl) ⟨
        ok_plain rfl rfl (op_bin (r := .bool true) (ltN rfl) rfl rfl rfl),
        trivial⟩ ?_
      refine fin_keep (s' := [(.t 0, some (.x (.v (.func (.func fk) fF.toArray fC.toArray)))), (.t 5, some (.x (.v (.int .i64 2)))), (.t 6, some (.x (.v (.bool true))))]) ?_ ⟨rfl, rfl, rfl, trivial⟩ rfl
      refine fin_then ?_
      refine aw_seq ?_
      refine aw_cond rfl (fun hz9 => ?_) (fun hz9 => by cases hz9)
      refine aw_skip ?_
      refine fin_then ?_
      refine aw_seq ?_
      refine aw_block ?_
      refine aw_seq ?_
      refine aw_text (rows := [_, _]) rfl (by kernel_rfl) ⟨
        ok_plain rfl rfl (op_move (ltN rfl) rfl),
        ok_plain rfl rfl (op_assign (ltN rfl) rfl),
        trivial⟩ ?_
      refine fin_keep (s' := [(.t 0, some (.x (.v (.func (.func fk) fF.toArray fC.toArray)))), (.t 3, some (.x (.v (.int .i64 2)))), (.t 5, some (.x (.v (.int .i64 2))))]) ?_ ⟨rfl, rfl, rfl, trivial⟩ rfl
      refine fin_then ?_
      refine aw_seq ?_
      refine aw_text (rows := [_, _, _, _]) rfl (by kernel_rfl) ⟨
        ok_plain rfl rfl (op_move (ltN rfl) rfl),
        ok_plain rfl rfl (op_move (ltN rfl) rfl),
        ok_plain rfl rfl (op_callVL (x := .v (.bool (so 2))) (extra := []) (ltN rfl) hen rfl (EvL.cons rfl EvL.nil) (fun mm aa ww gg hr hrel => hso _ ww hrel.below (by omega) (by omega))),
        ok_plain rfl rfl (op_not (ltN rfl) rfl),
        trivial⟩ ?_
      refine fin_keep (s' := [(.t 0, some (.x (.v (.func (.func fk) fF.toArray fC.toArray)))), (.t 5, some (.x (.v (.int .i64 2)))), (.t 11, some (.x (.v (.bool (!(so 2))))))]) ?_ ⟨rfl, rfl, rfl, trivial⟩ rfl
      refine fin_then ?_
      refine aw_cond rfl (fun hz10 => ?_) (fun hz10 => ?_)
      · have _z := hz10
        have q11 := not_t hz10
        refine aw_seq ?_
        refine aw_text (rows := [_]) rfl (by kernel_rfl) ⟨
          ok_plain rfl rfl (op_assign (ltN rfl) rfl),
          trivial⟩ ?_
        refine fin_keep (s' := [(.t 2, some (.x (.v (.bool false))))]) ?_ ⟨rfl, trivial⟩ rfl
        refine fin_then ?_
        refine aw_ret ?_
        refine fin_block_ret ?_
        refine fin_then_ret ?_
        refine fin_then_ret ?_
        refine fin_block_ret ?_
        refine fin_then_ret ?_
        refine post_ret (x := .v (.bool false)) rfl rfl (resOK_tmp rfl resOK_nil) rfl (fun mm aa ww hr => ?_)
        show Ending.returned (.bool false) = _ ∧ _
        exact ⟨by clear hr; simp_all [all4], hr.below⟩
      · have _z := hz10
        have q12 := not_f hz10
        refine aw_skip ?_
        refine fin_block ?_
        refine fin_then ?_
        refine aw_text (rows := [_, _]) rfl (by kernel_rfl) ⟨
          ok_plain rfl rfl (op_bin (r := .int .i64 3) (ltN rfl) rfl rfl rfl),
          ok_plain rfl rfl (op_move (ltN rfl) rfl),
          trivial⟩ ?_
        refine fin_keep (s' := [(.t 0, some (.x (.v (.func (.func fk) fF.toArray fC.toArray)))), (.t 5, some (.x (.v (.int .i64 3))))]) ?_ ⟨rfl, rfl, trivial⟩ rfl
        refine fin_round ?_
        refine aw_seq ?_
        refine aw_text (rows := [_]) rfl (by kernel_rfl) ⟨
          ok_plain rfl rfl (op_bin (r := .bool true) (ltN rfl) rfl rfl rfl),
          trivial⟩ ?_
        refine fin_keep (s' := [(.t 0, some (.x (.v (.func (.func fk) fF.toArray fC.toArray)))), (.t 5, some (.x (.v (.int .i64 3)))), (.t 6, some (.x (.v (.bool true))))]) ?_ ⟨rfl, rfl, rfl, trivial⟩ rfl
        refine fin_then ?_
        refine aw_seq ?_
        refine aw_cond rfl (fun hz13 => ?_) (fun hz13 => by cases hz13)
        refine aw_skip ?_
        refine fin_then ?_
        refine aw_seq ?_
        refine aw_block ?_
        refine aw_seq ?_
        refine aw_text (rows := [_, _]) rfl (by kernel_rfl) ⟨
          ok_plain rfl rfl (op_move (ltN rfl) rfl),
          ok_plain rfl rfl (op_assign (ltN rfl) rfl),
          trivial⟩ ?_
        refine fin_keep (s' := [(.t 0, some (.x (.v (.func (.func fk) fF.toArray fC.toArray)))), (.t 3, some (.x (.v (.int .i64 3)))), (.t 5, some (.x (.v (.int .i64 3))))]) ?_ ⟨rfl, rfl, rfl, trivial⟩ rfl
        refine fin_then ?_
        refine aw_seq ?_
        refine aw_text (rows := [_, _, _, _]) rfl (by kernel_rfl) ⟨
          ok_plain rfl rfl (op_move (ltN rfl) rfl),
          ok_plain rfl rfl (op_move (ltN rfl) rfl),
          ok_plain rfl rfl (op_callVL (x := .v (.bool (so 3))) (extra := []) (ltN rfl) hen rfl (EvL.cons rfl EvL.nil) (fun mm aa ww gg hr hrel => hso _ ww hrel.below (by omega) (by omega))),
          ok_plain rfl rfl (op_not (ltN rfl) rfl),
          trivial⟩ ?_
        refine fin_keep (s' := [(.t 0, some (.x (.v (.func (.func fk) fF.toArray fC.toArray)))), (.t 5, some (.x (.v (.int .i64 3)))), (.t 11, some (.x (.v (.bool (!(so 3))))))]) ?_ ⟨rfl, rfl, rfl, trivial⟩ rfl
        refine fin_then ?_
        refine aw_cond rfl (fun hz14 => ?_) (fun hz14 => ?_)
        · have _z := hz14
          have q15 := not_t hz14
          refine aw_seq ?_
          refine aw_text (rows := [_]) rfl (by kernel_rfl) ⟨
            ok_plain rfl rfl (op_assign (ltN rfl) rfl),
            trivial⟩ ?_
          refine fin_keep (s' := [(.t 2, some (.x (.v (.bool false))))]) ?_ ⟨rfl, trivial⟩ rfl
          refine fin_then ?_
          refine aw_ret ?_
          refine fin_block_ret ?_
          refine fin_then_ret ?_
          refine fin_then_ret ?_
          refine fin_block_ret ?_
          refine fin_then_ret ?_
          refine post_ret (x := .v (.bool false)) rfl rfl (resOK_tmp rfl resOK_nil) rfl (fun mm aa ww hr => ?_)
          show Ending.returned (.bool false) = _ ∧ _
          exact ⟨by clear hr; simp_all [all4], hr.below⟩
        · have _z := hz14
          have q16 := not_f hz14
          refine aw_skip ?_
          refine fin_block ?_
          refine fin_then ?_
          refine aw_text (rows := [_, _]) rfl (by kernel_rfl) ⟨
            ok_plain rfl rfl (op_bin (r := .int .i64 4) (ltN rfl) rfl rfl rfl),
            ok_plain rfl rfl (op_move (ltN rfl) rfl),
            trivial⟩ ?_
          refine fin_keep (s' := [(.t 0, some (.x (.v (.func (.func fk) fF.toArray fC.toArray)))), (.t 5, some (.x (.v (.int .i64 4))))]) ?_ ⟨rfl, rfl, trivial⟩ rfl
          refine fin_round ?_
          refine aw_seq ?_
          refine aw_text (rows := [_]) rfl (by kernel_rfl) ⟨
            ok_plain rfl rfl (op_bin (r := .bool false) (ltN rfl) rfl rfl rfl),
            trivial⟩ ?_
          refine fin_keep (s' := [(.t 0, some (.x (.v (.func (.func fk) fF.toArray fC.toArray)))), (.t 5, some (.x (.v (.int .i64 4)))), (.t 6, some (.x (.v (.bool false))))]) ?_ ⟨rfl, rfl, rfl, trivial⟩ rfl
          refine fin_then ?_
          refine aw_seq ?_
          refine aw_cond rfl (fun hz17 => by cases hz17) (fun hz17 => ?_)
          refine aw_exit ?_
          refine fin_then_exit ?_
          refine fin_then_exit ?_
          refine fin_block_exit ?_
          refine fin_then ?_
          refine aw_seq ?_
          refine aw_text (rows := [_]) rfl (by kernel_rfl) ⟨
            ok_plain rfl rfl (op_assign (ltN rfl) rfl),
            trivial⟩ ?_
          refine fin_keep (s' := [(.t 2, some (.x (.v (.bool true))))]) ?_ ⟨rfl, trivial⟩ rfl
          refine fin_then ?_
          refine aw_ret ?_
          refine post_ret (x := .v (.bool true)) rfl rfl (resOK_tmp rfl resOK_nil) rfl (fun mm aa ww hr => ?_)
          show Ending.returned (.bool true) = _ ∧ _
          exact ⟨by clear hr; simp_all [all4], hr.below⟩

theorem c162 (n : Int) (t : List Int) (t_b : Nat) (w : World) (ht_box : BoxAt w t_b (t.map (fun n => Value.int .i64 n))) (ht_n : t.length = 4) (hn : 0 ≤ n ∧ n ≤ 3) : Calls Tryd.prog 162 #[.int .i64 n, .pointer (some ⟨t_b, 0, none⟩)] w fun e w' => e = .returned (.bool (inI (t.getD n.toNat 0) 0 (([100, 400, 100, 3] : List Int).getD n.toNat 0))) ∧ Below w.heap.size w w' := by
  have h4 : ([100, 400, 100, 3] : List Int).length = 4 := rfl
  refine enter (args := [.v (.int .i64 n), .v (.pointer (some ⟨t_b, 0, none⟩))]) Tryd.func162 rfl (N := 11) rfl (Nat.le_of_ble_eq_true rfl) ?_
  refine aw_seq ?_
  refine aw_text (rows := [_]) rfl (by kernel_rfl) ⟨
    ok_plain rfl rfl (op_assign (ltN rfl) rfl),
    trivial⟩ ?_
  refine fin_keep (s' := [(.t 0, some (.x (.v (.int .i64 n)))), (.t 1, some (.x (.v (.pointer (some ⟨t_b, 0, none⟩)))))]) ?_ ⟨rfl, rfl, trivial⟩ rfl
  refine fin_then ?_
  refine aw_seq ?_
  refine aw_any (rows := [_, _, _, _, _, _, _, _]) (M := [0, 1, 3, 0, 0, 24, 63, 127]) Tryd_mixed (by kernel_rfl) rfl (by kernel_rfl) ⟨
    ok_plain rfl rfl (op_move (ltN rfl) rfl),
    ok_plain rfl rfl (op_ixAB (ltN rfl) rfl rfl ar_206 (by omega) (by omega)),
    ok_plain rfl rfl (op_loadB (y := .v (.int .i64 ((t : List Int).getD n.toNat 0))) (ltN rfl) rfl (ldTab (l := t) ht_box (by omega) (by omega) (by simp) sh_3)),
    ok_plain rfl rfl (op_call (x := .g [.v (.int .i64 100), .v (.int .i64 400), .v (.int .i64 100), .v (.int .i64 3)]) (fs := []) (caps := []) (extra := []) (ltN rfl) en_151 rfl ⟨rfl, rfl, rfl⟩ EvL.nil (fun mm aa ww gg hr hrel => (c151 ww))),
    ok_plain rfl rfl (op_move (ltN rfl) rfl),
    ok_plain rfl rfl (op_index (ltN rfl) rfl rfl ar_206 ⟨_, _, un_206, sh_3⟩ (by omega) (by omega) (ixInt [100, 400, 100, 3] (by omega) (by omega))),
    ok_plain rfl rfl (op_call (x := .v (.bool (inI ((t : List Int).getD n.toNat 0) 0 (([100, 400, 100, 3] : List Int).getD n.toNat 0)))) (fs := []) (caps := []) (extra := []) (ltN rfl) en_124 rfl ⟨rfl, rfl, rfl⟩ (EvL.cons rfl (EvL.cons rfl (EvL.cons rfl EvL.nil))) (fun mm aa ww gg hr hrel => (c124 ((t : List Int).getD n.toNat 0) 0 (([100, 400, 100, 3] : List Int).getD n.toNat 0) ww))),
    ok_plain rfl rfl (op_assign (ltN rfl) rfl),
    trivial⟩ ?_
  refine fin_keep (s' := [(.t 3, some (.x (.v (.bool (inI ((t : List Int).getD n.toNat 0) 0 (([100, 400, 100, 3] : List Int).getD n.toNat 0))))))]) ?_ ⟨rfl, trivial⟩ rfl
  refine fin_then ?_
  refine aw_ret ?_
  refine post_ret (x := .v (.bool (inI ((t : List Int).getD n.toNat 0) 0 (([100, 400, 100, 3] : List Int).getD n.toNat 0)))) rfl rfl (resOK_tmp rfl resOK_nil) rfl (fun mm aa ww hr => ?_)
  show Ending.returned (.bool (inI ((t : List Int).getD n.toNat 0) 0 (([100, 400, 100, 3] : List Int).getD n.toNat 0))) = _ ∧ _
  first
    | exact ⟨rfl, hr.below⟩

theorem c132 (i : Ice) (w : World)  : Calls Tryd.prog 132 #[.agg #[.int .i64 i.Conc, .int .i64 i.Thick, .int .i64 i.Ridge, .int .i64 i.Press]] w fun e w' => e = .returned (.int .i64 (checkIce i)) ∧ Below w.heap.size w w' := by
  refine enter (args := [.g [.v (.int .i64 i.Conc), .v (.int .i64 i.Thick), .v (.int .i64 i.Ridge), .v (.int .i64 i.Press)]]) Tryd.func132 rfl (N := 9) rfl (Nat.le_of_ble_eq_true rfl) ?_
  refine aw_seq ?_
  refine aw_text (rows := [_, _]) rfl (by kernel_rfl) ⟨
    ok_plain rfl rfl (op_boxN (L := 1) (ltN rfl) rfl rfl rfl),
    ok_plain rfl rfl (op_assign (ltN rfl) rfl),
    trivial⟩ ?_
  refine fin_keep (s' := [(.t 1, some (.x (.p 1 0))), (.b 1, some (.sh 28 4)), (.c 1 0, some (.x (.v (.int .i64 i.Conc)))), (.c 1 1, some (.x (.v (.int .i64 i.Thick)))), (.c 1 2, some (.x (.v (.int .i64 i.Ridge)))), (.c 1 3, some (.x (.v (.int .i64 i.Press))))]) ?_ ⟨rfl, rfl, rfl, rfl, rfl, rfl, trivial⟩ rfl
  refine fin_then ?_
  refine aw_seq ?_
  refine aw_seq ?_
  refine aw_text (rows := [_, _, _, _]) rfl (by kernel_rfl) ⟨
    ok_plain rfl rfl (op_loadN (ys := [.v (.int .i64 i.Conc), .v (.int .i64 i.Thick), .v (.int .i64 i.Ridge), .v (.int .i64 i.Press)]) (ltN rfl) sh_28 rfl rfl ⟨rfl, rfl, rfl, rfl, trivial⟩),
    ok_plain rfl rfl (op_call (x := .g [.v (.int .i64 i.Conc), .v (.int .i64 i.Thick), .v (.int .i64 i.Ridge), .v (.int .i64 i.Press)]) (fs := []) (caps := []) (extra := []) (ltN rfl) en_146 rfl ⟨rfl, rfl, rfl⟩ (EvL.cons rfl EvL.nil) (fun mm aa ww gg hr hrel => (c146 i ww))),
    ok_plain rfl rfl (op_alloc (L := 2) (ltN rfl) zl_206),
    ok_plain rfl rfl (op_storeN sz_206 rfl rfl rfl rfl rfl (by decide)),
    trivial⟩ ?_
  refine fin_keep (s' := [(.t 3, some (.x (.p 2 0))), (.b 2, some (.sh 206 4)), (.c 2 0, some (.x (.v (.int .i64 i.Conc)))), (.c 2 1, some (.x (.v (.int .i64 i.Thick)))), (.c 2 2, some (.x (.v (.int .i64 i.Ridge)))), (.c 2 3, some (.x (.v (.int .i64 i.Press))))]) ?_ ⟨rfl, rfl, rfl, rfl, rfl, rfl, trivial⟩ rfl
  refine fin_then ?_
  refine aw_seq ?_
  refine aw_text (rows := [_, _, _]) rfl (by kernel_rfl) ⟨
    ok_plain rfl rfl (op_mkfn (ltN rfl) EvL.nil (EvL.cons rfl EvL.nil)),
    ok_plain rfl rfl (op_call (x := .v (.bool (all4 ((fun vv => inI (([i.Conc, i.Thick, i.Ridge, i.Press]).getD vv.toNat 0) 0 (([100, 400, 100, 3] : List Int).getD vv.toNat 0)))))) (fs := []) (caps := []) (extra := (.b 2 :: cellKeys 2 0 4) ++ []) (ltN rfl) en_133 rfl ⟨rfl, rfl, rfl⟩ (EvL.cons rfl EvL.nil) (fun mm aa ww gg hr hrel => (c133 162 (denL mm []) (denL mm [.p 2 0]) (fun vv => inI (([i.Conc, i.Thick, i.Ridge, i.Press]).getD vv.toNat 0) 0 (([100, 400, 100, 3] : List Int).getD vv.toNat 0)) ww en_162 (fun vv w1 hb1 h1 h2 => (c162 vv [i.Conc, i.Thick, i.Ridge, i.Press] (mm 2) w1 (BoxAt.mono (boxAt (L := 2) (vs := [(.int .i64 i.Conc), (.int .i64 i.Thick), (.int .i64 i.Ridge), (.int .i64 i.Press)]) hrel (fun k hk => hr k (List.mem_append_left _ hk)) rfl ⟨rfl, rfl, rfl, rfl, trivial⟩) hb1) rfl (by omega)))))),
    ok_plain rfl rfl (op_not (ltN rfl) rfl),
    trivial⟩ ?_
  refine fin_keep (s' := [(.t 8, some (.x (.v (.bool (!(all4 ((fun vv => inI (([i.Conc, i.Thick, i.Ridge, i.Press]).getD vv.toNat 0) 0 (([100, 400, 100, 3] : List Int).getD vv.toNat 0)))))))))]) ?_ ⟨rfl, trivial⟩ rfl
  refine fin_then ?_
  refine aw_cond rfl (fun hz1 => ?_) (fun hz1 => ?_)
  · have _z := hz1
    have q2 := not_t hz1
    refine aw_seq ?_
    refine aw_text (rows := [_]) rfl (by kernel_rfl) ⟨
      ok_plain rfl rfl (op_assign (ltN rfl) rfl),
      trivial⟩ ?_
    refine fin_keep (s' := [(.t 2, some (.x (.v (.int .i64 20))))]) ?_ ⟨rfl, trivial⟩ rfl
    refine fin_then ?_
    refine aw_ret ?_
    refine fin_then_ret ?_
    refine post_ret (x := .v (.int .i64 20)) rfl rfl (resOK_tmp rfl resOK_nil) rfl (fun mm aa ww hr => ?_)
    show Ending.returned (.int .i64 20) = _ ∧ _
    exact ⟨by rw [checkIce]; first | rw [not_t hz1]; rfl | rw [not_f hz1]; rfl, hr.below⟩
  · have _z := hz1
    have q3 := not_f hz1
    refine aw_skip ?_
    refine fin_then ?_
    refine aw_seq ?_
    refine aw_text (rows := [_]) rfl (by kernel_rfl) ⟨
      ok_plain rfl rfl (op_assign (ltN rfl) rfl),
      trivial⟩ ?_
    refine fin_keep (s' := [(.t 2, some (.x (.v (.int .i64 0))))]) ?_ ⟨rfl, trivial⟩ rfl
    refine fin_then ?_
    refine aw_ret ?_
    refine post_ret (x := .v (.int .i64 0)) rfl rfl (resOK_tmp rfl resOK_nil) rfl (fun mm aa ww hr => ?_)
    show Ending.returned (.int .i64 0) = _ ∧ _
    exact ⟨by rw [checkIce]; first | rw [not_t hz1]; rfl | rw [not_f hz1]; rfl, hr.below⟩

theorem c135 (s : Span) (n : Int) (w : World) (hn : 0 ≤ n ∧ n ≤ 3) : Calls Tryd.prog 135 #[.agg #[.int .i64 s.Lo, .int .i64 s.Hi], .int .i64 n] w fun e w' => e = .returned (.bool (rightS s n)) ∧ Below w.heap.size w w' := by
  have h4 : ([100, 400, 100, 3] : List Int).length = 4 := rfl
  refine enter (args := [.g [.v (.int .i64 s.Lo), .v (.int .i64 s.Hi)], .v (.int .i64 n)]) Tryd.func135 rfl (N := 21) rfl (Nat.le_of_ble_eq_true rfl) ?_
  refine aw_seq ?_
  refine aw_text (rows := [_, _]) rfl (by kernel_rfl) ⟨
    ok_plain rfl rfl (op_boxN (L := 1) (ltN rfl) rfl rfl rfl),
    ok_plain rfl rfl (op_assign (ltN rfl) rfl),
    trivial⟩ ?_
  refine fin_keep (s' := [(.t 1, some (.x (.v (.int .i64 n)))), (.t 2, some (.x (.p 1 0))), (.b 1, some (.sh 32 2)), (.c 1 0, some (.x (.v (.int .i64 s.Lo)))), (.c 1 1, some (.x (.v (.int .i64 s.Hi))))]) ?_ ⟨rfl, rfl, rfl, rfl, rfl, trivial⟩ rfl
  refine fin_then ?_
  refine aw_seq ?_
  refine aw_any (rows := [_, _, _, _, _, _, _, _, _, _, _, _, _, _, _, _, _]) (M := [0, 1, 0, 0, 12, 31, 63, 127, 255, 127, 639, 127, 127, 6271, 16383, 32767, 65535]) Tryd_mixed (by kernel_rfl) rfl (by kernel_rfl) ⟨
    ok_plain rfl rfl (op_fieldAddr (ltN rfl) rfl fo_32_0),
    ok_plain rfl rfl (op_load1 (ltN rfl) sh_3 rfl rfl),
    ok_plain rfl rfl (op_call (x := .g [.v (.int .i64 100), .v (.int .i64 400), .v (.int .i64 100), .v (.int .i64 3)]) (fs := []) (caps := []) (extra := []) (ltN rfl) en_151 rfl ⟨rfl, rfl, rfl⟩ EvL.nil (fun mm aa ww gg hr hrel => (c151 ww))),
    ok_plain rfl rfl (op_move (ltN rfl) rfl),
    ok_plain rfl rfl (op_index (ltN rfl) rfl rfl ar_206 ⟨_, _, un_206, sh_3⟩ (by omega) (by omega) (ixInt [100, 400, 100, 3] (by omega) (by omega))),
    ok_plain rfl rfl (op_call (x := .v (.bool (inI s.Lo 0 (([100, 400, 100, 3] : List Int).getD n.toNat 0)))) (fs := []) (caps := []) (extra := []) (ltN rfl) en_124 rfl ⟨rfl, rfl, rfl⟩ (EvL.cons rfl (EvL.cons rfl (EvL.cons rfl EvL.nil))) (fun mm aa ww gg hr hrel => (c124 s.Lo 0 (([100, 400, 100, 3] : List Int).getD n.toNat 0) ww))),
    ok_plain rfl rfl (op_move (ltN rfl) rfl),
    ok_if (ltN rfl) rfl rfl rfl rfl rfl rfl (fun hg1 => op_fieldAddr (ltN rfl) (force_x rfl) fo_32_1),
    ok_if (ltN rfl) rfl rfl rfl rfl rfl rfl (fun hg2 => op_load1 (ltN rfl) sh_3 (force_eq (beq_iff_eq.2 hg2) rfl) rfl),
    ok_if (ltN rfl) rfl rfl rfl rfl rfl rfl (fun hg3 => op_fieldAddr (ltN rfl) (force_x rfl) fo_32_0),
    ok_if (ltN rfl) rfl rfl rfl rfl rfl rfl (fun hg4 => op_load1 (ltN rfl) sh_3 (force_eq (beq_iff_eq.2 hg4) rfl) rfl),
    ok_if (ltN rfl) rfl rfl rfl rfl rfl rfl (fun hg5 => op_call (x := .g [.v (.int .i64 100), .v (.int .i64 400), .v (.int .i64 100), .v (.int .i64 3)]) (fs := []) (caps := []) (extra := []) (ltN rfl) en_151 rfl ⟨rfl, rfl, rfl⟩ EvL.nil (fun mm aa ww gg hr hrel => (c151 ww))),
    ok_if (ltN rfl) rfl rfl rfl rfl rfl rfl (fun hg6 => op_move (ltN rfl) (force_x rfl)),
    ok_if (ltN rfl) rfl rfl rfl rfl rfl rfl (fun hg7 => op_index (ltN rfl) (force_eq (beq_iff_eq.2 hg7) rfl) (force_eq (beq_iff_eq.2 hg7) rfl) ar_206 ⟨_, _, un_206, sh_3⟩ (by have g0 := hg7; omega) (by have g0 := hg7; omega) (ixInt [100, 400, 100, 3] (by have g0 := hg7; omega) (by have g0 := hg7; omega))),
    ok_if (ltN rfl) rfl rfl rfl rfl rfl rfl (fun hg8 => op_call (x := .v (.bool (inI s.Hi s.Lo (([100, 400, 100, 3] : List Int).getD n.toNat 0)))) (fs := []) (caps := []) (extra := []) (ltN rfl) en_124 rfl ⟨rfl, rfl, rfl⟩ (EvL.cons (force_eq (beq_iff_eq.2 hg8) rfl) (EvL.cons (force_eq (beq_iff_eq.2 hg8) rfl) (EvL.cons (force_eq (beq_iff_eq.2 hg8) rfl) EvL.nil))) (fun mm aa ww gg hr hrel => (c124 s.Hi s.Lo (([100, 400, 100, 3] : List Int).getD n.toNat 0) ww))),
    ok_plain rfl rfl (op_and (ltN rfl) rfl rfl),
    ok_plain rfl rfl (op_assign (ltN rfl) rfl),
    trivial⟩ ?_
  refine fin_keep (s' := [(.t 4, some (.x (.v (.bool ((inI s.Lo 0 (([100, 400, 100, 3] : List Int).getD n.toNat 0)) && (inI s.Hi s.Lo (([100, 400, 100, 3] : List Int).getD n.toNat 0)))))))]) ?_ ⟨rfl, trivial⟩ rfl
  refine fin_then ?_
  refine aw_ret ?_
  refine post_ret (x := .v (.bool ((inI s.Lo 0 (([100, 400, 100, 3] : List Int).getD n.toNat 0)) && (inI s.Hi s.Lo (([100, 400, 100, 3] : List Int).getD n.toNat 0))))) rfl rfl (resOK_tmp rfl resOK_nil) rfl (fun mm aa ww hr => ?_)
  show Ending.returned (.bool ((inI s.Lo 0 (([100, 400, 100, 3] : List Int).getD n.toNat 0)) && (inI s.Hi s.Lo (([100, 400, 100, 3] : List Int).getD n.toNat 0)))) = _ ∧ _
  first
    | exact ⟨rfl, hr.below⟩

theorem c134 (n : Int) (t : List Span) (t_b : Nat) (w : World) (ht_box : BoxAt w t_b (t.flatMap encSpan)) (ht_n : t.length = 4) (hn : 0 ≤ n ∧ n ≤ 3) : Calls Tryd.prog 134 #[.int .i64 n, .pointer (some ⟨t_b, 0, none⟩)] w fun e w' => e = .returned (.bool (rightS (t.getD n.toNat ⟨0, 0⟩) n)) ∧ Below w.heap.size w w' := by
  refine enter (args := [.v (.int .i64 n), .v (.pointer (some ⟨t_b, 0, none⟩))]) Tryd.func134 rfl (N := 9) rfl (Nat.le_of_ble_eq_true rfl) ?_
  refine aw_seq ?_
  refine aw_text (rows := [_]) rfl (by kernel_rfl) ⟨
    ok_plain rfl rfl (op_assign (ltN rfl) rfl),
    trivial⟩ ?_
  refine fin_keep (s' := [(.t 0, some (.x (.v (.int .i64 n)))), (.t 1, some (.x (.v (.pointer (some ⟨t_b, 0, none⟩)))))]) ?_ ⟨rfl, rfl, trivial⟩ rfl
  refine fin_then ?_
  refine aw_seq ?_
  refine aw_text (rows := [_, _, _, _, _, _]) rfl (by kernel_rfl) ⟨
    ok_plain rfl rfl (op_move (ltN rfl) rfl),
    ok_plain rfl rfl (op_ixAB (ltN rfl) rfl rfl ar_187 (by omega) (by omega)),
    ok_plain rfl rfl (op_loadB (y := .g [.v (.int .i64 (((t.getD n.toNat ⟨0, 0⟩)).Lo)), .v (.int .i64 (((t.getD n.toNat ⟨0, 0⟩)).Hi))]) (ltN rfl) rfl (ldCells ht_box.1 (o := n.toNat * 2 + 0) (vs := [(.int .i64 (((t.getD n.toNat ⟨0, 0⟩)).Lo)), (.int .i64 (((t.getD n.toNat ⟨0, 0⟩)).Hi))]) (fun zq zv zh => ht_box.2 _ zv (flat_sub (k := 2) (l := t) (enc := encSpan) (fun _ => rfl) ⟨0, 0⟩ (i := n) (by omega) (by omega) 0 (vs := [(.int .i64 (((t.getD n.toNat ⟨0, 0⟩)).Lo)), (.int .i64 (((t.getD n.toNat ⟨0, 0⟩)).Hi))]) rfl zh)) (by omega) sh_32 rfl)),
    ok_plain rfl rfl (op_move (ltN rfl) rfl),
    ok_plain rfl rfl (op_call (x := .v (.bool (rightS ((t.getD n.toNat ⟨0, 0⟩)) n))) (fs := []) (caps := []) (extra := []) (ltN rfl) en_135 rfl ⟨rfl, rfl, rfl⟩ (EvL.cons rfl (EvL.cons rfl EvL.nil)) (fun mm aa ww gg hr hrel => (c135 ((t.getD n.toNat ⟨0, 0⟩)) n ww (by first | assumption | omega)))),
    ok_plain rfl rfl (op_assign (ltN rfl) rfl),
    trivial⟩ ?_
  refine fin_keep (s' := [(.t 3, some (.x (.v (.bool (rightS ((t.getD n.toNat ⟨0, 0⟩)) n)))))]) ?_ ⟨rfl, trivial⟩ rfl
  refine fin_then ?_
  refine aw_ret ?_
  refine post_ret (x := .v (.bool (rightS ((t.getD n.toNat ⟨0, 0⟩)) n))) rfl rfl (resOK_tmp rfl resOK_nil) rfl (fun mm aa ww hr => ?_)
  show Ending.returned (.bool (rightS ((t.getD n.toNat ⟨0, 0⟩)) n)) = _ ∧ _
  first
    | exact ⟨rfl, hr.below⟩

theorem c85 (c : Cell) (w : World)  : Calls Tryd.prog 85 #[.agg #[.int .i64 c.Conc.Lo, .int .i64 c.Conc.Hi, .int .i64 c.Thick.Lo, .int .i64 c.Thick.Hi, .int .i64 c.Ridge.Lo, .int .i64 c.Ridge.Hi, .int .i64 c.Press.Lo, .int .i64 c.Press.Hi]] w fun e w' => e = .returned (.int .i64 (checkCell c)) ∧ Below w.heap.size w w' := by
  refine enter (args := [.g [.v (.int .i64 c.Conc.Lo), .v (.int .i64 c.Conc.Hi), .v (.int .i64 c.Thick.Lo), .v (.int .i64 c.Thick.Hi), .v (.int .i64 c.Ridge.Lo), .v (.int .i64 c.Ridge.Hi), .v (.int .i64 c.Press.Lo), .v (.int .i64 c.Press.Hi)]]) Tryd.func85 rfl (N := 9) rfl (Nat.le_of_ble_eq_true rfl) ?_
  refine aw_seq ?_
  refine aw_text (rows := [_, _]) rfl (by kernel_rfl) ⟨
    ok_plain rfl rfl (op_boxN (L := 1) (ltN rfl) rfl rfl rfl),
    ok_plain rfl rfl (op_assign (ltN rfl) rfl),
    trivial⟩ ?_
  refine fin_keep (s' := [(.t 1, some (.x (.p 1 0))), (.b 1, some (.sh 34 8)), (.c 1 0, some (.x (.v (.int .i64 c.Conc.Lo)))), (.c 1 1, some (.x (.v (.int .i64 c.Conc.Hi)))), (.c 1 2, some (.x (.v (.int .i64 c.Thick.Lo)))), (.c 1 3, some (.x (.v (.int .i64 c.Thick.Hi)))), (.c 1 4, some (.x (.v (.int .i64 c.Ridge.Lo)))), (.c 1 5, some (.x (.v (.int .i64 c.Ridge.Hi)))), (.c 1 6, some (.x (.v (.int .i64 c.Press.Lo)))), (.c 1 7, some (.x (.v (.int .i64 c.Press.Hi))))]) ?_ ⟨rfl, rfl, rfl, rfl, rfl, rfl, rfl, rfl, rfl, rfl, trivial⟩ rfl
  refine fin_then ?_
  refine aw_seq ?_
  refine aw_seq ?_
  refine aw_text (rows := [_, _, _, _]) rfl (by kernel_rfl) ⟨
    ok_plain rfl rfl (op_loadN (ys := [.v (.int .i64 c.Conc.Lo), .v (.int .i64 c.Conc.Hi), .v (.int .i64 c.Thick.Lo), .v (.int .i64 c.Thick.Hi), .v (.int .i64 c.Ridge.Lo), .v (.int .i64 c.Ridge.Hi), .v (.int .i64 c.Press.Lo), .v (.int .i64 c.Press.Hi)]) (ltN rfl) sh_34 rfl rfl ⟨rfl, rfl, rfl, rfl, rfl, rfl, rfl, rfl, trivial⟩),
    ok_plain rfl rfl (op_call (x := .g [.v (.int .i64 c.Conc.Lo), .v (.int .i64 c.Conc.Hi), .v (.int .i64 c.Thick.Lo), .v (.int .i64 c.Thick.Hi), .v (.int .i64 c.Ridge.Lo), .v (.int .i64 c.Ridge.Hi), .v (.int .i64 c.Press.Lo), .v (.int .i64 c.Press.Hi)]) (fs := []) (caps := []) (extra := []) (ltN rfl) en_125 rfl ⟨rfl, rfl, rfl⟩ (EvL.cons rfl EvL.nil) (fun mm aa ww gg hr hrel => (c125 c ww))),
    ok_plain rfl rfl (op_alloc (L := 2) (ltN rfl) zl_187),
    ok_plain rfl rfl (op_storeN sz_187 rfl rfl rfl rfl rfl (by decide)),
    trivial⟩ ?_
  refine fin_keep (s' := [(.t 3, some (.x (.p 2 0))), (.b 2, some (.sh 187 8)), (.c 2 0, some (.x (.v (.int .i64 c.Conc.Lo)))), (.c 2 1, some (.x (.v (.int .i64 c.Conc.Hi)))), (.c 2 2, some (.x (.v (.int .i64 c.Thick.Lo)))), (.c 2 3, some (.x (.v (.int .i64 c.Thick.Hi)))), (.c 2 4, some (.x (.v (.int .i64 c.Ridge.Lo)))), (.c 2 5, some (.x (.v (.int .i64 c.Ridge.Hi)))), (.c 2 6, some (.x (.v (.int .i64 c.Press.Lo)))), (.c 2 7, some (.x (.v (.int .i64 c.Press.Hi))))]) ?_ ⟨rfl, rfl, rfl, rfl, rfl, rfl, rfl, rfl, rfl, rfl, trivial⟩ rfl
  refine fin_then ?_
  refine aw_seq ?_
  refine aw_text (rows := [_, _, _]) rfl (by kernel_rfl) ⟨
    ok_plain rfl rfl (op_mkfn (ltN rfl) EvL.nil (EvL.cons rfl EvL.nil)),
    ok_plain rfl rfl (op_call (x := .v (.bool (all4 ((fun vv => rightS (([c.Conc, c.Thick, c.Ridge, c.Press]).getD vv.toNat ⟨0, 0⟩) vv))))) (fs := []) (caps := []) (extra := (.b 2 :: cellKeys 2 0 8) ++ []) (ltN rfl) en_133 rfl ⟨rfl, rfl, rfl⟩ (EvL.cons rfl EvL.nil) (fun mm aa ww gg hr hrel => (c133 134 (denL mm []) (denL mm [.p 2 0]) (fun vv => rightS (([c.Conc, c.Thick, c.Ridge, c.Press]).getD vv.toNat ⟨0, 0⟩) vv) ww en_134 (fun vv w1 hb1 h1 h2 => (c134 vv [c.Conc, c.Thick, c.Ridge, c.Press] (mm 2) w1 (BoxAt.mono (boxAt (L := 2) (vs := [(.int .i64 c.Conc.Lo), (.int .i64 c.Conc.Hi), (.int .i64 c.Thick.Lo), (.int .i64 c.Thick.Hi), (.int .i64 c.Ridge.Lo), (.int .i64 c.Ridge.Hi), (.int .i64 c.Press.Lo), (.int .i64 c.Press.Hi)]) hrel (fun k hk => hr k (List.mem_append_left _ hk)) rfl ⟨rfl, rfl, rfl, rfl, rfl, rfl, rfl, rfl, trivial⟩) hb1) rfl (by omega)))))),
    ok_plain rfl rfl (op_not (ltN rfl) rfl),
    trivial⟩ ?_
  refine fin_keep (s' := [(.t 8, some (.x (.v (.bool (!(all4 ((fun vv => rightS (([c.Conc, c.Thick, c.Ridge, c.Press]).getD vv.toNat ⟨0, 0⟩) vv))))))))]) ?_ ⟨rfl, trivial⟩ rfl
  refine fin_then ?_
  refine aw_cond rfl (fun hz1 => ?_) (fun hz1 => ?_)
  · have _z := hz1
    have q2 := not_t hz1
    refine aw_seq ?_
    refine aw_text (rows := [_]) rfl (by kernel_rfl) ⟨
      ok_plain rfl rfl (op_assign (ltN rfl) rfl),
      trivial⟩ ?_
    refine fin_keep (s' := [(.t 2, some (.x (.v (.int .i64 20))))]) ?_ ⟨rfl, trivial⟩ rfl
    refine fin_then ?_
    refine aw_ret ?_
    refine fin_then_ret ?_
    refine post_ret (x := .v (.int .i64 20)) rfl rfl (resOK_tmp rfl resOK_nil) rfl (fun mm aa ww hr => ?_)
    show Ending.returned (.int .i64 20) = _ ∧ _
    exact ⟨by rw [checkCell]; first | rw [not_t hz1]; rfl | rw [not_f hz1]; rfl, hr.below⟩
  · have _z := hz1
    have q3 := not_f hz1
    refine aw_skip ?_
    refine fin_then ?_
    refine aw_seq ?_
    refine aw_text (rows := [_]) rfl (by kernel_rfl) ⟨
      ok_plain rfl rfl (op_assign (ltN rfl) rfl),
      trivial⟩ ?_
    refine fin_keep (s' := [(.t 2, some (.x (.v (.int .i64 0))))]) ?_ ⟨rfl, trivial⟩ rfl
    refine fin_then ?_
    refine aw_ret ?_
    refine post_ret (x := .v (.int .i64 0)) rfl rfl (resOK_tmp rfl resOK_nil) rfl (fun mm aa ww hr => ?_)
    show Ending.returned (.int .i64 0) = _ ∧ _
    exact ⟨by rw [checkCell]; first | rw [not_t hz1]; rfl | rw [not_f hz1]; rfl, hr.below⟩

end Go.Proofs.T
