import Derived.Test.YtgpcfckbcldokaaDoorHO
import Derived.Test.YtgpcfckbcldokaaDoorHP4
namespace Go.Proofs.T
open Go Go.AX Go.RowKit Hull
theorem en_105 : Proofs.Enters Tryd.prog 105 := Proofs.enters_of Tryd.func105 (by kernel_rfl) rfl
theorem en_104 : Proofs.Enters Tryd.prog 104 := Proofs.enters_of Tryd.func104 (by kernel_rfl) rfl
theorem en_91 : Proofs.Enters Tryd.prog 91 := Proofs.enters_of Tryd.func91 (by kernel_rfl) rfl

theorem c104 (n : Int) (s : Ship) (s_Thrust_s : SlV) (s_Water_s : SlV) (s_Ice_s : SlV) (s_b : Nat) (ch : Bool) (ch_b : Nat) (v : Int) (v_b : Nat) (w : World) (hs_Thrust : SlIs encPt 2 w s_Thrust_s s.Thrust) (hs_Water : SlIs encPt 2 w s_Water_s s.Water) (hs_Ice : SlIs encPt 2 w s_Ice_s s.Ice) (hs_box : BoxAt w s_b [.int .i64 s.Class, .int .i64 s.Power, .int .i64 s.Draught, .int .i64 s.Tonnes, .slice s_Thrust_s.p s_Thrust_s.n s_Thrust_s.c, .slice s_Water_s.p s_Water_s.n s_Water_s.c, .slice s_Ice_s.p s_Ice_s.n s_Ice_s.c, .int .i64 s.Slow, .int .i64 s.Brash, .int .i64 s.Ridge, .int .i64 s.Press]) (hch_box : BoxAt w ch_b [.bool ch]) (hv_box : BoxAt w v_b [.int .i64 v]) (hc : check s = 0) (hn : 0 ≤ n ∧ n ≤ 400) (hv : 0 ≤ v ∧ v ≤ 255) : Calls Tryd.prog 104 #[.int .i64 n, .pointer (some ⟨s_b, 0, none⟩), .pointer (some ⟨ch_b, 0, none⟩), .pointer (some ⟨v_b, 0, none⟩)] w fun e w' => e = .returned (.bool (makes s (lev n) ch v)) ∧ Below w.heap.size w w' := by
  obtain ⟨s_Thrust_p, s_Thrust_n, s_Thrust_c⟩ := s_Thrust_s
  have hs_Thrust_l : s_Thrust_n = s.Thrust.length := hs_Thrust.1
  subst hs_Thrust_l
  obtain ⟨s_Thrust_b, s_Thrust_o, hs_Thrust_p, hs_Thrust_L⟩ := SlAt.lies' hs_Thrust
  obtain ⟨s_Water_p, s_Water_n, s_Water_c⟩ := s_Water_s
  have hs_Water_l : s_Water_n = s.Water.length := hs_Water.1
  subst hs_Water_l
  obtain ⟨s_Water_b, s_Water_o, hs_Water_p, hs_Water_L⟩ := SlAt.lies' hs_Water
  obtain ⟨s_Ice_p, s_Ice_n, s_Ice_c⟩ := s_Ice_s
  have hs_Ice_l : s_Ice_n = s.Ice.length := hs_Ice.1
  subst hs_Ice_l
  obtain ⟨s_Ice_b, s_Ice_o, hs_Ice_p, hs_Ice_L⟩ := SlAt.lies' hs_Ice
  have hi := lev_good hn
  have hi : goodIce ⟨100, n, 0, 0⟩ := hi
  refine enter (args := [.v (.int .i64 n), .v (.pointer (some ⟨s_b, 0, none⟩)), .v (.pointer (some ⟨ch_b, 0, none⟩)), .v (.pointer (some ⟨v_b, 0, none⟩))]) Tryd.func104 rfl (N := 12) rfl (Nat.le_of_ble_eq_true rfl) ?_
  refine aw_seq ?_
  refine aw_text (rows := [_]) rfl (by kernel_rfl) ⟨
    ok_plain rfl rfl (op_assign (ltN rfl) rfl),
    trivial⟩ ?_
  refine fin_keep (s' := [(.t 0, some (.x (.v (.int .i64 n)))), (.t 1, some (.x (.v (.pointer (some ⟨s_b, 0, none⟩))))), (.t 2, some (.x (.v (.pointer (some ⟨ch_b, 0, none⟩))))), (.t 3, some (.x (.v (.pointer (some ⟨v_b, 0, none⟩)))))]) ?_ ⟨rfl, rfl, rfl, rfl, trivial⟩ rfl
  refine fin_then ?_
  refine aw_seq ?_
  refine aw_any (rows := [_, _, _, _, _, _, _]) (M := [0, 1, 0, 7, 0, 31, 63]) Tryd_mixed (by kernel_rfl) rfl (by kernel_rfl) ⟨
    ok_plain rfl rfl (op_move (ltN rfl) rfl),
    ok_plain rfl rfl (op_call (x := .g [.v (.int .i64 100), .v (.int .i64 n), .v (.int .i64 0), .v (.int .i64 0)]) (fs := []) (caps := []) (extra := []) (ltN rfl) en_105 rfl ⟨rfl, rfl, rfl⟩ (EvL.cons rfl EvL.nil) (fun mm aa ww gg hr hrel => (c105 n ww))),
    ok_plain rfl rfl (op_loadB (y := .v (.bool ch)) (ltN rfl) rfl (ldCell hch_box.1 (hch_box.2 0 _ rfl) rfl sh_4)),
    ok_plain rfl rfl (op_build (x := .g [.v (.pointer (some ⟨s_b, 0, none⟩)), .v (.int .i64 100), .v (.int .i64 n), .v (.int .i64 0), .v (.int .i64 0), .v (.bool ch)]) (ltN rfl) (EvL.cons rfl (EvL.cons rfl (EvL.cons rfl EvL.nil))) (fun m w => by kernel_rfl)),
    ok_plain rfl rfl (op_loadB (y := .v (.int .i64 v)) (ltN rfl) rfl (ldCell hv_box.1 (hv_box.2 0 _ rfl) rfl sh_3)),
    ok_plain rfl rfl (op_call (x := .v (.bool (makes s (⟨100, n, 0, 0⟩) ch v))) (fs := []) (caps := []) (extra := []) (ltN rfl) en_106 rfl ⟨rfl, rfl, rfl⟩ (EvL.cons rfl (EvL.cons rfl EvL.nil)) (fun mm aa ww gg hr hrel => (c106 s ⟨s_Thrust_p, s.Thrust.length, s_Thrust_c⟩ ⟨s_Water_p, s.Water.length, s_Water_c⟩ ⟨s_Ice_p, s.Ice.length, s_Ice_c⟩ s_b (⟨100, n, 0, 0⟩) ch v ww (SlIs.mono hs_Thrust hrel.below) (SlIs.mono hs_Water hrel.below) (SlIs.mono hs_Ice hrel.below) (BoxAt.mono hs_box hrel.below) (by first | assumption | omega) (by first | assumption | omega) (by first | assumption | omega)))),
    ok_plain rfl rfl (op_assign (ltN rfl) rfl),
    trivial⟩ ?_
  refine fin_keep (s' := [(.t 5, some (.x (.v (.bool (makes s (⟨100, n, 0, 0⟩) ch v)))))]) ?_ ⟨rfl, trivial⟩ rfl
  refine fin_then ?_
  refine aw_ret ?_
  refine post_ret (x := .v (.bool (makes s (⟨100, n, 0, 0⟩) ch v))) rfl rfl (resOK_tmp rfl resOK_nil) rfl (fun mm aa ww hr => ?_)
  show Ending.returned (.bool (makes s (⟨100, n, 0, 0⟩) ch v)) = _ ∧ _
  first
    | exact ⟨rfl, hr.below⟩

theorem c40 (s : Ship) (s_Thrust_s : SlV) (s_Water_s : SlV) (s_Ice_s : SlV) (v : Int) (ch : Bool) (w : World) (hs_Thrust : SlIs encPt 2 w s_Thrust_s s.Thrust) (hs_Water : SlIs encPt 2 w s_Water_s s.Water) (hs_Ice : SlIs encPt 2 w s_Ice_s s.Ice) : Calls Tryd.prog 40 #[.agg #[.int .i64 s.Class, .int .i64 s.Power, .int .i64 s.Draught, .int .i64 s.Tonnes, .slice s_Thrust_s.p s_Thrust_s.n s_Thrust_s.c, .slice s_Water_s.p s_Water_s.n s_Water_s.c, .slice s_Ice_s.p s_Ice_s.n s_Ice_s.c, .int .i64 s.Slow, .int .i64 s.Brash, .int .i64 s.Ridge, .int .i64 s.Press], .int .i64 v, .bool ch] w fun e w' => e = .returned (.tuple #[.int .i64 ((limitE s v ch).1), .int .i64 ((limitE s v ch).2)]) ∧ Below w.heap.size w w' := by
  obtain ⟨s_Thrust_p, s_Thrust_n, s_Thrust_c⟩ := s_Thrust_s
  have hs_Thrust_l : s_Thrust_n = s.Thrust.length := hs_Thrust.1
  subst hs_Thrust_l
  obtain ⟨s_Thrust_b, s_Thrust_o, hs_Thrust_p, hs_Thrust_L⟩ := SlAt.lies' hs_Thrust
  obtain ⟨s_Water_p, s_Water_n, s_Water_c⟩ := s_Water_s
  have hs_Water_l : s_Water_n = s.Water.length := hs_Water.1
  subst hs_Water_l
  obtain ⟨s_Water_b, s_Water_o, hs_Water_p, hs_Water_L⟩ := SlAt.lies' hs_Water
  obtain ⟨s_Ice_p, s_Ice_n, s_Ice_c⟩ := s_Ice_s
  have hs_Ice_l : s_Ice_n = s.Ice.length := hs_Ice.1
  subst hs_Ice_l
  obtain ⟨s_Ice_b, s_Ice_o, hs_Ice_p, hs_Ice_L⟩ := SlAt.lies' hs_Ice
  refine enter (args := [.g [.v (.int .i64 s.Class), .v (.int .i64 s.Power), .v (.int .i64 s.Draught), .v (.int .i64 s.Tonnes), .v (.slice s_Thrust_p s.Thrust.length s_Thrust_c), .v (.slice s_Water_p s.Water.length s_Water_c), .v (.slice s_Ice_p s.Ice.length s_Ice_c), .v (.int .i64 s.Slow), .v (.int .i64 s.Brash), .v (.int .i64 s.Ridge), .v (.int .i64 s.Press)], .v (.int .i64 v), .v (.bool ch)]) Tryd.func40 rfl (N := 26) rfl (Nat.le_of_ble_eq_true rfl) ?_
  refine aw_seq ?_
  refine aw_text (rows := [_, _, _, _, _]) rfl (by kernel_rfl) ⟨
    ok_plain rfl rfl (op_boxN (L := 1) (ltN rfl) rfl rfl rfl),
    ok_plain rfl rfl (op_box1 (L := 2) (ltN rfl) rfl rfl rfl),
    ok_plain rfl rfl (op_box1 (L := 3) (ltN rfl) rfl rfl rfl),
    ok_plain rfl rfl (op_assign (ltN rfl) rfl),
    ok_plain rfl rfl (op_assign (ltN rfl) rfl),
    trivial⟩ ?_
  refine fin_keep (s' := [(.t 3, some (.x (.p 1 0))), (.t 4, some (.x (.p 2 0))), (.t 5, some (.x (.p 3 0))), (.b 1, some (.sh 25 11)), (.b 2, some (.sh 3 1)), (.b 3, some (.sh 4 1)), (.c 1 0, some (.x (.v (.int .i64 s.Class)))), (.c 1 1, some (.x (.v (.int .i64 s.Power)))), (.c 1 2, some (.x (.v (.int .i64 s.Draught)))), (.c 1 3, some (.x (.v (.int .i64 s.Tonnes)))), (.c 1 4, some (.x (.v (.slice s_Thrust_p s.Thrust.length s_Thrust_c)))), (.c 1 5, some (.x (.v (.slice s_Water_p s.Water.length s_Water_c)))), (.c 1 6, some (.x (.v (.slice s_Ice_p s.Ice.length s_Ice_c)))), (.c 1 7, some (.x (.v (.int .i64 s.Slow)))), (.c 1 8, some (.x (.v (.int .i64 s.Brash)))), (.c 1 9, some (.x (.v (.int .i64 s.Ridge)))), (.c 1 10, some (.x (.v (.int .i64 s.Press)))), (.c 2 0, some (.x (.v (.int .i64 v)))), (.c 3 0, some (.x (.v (.bool ch))))]) ?_ ⟨rfl, rfl, rfl, rfl, rfl, rfl, rfl, rfl, rfl, rfl, rfl, rfl, rfl, rfl, rfl, rfl, rfl, rfl, rfl, trivial⟩ rfl
  refine fin_then ?_
  refine aw_seq ?_
  refine aw_seq ?_
  refine aw_text (rows := [_, _, _, _, _]) rfl (by kernel_rfl) ⟨
    ok_plain rfl rfl (op_loadN (ys := [.v (.int .i64 s.Class), .v (.int .i64 s.Power), .v (.int .i64 s.Draught), .v (.int .i64 s.Tonnes), .v (.slice s_Thrust_p s.Thrust.length s_Thrust_c), .v (.slice s_Water_p s.Water.length s_Water_c), .v (.slice s_Ice_p s.Ice.length s_Ice_c), .v (.int .i64 s.Slow), .v (.int .i64 s.Brash), .v (.int .i64 s.Ridge), .v (.int .i64 s.Press)]) (ltN rfl) sh_25 rfl rfl ⟨rfl, rfl, rfl, rfl, rfl, rfl, rfl, rfl, rfl, rfl, rfl, trivial⟩),
    ok_plain rfl rfl (op_build (x := .g [.v (.int .i64 0), .v (.int .i64 0), .v (.int .i64 0), .v (.int .i64 0)]) (ltN rfl) EvL.nil (fun m w => by kernel_rfl)),
    ok_plain rfl rfl (op_load1 (ltN rfl) sh_3 rfl rfl),
    ok_plain rfl rfl (op_call (x := .v (.int .i64 (asked s (⟨0, 0, 0, 0⟩) v))) (fs := []) (caps := []) (extra := []) (ltN rfl) en_75 rfl ⟨rfl, rfl, rfl⟩ (EvL.cons rfl (EvL.cons rfl (EvL.cons rfl EvL.nil))) (fun mm aa ww gg hr hrel => (c75 s ⟨s_Thrust_p, s.Thrust.length, s_Thrust_c⟩ ⟨s_Water_p, s.Water.length, s_Water_c⟩ ⟨s_Ice_p, s.Ice.length, s_Ice_c⟩ (⟨0, 0, 0, 0⟩) v ww (SlIs.mono hs_Thrust hrel.below) (SlIs.mono hs_Water hrel.below) (SlIs.mono hs_Ice hrel.below)))),
    ok_plain rfl rfl (op_assign (ltN rfl) rfl),
    trivial⟩ ?_
  refine fin_keep (s' := [(.t 3, some (.x (.p 1 0))), (.t 4, some (.x (.p 2 0))), (.t 5, some (.x (.p 3 0))), (.t 8, some (.x (.v (.int .i64 (asked s (⟨0, 0, 0, 0⟩) v))))), (.b 1, some (.sh 25 11)), (.b 2, some (.sh 3 1)), (.b 3, some (.sh 4 1)), (.c 1 0, some (.x (.v (.int .i64 s.Class)))), (.c 1 1, some (.x (.v (.int .i64 s.Power)))), (.c 1 2, some (.x (.v (.int .i64 s.Draught)))), (.c 1 3, some (.x (.v (.int .i64 s.Tonnes)))), (.c 1 4, some (.x (.v (.slice s_Thrust_p s.Thrust.length s_Thrust_c)))), (.c 1 5, some (.x (.v (.slice s_Water_p s.Water.length s_Water_c)))), (.c 1 6, some (.x (.v (.slice s_Ice_p s.Ice.length s_Ice_c)))), (.c 1 7, some (.x (.v (.int .i64 s.Slow)))), (.c 1 8, some (.x (.v (.int .i64 s.Brash)))), (.c 1 9, some (.x (.v (.int .i64 s.Ridge)))), (.c 1 10, some (.x (.v (.int .i64 s.Press)))), (.c 2 0, some (.x (.v (.int .i64 v)))), (.c 3 0, some (.x (.v (.bool ch))))]) ?_ ⟨rfl, rfl, rfl, rfl, rfl, rfl, rfl, rfl, rfl, rfl, rfl, rfl, rfl, rfl, rfl, rfl, rfl, rfl, rfl, rfl, trivial⟩ rfl
  refine fin_then ?_
  refine aw_seq ?_
  refine aw_text (rows := [_, _]) rfl (by kernel_rfl) ⟨
    ok_plain rfl rfl (op_move (ltN rfl) rfl),
    ok_plain rfl rfl (op_bin (ltN rfl) rfl rfl rfl),
    trivial⟩ ?_
  refine fin_keep (s' := [(.t 3, some (.x (.p 1 0))), (.t 4, some (.x (.p 2 0))), (.t 5, some (.x (.p 3 0))), (.t 8, some (.x (.v (.int .i64 (asked s (⟨0, 0, 0, 0⟩) v))))), (.t 16, some (.x (.v (.bool ((asked s (⟨0, 0, 0, 0⟩) v) != 0))))), (.b 1, some (.sh 25 11)), (.b 2, some (.sh 3 1)), (.b 3, some (.sh 4 1)), (.c 1 0, some (.x (.v (.int .i64 s.Class)))), (.c 1 1, some (.x (.v (.int .i64 s.Power)))), (.c 1 2, some (.x (.v (.int .i64 s.Draught)))), (.c 1 3, some (.x (.v (.int .i64 s.Tonnes)))), (.c 1 4, some (.x (.v (.slice s_Thrust_p s.Thrust.length s_Thrust_c)))), (.c 1 5, some (.x (.v (.slice s_Water_p s.Water.length s_Water_c)))), (.c 1 6, some (.x (.v (.slice s_Ice_p s.Ice.length s_Ice_c)))), (.c 1 7, some (.x (.v (.int .i64 s.Slow)))), (.c 1 8, some (.x (.v (.int .i64 s.Brash)))), (.c 1 9, some (.x (.v (.int .i64 s.Ridge)))), (.c 1 10, some (.x (.v (.int .i64 s.Press)))), (.c 2 0, some (.x (.v (.int .i64 v)))), (.c 3 0, some (.x (.v (.bool ch))))]) ?_ ⟨rfl, rfl, rfl, rfl, rfl, rfl, rfl, rfl, rfl, rfl, rfl, rfl, rfl, rfl, rfl, rfl, rfl, rfl, rfl, rfl, rfl, trivial⟩ rfl
  refine fin_then ?_
  refine aw_cond rfl (fun hz1 => ?_) (fun hz1 => ?_)
  · have _z := hz1
    have q2 := ne_t hz1
    refine aw_seq ?_
    refine aw_text (rows := [_, _, _]) rfl (by kernel_rfl) ⟨
      ok_plain rfl rfl (op_move (ltN rfl) rfl),
      ok_plain rfl rfl (op_assign (ltN rfl) rfl),
      ok_plain rfl rfl (op_assign (ltN rfl) rfl),
      trivial⟩ ?_
    refine fin_keep (s' := [(.t 6, some (.x (.v (.int .i64 0)))), (.t 7, some (.x (.v (.int .i64 (asked s (⟨0, 0, 0, 0⟩) v)))))]) ?_ ⟨rfl, rfl, trivial⟩ rfl
    refine fin_then ?_
    refine aw_ret ?_
    refine fin_then_ret ?_
    refine post_ret (x := .t [.v (.int .i64 0), .v (.int .i64 (asked s (⟨0, 0, 0, 0⟩) v))]) rfl rfl (resOK_tmp rfl (resOK_tmp rfl resOK_nil)) rfl (fun mm aa ww hr => ?_)
    show Ending.returned (.tuple #[.int .i64 0, .int .i64 (asked s (⟨0, 0, 0, 0⟩) v)]) = _ ∧ _
    exact ⟨by rw [limitE, if_pos (ne_t hz1)], hr.below⟩
  · have _z := hz1
    have q3 := ne_f hz1
    refine aw_skip ?_
    refine fin_then ?_
    refine aw_seq ?_
    have hak := asked_ok (ne_f hz1)
    have hc := hak.1
    have hv := hak.2.2
    refine aw_text (rows := [_, _, _, _, _, _, _]) rfl (by kernel_rfl) ⟨
      ok_plain rfl rfl (op_mkfn (ltN rfl) EvL.nil (EvL.cons rfl (EvL.cons rfl (EvL.cons rfl EvL.nil)))),
      ok_plain rfl rfl (op_call (x := .t [.v (.int .i64 ((greatest ((fun vv => makes s (lev vv) ch v)) 0 400).1)), .v (.bool ((greatest ((fun vv => makes s (lev vv) ch v)) 0 400).2))]) (fs := []) (caps := []) (extra := (.b 1 :: cellKeys 1 0 11) ++ ((.b 3 :: cellKeys 3 0 1) ++ ((.b 2 :: cellKeys 2 0 1) ++ []))) (ltN rfl) en_103 rfl ⟨rfl, rfl, rfl⟩ (EvL.cons rfl (EvL.cons rfl (EvL.cons rfl EvL.nil))) (fun mm aa ww gg hr hrel => (c103 0 400 104 (denL mm []) (denL mm [.p 1 0, .p 3 0, .p 2 0]) (fun vv => makes s (lev vv) ch v) ww en_104 (fun vv w1 hb1 h1 h2 => (c104 vv s ⟨s_Thrust_p, s.Thrust.length, s_Thrust_c⟩ ⟨s_Water_p, s.Water.length, s_Water_c⟩ ⟨s_Ice_p, s.Ice.length, s_Ice_c⟩ (mm 1) ch (mm 3) v (mm 2) w1 (SlIs.mono (SlIs.mono hs_Thrust hrel.below) hb1) (SlIs.mono (SlIs.mono hs_Water hrel.below) hb1) (SlIs.mono (SlIs.mono hs_Ice hrel.below) hb1) (BoxAt.mono (boxAt (L := 1) (vs := [(.int .i64 s.Class), (.int .i64 s.Power), (.int .i64 s.Draught), (.int .i64 s.Tonnes), (.slice s_Thrust_p s.Thrust.length s_Thrust_c), (.slice s_Water_p s.Water.length s_Water_c), (.slice s_Ice_p s.Ice.length s_Ice_c), (.int .i64 s.Slow), (.int .i64 s.Brash), (.int .i64 s.Ridge), (.int .i64 s.Press)]) hrel (fun k hk => hr k (List.mem_append_left _ hk)) rfl ⟨rfl, rfl, rfl, rfl, rfl, rfl, rfl, rfl, rfl, rfl, rfl, trivial⟩) hb1) (BoxAt.mono (boxAt (L := 3) (vs := [(.bool ch)]) hrel (fun k hk => hr k (List.mem_append_right _ (List.mem_append_left _ hk))) rfl ⟨rfl, trivial⟩) hb1) (BoxAt.mono (boxAt (L := 2) (vs := [(.int .i64 v)]) hrel (fun k hk => hr k (List.mem_append_right _ (List.mem_append_right _ (List.mem_append_left _ hk)))) rfl ⟨rfl, trivial⟩) hb1) (by omega) (by omega) (by omega))) (by first | assumption | omega)))),
      ok_plain rfl rfl (op_move (ltN rfl) rfl),
      ok_plain rfl rfl (op_extract (ltN rfl) rfl rfl),
      ok_plain rfl rfl (op_extract (ltN rfl) rfl rfl),
      ok_plain rfl rfl (op_assign (ltN rfl) rfl),
      ok_plain rfl rfl (op_assign (ltN rfl) rfl),
      trivial⟩ ?_
    refine fin_keep (s' := [(.t 9, some (.x (.v (.int .i64 ((greatest ((fun vv => makes s (lev vv) ch v)) 0 400).1))))), (.t 10, some (.x (.v (.bool ((greatest ((fun vv => makes s (lev vv) ch v)) 0 400).2)))))]) ?_ ⟨rfl, rfl, trivial⟩ rfl
    refine fin_then ?_
    refine aw_seq ?_
    refine aw_seq ?_
    refine aw_text (rows := [_, _]) rfl (by kernel_rfl) ⟨
      ok_plain rfl rfl (op_move (ltN rfl) rfl),
      ok_plain rfl rfl (op_not (ltN rfl) rfl),
      trivial⟩ ?_
    refine fin_keep (s' := [(.t 9, some (.x (.v (.int .i64 ((greatest ((fun vv => makes s (lev vv) ch v)) 0 400).1))))), (.t 24, some (.x (.v (.bool (!((greatest ((fun vv => makes s (lev vv) ch v)) 0 400).2))))))]) ?_ ⟨rfl, rfl, trivial⟩ rfl
    refine fin_then ?_
    refine aw_cond rfl (fun hz4 => ?_) (fun hz4 => ?_)
    · have _z := hz4
      have q5 := not_t hz4
      refine aw_seq ?_
      refine aw_text (rows := [_, _]) rfl (by kernel_rfl) ⟨
        ok_plain rfl rfl (op_assign (ltN rfl) rfl),
        ok_plain rfl rfl (op_assign (ltN rfl) rfl),
        trivial⟩ ?_
      refine fin_keep (s' := [(.t 6, some (.x (.v (.int .i64 0)))), (.t 7, some (.x (.v (.int .i64 4))))]) ?_ ⟨rfl, rfl, trivial⟩ rfl
      refine fin_then ?_
      refine aw_ret ?_
      refine fin_then_ret ?_
      refine post_ret (x := .t [.v (.int .i64 0), .v (.int .i64 4)]) rfl rfl (resOK_tmp rfl (resOK_tmp rfl resOK_nil)) rfl (fun mm aa ww hr => ?_)
      show Ending.returned (.tuple #[.int .i64 0, .int .i64 4]) = _ ∧ _
      exact ⟨by rw [limitE, if_neg (by rw [ne_f hz1]; decide), if_pos (not_t hz4)], hr.below⟩
    · have _z := hz4
      have q6 := not_f hz4
      refine aw_skip ?_
      refine fin_then ?_
      refine aw_seq ?_
      refine aw_text (rows := [_, _, _]) rfl (by kernel_rfl) ⟨
        ok_plain rfl rfl (op_move (ltN rfl) rfl),
        ok_plain rfl rfl (op_assign (ltN rfl) rfl),
        ok_plain rfl rfl (op_assign (ltN rfl) rfl),
        trivial⟩ ?_
      refine fin_keep (s' := [(.t 6, some (.x (.v (.int .i64 ((greatest ((fun vv => makes s (lev vv) ch v)) 0 400).1))))), (.t 7, some (.x (.v (.int .i64 0))))]) ?_ ⟨rfl, rfl, trivial⟩ rfl
      refine fin_then ?_
      refine aw_ret ?_
      refine post_ret (x := .t [.v (.int .i64 ((greatest ((fun vv => makes s (lev vv) ch v)) 0 400).1)), .v (.int .i64 0)]) rfl rfl (resOK_tmp rfl (resOK_tmp rfl resOK_nil)) rfl (fun mm aa ww hr => ?_)
      show Ending.returned (.tuple #[.int .i64 ((greatest ((fun vv => makes s (lev vv) ch v)) 0 400).1), .int .i64 0]) = _ ∧ _
      exact ⟨by rw [limitE, if_neg (by rw [ne_f hz1]; decide), not_f hz4]; rfl, hr.below⟩

theorem c41 (s : Ship) (s_Thrust_s : SlV) (s_Water_s : SlV) (s_Ice_s : SlV) (i : Ice) (v : Int) (ch : Bool) (w : World) (hs_Thrust : SlIs encPt 2 w s_Thrust_s s.Thrust) (hs_Water : SlIs encPt 2 w s_Water_s s.Water) (hs_Ice : SlIs encPt 2 w s_Ice_s s.Ice) : Calls Tryd.prog 41 #[.agg #[.int .i64 s.Class, .int .i64 s.Power, .int .i64 s.Draught, .int .i64 s.Tonnes, .slice s_Thrust_s.p s_Thrust_s.n s_Thrust_s.c, .slice s_Water_s.p s_Water_s.n s_Water_s.c, .slice s_Ice_s.p s_Ice_s.n s_Ice_s.c, .int .i64 s.Slow, .int .i64 s.Brash, .int .i64 s.Ridge, .int .i64 s.Press], .agg #[.int .i64 i.Conc, .int .i64 i.Thick, .int .i64 i.Ridge, .int .i64 i.Press], .int .i64 v, .bool ch] w fun e w' => e = .returned (.tuple #[.bool ((makesE s i v ch).1), .int .i64 ((makesE s i v ch).2)]) ∧ Below w.heap.size w w' := by
  obtain ⟨s_Thrust_p, s_Thrust_n, s_Thrust_c⟩ := s_Thrust_s
  have hs_Thrust_l : s_Thrust_n = s.Thrust.length := hs_Thrust.1
  subst hs_Thrust_l
  obtain ⟨s_Thrust_b, s_Thrust_o, hs_Thrust_p, hs_Thrust_L⟩ := SlAt.lies' hs_Thrust
  obtain ⟨s_Water_p, s_Water_n, s_Water_c⟩ := s_Water_s
  have hs_Water_l : s_Water_n = s.Water.length := hs_Water.1
  subst hs_Water_l
  obtain ⟨s_Water_b, s_Water_o, hs_Water_p, hs_Water_L⟩ := SlAt.lies' hs_Water
  obtain ⟨s_Ice_p, s_Ice_n, s_Ice_c⟩ := s_Ice_s
  have hs_Ice_l : s_Ice_n = s.Ice.length := hs_Ice.1
  subst hs_Ice_l
  obtain ⟨s_Ice_b, s_Ice_o, hs_Ice_p, hs_Ice_L⟩ := SlAt.lies' hs_Ice
  refine enter (args := [.g [.v (.int .i64 s.Class), .v (.int .i64 s.Power), .v (.int .i64 s.Draught), .v (.int .i64 s.Tonnes), .v (.slice s_Thrust_p s.Thrust.length s_Thrust_c), .v (.slice s_Water_p s.Water.length s_Water_c), .v (.slice s_Ice_p s.Ice.length s_Ice_c), .v (.int .i64 s.Slow), .v (.int .i64 s.Brash), .v (.int .i64 s.Ridge), .v (.int .i64 s.Press)], .g [.v (.int .i64 i.Conc), .v (.int .i64 i.Thick), .v (.int .i64 i.Ridge), .v (.int .i64 i.Press)], .v (.int .i64 v), .v (.bool ch)]) Tryd.func41 rfl (N := 23) rfl (Nat.le_of_ble_eq_true rfl) ?_
  refine aw_seq ?_
  refine aw_text (rows := [_, _, _, _]) rfl (by kernel_rfl) ⟨
    ok_plain rfl rfl (op_boxN (L := 1) (ltN rfl) rfl rfl rfl),
    ok_plain rfl rfl (op_boxN (L := 2) (ltN rfl) rfl rfl rfl),
    ok_plain rfl rfl (op_assign (ltN rfl) rfl),
    ok_plain rfl rfl (op_assign (ltN rfl) rfl),
    trivial⟩ ?_
  refine fin_keep (s' := [(.t 2, some (.x (.v (.int .i64 v)))), (.t 3, some (.x (.v (.bool ch)))), (.t 4, some (.x (.p 1 0))), (.t 5, some (.x (.p 2 0))), (.b 1, some (.sh 25 11)), (.b 2, some (.sh 28 4)), (.c 1 0, some (.x (.v (.int .i64 s.Class)))), (.c 1 1, some (.x (.v (.int .i64 s.Power)))), (.c 1 2, some (.x (.v (.int .i64 s.Draught)))), (.c 1 3, some (.x (.v (.int .i64 s.Tonnes)))), (.c 1 4, some (.x (.v (.slice s_Thrust_p s.Thrust.length s_Thrust_c)))), (.c 1 5, some (.x (.v (.slice s_Water_p s.Water.length s_Water_c)))), (.c 1 6, some (.x (.v (.slice s_Ice_p s.Ice.length s_Ice_c)))), (.c 1 7, some (.x (.v (.int .i64 s.Slow)))), (.c 1 8, some (.x (.v (.int .i64 s.Brash)))), (.c 1 9, some (.x (.v (.int .i64 s.Ridge)))), (.c 1 10, some (.x (.v (.int .i64 s.Press)))), (.c 2 0, some (.x (.v (.int .i64 i.Conc)))), (.c 2 1, some (.x (.v (.int .i64 i.Thick)))), (.c 2 2, some (.x (.v (.int .i64 i.Ridge)))), (.c 2 3, some (.x (.v (.int .i64 i.Press))))]) ?_ ⟨rfl, rfl, rfl, rfl, rfl, rfl, rfl, rfl, rfl, rfl, rfl, rfl, rfl, rfl, rfl, rfl, rfl, rfl, rfl, rfl, rfl, trivial⟩ rfl
  refine fin_then ?_
  refine aw_seq ?_
  refine aw_seq ?_
  refine aw_text (rows := [_, _, _, _, _]) rfl (by kernel_rfl) ⟨
    ok_plain rfl rfl (op_loadN (ys := [.v (.int .i64 s.Class), .v (.int .i64 s.Power), .v (.int .i64 s.Draught), .v (.int .i64 s.Tonnes), .v (.slice s_Thrust_p s.Thrust.length s_Thrust_c), .v (.slice s_Water_p s.Water.length s_Water_c), .v (.slice s_Ice_p s.Ice.length s_Ice_c), .v (.int .i64 s.Slow), .v (.int .i64 s.Brash), .v (.int .i64 s.Ridge), .v (.int .i64 s.Press)]) (ltN rfl) sh_25 rfl rfl ⟨rfl, rfl, rfl, rfl, rfl, rfl, rfl, rfl, rfl, rfl, rfl, trivial⟩),
    ok_plain rfl rfl (op_loadN (ys := [.v (.int .i64 i.Conc), .v (.int .i64 i.Thick), .v (.int .i64 i.Ridge), .v (.int .i64 i.Press)]) (ltN rfl) sh_28 rfl rfl ⟨rfl, rfl, rfl, rfl, trivial⟩),
    ok_plain rfl rfl (op_move (ltN rfl) rfl),
    ok_plain rfl rfl (op_call (x := .v (.int .i64 (asked s i v))) (fs := []) (caps := []) (extra := []) (ltN rfl) en_75 rfl ⟨rfl, rfl, rfl⟩ (EvL.cons rfl (EvL.cons rfl (EvL.cons rfl EvL.nil))) (fun mm aa ww gg hr hrel => (c75 s ⟨s_Thrust_p, s.Thrust.length, s_Thrust_c⟩ ⟨s_Water_p, s.Water.length, s_Water_c⟩ ⟨s_Ice_p, s.Ice.length, s_Ice_c⟩ i v ww (SlIs.mono hs_Thrust hrel.below) (SlIs.mono hs_Water hrel.below) (SlIs.mono hs_Ice hrel.below)))),
    ok_plain rfl rfl (op_assign (ltN rfl) rfl),
    trivial⟩ ?_
  refine fin_keep (s' := [(.t 2, some (.x (.v (.int .i64 v)))), (.t 3, some (.x (.v (.bool ch)))), (.t 4, some (.x (.p 1 0))), (.t 5, some (.x (.p 2 0))), (.t 10, some (.x (.v (.int .i64 (asked s i v))))), (.b 1, some (.sh 25 11)), (.b 2, some (.sh 28 4)), (.c 1 0, some (.x (.v (.int .i64 s.Class)))), (.c 1 1, some (.x (.v (.int .i64 s.Power)))), (.c 1 2, some (.x (.v (.int .i64 s.Draught)))), (.c 1 3, some (.x (.v (.int .i64 s.Tonnes)))), (.c 1 4, some (.x (.v (.slice s_Thrust_p s.Thrust.length s_Thrust_c)))), (.c 1 5, some (.x (.v (.slice s_Water_p s.Water.length s_Water_c)))), (.c 1 6, some (.x (.v (.slice s_Ice_p s.Ice.length s_Ice_c)))), (.c 1 7, some (.x (.v (.int .i64 s.Slow)))), (.c 1 8, some (.x (.v (.int .i64 s.Brash)))), (.c 1 9, some (.x (.v (.int .i64 s.Ridge)))), (.c 1 10, some (.x (.v (.int .i64 s.Press)))), (.c 2 0, some (.x (.v (.int .i64 i.Conc)))), (.c 2 1, some (.x (.v (.int .i64 i.Thick)))), (.c 2 2, some (.x (.v (.int .i64 i.Ridge)))), (.c 2 3, some (.x (.v (.int .i64 i.Press))))]) ?_ ⟨rfl, rfl, rfl, rfl, rfl, rfl, rfl, rfl, rfl, rfl, rfl, rfl, rfl, rfl, rfl, rfl, rfl, rfl, rfl, rfl, rfl, rfl, trivial⟩ rfl
  refine fin_then ?_
  refine aw_seq ?_
  refine aw_text (rows := [_, _]) rfl (by kernel_rfl) ⟨
    ok_plain rfl rfl (op_move (ltN rfl) rfl),
    ok_plain rfl rfl (op_bin (ltN rfl) rfl rfl rfl),
    trivial⟩ ?_
  refine fin_keep (s' := [(.t 2, some (.x (.v (.int .i64 v)))), (.t 3, some (.x (.v (.bool ch)))), (.t 4, some (.x (.p 1 0))), (.t 5, some (.x (.p 2 0))), (.t 10, some (.x (.v (.int .i64 (asked s i v))))), (.t 16, some (.x (.v (.bool ((asked s i v) != 0))))), (.b 1, some (.sh 25 11)), (.b 2, some (.sh 28 4)), (.c 1 0, some (.x (.v (.int .i64 s.Class)))), (.c 1 1, some (.x (.v (.int .i64 s.Power)))), (.c 1 2, some (.x (.v (.int .i64 s.Draught)))), (.c 1 3, some (.x (.v (.int .i64 s.Tonnes)))), (.c 1 4, some (.x (.v (.slice s_Thrust_p s.Thrust.length s_Thrust_c)))), (.c 1 5, some (.x (.v (.slice s_Water_p s.Water.length s_Water_c)))), (.c 1 6, some (.x (.v (.slice s_Ice_p s.Ice.length s_Ice_c)))), (.c 1 7, some (.x (.v (.int .i64 s.Slow)))), (.c 1 8, some (.x (.v (.int .i64 s.Brash)))), (.c 1 9, some (.x (.v (.int .i64 s.Ridge)))), (.c 1 10, some (.x (.v (.int .i64 s.Press)))), (.c 2 0, some (.x (.v (.int .i64 i.Conc)))), (.c 2 1, some (.x (.v (.int .i64 i.Thick)))), (.c 2 2, some (.x (.v (.int .i64 i.Ridge)))), (.c 2 3, some (.x (.v (.int .i64 i.Press))))]) ?_ ⟨rfl, rfl, rfl, rfl, rfl, rfl, rfl, rfl, rfl, rfl, rfl, rfl, rfl, rfl, rfl, rfl, rfl, rfl, rfl, rfl, rfl, rfl, rfl, trivial⟩ rfl
  refine fin_then ?_
  refine aw_cond rfl (fun hz1 => ?_) (fun hz1 => ?_)
  · have _z := hz1
    have q2 := ne_t hz1
    refine aw_seq ?_
    refine aw_text (rows := [_, _, _]) rfl (by kernel_rfl) ⟨
      ok_plain rfl rfl (op_move (ltN rfl) rfl),
      ok_plain rfl rfl (op_assign (ltN rfl) rfl),
      ok_plain rfl rfl (op_assign (ltN rfl) rfl),
      trivial⟩ ?_
    refine fin_keep (s' := [(.t 8, some (.x (.v (.bool false)))), (.t 9, some (.x (.v (.int .i64 (asked s i v)))))]) ?_ ⟨rfl, rfl, trivial⟩ rfl
    refine fin_then ?_
    refine aw_ret ?_
    refine fin_then_ret ?_
    refine post_ret (x := .t [.v (.bool false), .v (.int .i64 (asked s i v))]) rfl rfl (resOK_tmp rfl (resOK_tmp rfl resOK_nil)) rfl (fun mm aa ww hr => ?_)
    show Ending.returned (.tuple #[.bool false, .int .i64 (asked s i v)]) = _ ∧ _
    exact ⟨by rw [makesE, if_pos (ne_t hz1)], hr.below⟩
  · have _z := hz1
    have q3 := ne_f hz1
    refine aw_skip ?_
    refine fin_then ?_
    refine aw_seq ?_
    have hak := asked_ok (ne_f hz1)
    have hc := hak.1
    have hi := hak.2.1
    have hv := hak.2.2
    refine aw_text (rows := [_, _, _, _, _, _, _]) rfl (by kernel_rfl) ⟨
      ok_plain rfl rfl (op_loadN (ys := [.v (.int .i64 i.Conc), .v (.int .i64 i.Thick), .v (.int .i64 i.Ridge), .v (.int .i64 i.Press)]) (ltN rfl) sh_28 rfl rfl ⟨rfl, rfl, rfl, rfl, trivial⟩),
      ok_plain rfl rfl (op_move (ltN rfl) rfl),
      ok_plain rfl rfl (op_build (x := .g [.p 1 0, .v (.int .i64 i.Conc), .v (.int .i64 i.Thick), .v (.int .i64 i.Ridge), .v (.int .i64 i.Press), .v (.bool ch)]) (ltN rfl) (EvL.cons rfl (EvL.cons rfl (EvL.cons rfl EvL.nil))) (fun m w => by kernel_rfl)),
      ok_plain rfl rfl (op_move (ltN rfl) rfl),
      ok_plain rfl rfl (op_call (x := .v (.bool (makes s i ch v))) (fs := []) (caps := []) (extra := (.b 1 :: cellKeys 1 0 11) ++ []) (ltN rfl) en_106 rfl ⟨rfl, rfl, rfl⟩ (EvL.cons rfl (EvL.cons rfl EvL.nil)) (fun mm aa ww gg hr hrel => (c106 s ⟨s_Thrust_p, s.Thrust.length, s_Thrust_c⟩ ⟨s_Water_p, s.Water.length, s_Water_c⟩ ⟨s_Ice_p, s.Ice.length, s_Ice_c⟩ (mm 1) i ch v ww (SlIs.mono hs_Thrust hrel.below) (SlIs.mono hs_Water hrel.below) (SlIs.mono hs_Ice hrel.below) (boxAt (L := 1) (vs := [(.int .i64 s.Class), (.int .i64 s.Power), (.int .i64 s.Draught), (.int .i64 s.Tonnes), (.slice s_Thrust_p s.Thrust.length s_Thrust_c), (.slice s_Water_p s.Water.length s_Water_c), (.slice s_Ice_p s.Ice.length s_Ice_c), (.int .i64 s.Slow), (.int .i64 s.Brash), (.int .i64 s.Ridge), (.int .i64 s.Press)]) hrel (fun k hk => hr k (List.mem_append_left _ hk)) rfl ⟨rfl, rfl, rfl, rfl, rfl, rfl, rfl, rfl, rfl, rfl, rfl, trivial⟩) (by first | assumption | omega) (by first | assumption | omega) (by first | assumption | omega)))),
      ok_plain rfl rfl (op_assign (ltN rfl) rfl),
      ok_plain rfl rfl (op_assign (ltN rfl) rfl),
      trivial⟩ ?_
    refine fin_keep (s' := [(.t 8, some (.x (.v (.bool (makes s i ch v))))), (.t 9, some (.x (.v (.int .i64 0))))]) ?_ ⟨rfl, rfl, trivial⟩ rfl
    refine fin_then ?_
    refine aw_ret ?_
    refine post_ret (x := .t [.v (.bool (makes s i ch v)), .v (.int .i64 0)]) rfl rfl (resOK_tmp rfl (resOK_tmp rfl resOK_nil)) rfl (fun mm aa ww hr => ?_)
    show Ending.returned (.tuple #[.bool (makes s i ch v), .int .i64 0]) = _ ∧ _
    exact ⟨by rw [makesE, if_neg (by rw [ne_f hz1]; decide)], hr.below⟩

theorem c24 (s : Ship) (s_Thrust_s : SlV) (s_Water_s : SlV) (s_Ice_s : SlV) (c : Cell) (ch : Bool) (w : World) (hs_Thrust : SlIs encPt 2 w s_Thrust_s s.Thrust) (hs_Water : SlIs encPt 2 w s_Water_s s.Water) (hs_Ice : SlIs encPt 2 w s_Ice_s s.Ice) (hG : BoxAt w 0 (strengths.map (fun n => Value.int .i64 n))) : Calls Tryd.prog 24 #[.agg #[.int .i64 s.Class, .int .i64 s.Power, .int .i64 s.Draught, .int .i64 s.Tonnes, .slice s_Thrust_s.p s_Thrust_s.n s_Thrust_s.c, .slice s_Water_s.p s_Water_s.n s_Water_s.c, .slice s_Ice_s.p s_Ice_s.n s_Ice_s.c, .int .i64 s.Slow, .int .i64 s.Brash, .int .i64 s.Ridge, .int .i64 s.Press], .agg #[.int .i64 c.Conc.Lo, .int .i64 c.Conc.Hi, .int .i64 c.Thick.Lo, .int .i64 c.Thick.Hi, .int .i64 c.Ridge.Lo, .int .i64 c.Ridge.Hi, .int .i64 c.Press.Lo, .int .i64 c.Press.Hi], .bool ch] w fun e w' => e = .returned (.tuple #[.int .i64 ((safeE s c ch).1), .int .i64 ((safeE s c ch).2)]) ∧ Below w.heap.size w w' := by
  obtain ⟨s_Thrust_p, s_Thrust_n, s_Thrust_c⟩ := s_Thrust_s
  have hs_Thrust_l : s_Thrust_n = s.Thrust.length := hs_Thrust.1
  subst hs_Thrust_l
  obtain ⟨s_Thrust_b, s_Thrust_o, hs_Thrust_p, hs_Thrust_L⟩ := SlAt.lies' hs_Thrust
  obtain ⟨s_Water_p, s_Water_n, s_Water_c⟩ := s_Water_s
  have hs_Water_l : s_Water_n = s.Water.length := hs_Water.1
  subst hs_Water_l
  obtain ⟨s_Water_b, s_Water_o, hs_Water_p, hs_Water_L⟩ := SlAt.lies' hs_Water
  obtain ⟨s_Ice_p, s_Ice_n, s_Ice_c⟩ := s_Ice_s
  have hs_Ice_l : s_Ice_n = s.Ice.length := hs_Ice.1
  subst hs_Ice_l
  obtain ⟨s_Ice_b, s_Ice_o, hs_Ice_p, hs_Ice_L⟩ := SlAt.lies' hs_Ice
  refine enter (args := [.g [.v (.int .i64 s.Class), .v (.int .i64 s.Power), .v (.int .i64 s.Draught), .v (.int .i64 s.Tonnes), .v (.slice s_Thrust_p s.Thrust.length s_Thrust_c), .v (.slice s_Water_p s.Water.length s_Water_c), .v (.slice s_Ice_p s.Ice.length s_Ice_c), .v (.int .i64 s.Slow), .v (.int .i64 s.Brash), .v (.int .i64 s.Ridge), .v (.int .i64 s.Press)], .g [.v (.int .i64 c.Conc.Lo), .v (.int .i64 c.Conc.Hi), .v (.int .i64 c.Thick.Lo), .v (.int .i64 c.Thick.Hi), .v (.int .i64 c.Ridge.Lo), .v (.int .i64 c.Ridge.Hi), .v (.int .i64 c.Press.Lo), .v (.int .i64 c.Press.Hi)], .v (.bool ch)]) Tryd.func24 rfl (N := 20) rfl (Nat.le_of_ble_eq_true rfl) ?_
  refine aw_seq ?_
  refine aw_text (rows := [_, _, _, _]) rfl (by kernel_rfl) ⟨
    ok_plain rfl rfl (op_boxN (L := 1) (ltN rfl) rfl rfl rfl),
    ok_plain rfl rfl (op_boxN (L := 2) (ltN rfl) rfl rfl rfl),
    ok_plain rfl rfl (op_assign (ltN rfl) rfl),
    ok_plain rfl rfl (op_assign (ltN rfl) rfl),
    trivial⟩ ?_
  refine fin_keep (s' := [(.t 2, some (.x (.v (.bool ch)))), (.t 3, some (.x (.p 1 0))), (.t 4, some (.x (.p 2 0))), (.b 1, some (.sh 25 11)), (.b 2, some (.sh 34 8)), (.c 1 0, some (.x (.v (.int .i64 s.Class)))), (.c 1 1, some (.x (.v (.int .i64 s.Power)))), (.c 1 2, some (.x (.v (.int .i64 s.Draught)))), (.c 1 3, some (.x (.v (.int .i64 s.Tonnes)))), (.c 1 4, some (.x (.v (.slice s_Thrust_p s.Thrust.length s_Thrust_c)))), (.c 1 5, some (.x (.v (.slice s_Water_p s.Water.length s_Water_c)))), (.c 1 6, some (.x (.v (.slice s_Ice_p s.Ice.length s_Ice_c)))), (.c 1 7, some (.x (.v (.int .i64 s.Slow)))), (.c 1 8, some (.x (.v (.int .i64 s.Brash)))), (.c 1 9, some (.x (.v (.int .i64 s.Ridge)))), (.c 1 10, some (.x (.v (.int .i64 s.Press)))), (.c 2 0, some (.x (.v (.int .i64 c.Conc.Lo)))), (.c 2 1, some (.x (.v (.int .i64 c.Conc.Hi)))), (.c 2 2, some (.x (.v (.int .i64 c.Thick.Lo)))), (.c 2 3, some (.x (.v (.int .i64 c.Thick.Hi)))), (.c 2 4, some (.x (.v (.int .i64 c.Ridge.Lo)))), (.c 2 5, some (.x (.v (.int .i64 c.Ridge.Hi)))), (.c 2 6, some (.x (.v (.int .i64 c.Press.Lo)))), (.c 2 7, some (.x (.v (.int .i64 c.Press.Hi))))]) ?_ ⟨rfl, rfl, rfl, rfl, rfl, rfl, rfl, rfl, rfl, rfl, rfl, rfl, rfl, rfl, rfl, rfl, rfl, rfl, rfl, rfl, rfl, rfl, rfl, rfl, trivial⟩ rfl
  refine fin_then ?_
  refine aw_seq ?_
  refine aw_seq ?_
  refine aw_text (rows := [_, _, _, _]) rfl (by kernel_rfl) ⟨
    ok_plain rfl rfl (op_loadN (ys := [.v (.int .i64 s.Class), .v (.int .i64 s.Power), .v (.int .i64 s.Draught), .v (.int .i64 s.Tonnes), .v (.slice s_Thrust_p s.Thrust.length s_Thrust_c), .v (.slice s_Water_p s.Water.length s_Water_c), .v (.slice s_Ice_p s.Ice.length s_Ice_c), .v (.int .i64 s.Slow), .v (.int .i64 s.Brash), .v (.int .i64 s.Ridge), .v (.int .i64 s.Press)]) (ltN rfl) sh_25 rfl rfl ⟨rfl, rfl, rfl, rfl, rfl, rfl, rfl, rfl, rfl, rfl, rfl, trivial⟩),
    ok_plain rfl rfl (op_loadN (ys := [.v (.int .i64 c.Conc.Lo), .v (.int .i64 c.Conc.Hi), .v (.int .i64 c.Thick.Lo), .v (.int .i64 c.Thick.Hi), .v (.int .i64 c.Ridge.Lo), .v (.int .i64 c.Ridge.Hi), .v (.int .i64 c.Press.Lo), .v (.int .i64 c.Press.Hi)]) (ltN rfl) sh_34 rfl rfl ⟨rfl, rfl, rfl, rfl, rfl, rfl, rfl, rfl, trivial⟩),
    ok_plain rfl rfl (op_call (x := .v (.int .i64 (met s c))) (fs := []) (caps := []) (extra := []) (ltN rfl) en_90 rfl ⟨rfl, rfl, rfl⟩ (EvL.cons rfl (EvL.cons rfl EvL.nil)) (fun mm aa ww gg hr hrel => (c90 s ⟨s_Thrust_p, s.Thrust.length, s_Thrust_c⟩ ⟨s_Water_p, s.Water.length, s_Water_c⟩ ⟨s_Ice_p, s.Ice.length, s_Ice_c⟩ c ww (SlIs.mono hs_Thrust hrel.below) (SlIs.mono hs_Water hrel.below) (SlIs.mono hs_Ice hrel.below)))),
    ok_plain rfl rfl (op_assign (ltN rfl) rfl),
    trivial⟩ ?_
  refine fin_keep (s' := [(.t 2, some (.x (.v (.bool ch)))), (.t 3, some (.x (.p 1 0))), (.t 4, some (.x (.p 2 0))), (.t 8, some (.x (.v (.int .i64 (met s c))))), (.b 1, some (.sh 25 11)), (.b 2, some (.sh 34 8)), (.c 1 0, some (.x (.v (.int .i64 s.Class)))), (.c 1 1, some (.x (.v (.int .i64 s.Power)))), (.c 1 2, some (.x (.v (.int .i64 s.Draught)))), (.c 1 3, some (.x (.v (.int .i64 s.Tonnes)))), (.c 1 4, some (.x (.v (.slice s_Thrust_p s.Thrust.length s_Thrust_c)))), (.c 1 5, some (.x (.v (.slice s_Water_p s.Water.length s_Water_c)))), (.c 1 6, some (.x (.v (.slice s_Ice_p s.Ice.length s_Ice_c)))), (.c 1 7, some (.x (.v (.int .i64 s.Slow)))), (.c 1 8, some (.x (.v (.int .i64 s.Brash)))), (.c 1 9, some (.x (.v (.int .i64 s.Ridge)))), (.c 1 10, some (.x (.v (.int .i64 s.Press)))), (.c 2 0, some (.x (.v (.int .i64 c.Conc.Lo)))), (.c 2 1, some (.x (.v (.int .i64 c.Conc.Hi)))), (.c 2 2, some (.x (.v (.int .i64 c.Thick.Lo)))), (.c 2 3, some (.x (.v (.int .i64 c.Thick.Hi)))), (.c 2 4, some (.x (.v (.int .i64 c.Ridge.Lo)))), (.c 2 5, some (.x (.v (.int .i64 c.Ridge.Hi)))), (.c 2 6, some (.x (.v (.int .i64 c.Press.Lo)))), (.c 2 7, some (.x (.v (.int .i64 c.Press.Hi))))]) ?_ ⟨rfl, rfl, rfl, rfl, rfl, rfl, rfl, rfl, rfl, rfl, rfl, rfl, rfl, rfl, rfl, rfl, rfl, rfl, rfl, rfl, rfl, rfl, rfl, rfl, rfl, trivial⟩ rfl
  refine fin_then ?_
  refine aw_seq ?_
  refine aw_text (rows := [_, _]) rfl (by kernel_rfl) ⟨
    ok_plain rfl rfl (op_move (ltN rfl) rfl),
    ok_plain rfl rfl (op_bin (ltN rfl) rfl rfl rfl),
    trivial⟩ ?_
  refine fin_keep (s' := [(.t 2, some (.x (.v (.bool ch)))), (.t 3, some (.x (.p 1 0))), (.t 4, some (.x (.p 2 0))), (.t 8, some (.x (.v (.int .i64 (met s c))))), (.t 13, some (.x (.v (.bool ((met s c) != 0))))), (.b 1, some (.sh 25 11)), (.b 2, some (.sh 34 8)), (.c 1 0, some (.x (.v (.int .i64 s.Class)))), (.c 1 1, some (.x (.v (.int .i64 s.Power)))), (.c 1 2, some (.x (.v (.int .i64 s.Draught)))), (.c 1 3, some (.x (.v (.int .i64 s.Tonnes)))), (.c 1 4, some (.x (.v (.slice s_Thrust_p s.Thrust.length s_Thrust_c)))), (.c 1 5, some (.x (.v (.slice s_Water_p s.Water.length s_Water_c)))), (.c 1 6, some (.x (.v (.slice s_Ice_p s.Ice.length s_Ice_c)))), (.c 1 7, some (.x (.v (.int .i64 s.Slow)))), (.c 1 8, some (.x (.v (.int .i64 s.Brash)))), (.c 1 9, some (.x (.v (.int .i64 s.Ridge)))), (.c 1 10, some (.x (.v (.int .i64 s.Press)))), (.c 2 0, some (.x (.v (.int .i64 c.Conc.Lo)))), (.c 2 1, some (.x (.v (.int .i64 c.Conc.Hi)))), (.c 2 2, some (.x (.v (.int .i64 c.Thick.Lo)))), (.c 2 3, some (.x (.v (.int .i64 c.Thick.Hi)))), (.c 2 4, some (.x (.v (.int .i64 c.Ridge.Lo)))), (.c 2 5, some (.x (.v (.int .i64 c.Ridge.Hi)))), (.c 2 6, some (.x (.v (.int .i64 c.Press.Lo)))), (.c 2 7, some (.x (.v (.int .i64 c.Press.Hi))))]) ?_ ⟨rfl, rfl, rfl, rfl, rfl, rfl, rfl, rfl, rfl, rfl, rfl, rfl, rfl, rfl, rfl, rfl, rfl, rfl, rfl, rfl, rfl, rfl, rfl, rfl, rfl, rfl, trivial⟩ rfl
  refine fin_then ?_
  refine aw_cond rfl (fun hz1 => ?_) (fun hz1 => ?_)
  · have _z := hz1
    have q2 := ne_t hz1
    refine aw_seq ?_
    refine aw_text (rows := [_, _, _]) rfl (by kernel_rfl) ⟨
      ok_plain rfl rfl (op_move (ltN rfl) rfl),
      ok_plain rfl rfl (op_assign (ltN rfl) rfl),
      ok_plain rfl rfl (op_assign (ltN rfl) rfl),
      trivial⟩ ?_
    refine fin_keep (s' := [(.t 6, some (.x (.v (.int .i64 0)))), (.t 7, some (.x (.v (.int .i64 (met s c)))))]) ?_ ⟨rfl, rfl, trivial⟩ rfl
    refine fin_then ?_
    refine aw_ret ?_
    refine fin_then_ret ?_
    refine post_ret (x := .t [.v (.int .i64 0), .v (.int .i64 (met s c))]) rfl rfl (resOK_tmp rfl (resOK_tmp rfl resOK_nil)) rfl (fun mm aa ww hr => ?_)
    show Ending.returned (.tuple #[.int .i64 0, .int .i64 (met s c)]) = _ ∧ _
    exact ⟨by rw [safeE, if_pos (ne_t hz1)], hr.below⟩
  · have _z := hz1
    have q3 := ne_f hz1
    refine aw_skip ?_
    refine fin_then ?_
    refine aw_seq ?_
    have hmet := met_ok (ne_f hz1)
    have hc := hmet.1
    have hg := hmet.2
    refine aw_text (rows := [_, _, _, _, _, _, _]) rfl (by kernel_rfl) ⟨
      ok_plain rfl rfl (op_loadN (ys := [.v (.int .i64 c.Conc.Lo), .v (.int .i64 c.Conc.Hi), .v (.int .i64 c.Thick.Lo), .v (.int .i64 c.Thick.Hi), .v (.int .i64 c.Ridge.Lo), .v (.int .i64 c.Ridge.Hi), .v (.int .i64 c.Press.Lo), .v (.int .i64 c.Press.Hi)]) (ltN rfl) sh_34 rfl rfl ⟨rfl, rfl, rfl, rfl, rfl, rfl, rfl, rfl, trivial⟩),
      ok_plain rfl rfl (op_move (ltN rfl) rfl),
      ok_plain rfl rfl (op_call (x := .t [.v (.int .i64 ((safe s c ch).1)), .v (.int .i64 ((safe s c ch).2))]) (fs := []) (caps := []) (extra := (.b 1 :: cellKeys 1 0 11) ++ []) (ltN rfl) en_87 rfl ⟨rfl, rfl, rfl⟩ (EvL.cons rfl (EvL.cons rfl (EvL.cons rfl EvL.nil))) (fun mm aa ww gg hr hrel => (c87 s ⟨s_Thrust_p, s.Thrust.length, s_Thrust_c⟩ ⟨s_Water_p, s.Water.length, s_Water_c⟩ ⟨s_Ice_p, s.Ice.length, s_Ice_c⟩ (mm 1) c ch ww (SlIs.mono hs_Thrust hrel.below) (SlIs.mono hs_Water hrel.below) (SlIs.mono hs_Ice hrel.below) (boxAt (L := 1) (vs := [(.int .i64 s.Class), (.int .i64 s.Power), (.int .i64 s.Draught), (.int .i64 s.Tonnes), (.slice s_Thrust_p s.Thrust.length s_Thrust_c), (.slice s_Water_p s.Water.length s_Water_c), (.slice s_Ice_p s.Ice.length s_Ice_c), (.int .i64 s.Slow), (.int .i64 s.Brash), (.int .i64 s.Ridge), (.int .i64 s.Press)]) hrel (fun k hk => hr k (List.mem_append_left _ hk)) rfl ⟨rfl, rfl, rfl, rfl, rfl, rfl, rfl, rfl, rfl, rfl, rfl, trivial⟩) (BoxAt.mono hG hrel.below) (by first | assumption | omega) (by first | assumption | omega)))),
      ok_plain rfl rfl (op_extract (ltN rfl) rfl rfl),
      ok_plain rfl rfl (op_extract (ltN rfl) rfl rfl),
      ok_plain rfl rfl (op_assign (ltN rfl) rfl),
      ok_plain rfl rfl (op_assign (ltN rfl) rfl),
      trivial⟩ ?_
    refine fin_keep (s' := [(.t 6, some (.x (.v (.int .i64 ((safe s c ch).1))))), (.t 7, some (.x (.v (.int .i64 ((safe s c ch).2)))))]) ?_ ⟨rfl, rfl, trivial⟩ rfl
    refine fin_then ?_
    refine aw_ret ?_
    refine post_ret (x := .t [.v (.int .i64 ((safe s c ch).1)), .v (.int .i64 ((safe s c ch).2))]) rfl rfl (resOK_tmp rfl (resOK_tmp rfl resOK_nil)) rfl (fun mm aa ww hr => ?_)
    show Ending.returned (.tuple #[.int .i64 ((safe s c ch).1), .int .i64 ((safe s c ch).2)]) = _ ∧ _
    exact ⟨by rw [safeE, if_neg (by rw [ne_f hz1]; decide)], hr.below⟩

def m25 (_F : Nat) (a0 : Ice) : Option (Cell) :=
  some ((⟨(⟨a0.Conc, a0.Conc⟩ : Span), (⟨a0.Thick, a0.Thick⟩ : Span), (⟨a0.Ridge, a0.Ridge⟩ : Span), (⟨a0.Press, a0.Press⟩ : Span)⟩ : Cell))

theorem c25 (F : Nat) (a0 : Ice) (w : World)  (r : Cell) (hm : m25 F a0 = some r) : Calls Tryd.prog 25 #[.agg #[.int .i64 a0.Conc, .int .i64 a0.Thick, .int .i64 a0.Ridge, .int .i64 a0.Press]] w fun e w' => e = .returned (.agg #[.int .i64 r.Conc.Lo, .int .i64 r.Conc.Hi, .int .i64 r.Thick.Lo, .int .i64 r.Thick.Hi, .int .i64 r.Ridge.Lo, .int .i64 r.Ridge.Hi, .int .i64 r.Press.Lo, .int .i64 r.Press.Hi]) ∧ Below w.heap.size w w' := by
  unfold m25 at hm
  refine enter (args := [.g [.v (.int .i64 a0.Conc), .v (.int .i64 a0.Thick), .v (.int .i64 a0.Ridge), .v (.int .i64 a0.Press)]]) Tryd.func25 rfl (N := 24) rfl (Nat.le_of_ble_eq_true rfl) ?_
  refine aw_seq ?_
  refine aw_text (rows := [_, _]) rfl (by kernel_rfl) ⟨
    ok_plain rfl rfl (op_boxN (L := 1) (ltN rfl) rfl rfl rfl),
    ok_plain rfl rfl (op_alloc (L := 2) (ltN rfl) zl_34),
    trivial⟩ ?_
  refine fin_keep (s' := [(.t 1, some (.x (.p 1 0))), (.t 2, some (.x (.p 2 0))), (.b 1, some (.sh 28 4)), (.b 2, some (.sh 34 8)), (.c 1 0, some (.x (.v (.int .i64 a0.Conc)))), (.c 1 1, some (.x (.v (.int .i64 a0.Thick)))), (.c 1 2, some (.x (.v (.int .i64 a0.Ridge)))), (.c 1 3, some (.x (.v (.int .i64 a0.Press)))), (.c 2 0, some (.x (.v (.int .i64 0)))), (.c 2 1, some (.x (.v (.int .i64 0)))), (.c 2 2, some (.x (.v (.int .i64 0)))), (.c 2 3, some (.x (.v (.int .i64 0)))), (.c 2 4, some (.x (.v (.int .i64 0)))), (.c 2 5, some (.x (.v (.int .i64 0)))), (.c 2 6, some (.x (.v (.int .i64 0)))), (.c 2 7, some (.x (.v (.int .i64 0))))]) ?_ ⟨rfl, rfl, rfl, rfl, rfl, rfl, rfl, rfl, rfl, rfl, rfl, rfl, rfl, rfl, rfl, rfl, trivial⟩ rfl
  refine fin_then ?_
  refine aw_seq ?_
  refine aw_text (rows := [_, _, _, _, _, _, _, _, _, _, _, _, _, _, _, _, _, _, _, _, _, _]) rfl (by kernel_rfl) ⟨
    ok_plain rfl rfl (op_fieldAddr (ltN rfl) rfl fo_28_0),
    ok_plain rfl rfl (op_load1 (ltN rfl) sh_3 rfl rfl),
    ok_plain rfl rfl (op_fieldAddr (ltN rfl) rfl fo_28_0),
    ok_plain rfl rfl (op_load1 (ltN rfl) sh_3 rfl rfl),
    ok_plain rfl rfl (op_build (x := .g [.v (.int .i64 a0.Conc), .v (.int .i64 a0.Conc)]) (ltN rfl) (EvL.cons rfl (EvL.cons rfl EvL.nil)) (fun m w => by kernel_rfl)),
    ok_plain rfl rfl (op_fieldAddr (ltN rfl) rfl fo_28_1),
    ok_plain rfl rfl (op_load1 (ltN rfl) sh_3 rfl rfl),
    ok_plain rfl rfl (op_fieldAddr (ltN rfl) rfl fo_28_1),
    ok_plain rfl rfl (op_load1 (ltN rfl) sh_3 rfl rfl),
    ok_plain rfl rfl (op_build (x := .g [.v (.int .i64 a0.Thick), .v (.int .i64 a0.Thick)]) (ltN rfl) (EvL.cons rfl (EvL.cons rfl EvL.nil)) (fun m w => by kernel_rfl)),
    ok_plain rfl rfl (op_fieldAddr (ltN rfl) rfl fo_28_2),
    ok_plain rfl rfl (op_load1 (ltN rfl) sh_3 rfl rfl),
    ok_plain rfl rfl (op_fieldAddr (ltN rfl) rfl fo_28_2),
    ok_plain rfl rfl (op_load1 (ltN rfl) sh_3 rfl rfl),
    ok_plain rfl rfl (op_build (x := .g [.v (.int .i64 a0.Ridge), .v (.int .i64 a0.Ridge)]) (ltN rfl) (EvL.cons rfl (EvL.cons rfl EvL.nil)) (fun m w => by kernel_rfl)),
    ok_plain rfl rfl (op_fieldAddr (ltN rfl) rfl fo_28_3),
    ok_plain rfl rfl (op_load1 (ltN rfl) sh_3 rfl rfl),
    ok_plain rfl rfl (op_fieldAddr (ltN rfl) rfl fo_28_3),
    ok_plain rfl rfl (op_load1 (ltN rfl) sh_3 rfl rfl),
    ok_plain rfl rfl (op_build (x := .g [.v (.int .i64 a0.Press), .v (.int .i64 a0.Press)]) (ltN rfl) (EvL.cons rfl (EvL.cons rfl EvL.nil)) (fun m w => by kernel_rfl)),
    ok_plain rfl rfl (op_build (x := .g [.v (.int .i64 a0.Conc), .v (.int .i64 a0.Conc), .v (.int .i64 a0.Thick), .v (.int .i64 a0.Thick), .v (.int .i64 a0.Ridge), .v (.int .i64 a0.Ridge), .v (.int .i64 a0.Press), .v (.int .i64 a0.Press)]) (ltN rfl) (EvL.cons rfl (EvL.cons rfl (EvL.cons rfl (EvL.cons rfl EvL.nil)))) (fun m w => by kernel_rfl)),
    ok_plain rfl rfl (op_storeN sz_34 rfl rfl rfl rfl rfl (by decide)),
    trivial⟩ ?_
  refine fin_keep (s' := [(.t 2, some (.x (.p 2 0))), (.b 2, some (.sh 34 8)), (.c 2 0, some (.x (.v (.int .i64 a0.Conc)))), (.c 2 1, some (.x (.v (.int .i64 a0.Conc)))), (.c 2 2, some (.x (.v (.int .i64 a0.Thick)))), (.c 2 3, some (.x (.v (.int .i64 a0.Thick)))), (.c 2 4, some (.x (.v (.int .i64 a0.Ridge)))), (.c 2 5, some (.x (.v (.int .i64 a0.Ridge)))), (.c 2 6, some (.x (.v (.int .i64 a0.Press)))), (.c 2 7, some (.x (.v (.int .i64 a0.Press))))]) ?_ ⟨rfl, rfl, rfl, rfl, rfl, rfl, rfl, rfl, rfl, rfl, trivial⟩ rfl
  refine fin_then ?_
  refine aw_ret ?_
  refine post_ret (x := .g [.v (.int .i64 a0.Conc), .v (.int .i64 a0.Conc), .v (.int .i64 a0.Thick), .v (.int .i64 a0.Thick), .v (.int .i64 a0.Ridge), .v (.int .i64 a0.Ridge), .v (.int .i64 a0.Press), .v (.int .i64 a0.Press)]) rfl rfl (resOK_cellN (ys := [.v (.int .i64 a0.Conc), .v (.int .i64 a0.Conc), .v (.int .i64 a0.Thick), .v (.int .i64 a0.Thick), .v (.int .i64 a0.Ridge), .v (.int .i64 a0.Ridge), .v (.int .i64 a0.Press), .v (.int .i64 a0.Press)]) rfl sh_34 rfl ⟨rfl, rfl, rfl, rfl, rfl, rfl, rfl, rfl, trivial⟩ resOK_nil) rfl (fun mm aa ww hr => ?_)
  cases hm
  exact ⟨rfl, hr.below⟩

def m91_0 (_F : Nat) (a0 : Span) (l2_0 : List Int) (n1_0 : Nat) : Option (Int × Nat) :=
  chk (InR (256 * (dv l2_0 ((n1_0 + 1)) 2))) (chk (InR ((dv l2_0 n1_0 256) + (256 * (dv l2_0 ((n1_0 + 1)) 2)))) (chk (InR (a0.Hi - a0.Lo)) (chk (InR ((a0.Hi - a0.Lo) + 1)) (chk ((0 ≤ ((dv l2_0 n1_0 256) + (256 * (dv l2_0 ((n1_0 + 1)) 2))) ∧ ((dv l2_0 n1_0 256) + (256 * (dv l2_0 ((n1_0 + 1)) 2))) ≤ 9223372036854775807) ∧ 0 < ((a0.Hi - a0.Lo) + 1)) (chk (InR (a0.Lo + (((dv l2_0 n1_0 256) + (256 * (dv l2_0 ((n1_0 + 1)) 2))) % ((a0.Hi - a0.Lo) + 1)))) (some (a0.Lo + (((dv l2_0 n1_0 256) + (256 * (dv l2_0 ((n1_0 + 1)) 2))) % ((a0.Hi - a0.Lo) + 1)), ((n1_0 + 1) + 1))))))))

theorem c91_0 (F : Nat) (a0 : Span) (b0 : Nat) (b1 : Nat) (b2 : Nat) (l2_0 : List Int) (l2_0_s : SlV) (n1_0 : Nat) (w : World) (hb0 : w.heap[b0]? = some (.cells ([.func (.func 83) #[] #[.pointer (some ⟨b1, 0, none⟩), .pointer (some ⟨b2, 0, none⟩)]] : List Value).toArray 44 (0, 0))) (hb1 : w.heap[b1]? = some (.cells ([.int .i64 (idx l2_0 n1_0)] : List Value).toArray 3 (0, 0))) (hb2 : w.heap[b2]? = some (.cells ([.slice l2_0_s.p l2_0_s.n l2_0_s.c] : List Value).toArray 22 (0, 0))) (hd_0_1 : b1 ≠ b0) (hd_0_2 : b2 ≠ b0) (hd_1_2 : b2 ≠ b1) (hl2_0 : SlIs encU8 1 w l2_0_s l2_0) (h8l2_0 : ∀ x ∈ l2_0, 0 ≤ x ∧ x ≤ 255) (hlenl2_0 : l2_0.length ≤ 9223372036854775807) (hn_l2_0_0 : l2_0 ≠ [] → ∀ ad, l2_0_s.p = some ad → ad.block ≠ b0) (hn_l2_0_1 : l2_0 ≠ [] → ∀ ad, l2_0_s.p = some ad → ad.block ≠ b1) (hn_l2_0_2 : l2_0 ≠ [] → ∀ ad, l2_0_s.p = some ad → ad.block ≠ b2) (r : Int × Nat) (hm : m91_0 F a0 l2_0 n1_0 = some r) : Calls Tryd.prog 91 #[.agg #[.int .i64 a0.Lo, .int .i64 a0.Hi], .pointer (some ⟨b0, 0, none⟩)] w fun e w' => e = .returned (.int .i64 r.1) ∧ LentL w w' [(b0, 44, [.func (.func 83) #[] #[.pointer (some ⟨b1, 0, none⟩), .pointer (some ⟨b2, 0, none⟩)]]), (b1, 3, [.int .i64 (idx l2_0 r.2)]), (b2, 22, [.slice l2_0_s.p l2_0_s.n l2_0_s.c])] := by
  obtain ⟨l2_0_p, l2_0_n, l2_0_c⟩ := l2_0_s
  have hl2_0_l : l2_0_n = l2_0.length := hl2_0.1
  subst hl2_0_l
  obtain ⟨l2_0_b, l2_0_o, hl2_0_p, hl2_0_L⟩ := SlAt.lies' hl2_0
  unfold m91_0 at hm
  refine enterG (args := [.g [.v (.int .i64 a0.Lo), .v (.int .i64 a0.Hi)], .v (.pointer (some ⟨b0, 0, none⟩))]) Tryd.func91 rfl (N := 20) rfl (Nat.le_of_ble_eq_true rfl) [(900, b0, 44, [.func (.func 83) #[] #[.pointer (some ⟨b1, 0, none⟩), .pointer (some ⟨b2, 0, none⟩)]]), (901, b1, 3, [.int .i64 (idx l2_0 n1_0)]), (902, b2, 22, [(.slice l2_0_p l2_0.length l2_0_c)])] ⟨hb0, (by simp [loans2, hd_0_1, hd_0_2]), ⟨hb1, (by simp [loans2, hd_1_2]), ⟨hb2, (by simp [loans2]), trivial⟩⟩⟩ rfl ?_
  refine aw_rex (k := .t 1) (.p 900 0) rfl (fun m hm => by have h0 := hm ((900, b0) : Nat × Nat) (by simp [loans2]); simp only [den]; rw [h0]) ?_
  refine aw_rex (k := .c 900 0) (.f (.func 83) [] [.p 901 0, .p 902 0]) rfl (fun m hm => by have h0 := hm ((901, b1) : Nat × Nat) (by simp [loans2]); have h1 := hm ((902, b2) : Nat × Nat) (by simp [loans2]); simp only [den, denL]; rw [h0, h1]) ?_
  refine AW.keep (s' := [(.t 0, some (.x (.g [.v (.int .i64 a0.Lo), .v (.int .i64 a0.Hi)]))), (.t 1, some (.x (.p 900 0))), (.b 900, some (.sh 44 1)), (.b 901, some (.sh 3 1)), (.b 902, some (.sh 22 1)), (.c 900 0, some (.x (.f (.func 83) [] [.p 901 0, .p 902 0]))), (.c 901 0, some (.x (.v (.int .i64 (idx l2_0 n1_0))))), (.c 902 0, some (.x (.v (.slice l2_0_p l2_0.length l2_0_c))))]) ?_ ⟨rfl, rfl, rfl, rfl, rfl, rfl, rfl, rfl, trivial⟩ rfl
  refine aw_seq ?_
  refine aw_text (rows := [_, _]) rfl (by kernel_rfl) ⟨
    ok_plain rfl rfl (op_boxN (L := 1) (ltN rfl) rfl rfl rfl),
    ok_plain rfl rfl (op_assign (ltN rfl) rfl),
    trivial⟩ ?_
  refine fin_keep (s' := [(.t 1, some (.x (.p 900 0))), (.t 2, some (.x (.p 1 0))), (.b 1, some (.sh 32 2)), (.b 900, some (.sh 44 1)), (.b 901, some (.sh 3 1)), (.b 902, some (.sh 22 1)), (.c 1 0, some (.x (.v (.int .i64 a0.Lo)))), (.c 1 1, some (.x (.v (.int .i64 a0.Hi)))), (.c 900 0, some (.x (.f (.func 83) [] [.p 901 0, .p 902 0]))), (.c 901 0, some (.x (.v (.int .i64 (idx l2_0 n1_0))))), (.c 902 0, some (.x (.v (.slice l2_0_p l2_0.length l2_0_c))))]) ?_ ⟨rfl, rfl, rfl, rfl, rfl, rfl, rfl, rfl, rfl, rfl, rfl, trivial⟩ rfl
  refine fin_then ?_
  refine aw_seq ?_
  obtain ⟨hp1, hm⟩ := chk_some hm
  obtain ⟨hp2, hm⟩ := chk_some hm
  obtain ⟨hp3, hm⟩ := chk_some hm
  obtain ⟨hp4, hm⟩ := chk_some hm
  obtain ⟨hp5, hm⟩ := chk_some hm
  obtain ⟨hp6, hm⟩ := chk_some hm
  refine aw_any (rows := [_, _, _, _, _, _, _, _, _, _, _, _, _, _, _, _, _]) (M := [0, 1, 0, 4, 0, 28, 60, 124, 0, 256, 0, 1024, 3840, 7936, 16380, 32767, 65535]) Tryd_mixed (by kernel_rfl) rfl (by kernel_rfl) ⟨
    ok_plain rfl rfl (op_fieldAddr (ltN rfl) rfl fo_32_0),
    ok_plain rfl rfl (op_load1 (ltN rfl) sh_3 rfl rfl),
    ok_plain rfl rfl (op_load1 (ltN rfl) sh_44 rfl rfl),
    ok_plain rfl rfl (op_callLentL (ls := [⟨901, 3, [.v (.int .i64 (idx l2_0 n1_0))], [.v (.int .i64 (idx l2_0 (n1_0 + 1)))]⟩, ⟨902, 22, [.v (.slice l2_0_p l2_0.length l2_0_c)], [.v (.slice l2_0_p l2_0.length l2_0_c)]⟩]) (x := .v (.int .i64 (dv l2_0 n1_0 256))) (fs := []) (caps := [.p 901 0, .p 902 0]) (extra := []) (ltN rfl) en_83 rfl ⟨rfl, rfl, rfl⟩ (EvL.cons rfl EvL.nil) ⟨rfl, ⟨rfl, trivial⟩, rfl, lb_ne rfl, ⟨rfl, ⟨rfl, trivial⟩, rfl, lb_ne rfl, trivial⟩⟩ (fun mm aa ww gg hr hrel hbx hlo => c83L 256 n1_0 (mm 901) l2_0 ⟨l2_0_p, l2_0.length, l2_0_c⟩ (mm 902) ww (hbx _ (.head _)) (hbx _ (.tail _ (.head _))) (SlIs.kept hl2_0 hrel (fun hl ad h => (lent_cons (hn_l2_0_0 hl ad h) (lent_cons (hn_l2_0_1 hl ad h) (lent_cons (hn_l2_0_2 hl ad h) lent_nil))))) (fun hl ad h => by rw [(hrel.fix 901 b1 (by simp [loans2])).1]; exact hn_l2_0_1 hl ad h) (box_ne hrel hlo.2.2.2.2.1 hlo.1 (by decide)) (by decide) h8l2_0 hlenl2_0)),
    ok_plain rfl rfl (op_load1 (ltN rfl) sh_44 rfl rfl),
    ok_plain rfl rfl (op_callLentL (ls := [⟨901, 3, [.v (.int .i64 (idx l2_0 (n1_0 + 1)))], [.v (.int .i64 (idx l2_0 ((n1_0 + 1) + 1)))]⟩, ⟨902, 22, [.v (.slice l2_0_p l2_0.length l2_0_c)], [.v (.slice l2_0_p l2_0.length l2_0_c)]⟩]) (x := .v (.int .i64 (dv l2_0 ((n1_0 + 1)) 2))) (fs := []) (caps := [.p 901 0, .p 902 0]) (extra := []) (ltN rfl) en_83 rfl ⟨rfl, rfl, rfl⟩ (EvL.cons rfl EvL.nil) ⟨rfl, ⟨rfl, trivial⟩, rfl, lb_ne rfl, ⟨rfl, ⟨rfl, trivial⟩, rfl, lb_ne rfl, trivial⟩⟩ (fun mm aa ww gg hr hrel hbx hlo => c83L 2 ((n1_0 + 1)) (mm 901) l2_0 ⟨l2_0_p, l2_0.length, l2_0_c⟩ (mm 902) ww (hbx _ (.head _)) (hbx _ (.tail _ (.head _))) (SlIs.kept hl2_0 hrel (fun hl ad h => (lent_cons (hn_l2_0_0 hl ad h) (lent_cons (hn_l2_0_1 hl ad h) (lent_cons (hn_l2_0_2 hl ad h) lent_nil))))) (fun hl ad h => by rw [(hrel.fix 901 b1 (by simp [loans2])).1]; exact hn_l2_0_1 hl ad h) (box_ne hrel hlo.2.2.2.2.1 hlo.1 (by decide)) (by decide) h8l2_0 hlenl2_0)),
    ok_plain rfl rfl (op_bin (ltN rfl) rfl rfl (nw_mul hp1)),
    ok_plain rfl rfl (op_bin (ltN rfl) rfl rfl (nw_add hp2)),
    ok_plain rfl rfl (op_fieldAddr (ltN rfl) rfl fo_32_1),
    ok_plain rfl rfl (op_load1 (ltN rfl) sh_3 rfl rfl),
    ok_plain rfl rfl (op_fieldAddr (ltN rfl) rfl fo_32_0),
    ok_plain rfl rfl (op_load1 (ltN rfl) sh_3 rfl rfl),
    ok_plain rfl rfl (op_bin (ltN rfl) rfl rfl (nw_sub hp3)),
    ok_plain rfl rfl (op_bin (ltN rfl) rfl rfl (nw_add hp4)),
    ok_plain rfl rfl (op_rem (ltN rfl) rfl rfl (Int.ne_of_gt hp5.2) (rem_nn hp5.1.1 hp5.2 hp5.1.2)),
    ok_plain rfl rfl (op_bin (ltN rfl) rfl rfl (nw_add hp6)),
    ok_plain rfl rfl (op_assign (ltN rfl) rfl),
    trivial⟩ ?_
  refine fin_keep (s' := [(.t 3, some (.x (.v (.int .i64 (a0.Lo + (((dv l2_0 n1_0 256) + (256 * (dv l2_0 ((n1_0 + 1)) 2))) % ((a0.Hi - a0.Lo) + 1))))))), (.b 900, some (.sh 44 1)), (.b 901, some (.sh 3 1)), (.b 902, some (.sh 22 1)), (.c 900 0, some (.x (.f (.func 83) [] [.p 901 0, .p 902 0]))), (.c 901 0, some (.x (.v (.int .i64 (idx l2_0 ((n1_0 + 1) + 1)))))), (.c 902 0, some (.x (.v (.slice l2_0_p l2_0.length l2_0_c))))]) ?_ ⟨rfl, rfl, rfl, rfl, rfl, rfl, rfl, trivial⟩ rfl
  refine fin_then ?_
  refine aw_ret ?_
  refine post_ret (x := .v (.int .i64 (a0.Lo + (((dv l2_0 n1_0 256) + (256 * (dv l2_0 ((n1_0 + 1)) 2))) % ((a0.Hi - a0.Lo) + 1))))) rfl rfl (resOK_tmp rfl resOK_nil) rfl (fun mm aa ww hr => ?_)
  cases hm
  have hr := hr.rex (k0 := .c 900 0) (x := .v (.func (.func 83) #[] #[.pointer (some ⟨b1, 0, none⟩), .pointer (some ⟨b2, 0, none⟩)])) rfl (by simp only [den, denL]; rw [(hr.fix 901 b1 (by simp [loans2])).1, (hr.fix 902 b2 (by simp [loans2])).1])
  exact ⟨rfl, lentL_end hr [(900, b0, 44, [.func (.func 83) #[] #[.pointer (some ⟨b1, 0, none⟩), .pointer (some ⟨b2, 0, none⟩)]]), (901, b1, 3, [(.int .i64 (idx l2_0 ((n1_0 + 1) + 1)))]), (902, b2, 22, [(.slice l2_0_p l2_0.length l2_0_c)])] rfl ⟨rfl, ⟨rfl, trivial⟩, ⟨rfl, ⟨rfl, trivial⟩, ⟨rfl, ⟨rfl, trivial⟩, trivial⟩⟩⟩⟩

def m26 (F : Nat) (a0 : Cell) (a1 : List Int) : Option (Ice) :=
  bnd (m91_0 F a0.Conc a1 0) (fun v1 => bnd (m91_0 F a0.Thick a1 v1.2) (fun v2 => bnd (m91_0 F a0.Ridge a1 v2.2) (fun v3 => bnd (m91_0 F a0.Press a1 v3.2) (fun v4 => some ((⟨v1.1, v2.1, v3.1, v4.1⟩ : Ice))))))

theorem c26 (F : Nat) (a0 : Cell) (a1 : List Int) (a1_s : SlV) (w : World) (ha1 : SlIs encU8 1 w a1_s a1) (h8a1 : ∀ x ∈ a1, 0 ≤ x ∧ x ≤ 255) (hlena1 : a1.length ≤ 9223372036854775807) (r : Ice) (hm : m26 F a0 a1 = some r) : Calls Tryd.prog 26 #[.agg #[.int .i64 a0.Conc.Lo, .int .i64 a0.Conc.Hi, .int .i64 a0.Thick.Lo, .int .i64 a0.Thick.Hi, .int .i64 a0.Ridge.Lo, .int .i64 a0.Ridge.Hi, .int .i64 a0.Press.Lo, .int .i64 a0.Press.Hi], .slice a1_s.p a1_s.n a1_s.c] w fun e w' => e = .returned (.agg #[.int .i64 r.Conc, .int .i64 r.Thick, .int .i64 r.Ridge, .int .i64 r.Press]) ∧ Below w.heap.size w w' := by
  obtain ⟨a1_p, a1_n, a1_c⟩ := a1_s
  have ha1_l : a1_n = a1.length := ha1.1
  subst ha1_l
  obtain ⟨a1_b, a1_o, ha1_p, ha1_L⟩ := SlAt.lies' ha1
  unfold m26 at hm
  refine enter (args := [.g [.v (.int .i64 a0.Conc.Lo), .v (.int .i64 a0.Conc.Hi), .v (.int .i64 a0.Thick.Lo), .v (.int .i64 a0.Thick.Hi), .v (.int .i64 a0.Ridge.Lo), .v (.int .i64 a0.Ridge.Hi), .v (.int .i64 a0.Press.Lo), .v (.int .i64 a0.Press.Hi)], .v (.slice a1_p a1.length a1_c)]) Tryd.func26 rfl (N := 27) rfl (Nat.le_of_ble_eq_true rfl) ?_
  refine aw_seq ?_
  refine aw_text (rows := [_, _]) rfl (by kernel_rfl) ⟨
    ok_plain rfl rfl (op_boxN (L := 1) (ltN rfl) rfl rfl rfl),
    ok_plain rfl rfl (op_alloc (L := 2) (ltN rfl) zl_28),
    trivial⟩ ?_
  refine fin_keep (s' := [(.t 1, some (.x (.v (.slice a1_p a1.length a1_c)))), (.t 2, some (.x (.p 1 0))), (.t 4, some (.x (.p 2 0))), (.b 1, some (.sh 34 8)), (.b 2, some (.sh 28 4)), (.c 1 0, some (.x (.v (.int .i64 a0.Conc.Lo)))), (.c 1 1, some (.x (.v (.int .i64 a0.Conc.Hi)))), (.c 1 2, some (.x (.v (.int .i64 a0.Thick.Lo)))), (.c 1 3, some (.x (.v (.int .i64 a0.Thick.Hi)))), (.c 1 4, some (.x (.v (.int .i64 a0.Ridge.Lo)))), (.c 1 5, some (.x (.v (.int .i64 a0.Ridge.Hi)))), (.c 1 6, some (.x (.v (.int .i64 a0.Press.Lo)))), (.c 1 7, some (.x (.v (.int .i64 a0.Press.Hi)))), (.c 2 0, some (.x (.v (.int .i64 0)))), (.c 2 1, some (.x (.v (.int .i64 0)))), (.c 2 2, some (.x (.v (.int .i64 0)))), (.c 2 3, some (.x (.v (.int .i64 0))))]) ?_ ⟨rfl, rfl, rfl, rfl, rfl, rfl, rfl, rfl, rfl, rfl, rfl, rfl, rfl, rfl, rfl, rfl, rfl, trivial⟩ rfl
  refine fin_then ?_
  refine aw_seq ?_
  refine aw_text (rows := [_, _, _, _]) rfl (by kernel_rfl) ⟨
    ok_plain rfl rfl (op_move (ltN rfl) rfl),
    ok_plain rfl rfl (op_callTwo (L1 := 3) (L2 := 4) (ty1 := 3) (ty2 := 22) (v1 := [.int .i64 (idx a1 0)]) (v2 := [(.slice a1_p a1.length a1_c)]) (R := fun b1 b2 => .func (.func 83) #[] #[.pointer (some ⟨b1, 0, none⟩), .pointer (some ⟨b2, 0, none⟩)]) (x := .f (.func 83) [] [.p 3 0, .p 4 0]) (fs := []) (caps := []) (extra := []) (ltN rfl) en_22 rfl ⟨rfl, rfl, rfl⟩ (EvL.cons rfl EvL.nil) (by decide) (fun _ => rfl) (fun mm aa ww gg hr hrel => (c22 a1 ⟨a1_p, a1.length, a1_c⟩ ww (SlIs.mono ha1 hrel.below)))),
    ok_plain rfl rfl (op_alloc (L := 5) (ltN rfl) zl_44),
    ok_plain rfl rfl (op_store1 sz_44 rfl rfl rfl rfl (ltN rfl)),
    trivial⟩ ?_
  refine fin_keep (s' := [(.t 2, some (.x (.p 1 0))), (.t 4, some (.x (.p 2 0))), (.t 5, some (.x (.p 5 0))), (.b 1, some (.sh 34 8)), (.b 2, some (.sh 28 4)), (.b 3, some (.sh 3 1)), (.b 4, some (.sh 22 1)), (.b 5, some (.sh 44 1)), (.c 1 0, some (.x (.v (.int .i64 a0.Conc.Lo)))), (.c 1 1, some (.x (.v (.int .i64 a0.Conc.Hi)))), (.c 1 2, some (.x (.v (.int .i64 a0.Thick.Lo)))), (.c 1 3, some (.x (.v (.int .i64 a0.Thick.Hi)))), (.c 1 4, some (.x (.v (.int .i64 a0.Ridge.Lo)))), (.c 1 5, some (.x (.v (.int .i64 a0.Ridge.Hi)))), (.c 1 6, some (.x (.v (.int .i64 a0.Press.Lo)))), (.c 1 7, some (.x (.v (.int .i64 a0.Press.Hi)))), (.c 2 0, some (.x (.v (.int .i64 0)))), (.c 2 1, some (.x (.v (.int .i64 0)))), (.c 2 2, some (.x (.v (.int .i64 0)))), (.c 2 3, some (.x (.v (.int .i64 0)))), (.c 3 0, some (.x (.v (.int .i64 (idx a1 0))))), (.c 4 0, some (.x (.v (.slice a1_p a1.length a1_c)))), (.c 5 0, some (.x (.f (.func 83) [] [.p 3 0, .p 4 0])))]) ?_ ⟨rfl, rfl, rfl, rfl, rfl, rfl, rfl, rfl, rfl, rfl, rfl, rfl, rfl, rfl, rfl, rfl, rfl, rfl, rfl, rfl, rfl, rfl, rfl, trivial⟩ rfl
  refine fin_then ?_
  refine aw_seq ?_
  refine aw_text (rows := [_, _]) rfl (by kernel_rfl) ⟨
    ok_plain rfl rfl (op_mkfn (ltN rfl) EvL.nil (EvL.cons rfl EvL.nil)),
    ok_plain rfl rfl (op_assign (ltN rfl) rfl),
    trivial⟩ ?_
  refine fin_keep (s' := [(.t 2, some (.x (.p 1 0))), (.t 4, some (.x (.p 2 0))), (.t 6, some (.x (.f (.func 91) [] [.p 5 0]))), (.b 1, some (.sh 34 8)), (.b 2, some (.sh 28 4)), (.b 3, some (.sh 3 1)), (.b 4, some (.sh 22 1)), (.b 5, some (.sh 44 1)), (.c 1 0, some (.x (.v (.int .i64 a0.Conc.Lo)))), (.c 1 1, some (.x (.v (.int .i64 a0.Conc.Hi)))), (.c 1 2, some (.x (.v (.int .i64 a0.Thick.Lo)))), (.c 1 3, some (.x (.v (.int .i64 a0.Thick.Hi)))), (.c 1 4, some (.x (.v (.int .i64 a0.Ridge.Lo)))), (.c 1 5, some (.x (.v (.int .i64 a0.Ridge.Hi)))), (.c 1 6, some (.x (.v (.int .i64 a0.Press.Lo)))), (.c 1 7, some (.x (.v (.int .i64 a0.Press.Hi)))), (.c 2 0, some (.x (.v (.int .i64 0)))), (.c 2 1, some (.x (.v (.int .i64 0)))), (.c 2 2, some (.x (.v (.int .i64 0)))), (.c 2 3, some (.x (.v (.int .i64 0)))), (.c 3 0, some (.x (.v (.int .i64 (idx a1 0))))), (.c 4 0, some (.x (.v (.slice a1_p a1.length a1_c)))), (.c 5 0, some (.x (.f (.func 83) [] [.p 3 0, .p 4 0])))]) ?_ ⟨rfl, rfl, rfl, rfl, rfl, rfl, rfl, rfl, rfl, rfl, rfl, rfl, rfl, rfl, rfl, rfl, rfl, rfl, rfl, rfl, rfl, rfl, rfl, trivial⟩ rfl
  refine fin_then ?_
  refine aw_seq ?_
  obtain ⟨v1, hv1, hm⟩ := bnd_some hm
  obtain ⟨v2, hv2, hm⟩ := bnd_some hm
  obtain ⟨v3, hv3, hm⟩ := bnd_some hm
  obtain ⟨v4, hv4, hm⟩ := bnd_some hm
  refine aw_any (rows := [_, _, _, _, _, _, _, _, _, _, _, _, _, _, _, _, _, _]) (M := [0, 0, 2, 7, 0, 0, 32, 127, 0, 0, 512, 2047, 0, 0, 8192, 32767, 65535, 131071]) Tryd_mixed (by kernel_rfl) rfl (by kernel_rfl) ⟨
    ok_plain rfl rfl (op_move (ltN rfl) rfl),
    ok_plain rfl rfl (op_fieldAddr (ltN rfl) rfl fo_34_0),
    ok_plain rfl rfl (op_loadN (ys := [.v (.int .i64 a0.Conc.Lo), .v (.int .i64 a0.Conc.Hi)]) (ltN rfl) sh_32 rfl rfl ⟨rfl, rfl, trivial⟩),
    ok_plain rfl rfl (op_callLentL (ls := [⟨5, 44, [.f (.func 83) [] [.p 3 0, .p 4 0]], [.f (.func 83) [] [.p 3 0, .p 4 0]]⟩, ⟨3, 3, [.v (.int .i64 (idx a1 0))], [.v (.int .i64 (idx a1 v1.2))]⟩, ⟨4, 22, [.v (.slice a1_p a1.length a1_c)], [.v (.slice a1_p a1.length a1_c)]⟩]) (x := .v (.int .i64 v1.1)) (fs := []) (caps := [.p 5 0]) (extra := []) (ltN rfl) en_91 rfl ⟨rfl, rfl, rfl⟩ (EvL.cons rfl EvL.nil) ⟨rfl, ⟨rfl, trivial⟩, rfl, lb_ne rfl, ⟨rfl, ⟨rfl, trivial⟩, rfl, lb_ne rfl, ⟨rfl, ⟨rfl, trivial⟩, rfl, lb_ne rfl, trivial⟩⟩⟩ (fun mm aa ww gg hr hrel hbx hlo => (c91_0 F a0.Conc (mm 5) (mm 3) (mm 4) a1 ⟨a1_p, a1.length, a1_c⟩ 0 ww (hbx _ (.head _)) (hbx _ (.tail _ (.head _))) (hbx _ (.tail _ (.tail _ (.head _)))) (box_ne hrel hlo.2.2.2.2.1 hlo.1 (by decide)) (box_ne hrel hlo.2.2.2.2.2.2.2.2.1 hlo.1 (by decide)) (box_ne hrel hlo.2.2.2.2.2.2.2.2.1 hlo.2.2.2.2.1 (by decide)) (SlIs.mono ha1 hrel.below) h8a1 hlena1 (sl_ne ha1 (box_hi hrel hlo.1)) (sl_ne ha1 (box_hi hrel hlo.2.2.2.2.1)) (sl_ne ha1 (box_hi hrel hlo.2.2.2.2.2.2.2.2.1)) v1 hv1))),
    ok_plain rfl rfl (op_move (ltN rfl) rfl),
    ok_plain rfl rfl (op_fieldAddr (ltN rfl) rfl fo_34_1),
    ok_plain rfl rfl (op_loadN (ys := [.v (.int .i64 a0.Thick.Lo), .v (.int .i64 a0.Thick.Hi)]) (ltN rfl) sh_32 rfl rfl ⟨rfl, rfl, trivial⟩),
    ok_plain rfl rfl (op_callLentL (ls := [⟨5, 44, [.f (.func 83) [] [.p 3 0, .p 4 0]], [.f (.func 83) [] [.p 3 0, .p 4 0]]⟩, ⟨3, 3, [.v (.int .i64 (idx a1 v1.2))], [.v (.int .i64 (idx a1 v2.2))]⟩, ⟨4, 22, [.v (.slice a1_p a1.length a1_c)], [.v (.slice a1_p a1.length a1_c)]⟩]) (x := .v (.int .i64 v2.1)) (fs := []) (caps := [.p 5 0]) (extra := []) (ltN rfl) en_91 rfl ⟨rfl, rfl, rfl⟩ (EvL.cons rfl EvL.nil) ⟨rfl, ⟨rfl, trivial⟩, rfl, lb_ne rfl, ⟨rfl, ⟨rfl, trivial⟩, rfl, lb_ne rfl, ⟨rfl, ⟨rfl, trivial⟩, rfl, lb_ne rfl, trivial⟩⟩⟩ (fun mm aa ww gg hr hrel hbx hlo => (c91_0 F a0.Thick (mm 5) (mm 3) (mm 4) a1 ⟨a1_p, a1.length, a1_c⟩ v1.2 ww (hbx _ (.head _)) (hbx _ (.tail _ (.head _))) (hbx _ (.tail _ (.tail _ (.head _)))) (box_ne hrel hlo.2.2.2.2.1 hlo.1 (by decide)) (box_ne hrel hlo.2.2.2.2.2.2.2.2.1 hlo.1 (by decide)) (box_ne hrel hlo.2.2.2.2.2.2.2.2.1 hlo.2.2.2.2.1 (by decide)) (SlIs.mono ha1 hrel.below) h8a1 hlena1 (sl_ne ha1 (box_hi hrel hlo.1)) (sl_ne ha1 (box_hi hrel hlo.2.2.2.2.1)) (sl_ne ha1 (box_hi hrel hlo.2.2.2.2.2.2.2.2.1)) v2 hv2))),
    ok_plain rfl rfl (op_move (ltN rfl) rfl),
    ok_plain rfl rfl (op_fieldAddr (ltN rfl) rfl fo_34_2),
    ok_plain rfl rfl (op_loadN (ys := [.v (.int .i64 a0.Ridge.Lo), .v (.int .i64 a0.Ridge.Hi)]) (ltN rfl) sh_32 rfl rfl ⟨rfl, rfl, trivial⟩),
    ok_plain rfl rfl (op_callLentL (ls := [⟨5, 44, [.f (.func 83) [] [.p 3 0, .p 4 0]], [.f (.func 83) [] [.p 3 0, .p 4 0]]⟩, ⟨3, 3, [.v (.int .i64 (idx a1 v2.2))], [.v (.int .i64 (idx a1 v3.2))]⟩, ⟨4, 22, [.v (.slice a1_p a1.length a1_c)], [.v (.slice a1_p a1.length a1_c)]⟩]) (x := .v (.int .i64 v3.1)) (fs := []) (caps := [.p 5 0]) (extra := []) (ltN rfl) en_91 rfl ⟨rfl, rfl, rfl⟩ (EvL.cons rfl EvL.nil) ⟨rfl, ⟨rfl, trivial⟩, rfl, lb_ne rfl, ⟨rfl, ⟨rfl, trivial⟩, rfl, lb_ne rfl, ⟨rfl, ⟨rfl, trivial⟩, rfl, lb_ne rfl, trivial⟩⟩⟩ (fun mm aa ww gg hr hrel hbx hlo => (c91_0 F a0.Ridge (mm 5) (mm 3) (mm 4) a1 ⟨a1_p, a1.length, a1_c⟩ v2.2 ww (hbx _ (.head _)) (hbx _ (.tail _ (.head _))) (hbx _ (.tail _ (.tail _ (.head _)))) (box_ne hrel hlo.2.2.2.2.1 hlo.1 (by decide)) (box_ne hrel hlo.2.2.2.2.2.2.2.2.1 hlo.1 (by decide)) (box_ne hrel hlo.2.2.2.2.2.2.2.2.1 hlo.2.2.2.2.1 (by decide)) (SlIs.mono ha1 hrel.below) h8a1 hlena1 (sl_ne ha1 (box_hi hrel hlo.1)) (sl_ne ha1 (box_hi hrel hlo.2.2.2.2.1)) (sl_ne ha1 (box_hi hrel hlo.2.2.2.2.2.2.2.2.1)) v3 hv3))),
    ok_plain rfl rfl (op_move (ltN rfl) rfl),
    ok_plain rfl rfl (op_fieldAddr (ltN rfl) rfl fo_34_3),
    ok_plain rfl rfl (op_loadN (ys := [.v (.int .i64 a0.Press.Lo), .v (.int .i64 a0.Press.Hi)]) (ltN rfl) sh_32 rfl rfl ⟨rfl, rfl, trivial⟩),
    ok_plain rfl rfl (op_callLentL (ls := [⟨5, 44, [.f (.func 83) [] [.p 3 0, .p 4 0]], [.f (.func 83) [] [.p 3 0, .p 4 0]]⟩, ⟨3, 3, [.v (.int .i64 (idx a1 v3.2))], [.v (.int .i64 (idx a1 v4.2))]⟩, ⟨4, 22, [.v (.slice a1_p a1.length a1_c)], [.v (.slice a1_p a1.length a1_c)]⟩]) (x := .v (.int .i64 v4.1)) (fs := []) (caps := [.p 5 0]) (extra := []) (ltN rfl) en_91 rfl ⟨rfl, rfl, rfl⟩ (EvL.cons rfl EvL.nil) ⟨rfl, ⟨rfl, trivial⟩, rfl, lb_ne rfl, ⟨rfl, ⟨rfl, trivial⟩, rfl, lb_ne rfl, ⟨rfl, ⟨rfl, trivial⟩, rfl, lb_ne rfl, trivial⟩⟩⟩ (fun mm aa ww gg hr hrel hbx hlo => (c91_0 F a0.Press (mm 5) (mm 3) (mm 4) a1 ⟨a1_p, a1.length, a1_c⟩ v3.2 ww (hbx _ (.head _)) (hbx _ (.tail _ (.head _))) (hbx _ (.tail _ (.tail _ (.head _)))) (box_ne hrel hlo.2.2.2.2.1 hlo.1 (by decide)) (box_ne hrel hlo.2.2.2.2.2.2.2.2.1 hlo.1 (by decide)) (box_ne hrel hlo.2.2.2.2.2.2.2.2.1 hlo.2.2.2.2.1 (by decide)) (SlIs.mono ha1 hrel.below) h8a1 hlena1 (sl_ne ha1 (box_hi hrel hlo.1)) (sl_ne ha1 (box_hi hrel hlo.2.2.2.2.1)) (sl_ne ha1 (box_hi hrel hlo.2.2.2.2.2.2.2.2.1)) v4 hv4))),
    ok_plain rfl rfl (op_build (x := .g [.v (.int .i64 v1.1), .v (.int .i64 v2.1), .v (.int .i64 v3.1), .v (.int .i64 v4.1)]) (ltN rfl) (EvL.cons rfl (EvL.cons rfl (EvL.cons rfl (EvL.cons rfl EvL.nil)))) (fun m w => by kernel_rfl)),
    ok_plain rfl rfl (op_storeN sz_28 rfl rfl rfl rfl rfl (by decide)),
    trivial⟩ ?_
  refine fin_keep (s' := [(.t 4, some (.x (.p 2 0))), (.b 2, some (.sh 28 4)), (.c 2 0, some (.x (.v (.int .i64 v1.1)))), (.c 2 1, some (.x (.v (.int .i64 v2.1)))), (.c 2 2, some (.x (.v (.int .i64 v3.1)))), (.c 2 3, some (.x (.v (.int .i64 v4.1))))]) ?_ ⟨rfl, rfl, rfl, rfl, rfl, rfl, trivial⟩ rfl
  refine fin_then ?_
  refine aw_ret ?_
  refine post_ret (x := .g [.v (.int .i64 v1.1), .v (.int .i64 v2.1), .v (.int .i64 v3.1), .v (.int .i64 v4.1)]) rfl rfl (resOK_cellN (ys := [.v (.int .i64 v1.1), .v (.int .i64 v2.1), .v (.int .i64 v3.1), .v (.int .i64 v4.1)]) rfl sh_28 rfl ⟨rfl, rfl, rfl, rfl, trivial⟩ resOK_nil) rfl (fun mm aa ww hr => ?_)
  cases hm
  exact ⟨rfl, hr.below⟩

end Go.Proofs.T
