import Derived.Test.YtgpcfckbcldokaaDoorHC
namespace Go.Proofs.T
open Go Go.AX Go.RowKit Hull
theorem en_114 : Proofs.Enters Tryd.prog 114 := Proofs.enters_of Tryd.func114 (by kernel_rfl) rfl
theorem sh_136 : shapeOf Tryd.prog 136 = some (some 6) := by kernel_rfl
theorem en_77 : Proofs.Enters Tryd.prog 77 := Proofs.enters_of Tryd.func77 (by kernel_rfl) rfl
theorem en_79 : Proofs.Enters Tryd.prog 79 := Proofs.enters_of Tryd.func79 (by kernel_rfl) rfl
theorem ar_203 : arrSz Tryd.prog 203 = some (6, 1) := by kernel_rfl

theorem c106 (s : Ship) (s_Thrust_s : SlV) (s_Water_s : SlV) (s_Ice_s : SlV) (s_b : Nat) (i : Ice) (ch : Bool) (v : Int) (w : World) (hs_Thrust : SlIs encPt 2 w s_Thrust_s s.Thrust) (hs_Water : SlIs encPt 2 w s_Water_s s.Water) (hs_Ice : SlIs encPt 2 w s_Ice_s s.Ice) (hs_box : BoxAt w s_b [.int .i64 s.Class, .int .i64 s.Power, .int .i64 s.Draught, .int .i64 s.Tonnes, .slice s_Thrust_s.p s_Thrust_s.n s_Thrust_s.c, .slice s_Water_s.p s_Water_s.n s_Water_s.c, .slice s_Ice_s.p s_Ice_s.n s_Ice_s.c, .int .i64 s.Slow, .int .i64 s.Brash, .int .i64 s.Ridge, .int .i64 s.Press]) (hc : check s = 0) (hi : goodIce i) (hv : 0 ≤ v ∧ v ≤ 255) : Calls Tryd.prog 106 #[.agg #[.pointer (some ⟨s_b, 0, none⟩), .int .i64 i.Conc, .int .i64 i.Thick, .int .i64 i.Ridge, .int .i64 i.Press, .bool ch], .int .i64 v] w fun e w' => e = .returned (.bool (makes s i ch v)) ∧ Below w.heap.size w w' := by
  obtain ⟨s_Thrust_p, s_Thrust_n, s_Thrust_c⟩ := s_Thrust_s
  have hs_Thrust_l : s_Thrust_n = s.Thrust.length := hs_Thrust.1
  subst hs_Thrust_l
  obtain ⟨s_Thrust_b, s_Thrust_o, hs_Thrust_p, hs_Thrust_L⟩ := SlAt.lies' hs_Thrust
  obtain ⟨s_Water_p, s_Water_n, s_Water_c⟩ := s_Water_s
  have hs_Water_l : s_Water_n = s.Water.length := hs_Water.1
  subst hs_Water_l
  obtain ⟨s_Water_b, s_Water_o, hs_Water_p, hs_Water_L⟩ := SlAt.lies' hs_Water
  obtain ⟨s_Ice_p, s_Ice_n, s_Ice_c⟩ := s_Ice_s
  have hs_Ice_l : s_Ice_n = s.Ice.length := hs_Ice.1
  subst hs_Ice_l
  obtain ⟨s_Ice_b, s_Ice_o, hs_Ice_p, hs_Ice_L⟩ := SlAt.lies' hs_Ice
  refine enter (args := [.g [.v (.pointer (some ⟨s_b, 0, none⟩)), .v (.int .i64 i.Conc), .v (.int .i64 i.Thick), .v (.int .i64 i.Ridge), .v (.int .i64 i.Press), .v (.bool ch)], .v (.int .i64 v)]) Tryd.func106 rfl (N := 23) rfl (Nat.le_of_ble_eq_true rfl) ?_
  refine aw_seq ?_
  refine aw_text (rows := [_, _]) rfl (by kernel_rfl) ⟨
    ok_plain rfl rfl (op_boxN (L := 1) (ltN rfl) rfl rfl rfl),
    ok_plain rfl rfl (op_assign (ltN rfl) rfl),
    trivial⟩ ?_
  refine fin_keep (s' := [(.t 1, some (.x (.v (.int .i64 v)))), (.t 2, some (.x (.p 1 0))), (.b 1, some (.sh 136 6)), (.c 1 0, some (.x (.v (.pointer (some ⟨s_b, 0, none⟩))))), (.c 1 1, some (.x (.v (.int .i64 i.Conc)))), (.c 1 2, some (.x (.v (.int .i64 i.Thick)))), (.c 1 3, some (.x (.v (.int .i64 i.Ridge)))), (.c 1 4, some (.x (.v (.int .i64 i.Press)))), (.c 1 5, some (.x (.v (.bool ch))))]) ?_ ⟨rfl, rfl, rfl, rfl, rfl, rfl, rfl, rfl, rfl, trivial⟩ rfl
  refine fin_then ?_
  refine aw_seq ?_
  refine aw_any (rows := [_, _, _, _, _, _, _, _, _, _, _, _, _, _, _, _, _, _, _]) (M := [0, 0, 2, 6, 14, 30, 62, 127, 255, 511, 1023, 511, 4095, 511, 511, 32767, 65535, 131071, 262143]) Tryd_mixed (by kernel_rfl) rfl (by kernel_rfl) ⟨
    ok_plain rfl rfl (op_move (ltN rfl) rfl),
    ok_plain rfl rfl (op_fieldAddr (ltN rfl) rfl fo_136_0),
    ok_plain rfl rfl (op_load1 (ltN rfl) sh_134 rfl rfl),
    ok_plain rfl rfl (op_nilCheck (ltN rfl) rfl trivial),
    ok_plain rfl rfl (op_fieldAddrB (ltN rfl) rfl fo_25_4),
    ok_plain rfl rfl (op_loadB (y := .v (.slice s_Thrust_p s.Thrust.length s_Thrust_c)) (ltN rfl) rfl (ldCell hs_box.1 (hs_box.2 4 _ rfl) rfl sh_23)),
    ok_plain rfl rfl (op_call (x := .v (.int .i64 (endX s.Thrust))) (fs := []) (caps := []) (extra := []) (ltN rfl) en_137 rfl ⟨rfl, rfl, rfl⟩ (EvL.cons rfl EvL.nil) (fun mm aa ww gg hr hrel => (c137 s.Thrust ⟨s_Thrust_p, s.Thrust.length, s_Thrust_c⟩ ww (SlIs.mono hs_Thrust hrel.below) (check_curveThrust hc)))),
    ok_plain rfl rfl (op_bin (ltN rfl) rfl rfl rfl),
    ok_plain rfl rfl (op_move (ltN rfl) rfl),
    ok_if (ltN rfl) rfl rfl rfl rfl rfl rfl (fun hg1 => op_fieldAddr (ltN rfl) (force_x rfl) fo_136_0),
    ok_if (ltN rfl) rfl rfl rfl rfl rfl rfl (fun hg2 => op_load1 (ltN rfl) sh_134 (force_eq (beq_iff_eq.2 hg2) rfl) rfl),
    ok_if (ltN rfl) rfl rfl rfl rfl rfl rfl (fun hg3 => op_move (ltN rfl) (force_x rfl)),
    ok_if (ltN rfl) rfl rfl rfl rfl rfl rfl (fun hg4 => op_call (x := .v (.int .i64 (thrust s v))) (fs := []) (caps := []) (extra := []) (ltN rfl) en_114 rfl ⟨rfl, rfl, rfl⟩ (EvL.cons (force_eq (beq_iff_eq.2 hg4) rfl) (EvL.cons (force_eq (beq_iff_eq.2 hg4) rfl) EvL.nil)) (fun mm aa ww gg hr hrel => (c114 s ⟨s_Thrust_p, s.Thrust.length, s_Thrust_c⟩ ⟨s_Water_p, s.Water.length, s_Water_c⟩ ⟨s_Ice_p, s.Ice.length, s_Ice_c⟩ s_b v ww (SlIs.mono hs_Thrust hrel.below) (SlIs.mono hs_Water hrel.below) (SlIs.mono hs_Ice hrel.below) (BoxAt.mono hs_box hrel.below) (by have g0 := of_decide_eq_true hg4; first | assumption | omega) (by have g0 := of_decide_eq_true hg4; first | assumption | omega)))),
    ok_if (ltN rfl) rfl rfl rfl rfl rfl rfl (fun hg5 => op_loadN (ys := [.v (.pointer (some ⟨s_b, 0, none⟩)), .v (.int .i64 i.Conc), .v (.int .i64 i.Thick), .v (.int .i64 i.Ridge), .v (.int .i64 i.Press), .v (.bool ch)]) (ltN rfl) sh_136 (force_x rfl) rfl ⟨rfl, rfl, rfl, rfl, rfl, rfl, trivial⟩),
    ok_if (ltN rfl) rfl rfl rfl rfl rfl rfl (fun hg6 => op_move (ltN rfl) (force_x rfl)),
    ok_if (ltN rfl) rfl rfl rfl rfl rfl rfl (fun hg7 => op_call (x := .v (.int .i64 (resistance s i ch v))) (fs := []) (caps := []) (extra := []) (ltN rfl) en_77 rfl ⟨rfl, rfl, rfl⟩ (EvL.cons (force_eq (beq_iff_eq.2 hg7) rfl) (EvL.cons (force_eq (beq_iff_eq.2 hg7) rfl) EvL.nil)) (fun mm aa ww gg hr hrel => (c77 s ⟨s_Thrust_p, s.Thrust.length, s_Thrust_c⟩ ⟨s_Water_p, s.Water.length, s_Water_c⟩ ⟨s_Ice_p, s.Ice.length, s_Ice_c⟩ s_b i ch v ww (SlIs.mono hs_Thrust hrel.below) (SlIs.mono hs_Water hrel.below) (SlIs.mono hs_Ice hrel.below) (BoxAt.mono hs_box hrel.below) (by have g0 := of_decide_eq_true hg7; first | assumption | omega) (by have g0 := of_decide_eq_true hg7; first | assumption | omega) (by have g0 := of_decide_eq_true hg7; first | assumption | omega)))),
    ok_if (ltN rfl) rfl rfl rfl rfl rfl rfl (fun hg8 => op_bin (ltN rfl) (force_eq (beq_iff_eq.2 hg8) rfl) (force_eq (beq_iff_eq.2 hg8) rfl) rfl),
    ok_plain rfl rfl (op_and (ltN rfl) rfl rfl),
    ok_plain rfl rfl (op_assign (ltN rfl) rfl),
    trivial⟩ ?_
  refine fin_keep (s' := [(.t 4, some (.x (.v (.bool ((decide (v ≤ (endX s.Thrust))) && (decide ((thrust s v) ≥ (resistance s i ch v))))))))]) ?_ ⟨rfl, trivial⟩ rfl
  refine fin_then ?_
  refine aw_ret ?_
  refine post_ret (x := .v (.bool ((decide (v ≤ (endX s.Thrust))) && (decide ((thrust s v) ≥ (resistance s i ch v)))))) rfl rfl (resOK_tmp rfl resOK_nil) rfl (fun mm aa ww hr => ?_)
  show Ending.returned (.bool ((decide (v ≤ (endX s.Thrust))) && (decide ((thrust s v) ≥ (resistance s i ch v))))) = _ ∧ _
  first
    | exact ⟨rfl, hr.below⟩

theorem c119 (s : Ship) (s_Thrust_s : SlV) (s_Water_s : SlV) (s_Ice_s : SlV) (s_b : Nat) (i : Ice) (ch : Bool) (v : Int) (w : World) (hs_Thrust : SlIs encPt 2 w s_Thrust_s s.Thrust) (hs_Water : SlIs encPt 2 w s_Water_s s.Water) (hs_Ice : SlIs encPt 2 w s_Ice_s s.Ice) (hs_box : BoxAt w s_b [.int .i64 s.Class, .int .i64 s.Power, .int .i64 s.Draught, .int .i64 s.Tonnes, .slice s_Thrust_s.p s_Thrust_s.n s_Thrust_s.c, .slice s_Water_s.p s_Water_s.n s_Water_s.c, .slice s_Ice_s.p s_Ice_s.n s_Ice_s.c, .int .i64 s.Slow, .int .i64 s.Brash, .int .i64 s.Ridge, .int .i64 s.Press]) (hG : BoxAt w 0 (strengths.map (fun n => Value.int .i64 n))) (hc : check s = 0) (hi : goodIce i) (hv : 0 ≤ v ∧ v ≤ 255) : Calls Tryd.prog 119 #[.agg #[.pointer (some ⟨s_b, 0, none⟩), .int .i64 i.Conc, .int .i64 i.Thick, .int .i64 i.Ridge, .int .i64 i.Press, .bool ch], .int .i64 v] w fun e w' => e = .returned (.bool (bears s i ch v)) ∧ Below w.heap.size w w' := by
  obtain ⟨s_Thrust_p, s_Thrust_n, s_Thrust_c⟩ := s_Thrust_s
  have hs_Thrust_l : s_Thrust_n = s.Thrust.length := hs_Thrust.1
  subst hs_Thrust_l
  obtain ⟨s_Thrust_b, s_Thrust_o, hs_Thrust_p, hs_Thrust_L⟩ := SlAt.lies' hs_Thrust
  obtain ⟨s_Water_p, s_Water_n, s_Water_c⟩ := s_Water_s
  have hs_Water_l : s_Water_n = s.Water.length := hs_Water.1
  subst hs_Water_l
  obtain ⟨s_Water_b, s_Water_o, hs_Water_p, hs_Water_L⟩ := SlAt.lies' hs_Water
  obtain ⟨s_Ice_p, s_Ice_n, s_Ice_c⟩ := s_Ice_s
  have hs_Ice_l : s_Ice_n = s.Ice.length := hs_Ice.1
  subst hs_Ice_l
  obtain ⟨s_Ice_b, s_Ice_o, hs_Ice_p, hs_Ice_L⟩ := SlAt.lies' hs_Ice
  have hsb := check_bd hc
  have hst : strengths.length = 6 := rfl
  refine enter (args := [.g [.v (.pointer (some ⟨s_b, 0, none⟩)), .v (.int .i64 i.Conc), .v (.int .i64 i.Thick), .v (.int .i64 i.Ridge), .v (.int .i64 i.Press), .v (.bool ch)], .v (.int .i64 v)]) Tryd.func119 rfl (N := 20) rfl (Nat.le_of_ble_eq_true rfl) ?_
  refine aw_seq ?_
  refine aw_text (rows := [_, _]) rfl (by kernel_rfl) ⟨
    ok_plain rfl rfl (op_boxN (L := 1) (ltN rfl) rfl rfl rfl),
    ok_plain rfl rfl (op_assign (ltN rfl) rfl),
    trivial⟩ ?_
  refine fin_keep (s' := [(.t 1, some (.x (.v (.int .i64 v)))), (.t 2, some (.x (.p 1 0))), (.b 1, some (.sh 136 6)), (.c 1 0, some (.x (.v (.pointer (some ⟨s_b, 0, none⟩))))), (.c 1 1, some (.x (.v (.int .i64 i.Conc)))), (.c 1 2, some (.x (.v (.int .i64 i.Thick)))), (.c 1 3, some (.x (.v (.int .i64 i.Ridge)))), (.c 1 4, some (.x (.v (.int .i64 i.Press)))), (.c 1 5, some (.x (.v (.bool ch))))]) ?_ ⟨rfl, rfl, rfl, rfl, rfl, rfl, rfl, rfl, rfl, trivial⟩ rfl
  refine fin_then ?_
  refine aw_seq ?_
  refine aw_any (rows := [_, _, _, _, _, _, _, _, _, _, _, _, _, _, _, _]) (M := [0, 1, 0, 0, 8, 31, 0, 64, 192, 448, 960, 1984, 4032, 8128, 16383, 32767]) Tryd_mixed (by kernel_rfl) rfl (by kernel_rfl) ⟨
    ok_plain rfl rfl (op_fieldAddr (ltN rfl) rfl fo_136_1),
    ok_plain rfl rfl (op_loadN (ys := [.v (.int .i64 i.Conc), .v (.int .i64 i.Thick), .v (.int .i64 i.Ridge), .v (.int .i64 i.Press)]) (ltN rfl) sh_28 rfl rfl ⟨rfl, rfl, rfl, rfl, trivial⟩),
    ok_plain rfl rfl (op_move (ltN rfl) rfl),
    ok_plain rfl rfl (op_fieldAddr (ltN rfl) rfl fo_136_2),
    ok_plain rfl rfl (op_load1 (ltN rfl) sh_4 rfl rfl),
    ok_plain rfl rfl (op_call (x := .v (.int .i64 (loadI i v ch))) (fs := []) (caps := []) (extra := []) (ltN rfl) en_79 rfl ⟨rfl, rfl, rfl⟩ (EvL.cons rfl (EvL.cons rfl (EvL.cons rfl EvL.nil))) (fun mm aa ww gg hr hrel => (c79 i v ch ww (by first | assumption | omega) (by first | assumption | omega)))),
    ok_plain rfl rfl (op_fieldAddr (ltN rfl) rfl fo_136_0),
    ok_plain rfl rfl (op_load1 (ltN rfl) sh_134 rfl rfl),
    ok_plain rfl rfl (op_nilCheck (ltN rfl) rfl trivial),
    ok_plain rfl rfl (op_fieldAddrB (ltN rfl) rfl fo_25_0),
    ok_plain rfl rfl (op_loadB (y := .v (.int .i64 s.Class)) (ltN rfl) rfl (ldCell hs_box.1 (hs_box.2 0 _ rfl) rfl sh_3)),
    ok_plain rfl rfl (op_bin (ltN rfl) rfl rfl (nw_sub ⟨(by omega), (by omega)⟩)),
    ok_plain rfl rfl (op_ixAB (ltN rfl) rfl rfl ar_203 (by omega) (by omega)),
    ok_plain rfl rfl (op_loadB (y := .v (.int .i64 ((strengths : List Int).getD (s.Class - 1).toNat 0))) (ltN rfl) rfl (ldTab (l := strengths) hG (by omega) (by omega) (by simp) sh_3)),
    ok_plain rfl rfl (op_bin (ltN rfl) rfl rfl rfl),
    ok_plain rfl rfl (op_assign (ltN rfl) rfl),
    trivial⟩ ?_
  refine fin_keep (s' := [(.t 4, some (.x (.v (.bool (decide ((loadI i v ch) ≤ ((strengths : List Int).getD (s.Class - 1).toNat 0)))))))]) ?_ ⟨rfl, trivial⟩ rfl
  refine fin_then ?_
  refine aw_ret ?_
  refine post_ret (x := .v (.bool (decide ((loadI i v ch) ≤ ((strengths : List Int).getD (s.Class - 1).toNat 0))))) rfl rfl (resOK_tmp rfl resOK_nil) rfl (fun mm aa ww hr => ?_)
  show Ending.returned (.bool (decide ((loadI i v ch) ≤ ((strengths : List Int).getD (s.Class - 1).toNat 0)))) = _ ∧ _
  first
    | exact ⟨rfl, hr.below⟩

theorem c103 (least : Int) (most : Int) (fk : Nat) (fF fC : List Value) (so : Int → Bool) (w : World) (hen : Proofs.Enters Tryd.prog fk) (hso : ∀ v w1, Below w.heap.size w w1 → least ≤ v → v ≤ most → Calls Tryd.prog fk (fF ++ (.int .i64 v :: fC)).toArray w1 fun e w2 => e = .returned (.bool (so v)) ∧ Below w1.heap.size w1 w2) (hlm : 0 ≤ least ∧ least ≤ most ∧ most ≤ 1000000000) : Calls Tryd.prog 103 #[.int .i64 least, .int .i64 most, .func (.func fk) fF.toArray fC.toArray] w fun e w' => e = .returned (.tuple #[.int .i64 ((greatest so least most).1), .bool ((greatest so least most).2)]) ∧ Below w.heap.size w w' := by
  refine enter (args := [.v (.int .i64 least), .v (.int .i64 most), .v (.func (.func fk) fF.toArray fC.toArray)]) Tryd.func103 rfl (N := 30) rfl (Nat.le_of_ble_eq_true rfl) ?_
  refine aw_seq ?_
  refine aw_text (rows := [_, _]) rfl (by kernel_rfl) ⟨
    ok_plain rfl rfl (op_assign (ltN rfl) rfl),
    ok_plain rfl rfl (op_assign (ltN rfl) rfl),
    trivial⟩ ?_
  refine fin_keep (s' := [(.t 0, some (.x (.v (.int .i64 least)))), (.t 1, some (.x (.v (.int .i64 most)))), (.t 2, some (.x (.v (.func (.func fk) fF.toArray fC.toArray))))]) ?_ ⟨rfl, rfl, rfl, trivial⟩ rfl
  refine fin_then ?_
  refine aw_seq ?_
  refine aw_seq ?_
  refine aw_text (rows := [_, _, _, _]) rfl (by kernel_rfl) ⟨
    ok_plain rfl rfl (op_move (ltN rfl) rfl),
    ok_plain rfl rfl (op_move (ltN rfl) rfl),
    ok_plain rfl rfl (op_callVL (x := .v (.bool (so least))) (extra := []) (ltN rfl) hen rfl (EvL.cons rfl EvL.nil) (fun mm aa ww gg hr hrel => hso _ ww hrel.below (by omega) (by omega))),
    ok_plain rfl rfl (op_not (ltN rfl) rfl),
    trivial⟩ ?_
  refine fin_keep (s' := [(.t 0, some (.x (.v (.int .i64 least)))), (.t 1, some (.x (.v (.int .i64 most)))), (.t 2, some (.x (.v (.func (.func fk) fF.toArray fC.toArray)))), (.t 12, some (.x (.v (.bool (!(so least))))))]) ?_ ⟨rfl, rfl, rfl, rfl, trivial⟩ rfl
  refine fin_then ?_
  refine aw_cond rfl (fun hz1 => ?_) (fun hz1 => ?_)
  · have _z := hz1
    have q2 := not_t hz1
    refine aw_seq ?_
    refine aw_text (rows := [_, _]) rfl (by kernel_rfl) ⟨
      ok_plain rfl rfl (op_assign (ltN rfl) rfl),
      ok_plain rfl rfl (op_assign (ltN rfl) rfl),
      trivial⟩ ?_
    refine fin_keep (s' := [(.t 6, some (.x (.v (.int .i64 0)))), (.t 7, some (.x (.v (.bool false))))]) ?_ ⟨rfl, rfl, trivial⟩ rfl
    refine fin_then ?_
    refine aw_ret ?_
    refine fin_then_ret ?_
    refine post_ret (x := .t [.v (.int .i64 0), .v (.bool false)]) rfl rfl (resOK_tmp rfl (resOK_tmp rfl resOK_nil)) rfl (fun mm aa ww hr => ?_)
    show Ending.returned (.tuple #[.int .i64 0, .bool false]) = _ ∧ _
    exact ⟨by rw [greatest, not_t hz1]; rfl, hr.below⟩
  · have _z := hz1
    have q3 := not_f hz1
    refine aw_skip ?_
    refine fin_then ?_
    refine aw_seq ?_
    refine aw_block ?_
    refine AW.keep (s' := (fun (q : Int × Int) => [(.t 0, some (.x (.v (.int .i64 q.1)))), (.t 1, some (.x (.v (.int .i64 q.2)))), (.t 2, some (.x (.v (.func (.func fk) fF.toArray fC.toArray))))]) ((least, most))) ?_ ⟨rfl, rfl, rfl, trivial⟩ rfl
    refine aw_loop (ι := Int × Int) (fun q => least ≤ q.1 ∧ q.1 ≤ q.2 ∧ q.2 ≤ most ∧ great so least most = great so q.1 q.2) (fun q => [(.t 0, some (.x (.v (.int .i64 q.1)))), (.t 1, some (.x (.v (.int .i64 q.2)))), (.t 2, some (.x (.v (.func (.func fk) fF.toArray fC.toArray))))]) (fun q => (q.2 - q.1).toNat) ⟨Int.le_refl _, by omega, Int.le_refl _, rfl⟩ (fun q hI => ?_)
    obtain ⟨hi1, hi2, hi3, hig⟩ := hI
    refine aw_seq ?_
    refine aw_seq ?_
    refine aw_text (rows := [_, _, _]) rfl (by kernel_rfl) ⟨
      ok_plain rfl rfl (op_move (ltN rfl) rfl),
      ok_plain rfl rfl (op_move (ltN rfl) rfl),
      ok_plain rfl rfl (op_bin (ltN rfl) rfl rfl rfl),
      trivial⟩ ?_
    refine fin_keep (s' := [(.t 0, some (.x (.v (.int .i64 q.1)))), (.t 1, some (.x (.v (.int .i64 q.2)))), (.t 2, some (.x (.v (.func (.func fk) fF.toArray fC.toArray)))), (.t 15, some (.x (.v (.bool (decide (q.1 < q.2))))))]) ?_ ⟨rfl, rfl, rfl, rfl, trivial⟩ rfl
    refine fin_then ?_
    refine aw_cond rfl (fun hz4 => ?_) (fun hz4 => ?_)
    · have _z := hz4
      have q5 := of_decide_eq_true hz4
      refine aw_skip ?_
      refine fin_then ?_
      refine aw_block ?_
      refine aw_seq ?_
      refine aw_text (rows := [_, _, _, _, _, _, _, _]) rfl (by kernel_rfl) ⟨
        ok_plain rfl rfl (op_move (ltN rfl) rfl),
        ok_plain rfl rfl (op_move (ltN rfl) rfl),
        ok_plain rfl rfl (op_move (ltN rfl) rfl),
        ok_plain rfl rfl (op_bin (ltN rfl) rfl rfl (nw_sub ⟨(by omega), (by omega)⟩)),
        ok_plain rfl rfl (op_bin (ltN rfl) rfl rfl (nw_add ⟨(by omega), (by omega)⟩)),
        ok_plain rfl rfl (op_quo (ltN rfl) rfl rfl (by decide) (quo_nn (by omega) (by omega) (by omega))),
        ok_plain rfl rfl (op_bin (ltN rfl) rfl rfl (nw_add ⟨(by omega), (by omega)⟩)),
        ok_plain rfl rfl (op_assign (ltN rfl) rfl),
        trivial⟩ ?_
      refine fin_keep (s' := [(.t 0, some (.x (.v (.int .i64 q.1)))), (.t 1, some (.x (.v (.int .i64 q.2)))), (.t 2, some (.x (.v (.func (.func fk) fF.toArray fC.toArray)))), (.t 8, some (.x (.v (.int .i64 (q.1 + (((q.2 - q.1) + 1) / 2))))))]) ?_ ⟨rfl, rfl, rfl, rfl, trivial⟩ rfl
      refine fin_then ?_
      refine aw_seq ?_
      refine aw_text (rows := [_, _, _]) rfl (by kernel_rfl) ⟨
        ok_plain rfl rfl (op_move (ltN rfl) rfl),
        ok_plain rfl rfl (op_move (ltN rfl) rfl),
        ok_plain rfl rfl (op_callVL (x := .v (.bool (so (q.1 + (((q.2 - q.1) + 1) / 2))))) (extra := []) (ltN rfl) hen rfl (EvL.cons rfl EvL.nil) (fun mm aa ww gg hr hrel => hso _ ww hrel.below (by omega) (by omega))),
        trivial⟩ ?_
      refine fin_keep (s' := [(.t 0, some (.x (.v (.int .i64 q.1)))), (.t 1, some (.x (.v (.int .i64 q.2)))), (.t 2, some (.x (.v (.func (.func fk) fF.toArray fC.toArray)))), (.t 8, some (.x (.v (.int .i64 (q.1 + (((q.2 - q.1) + 1) / 2)))))), (.t 25, some (.x (.v (.bool (so (q.1 + (((q.2 - q.1) + 1) / 2)))))))]) ?_ ⟨rfl, rfl, rfl, rfl, rfl, trivial⟩ rfl
      refine fin_then ?_
      refine aw_cond rfl (fun hz6 => ?_) (fun hz6 => ?_)
      · have _z := hz6
        have q7 := hz6
        refine aw_text (rows := [_, _]) rfl (by kernel_rfl) ⟨
          ok_plain rfl rfl (op_move (ltN rfl) rfl),
          ok_plain rfl rfl (op_assign (ltN rfl) rfl),
          trivial⟩ ?_
        refine fin_keep (s' := [(.t 0, some (.x (.v (.int .i64 (q.1 + (((q.2 - q.1) + 1) / 2)))))), (.t 1, some (.x (.v (.int .i64 q.2)))), (.t 2, some (.x (.v (.func (.func fk) fF.toArray fC.toArray))))]) ?_ ⟨rfl, rfl, rfl, trivial⟩ rfl
        refine fin_block ?_
        exact fin_loop (q.1 + (((q.2 - q.1) + 1) / 2), q.2) ⟨by simp only []; omega, by simp only []; omega, by simp only []; omega, by rw [hig, great_step (by omega)]; simp only [hz6]; rfl⟩ (by simp only []; omega) ⟨rfl, rfl, rfl, trivial⟩ rfl
      · have _z := hz6
        have q8 := hz6
        refine aw_text (rows := [_, _, _]) rfl (by kernel_rfl) ⟨
          ok_plain rfl rfl (op_move (ltN rfl) rfl),
          ok_plain rfl rfl (op_bin (ltN rfl) rfl rfl (nw_sub ⟨(by omega), (by omega)⟩)),
          ok_plain rfl rfl (op_assign (ltN rfl) rfl),
          trivial⟩ ?_
        refine fin_keep (s' := [(.t 0, some (.x (.v (.int .i64 q.1)))), (.t 1, some (.x (.v (.int .i64 ((q.1 + (((q.2 - q.1) + 1) / 2)) - 1))))), (.t 2, some (.x (.v (.func (.func fk) fF.toArray fC.toArray))))]) ?_ ⟨rfl, rfl, rfl, trivial⟩ rfl
        refine fin_block ?_
        exact fin_loop (q.1, (q.1 + (((q.2 - q.1) + 1) / 2)) - 1) ⟨by simp only []; omega, by simp only []; omega, by simp only []; omega, by rw [hig, great_step (by omega)]; simp only [hz6]; rfl⟩ (by simp only []; omega) ⟨rfl, rfl, rfl, trivial⟩ rfl
    · have _z := hz4
      have q9 := of_decide_eq_false hz4
      refine aw_exit ?_
      refine fin_then_exit ?_
      refine fin_then_exit ?_
      refine fin_block_exit ?_
      refine fin_then ?_
      refine aw_seq ?_
      refine aw_text (rows := [_, _, _]) rfl (by kernel_rfl) ⟨
        ok_plain rfl rfl (op_move (ltN rfl) rfl),
        ok_plain rfl rfl (op_assign (ltN rfl) rfl),
        ok_plain rfl rfl (op_assign (ltN rfl) rfl),
        trivial⟩ ?_
      refine fin_keep (s' := [(.t 6, some (.x (.v (.int .i64 q.1)))), (.t 7, some (.x (.v (.bool true))))]) ?_ ⟨rfl, rfl, trivial⟩ rfl
      refine fin_then ?_
      refine aw_ret ?_
      refine post_ret (x := .t [.v (.int .i64 q.1), .v (.bool true)]) rfl rfl (resOK_tmp rfl (resOK_tmp rfl resOK_nil)) rfl (fun mm aa ww hr => ?_)
      show Ending.returned (.tuple #[.int .i64 q.1, .bool true]) = _ ∧ _
      rw [show q.1 = great so least most by rw [hig, great_done (by omega)]]
      exact ⟨by rw [greatest, not_f hz1]; rfl, hr.below⟩

end Go.Proofs.T
