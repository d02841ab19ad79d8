import Derived.Test.YtgpcfckbcldokaaDoorHH
namespace Go.Proofs.T
open Go Go.AX Go.RowKit Hull
theorem zl_34 : zeroL Tryd.prog 34 = some [(.int .i64 0), (.int .i64 0), (.int .i64 0), (.int .i64 0), (.int .i64 0), (.int .i64 0), (.int .i64 0), (.int .i64 0)] := by kernel_rfl
theorem sz_34 : sizeIn Tryd.prog 34 = some 8 := by kernel_rfl
theorem zl_25 : zeroL Tryd.prog 25 = some [(.int .i64 0), (.int .i64 0), (.int .i64 0), (.int .i64 0), (.slice none 0 0), (.slice none 0 0), (.slice none 0 0), (.int .i64 0), (.int .i64 0), (.int .i64 0), (.int .i64 0)] := by kernel_rfl
theorem sz_25 : sizeIn Tryd.prog 25 = some 11 := by kernel_rfl
theorem ss_49 : sliceSz Tryd.prog 49 = some 1 := by kernel_rfl

theorem c81 (lo : Int) (hi : Int) (w : World)  : Calls Tryd.prog 81 #[.int .i64 lo, .int .i64 hi] w fun e w' => e = .returned (.agg #[.int .i64 ((((level lo hi)).Conc).Lo), .int .i64 ((((level lo hi)).Conc).Hi), .int .i64 ((((level lo hi)).Thick).Lo), .int .i64 ((((level lo hi)).Thick).Hi), .int .i64 ((((level lo hi)).Ridge).Lo), .int .i64 ((((level lo hi)).Ridge).Hi), .int .i64 ((((level lo hi)).Press).Lo), .int .i64 ((((level lo hi)).Press).Hi)]) ∧ Below w.heap.size w w' := by
  refine enter (args := [.v (.int .i64 lo), .v (.int .i64 hi)]) Tryd.func81 rfl (N := 10) rfl (Nat.le_of_ble_eq_true rfl) ?_
  refine aw_seq ?_
  refine aw_text (rows := [_]) rfl (by kernel_rfl) ⟨
    ok_plain rfl rfl (op_alloc (L := 1) (ltN rfl) zl_34),
    trivial⟩ ?_
  refine fin_keep (s' := [(.t 0, some (.x (.v (.int .i64 lo)))), (.t 1, some (.x (.v (.int .i64 hi)))), (.t 4, some (.x (.p 1 0))), (.b 1, some (.sh 34 8)), (.c 1 0, some (.x (.v (.int .i64 0)))), (.c 1 1, some (.x (.v (.int .i64 0)))), (.c 1 2, some (.x (.v (.int .i64 0)))), (.c 1 3, some (.x (.v (.int .i64 0)))), (.c 1 4, some (.x (.v (.int .i64 0)))), (.c 1 5, some (.x (.v (.int .i64 0)))), (.c 1 6, some (.x (.v (.int .i64 0)))), (.c 1 7, some (.x (.v (.int .i64 0))))]) ?_ ⟨rfl, rfl, rfl, rfl, rfl, rfl, rfl, rfl, rfl, rfl, rfl, rfl, trivial⟩ rfl
  refine fin_then ?_
  refine aw_seq ?_
  refine aw_text (rows := [_, _, _, _, _, _]) rfl (by kernel_rfl) ⟨
    ok_plain rfl rfl (op_build (x := .g [.v (.int .i64 100), .v (.int .i64 100)]) (ltN rfl) (EvL.cons rfl (EvL.cons rfl EvL.nil)) (fun m w => by kernel_rfl)),
    ok_plain rfl rfl (op_move (ltN rfl) rfl),
    ok_plain rfl rfl (op_move (ltN rfl) rfl),
    ok_plain rfl rfl (op_build (x := .g [.v (.int .i64 lo), .v (.int .i64 hi)]) (ltN rfl) (EvL.cons rfl (EvL.cons rfl EvL.nil)) (fun m w => by kernel_rfl)),
    ok_plain rfl rfl (op_build (x := .g [.v (.int .i64 100), .v (.int .i64 100), .v (.int .i64 lo), .v (.int .i64 hi), .v (.int .i64 0), .v (.int .i64 0), .v (.int .i64 0), .v (.int .i64 0)]) (ltN rfl) (EvL.cons rfl (EvL.cons rfl EvL.nil)) (fun m w => by kernel_rfl)),
    ok_plain rfl rfl (op_storeN sz_34 rfl rfl rfl rfl rfl (by decide)),
    trivial⟩ ?_
  refine fin_keep (s' := [(.t 4, some (.x (.p 1 0))), (.b 1, some (.sh 34 8)), (.c 1 0, some (.x (.v (.int .i64 100)))), (.c 1 1, some (.x (.v (.int .i64 100)))), (.c 1 2, some (.x (.v (.int .i64 lo)))), (.c 1 3, some (.x (.v (.int .i64 hi)))), (.c 1 4, some (.x (.v (.int .i64 0)))), (.c 1 5, some (.x (.v (.int .i64 0)))), (.c 1 6, some (.x (.v (.int .i64 0)))), (.c 1 7, some (.x (.v (.int .i64 0))))]) ?_ ⟨rfl, rfl, rfl, rfl, rfl, rfl, rfl, rfl, rfl, rfl, trivial⟩ rfl
  refine fin_then ?_
  refine aw_ret ?_
  refine post_ret (x := .g [.v (.int .i64 100), .v (.int .i64 100), .v (.int .i64 lo), .v (.int .i64 hi), .v (.int .i64 0), .v (.int .i64 0), .v (.int .i64 0), .v (.int .i64 0)]) rfl rfl (resOK_cellN (ys := [.v (.int .i64 100), .v (.int .i64 100), .v (.int .i64 lo), .v (.int .i64 hi), .v (.int .i64 0), .v (.int .i64 0), .v (.int .i64 0), .v (.int .i64 0)]) rfl sh_34 rfl ⟨rfl, rfl, rfl, rfl, rfl, rfl, rfl, rfl, trivial⟩ resOK_nil) rfl (fun mm aa ww hr => ?_)
  show Ending.returned (.agg #[.int .i64 100, .int .i64 100, .int .i64 lo, .int .i64 hi, .int .i64 0, .int .i64 0, .int .i64 0, .int .i64 0]) = _ ∧ _
  first
    | exact ⟨rfl, hr.below⟩

theorem c80  (w : World)  : Calls Tryd.prog 80 #[] w fun e w' => ∃ sl : List SlV, e = .returned ((fun vs => .agg #[.int .i64 exampleShip.Class, .int .i64 exampleShip.Power, .int .i64 exampleShip.Draught, .int .i64 exampleShip.Tonnes, (vs.getD 0 (.bool false)), (vs.getD 1 (.bool false)), (vs.getD 2 (.bool false)), .int .i64 exampleShip.Slow, .int .i64 exampleShip.Brash, .int .i64 exampleShip.Ridge, .int .i64 exampleShip.Press]) (sl.map SlV.val)) ∧ NewRows w w' sl [(exampleShip.Thrust.length, 84, 2, exampleShip.Thrust.flatMap encPt), (exampleShip.Water.length, 84, 2, exampleShip.Water.flatMap encPt), (exampleShip.Ice.length, 84, 2, exampleShip.Ice.flatMap encPt)] ∧ Below w.heap.size w w' := by
  refine enter (args := []) Tryd.func80 rfl (N := 12) rfl (Nat.le_of_ble_eq_true rfl) ?_
  refine aw_seq ?_
  refine aw_text (rows := [_]) rfl (by kernel_rfl) ⟨
    ok_plain rfl rfl (op_alloc (L := 1) (ltN rfl) zl_25),
    trivial⟩ ?_
  refine fin_keep (s' := [(.t 0, some (.x (.p 1 0))), (.b 1, some (.sh 25 11)), (.c 1 0, some (.x (.v (.int .i64 0)))), (.c 1 1, some (.x (.v (.int .i64 0)))), (.c 1 2, some (.x (.v (.int .i64 0)))), (.c 1 3, some (.x (.v (.int .i64 0)))), (.c 1 4, some (.x (.v (.slice none 0 0)))), (.c 1 5, some (.x (.v (.slice none 0 0)))), (.c 1 6, some (.x (.v (.slice none 0 0)))), (.c 1 7, some (.x (.v (.int .i64 0)))), (.c 1 8, some (.x (.v (.int .i64 0)))), (.c 1 9, some (.x (.v (.int .i64 0)))), (.c 1 10, some (.x (.v (.int .i64 0))))]) ?_ ⟨rfl, rfl, rfl, rfl, rfl, rfl, rfl, rfl, rfl, rfl, rfl, rfl, rfl, trivial⟩ rfl
  refine fin_then ?_
  refine aw_seq ?_
  refine aw_text (rows := [_, _, _, _, _, _, _, _, _, _, _, _]) rfl (by kernel_rfl) ⟨
    ok_plain rfl rfl (op_build (x := .g [.v (.int .i64 0), .v (.int .i64 1000)]) (ltN rfl) (EvL.cons rfl (EvL.cons rfl EvL.nil)) (fun m w => by kernel_rfl)),
    ok_plain rfl rfl (op_build (x := .g [.v (.int .i64 100), .v (.int .i64 800)]) (ltN rfl) (EvL.cons rfl (EvL.cons rfl EvL.nil)) (fun m w => by kernel_rfl)),
    ok_plain rfl rfl (op_build (x := .g [.v (.int .i64 200), .v (.int .i64 0)]) (ltN rfl) (EvL.cons rfl (EvL.cons rfl EvL.nil)) (fun m w => by kernel_rfl)),
    ok_plain rfl rfl (op_buildSlice (L := 2) (ety := 84) (cs := [.v (.int .i64 0), .v (.int .i64 1000), .v (.int .i64 100), .v (.int .i64 800), .v (.int .i64 200), .v (.int .i64 0)]) (ltN rfl) (EvL.cons rfl (EvL.cons rfl (EvL.cons rfl EvL.nil))) rfl (fun m w => by kernel_rfl)),
    ok_plain rfl rfl (op_build (x := .g [.v (.int .i64 0), .v (.int .i64 0)]) (ltN rfl) (EvL.cons rfl (EvL.cons rfl EvL.nil)) (fun m w => by kernel_rfl)),
    ok_plain rfl rfl (op_build (x := .g [.v (.int .i64 200), .v (.int .i64 400)]) (ltN rfl) (EvL.cons rfl (EvL.cons rfl EvL.nil)) (fun m w => by kernel_rfl)),
    ok_plain rfl rfl (op_buildSlice (L := 3) (ety := 84) (cs := [.v (.int .i64 0), .v (.int .i64 0), .v (.int .i64 200), .v (.int .i64 400)]) (ltN rfl) (EvL.cons rfl (EvL.cons rfl EvL.nil)) rfl (fun m w => by kernel_rfl)),
    ok_plain rfl rfl (op_build (x := .g [.v (.int .i64 0), .v (.int .i64 0)]) (ltN rfl) (EvL.cons rfl (EvL.cons rfl EvL.nil)) (fun m w => by kernel_rfl)),
    ok_plain rfl rfl (op_build (x := .g [.v (.int .i64 400), .v (.int .i64 2000)]) (ltN rfl) (EvL.cons rfl (EvL.cons rfl EvL.nil)) (fun m w => by kernel_rfl)),
    ok_plain rfl rfl (op_buildSlice (L := 4) (ety := 84) (cs := [.v (.int .i64 0), .v (.int .i64 0), .v (.int .i64 400), .v (.int .i64 2000)]) (ltN rfl) (EvL.cons rfl (EvL.cons rfl EvL.nil)) rfl (fun m w => by kernel_rfl)),
    ok_plain rfl rfl (op_build (x := .g [.v (.int .i64 3), .v (.int .i64 6000), .v (.int .i64 800), .v (.int .i64 9000), .s 2 0 3 3, .s 3 0 2 2, .s 4 0 2 2, .v (.int .i64 0), .v (.int .i64 20), .v (.int .i64 10), .v (.int .i64 100)]) (ltN rfl) (EvL.cons rfl (EvL.cons rfl (EvL.cons rfl (EvL.cons rfl (EvL.cons rfl (EvL.cons rfl (EvL.cons rfl (EvL.cons rfl (EvL.cons rfl (EvL.cons rfl EvL.nil)))))))))) (fun m w => by kernel_rfl)),
    ok_plain rfl rfl (op_storeN sz_25 rfl rfl rfl rfl rfl (by decide)),
    trivial⟩ ?_
  refine fin_keep (s' := [(.t 0, some (.x (.p 1 0))), (.b 1, some (.sh 25 11)), (.b 2, some (.sh 84 6)), (.b 3, some (.sh 84 4)), (.b 4, some (.sh 84 4)), (.c 1 0, some (.x (.v (.int .i64 3)))), (.c 1 1, some (.x (.v (.int .i64 6000)))), (.c 1 2, some (.x (.v (.int .i64 800)))), (.c 1 3, some (.x (.v (.int .i64 9000)))), (.c 1 4, some (.x (.s 2 0 3 3))), (.c 1 5, some (.x (.s 3 0 2 2))), (.c 1 6, some (.x (.s 4 0 2 2))), (.c 1 7, some (.x (.v (.int .i64 0)))), (.c 1 8, some (.x (.v (.int .i64 20)))), (.c 1 9, some (.x (.v (.int .i64 10)))), (.c 1 10, some (.x (.v (.int .i64 100)))), (.c 2 0, some (.x (.v (.int .i64 0)))), (.c 2 1, some (.x (.v (.int .i64 1000)))), (.c 2 2, some (.x (.v (.int .i64 100)))), (.c 2 3, some (.x (.v (.int .i64 800)))), (.c 2 4, some (.x (.v (.int .i64 200)))), (.c 2 5, some (.x (.v (.int .i64 0)))), (.c 3 0, some (.x (.v (.int .i64 0)))), (.c 3 1, some (.x (.v (.int .i64 0)))), (.c 3 2, some (.x (.v (.int .i64 200)))), (.c 3 3, some (.x (.v (.int .i64 400)))), (.c 4 0, some (.x (.v (.int .i64 0)))), (.c 4 1, some (.x (.v (.int .i64 0)))), (.c 4 2, some (.x (.v (.int .i64 400)))), (.c 4 3, some (.x (.v (.int .i64 2000))))]) ?_ ⟨rfl, rfl, rfl, rfl, rfl, rfl, rfl, rfl, rfl, rfl, rfl, rfl, rfl, rfl, rfl, rfl, rfl, rfl, rfl, rfl, rfl, rfl, rfl, rfl, rfl, rfl, rfl, rfl, rfl, rfl, trivial⟩ rfl
  refine fin_then ?_
  refine aw_ret ?_
  refine post_ret (x := .g [.v (.int .i64 3), .v (.int .i64 6000), .v (.int .i64 800), .v (.int .i64 9000), .s 2 0 3 3, .s 3 0 2 2, .s 4 0 2 2, .v (.int .i64 0), .v (.int .i64 20), .v (.int .i64 10), .v (.int .i64 100)]) rfl rfl (resOK_cellN (ys := [.v (.int .i64 3), .v (.int .i64 6000), .v (.int .i64 800), .v (.int .i64 9000), .s 2 0 3 3, .s 3 0 2 2, .s 4 0 2 2, .v (.int .i64 0), .v (.int .i64 20), .v (.int .i64 10), .v (.int .i64 100)]) rfl sh_25 rfl ⟨rfl, rfl, rfl, rfl, rfl, rfl, rfl, rfl, rfl, rfl, rfl, trivial⟩ resOK_nil) rfl (fun mm aa ww hr => ?_)
  exact ⟨[⟨some ⟨mm 2, 0, none⟩, 3, 3⟩, ⟨some ⟨mm 3, 0, none⟩, 2, 2⟩, ⟨some ⟨mm 4, 0, none⟩, 2, 2⟩], rfl, ⟨rfl, newAt_box (cs := exampleShip.Thrust.flatMap encPt) hr mine_nil rfl rfl (by decide) ⟨rfl, rfl, rfl, rfl, rfl, rfl, trivial⟩, rfl, newAt_box (cs := exampleShip.Water.flatMap encPt) hr mine_nil rfl rfl (by decide) ⟨rfl, rfl, rfl, rfl, trivial⟩, rfl, newAt_box (cs := exampleShip.Ice.flatMap encPt) hr mine_nil rfl rfl (by decide) ⟨rfl, rfl, rfl, rfl, trivial⟩, trivial⟩, hr.below⟩

theorem c82 (a : List Int) (a_s : SlV) (b : List Int) (b_s : SlV) (w : World) (ha : SlIs encInt 1 w a_s a) (hb : SlIs encInt 1 w b_s b) (hn : a.length ≤ 1000000) : Calls Tryd.prog 82 #[.slice a_s.p a_s.n a_s.c, .slice b_s.p b_s.n b_s.c] w fun e w' => e = .returned (.bool (decide (a = b))) ∧ Below w.heap.size w w' := by
  obtain ⟨a_p, a_n, a_c⟩ := a_s
  have ha_l : a_n = a.length := ha.1
  subst ha_l
  obtain ⟨a_b, a_o, ha_p, ha_L⟩ := SlAt.lies' ha
  obtain ⟨b_p, b_n, b_c⟩ := b_s
  have hb_l : b_n = b.length := hb.1
  subst hb_l
  obtain ⟨b_b, b_o, hb_p, hb_L⟩ := SlAt.lies' hb
  refine enter (args := [.v (.slice a_p a.length a_c), .v (.slice b_p b.length b_c)]) Tryd.func82 rfl (N := 26) rfl (Nat.le_of_ble_eq_true rfl) ?_
  refine aw_seq ?_
  refine aw_text (rows := [_]) rfl (by kernel_rfl) ⟨
    ok_plain rfl rfl (op_assign (ltN rfl) rfl),
    trivial⟩ ?_
  refine fin_keep (s' := [(.t 0, some (.x (.v (.slice a_p a.length a_c)))), (.t 1, some (.x (.v (.slice b_p b.length b_c))))]) ?_ ⟨rfl, rfl, trivial⟩ rfl
  refine fin_then ?_
  refine aw_seq ?_
  refine aw_seq ?_
  refine aw_text (rows := [_, _, _, _, _]) rfl (by kernel_rfl) ⟨
    ok_plain rfl rfl (op_move (ltN rfl) rfl),
    ok_plain rfl rfl (op_len (n := a.length) (ltN rfl) (by rw [ss_49]; rfl) rfl rfl),
    ok_plain rfl rfl (op_move (ltN rfl) rfl),
    ok_plain rfl rfl (op_len (n := b.length) (ltN rfl) (by rw [ss_49]; rfl) rfl rfl),
    ok_plain rfl rfl (op_bin (ltN rfl) rfl rfl rfl),
    trivial⟩ ?_
  refine fin_keep (s' := [(.t 0, some (.x (.v (.slice a_p a.length a_c)))), (.t 1, some (.x (.v (.slice b_p b.length b_c)))), (.t 10, some (.x (.v (.bool ((((a.length : Nat) : Int)) != (((b.length : Nat) : Int)))))))]) ?_ ⟨rfl, rfl, rfl, trivial⟩ rfl
  refine fin_then ?_
  refine aw_cond rfl (fun hz1 => ?_) (fun hz1 => ?_)
  · have _z := hz1
    have q2 := ne_t hz1
    refine aw_seq ?_
    refine aw_text (rows := [_]) rfl (by kernel_rfl) ⟨
      ok_plain rfl rfl (op_assign (ltN rfl) rfl),
      trivial⟩ ?_
    refine fin_keep (s' := [(.t 4, some (.x (.v (.bool false))))]) ?_ ⟨rfl, trivial⟩ rfl
    refine fin_then ?_
    refine aw_ret ?_
    refine fin_then_ret ?_
    refine post_ret (x := .v (.bool false)) rfl rfl (resOK_tmp rfl resOK_nil) rfl (fun mm aa ww hr => ?_)
    show Ending.returned (.bool false) = _ ∧ _
    exact ⟨by rw [eqInts_no1 (by omega)], hr.below⟩
  · have _z := hz1
    have q3 := ne_f hz1
    refine aw_skip ?_
    refine fin_then ?_
    refine aw_seq ?_
    refine aw_seq ?_
    refine aw_text (rows := [_, _, _]) rfl (by kernel_rfl) ⟨
      ok_plain rfl rfl (op_move (ltN rfl) rfl),
      ok_plain rfl rfl (op_len (n := a.length) (ltN rfl) (by rw [ss_49]; rfl) rfl rfl),
      ok_plain rfl rfl (op_move (ltN rfl) rfl),
      trivial⟩ ?_
    refine fin_keep (s' := [(.t 0, some (.x (.v (.slice a_p a.length a_c)))), (.t 1, some (.x (.v (.slice b_p b.length b_c)))), (.t 12, some (.x (.v (.int .i64 (((a.length : Nat) : Int)))))), (.t 13, some (.x (.v (.int .i64 0))))]) ?_ ⟨rfl, rfl, rfl, rfl, trivial⟩ rfl
    refine fin_then ?_
    refine aw_block ?_
    refine AW.keep (s' := (fun (k : Nat) => [(.t 0, some (.x (.v (.slice a_p a.length a_c)))), (.t 1, some (.x (.v (.slice b_p b.length b_c)))), (.t 12, some (.x (.v (.int .i64 (((a.length : Nat) : Int)))))), (.t 13, some (.x (.v (.int .i64 ((k : Int))))))]) ((0 : Nat))) ?_ ⟨rfl, rfl, rfl, rfl, trivial⟩ rfl
    refine aw_loop (ι := Nat) (fun k => k ≤ a.length ∧ ∀ j < k, a.getD ((j : Int)).toNat 0 = b.getD ((j : Int)).toNat 0) (fun k => [(.t 0, some (.x (.v (.slice a_p a.length a_c)))), (.t 1, some (.x (.v (.slice b_p b.length b_c)))), (.t 12, some (.x (.v (.int .i64 (((a.length : Nat) : Int)))))), (.t 13, some (.x (.v (.int .i64 ((k : Int))))))]) (fun k => a.length - k) ⟨Nat.zero_le _, fun j hj => absurd hj (Nat.not_lt_zero j)⟩ (fun k hI => ?_)
    obtain ⟨hk, hall⟩ := hI
    refine aw_seq ?_
    refine aw_text (rows := [_]) rfl (by kernel_rfl) ⟨
      ok_plain rfl rfl (op_bin (ltN rfl) rfl rfl rfl),
      trivial⟩ ?_
    refine fin_keep (s' := [(.t 0, some (.x (.v (.slice a_p a.length a_c)))), (.t 1, some (.x (.v (.slice b_p b.length b_c)))), (.t 12, some (.x (.v (.int .i64 (((a.length : Nat) : Int)))))), (.t 13, some (.x (.v (.int .i64 ((k : Int)))))), (.t 14, some (.x (.v (.bool (decide (((k : Int)) < (((a.length : Nat) : Int))))))))]) ?_ ⟨rfl, rfl, rfl, rfl, rfl, trivial⟩ rfl
    refine fin_then ?_
    refine aw_seq ?_
    refine aw_cond rfl (fun hz4 => ?_) (fun hz4 => ?_)
    · have _z := hz4
      have q5 := of_decide_eq_true hz4
      refine aw_skip ?_
      refine fin_then ?_
      refine aw_seq ?_
      refine aw_block ?_
      refine aw_seq ?_
      refine aw_text (rows := [_, _]) rfl (by kernel_rfl) ⟨
        ok_plain rfl rfl (op_move (ltN rfl) rfl),
        ok_plain rfl rfl (op_assign (ltN rfl) rfl),
        trivial⟩ ?_
      refine fin_keep (s' := [(.t 0, some (.x (.v (.slice a_p a.length a_c)))), (.t 1, some (.x (.v (.slice b_p b.length b_c)))), (.t 5, some (.x (.v (.int .i64 ((k : Int)))))), (.t 12, some (.x (.v (.int .i64 (((a.length : Nat) : Int)))))), (.t 13, some (.x (.v (.int .i64 ((k : Int))))))]) ?_ ⟨rfl, rfl, rfl, rfl, rfl, trivial⟩ rfl
      refine fin_then ?_
      refine aw_seq ?_
      refine aw_any (rows := [_, _, _, _, _, _, _, _, _]) (M := [0, 0, 3, 7, 0, 0, 48, 112, 255]) Tryd_mixed (by kernel_rfl) rfl (by kernel_rfl) ⟨
        ok_plain rfl rfl (op_move (ltN rfl) rfl),
        ok_plain rfl rfl (op_move (ltN rfl) rfl),
        ok_plain rfl rfl (op_ixB (ltN rfl) rfl rfl ss_49 (ha_p (ne_of_ix (i := (k : Int)) (by omega) (by omega))) (by omega) (by omega)),
        ok_plain rfl rfl (op_loadB (y := .v (.int .i64 ((a.getD ((k : Int)).toNat 0)))) (ltN rfl) rfl (ld1 (ha_L (ne_of_ix (i := (k : Int)) (by omega) (by omega))) 0 (i := (k : Int)) (by omega) (by omega) 0 rfl rfl sh_3)),
        ok_plain rfl rfl (op_move (ltN rfl) rfl),
        ok_plain rfl rfl (op_move (ltN rfl) rfl),
        ok_plain rfl rfl (op_ixB (ltN rfl) rfl rfl ss_49 (hb_p (ne_of_ix (i := (k : Int)) (by omega) (by omega))) (by omega) (by omega)),
        ok_plain rfl rfl (op_loadB (y := .v (.int .i64 ((b.getD ((k : Int)).toNat 0)))) (ltN rfl) rfl (ld1 (hb_L (ne_of_ix (i := (k : Int)) (by omega) (by omega))) 0 (i := (k : Int)) (by omega) (by omega) 0 rfl rfl sh_3)),
        ok_plain rfl rfl (op_bin (ltN rfl) rfl rfl rfl),
        trivial⟩ ?_
      refine fin_keep (s' := [(.t 0, some (.x (.v (.slice a_p a.length a_c)))), (.t 1, some (.x (.v (.slice b_p b.length b_c)))), (.t 12, some (.x (.v (.int .i64 (((a.length : Nat) : Int)))))), (.t 13, some (.x (.v (.int .i64 ((k : Int)))))), (.t 24, some (.x (.v (.bool (((a.getD ((k : Int)).toNat 0)) != ((b.getD ((k : Int)).toNat 0)))))))]) ?_ ⟨rfl, rfl, rfl, rfl, rfl, trivial⟩ rfl
      refine fin_then ?_
      refine aw_cond rfl (fun hz6 => ?_) (fun hz6 => ?_)
      · have _z := hz6
        have q7 := ne_t hz6
        refine aw_seq ?_
        refine aw_text (rows := [_]) rfl (by kernel_rfl) ⟨
          ok_plain rfl rfl (op_assign (ltN rfl) rfl),
          trivial⟩ ?_
        refine fin_keep (s' := [(.t 4, some (.x (.v (.bool false))))]) ?_ ⟨rfl, trivial⟩ rfl
        refine fin_then ?_
        refine aw_ret ?_
        refine fin_block_ret ?_
        refine fin_then_ret ?_
        refine fin_then_ret ?_
        refine fin_block_ret ?_
        refine fin_then_ret ?_
        refine post_ret (x := .v (.bool false)) rfl rfl (resOK_tmp rfl resOK_nil) rfl (fun mm aa ww hr => ?_)
        show Ending.returned (.bool false) = _ ∧ _
        exact ⟨by rw [eqInts_no2 (ne_t hz6)], hr.below⟩
      · have _z := hz6
        have q8 := ne_f hz6
        refine aw_skip ?_
        refine fin_block ?_
        refine fin_then ?_
        refine aw_text (rows := [_, _]) rfl (by kernel_rfl) ⟨
          ok_plain rfl rfl (op_bin (ltN rfl) rfl rfl (nw_add ⟨(by omega), (by omega)⟩)),
          ok_plain rfl rfl (op_move (ltN rfl) rfl),
          trivial⟩ ?_
        refine fin_keep (s' := [(.t 0, some (.x (.v (.slice a_p a.length a_c)))), (.t 1, some (.x (.v (.slice b_p b.length b_c)))), (.t 12, some (.x (.v (.int .i64 (((a.length : Nat) : Int)))))), (.t 13, some (.x (.v (.int .i64 (((k : Int)) + 1)))))]) ?_ ⟨rfl, rfl, rfl, rfl, trivial⟩ rfl
        exact fin_loop (k + 1) ⟨by omega, fun j hj => by rcases Nat.lt_succ_iff_lt_or_eq.1 hj with h | rfl; exact hall j h; exact ne_f hz6⟩ (by omega) ⟨rfl, rfl, rfl, rfl, trivial⟩ rfl
    · have _z := hz4
      have q9 := of_decide_eq_false hz4
      refine aw_exit ?_
      refine fin_then_exit ?_
      refine fin_then_exit ?_
      refine fin_block_exit ?_
      refine fin_then ?_
      refine aw_seq ?_
      refine aw_text (rows := [_]) rfl (by kernel_rfl) ⟨
        ok_plain rfl rfl (op_assign (ltN rfl) rfl),
        trivial⟩ ?_
      refine fin_keep (s' := [(.t 4, some (.x (.v (.bool true))))]) ?_ ⟨rfl, trivial⟩ rfl
      refine fin_then ?_
      refine aw_ret ?_
      refine post_ret (x := .v (.bool true)) rfl rfl (resOK_tmp rfl resOK_nil) rfl (fun mm aa ww hr => ?_)
      show Ending.returned (.bool true) = _ ∧ _
      exact ⟨by rw [eqInts_yes (k := k) (by omega) (by omega) hall], hr.below⟩

end Go.Proofs.T
