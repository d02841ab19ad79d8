import Derived.Test.YtgpcfckbcldokaaDoorHI
namespace Go.Proofs.T
open Go Go.AX Go.RowKit Hull
theorem en_80 : Proofs.Enters Tryd.prog 80 := Proofs.enters_of Tryd.func80 (by kernel_rfl) rfl
theorem en_43 : Proofs.Enters Tryd.prog 43 := Proofs.enters_of Tryd.func43 (by kernel_rfl) rfl
theorem en_18 : Proofs.Enters Tryd.prog 18 := Proofs.enters_of Tryd.func18 (by kernel_rfl) rfl
theorem en_20 : Proofs.Enters Tryd.prog 20 := Proofs.enters_of Tryd.func20 (by kernel_rfl) rfl
theorem en_81 : Proofs.Enters Tryd.prog 81 := Proofs.enters_of Tryd.func81 (by kernel_rfl) rfl
theorem en_23 : Proofs.Enters Tryd.prog 23 := Proofs.enters_of Tryd.func23 (by kernel_rfl) rfl
theorem en_35 : Proofs.Enters Tryd.prog 35 := Proofs.enters_of Tryd.func35 (by kernel_rfl) rfl
theorem en_82 : Proofs.Enters Tryd.prog 82 := Proofs.enters_of Tryd.func82 (by kernel_rfl) rfl

set_option maxHeartbeats 2000000 in
theorem c21  (w : World) (hG : BoxAt w 0 (strengths.map (fun n => Value.int .i64 n))) : Calls Tryd.prog 21 #[] w fun e w' => e = .returned (.bool true) ∧ Below w.heap.size w w' := by
  refine enter (args := []) Tryd.func21 rfl (N := 113) rfl (Nat.le_of_ble_eq_true rfl) ?_
  refine aw_seq ?_
  refine aw_text (rows := [_]) rfl (by kernel_rfl) ⟨
    ok_plain rfl rfl (op_assign (ltN rfl) rfl),
    trivial⟩ ?_
  refine fin_keep (s' := []) ?_ trivial rfl
  refine fin_then ?_
  refine aw_seq ?_
  refine aw_text (rows := [_, _, _]) rfl (by kernel_rfl) ⟨
    ok_plain rfl rfl (op_callRows (x := .g [.v (.int .i64 exampleShip.Class), .v (.int .i64 exampleShip.Power), .v (.int .i64 exampleShip.Draught), .v (.int .i64 exampleShip.Tonnes), .o 1 2 exampleShip.Thrust.length, .o 3 4 exampleShip.Water.length, .o 5 6 exampleShip.Ice.length, .v (.int .i64 exampleShip.Slow), .v (.int .i64 exampleShip.Brash), .v (.int .i64 exampleShip.Ridge), .v (.int .i64 exampleShip.Press)]) (R := (fun vs => .agg #[.int .i64 exampleShip.Class, .int .i64 exampleShip.Power, .int .i64 exampleShip.Draught, .int .i64 exampleShip.Tonnes, (vs.getD 0 (.bool false)), (vs.getD 1 (.bool false)), (vs.getD 2 (.bool false)), .int .i64 exampleShip.Slow, .int .i64 exampleShip.Brash, .int .i64 exampleShip.Ridge, .int .i64 exampleShip.Press])) (ls := [(1, 2), (3, 4), (5, 6)]) (ds := [(exampleShip.Thrust.length, 84, 2, exampleShip.Thrust.flatMap encPt), (exampleShip.Water.length, 84, 2, exampleShip.Water.flatMap encPt), (exampleShip.Ice.length, 84, 2, exampleShip.Ice.flatMap encPt)]) (fs := []) (caps := []) (extra := []) (ltN rfl) en_80 rfl ⟨rfl, rfl, rfl⟩ EvL.nil rfl rfl (fun _ => rfl) (fun mm aa ww gg hr hrel => (c80 ww))),
    ok_plain rfl rfl (op_alloc (L := 7) (ltN rfl) zl_25),
    ok_plain rfl rfl (op_storeN sz_25 rfl rfl rfl rfl rfl (by decide)),
    trivial⟩ ?_
  refine fin_keep (s' := [(.t 1, some (.x (.p 7 0))), (.b 7, some (.sh 25 11)), (.r 1, some (.vec false 2 84 2 (exampleShip.Thrust.flatMap encPt))), (.r 3, some (.vec false 4 84 2 (exampleShip.Water.flatMap encPt))), (.r 5, some (.vec false 6 84 2 (exampleShip.Ice.flatMap encPt))), (.c 7 0, some (.x (.v (.int .i64 exampleShip.Class)))), (.c 7 1, some (.x (.v (.int .i64 exampleShip.Power)))), (.c 7 2, some (.x (.v (.int .i64 exampleShip.Draught)))), (.c 7 3, some (.x (.v (.int .i64 exampleShip.Tonnes)))), (.c 7 4, some (.x (.o 1 2 exampleShip.Thrust.length))), (.c 7 5, some (.x (.o 3 4 exampleShip.Water.length))), (.c 7 6, some (.x (.o 5 6 exampleShip.Ice.length))), (.c 7 7, some (.x (.v (.int .i64 exampleShip.Slow)))), (.c 7 8, some (.x (.v (.int .i64 exampleShip.Brash)))), (.c 7 9, some (.x (.v (.int .i64 exampleShip.Ridge)))), (.c 7 10, some (.x (.v (.int .i64 exampleShip.Press))))]) ?_ ⟨rfl, rfl, rfl, rfl, rfl, rfl, rfl, rfl, rfl, rfl, rfl, rfl, rfl, rfl, rfl, rfl, trivial⟩ rfl
  refine fin_then ?_
  refine aw_seq ?_
  refine aw_text (rows := [_, _, _, _, _, _, _, _, _, _]) rfl (by kernel_rfl) ⟨
    ok_plain rfl rfl (op_build (x := .g [.v (.int .i64 0), .v (.int .i64 0)]) (ltN rfl) (EvL.cons rfl (EvL.cons rfl EvL.nil)) (fun m w => by kernel_rfl)),
    ok_plain rfl rfl (op_build (x := .g [.v (.int .i64 3), .v (.int .i64 10)]) (ltN rfl) (EvL.cons rfl (EvL.cons rfl EvL.nil)) (fun m w => by kernel_rfl)),
    ok_plain rfl rfl (op_buildSlice (L := 8) (ety := 84) (cs := [.v (.int .i64 0), .v (.int .i64 0), .v (.int .i64 3), .v (.int .i64 10)]) (ltN rfl) (EvL.cons rfl (EvL.cons rfl EvL.nil)) rfl (fun m w => by kernel_rfl)),
    ok_plain rfl rfl (op_call (x := .t [.g [.v (.int .i64 ((at_ ([⟨0, 0⟩, ⟨3, 10⟩]) 1).1.1)), .v (.int .i64 ((at_ ([⟨0, 0⟩, ⟨3, 10⟩]) 1).1.2))], .v (.int .i64 ((at_ ([⟨0, 0⟩, ⟨3, 10⟩]) 1).2))]) (fs := []) (caps := []) (extra := (.b 8 :: cellKeys 8 0 (([⟨0, 0⟩, ⟨3, 10⟩] : List Pt).length * 2)) ++ []) (ltN rfl) en_43 rfl ⟨rfl, rfl, rfl⟩ (EvL.cons rfl (EvL.cons rfl EvL.nil)) (fun mm aa ww gg hr hrel => (c43 ([⟨0, 0⟩, ⟨3, 10⟩]) ⟨some ⟨mm 8, 0, none⟩, 2, 2⟩ 1 ww (slAt_own (enc := encPt) (l := [⟨0, 0⟩, ⟨3, 10⟩]) (fun _ => rfl) hrel (fun k hk => hr k (List.mem_append_left _ hk)) rfl ⟨rfl, rfl, rfl, rfl, trivial⟩ (Nat.le_of_ble_eq_true rfl))))),
    ok_plain rfl rfl (op_move (ltN rfl) rfl),
    ok_plain rfl rfl (op_extract (ltN rfl) rfl rfl),
    ok_plain rfl rfl (op_extract (ltN rfl) rfl rfl),
    ok_plain rfl rfl (op_alloc (L := 9) (ltN rfl) zl_86),
    ok_plain rfl rfl (op_storeN sz_86 rfl rfl rfl rfl rfl (by decide)),
    ok_plain rfl rfl (op_assign (ltN rfl) rfl),
    trivial⟩ ?_
  refine fin_keep (s' := [(.t 1, some (.x (.p 7 0))), (.t 2, some (.x (.p 9 0))), (.t 3, some (.x (.v (.int .i64 ((at_ ([⟨0, 0⟩, ⟨3, 10⟩]) 1).2))))), (.b 7, some (.sh 25 11)), (.b 9, some (.sh 86 2)), (.r 1, some (.vec false 2 84 2 (exampleShip.Thrust.flatMap encPt))), (.r 3, some (.vec false 4 84 2 (exampleShip.Water.flatMap encPt))), (.r 5, some (.vec false 6 84 2 (exampleShip.Ice.flatMap encPt))), (.c 7 0, some (.x (.v (.int .i64 exampleShip.Class)))), (.c 7 1, some (.x (.v (.int .i64 exampleShip.Power)))), (.c 7 2, some (.x (.v (.int .i64 exampleShip.Draught)))), (.c 7 3, some (.x (.v (.int .i64 exampleShip.Tonnes)))), (.c 7 4, some (.x (.o 1 2 exampleShip.Thrust.length))), (.c 7 5, some (.x (.o 3 4 exampleShip.Water.length))), (.c 7 6, some (.x (.o 5 6 exampleShip.Ice.length))), (.c 7 7, some (.x (.v (.int .i64 exampleShip.Slow)))), (.c 7 8, some (.x (.v (.int .i64 exampleShip.Brash)))), (.c 7 9, some (.x (.v (.int .i64 exampleShip.Ridge)))), (.c 7 10, some (.x (.v (.int .i64 exampleShip.Press)))), (.c 9 0, some (.x (.v (.int .i64 ((at_ ([⟨0, 0⟩, ⟨3, 10⟩]) 1).1.1))))), (.c 9 1, some (.x (.v (.int .i64 ((at_ ([⟨0, 0⟩, ⟨3, 10⟩]) 1).1.2)))))]) ?_ ⟨rfl, rfl, rfl, rfl, rfl, rfl, rfl, rfl, rfl, rfl, rfl, rfl, rfl, rfl, rfl, rfl, rfl, rfl, rfl, rfl, rfl, trivial⟩ rfl
  refine fin_then ?_
  refine aw_seq ?_
  refine aw_text (rows := [_, _, _, _, _, _, _, _]) rfl (by kernel_rfl) ⟨
    ok_plain rfl rfl (op_loadN (ys := [.v (.int .i64 exampleShip.Class), .v (.int .i64 exampleShip.Power), .v (.int .i64 exampleShip.Draught), .v (.int .i64 exampleShip.Tonnes), .o 1 2 exampleShip.Thrust.length, .o 3 4 exampleShip.Water.length, .o 5 6 exampleShip.Ice.length, .v (.int .i64 exampleShip.Slow), .v (.int .i64 exampleShip.Brash), .v (.int .i64 exampleShip.Ridge), .v (.int .i64 exampleShip.Press)]) (ltN rfl) sh_25 rfl rfl ⟨rfl, rfl, rfl, rfl, rfl, rfl, rfl, rfl, rfl, rfl, rfl, trivial⟩),
    ok_plain rfl rfl (op_build (x := .g [.v (.int .i64 100), .v (.int .i64 50), .v (.int .i64 0), .v (.int .i64 0)]) (ltN rfl) (EvL.cons rfl (EvL.cons rfl EvL.nil)) (fun m w => by kernel_rfl)),
    ok_plain rfl rfl (op_call (x := .t [.v (.int .i64 ((speedE exampleShip (⟨100, 50, 0, 0⟩) false).1)), .v (.int .i64 ((speedE exampleShip (⟨100, 50, 0, 0⟩) false).2))]) (fs := []) (caps := []) (extra := [.r 1] ++ ([.r 3] ++ ([.r 5] ++ []))) (ltN rfl) en_18 rfl ⟨rfl, rfl, rfl⟩ (EvL.cons rfl (EvL.cons rfl (EvL.cons rfl EvL.nil))) (fun mm aa ww gg hr hrel => (c18 exampleShip ⟨if mm 2 = 0 then none else some ⟨mm 1, 0, none⟩, exampleShip.Thrust.length, mm 2⟩ ⟨if mm 4 = 0 then none else some ⟨mm 3, 0, none⟩, exampleShip.Water.length, mm 4⟩ ⟨if mm 6 = 0 then none else some ⟨mm 5, 0, none⟩, exampleShip.Ice.length, mm 6⟩ (⟨100, 50, 0, 0⟩) false ww (slAt_row (enc := encPt) (l := exampleShip.Thrust) (fun _ => rfl) (by decide) hrel ((hr _ (List.mem_append_left _ (by simp))).trans rfl)) (slAt_row (enc := encPt) (l := exampleShip.Water) (fun _ => rfl) (by decide) hrel ((hr _ (List.mem_append_right _ (List.mem_append_left _ (by simp)))).trans rfl)) (slAt_row (enc := encPt) (l := exampleShip.Ice) (fun _ => rfl) (by decide) hrel ((hr _ (List.mem_append_right _ (List.mem_append_right _ (List.mem_append_left _ (by simp))))).trans rfl))))),
    ok_plain rfl rfl (op_move (ltN rfl) rfl),
    ok_plain rfl rfl (op_extract (ltN rfl) rfl rfl),
    ok_plain rfl rfl (op_extract (ltN rfl) rfl rfl),
    ok_plain rfl rfl (op_assign (ltN rfl) rfl),
    ok_plain rfl rfl (op_assign (ltN rfl) rfl),
    trivial⟩ ?_
  refine fin_keep (s' := [(.t 1, some (.x (.p 7 0))), (.t 2, some (.x (.p 9 0))), (.t 3, some (.x (.v (.int .i64 ((at_ ([⟨0, 0⟩, ⟨3, 10⟩]) 1).2))))), (.t 4, some (.x (.v (.int .i64 ((speedE exampleShip (⟨100, 50, 0, 0⟩) false).1))))), (.t 5, some (.x (.v (.int .i64 ((speedE exampleShip (⟨100, 50, 0, 0⟩) false).2))))), (.b 7, some (.sh 25 11)), (.b 9, some (.sh 86 2)), (.r 1, some (.vec false 2 84 2 (exampleShip.Thrust.flatMap encPt))), (.r 3, some (.vec false 4 84 2 (exampleShip.Water.flatMap encPt))), (.r 5, some (.vec false 6 84 2 (exampleShip.Ice.flatMap encPt))), (.c 7 0, some (.x (.v (.int .i64 exampleShip.Class)))), (.c 7 1, some (.x (.v (.int .i64 exampleShip.Power)))), (.c 7 2, some (.x (.v (.int .i64 exampleShip.Draught)))), (.c 7 3, some (.x (.v (.int .i64 exampleShip.Tonnes)))), (.c 7 4, some (.x (.o 1 2 exampleShip.Thrust.length))), (.c 7 5, some (.x (.o 3 4 exampleShip.Water.length))), (.c 7 6, some (.x (.o 5 6 exampleShip.Ice.length))), (.c 7 7, some (.x (.v (.int .i64 exampleShip.Slow)))), (.c 7 8, some (.x (.v (.int .i64 exampleShip.Brash)))), (.c 7 9, some (.x (.v (.int .i64 exampleShip.Ridge)))), (.c 7 10, some (.x (.v (.int .i64 exampleShip.Press)))), (.c 9 0, some (.x (.v (.int .i64 ((at_ ([⟨0, 0⟩, ⟨3, 10⟩]) 1).1.1))))), (.c 9 1, some (.x (.v (.int .i64 ((at_ ([⟨0, 0⟩, ⟨3, 10⟩]) 1).1.2)))))]) ?_ ⟨rfl, rfl, rfl, rfl, rfl, rfl, rfl, rfl, rfl, rfl, rfl, rfl, rfl, rfl, rfl, rfl, rfl, rfl, rfl, rfl, rfl, rfl, rfl, trivial⟩ rfl
  refine fin_then ?_
  refine aw_seq ?_
  refine aw_text (rows := [_, _, _, _, _, _, _, _]) rfl (by kernel_rfl) ⟨
    ok_plain rfl rfl (op_loadN (ys := [.v (.int .i64 exampleShip.Class), .v (.int .i64 exampleShip.Power), .v (.int .i64 exampleShip.Draught), .v (.int .i64 exampleShip.Tonnes), .o 1 2 exampleShip.Thrust.length, .o 3 4 exampleShip.Water.length, .o 5 6 exampleShip.Ice.length, .v (.int .i64 exampleShip.Slow), .v (.int .i64 exampleShip.Brash), .v (.int .i64 exampleShip.Ridge), .v (.int .i64 exampleShip.Press)]) (ltN rfl) sh_25 rfl rfl ⟨rfl, rfl, rfl, rfl, rfl, rfl, rfl, rfl, rfl, rfl, rfl, trivial⟩),
    ok_plain rfl rfl (op_build (x := .g [.v (.int .i64 100), .v (.int .i64 50), .v (.int .i64 0), .v (.int .i64 0)]) (ltN rfl) (EvL.cons rfl (EvL.cons rfl EvL.nil)) (fun m w => by kernel_rfl)),
    ok_plain rfl rfl (op_call (x := .t [.v (.int .i64 ((speedE exampleShip (⟨100, 50, 0, 0⟩) true).1)), .v (.int .i64 ((speedE exampleShip (⟨100, 50, 0, 0⟩) true).2))]) (fs := []) (caps := []) (extra := [.r 1] ++ ([.r 3] ++ ([.r 5] ++ []))) (ltN rfl) en_18 rfl ⟨rfl, rfl, rfl⟩ (EvL.cons rfl (EvL.cons rfl (EvL.cons rfl EvL.nil))) (fun mm aa ww gg hr hrel => (c18 exampleShip ⟨if mm 2 = 0 then none else some ⟨mm 1, 0, none⟩, exampleShip.Thrust.length, mm 2⟩ ⟨if mm 4 = 0 then none else some ⟨mm 3, 0, none⟩, exampleShip.Water.length, mm 4⟩ ⟨if mm 6 = 0 then none else some ⟨mm 5, 0, none⟩, exampleShip.Ice.length, mm 6⟩ (⟨100, 50, 0, 0⟩) true ww (slAt_row (enc := encPt) (l := exampleShip.Thrust) (fun _ => rfl) (by decide) hrel ((hr _ (List.mem_append_left _ (by simp))).trans rfl)) (slAt_row (enc := encPt) (l := exampleShip.Water) (fun _ => rfl) (by decide) hrel ((hr _ (List.mem_append_right _ (List.mem_append_left _ (by simp)))).trans rfl)) (slAt_row (enc := encPt) (l := exampleShip.Ice) (fun _ => rfl) (by decide) hrel ((hr _ (List.mem_append_right _ (List.mem_append_right _ (List.mem_append_left _ (by simp))))).trans rfl))))),
    ok_plain rfl rfl (op_move (ltN rfl) rfl),
    ok_plain rfl rfl (op_extract (ltN rfl) rfl rfl),
    ok_plain rfl rfl (op_extract (ltN rfl) rfl rfl),
    ok_plain rfl rfl (op_assign (ltN rfl) rfl),
    ok_plain rfl rfl (op_assign (ltN rfl) rfl),
    trivial⟩ ?_
  refine fin_keep (s' := [(.t 1, some (.x (.p 7 0))), (.t 2, some (.x (.p 9 0))), (.t 3, some (.x (.v (.int .i64 ((at_ ([⟨0, 0⟩, ⟨3, 10⟩]) 1).2))))), (.t 4, some (.x (.v (.int .i64 ((speedE exampleShip (⟨100, 50, 0, 0⟩) false).1))))), (.t 5, some (.x (.v (.int .i64 ((speedE exampleShip (⟨100, 50, 0, 0⟩) false).2))))), (.t 6, some (.x (.v (.int .i64 ((speedE exampleShip (⟨100, 50, 0, 0⟩) true).1))))), (.t 7, some (.x (.v (.int .i64 ((speedE exampleShip (⟨100, 50, 0, 0⟩) true).2))))), (.b 7, some (.sh 25 11)), (.b 9, some (.sh 86 2)), (.r 1, some (.vec false 2 84 2 (exampleShip.Thrust.flatMap encPt))), (.r 3, some (.vec false 4 84 2 (exampleShip.Water.flatMap encPt))), (.r 5, some (.vec false 6 84 2 (exampleShip.Ice.flatMap encPt))), (.c 7 0, some (.x (.v (.int .i64 exampleShip.Class)))), (.c 7 1, some (.x (.v (.int .i64 exampleShip.Power)))), (.c 7 2, some (.x (.v (.int .i64 exampleShip.Draught)))), (.c 7 3, some (.x (.v (.int .i64 exampleShip.Tonnes)))), (.c 7 4, some (.x (.o 1 2 exampleShip.Thrust.length))), (.c 7 5, some (.x (.o 3 4 exampleShip.Water.length))), (.c 7 6, some (.x (.o 5 6 exampleShip.Ice.length))), (.c 7 7, some (.x (.v (.int .i64 exampleShip.Slow)))), (.c 7 8, some (.x (.v (.int .i64 exampleShip.Brash)))), (.c 7 9, some (.x (.v (.int .i64 exampleShip.Ridge)))), (.c 7 10, some (.x (.v (.int .i64 exampleShip.Press)))), (.c 9 0, some (.x (.v (.int .i64 ((at_ ([⟨0, 0⟩, ⟨3, 10⟩]) 1).1.1))))), (.c 9 1, some (.x (.v (.int .i64 ((at_ ([⟨0, 0⟩, ⟨3, 10⟩]) 1).1.2)))))]) ?_ ⟨rfl, rfl, rfl, rfl, rfl, rfl, rfl, rfl, rfl, rfl, rfl, rfl, rfl, rfl, rfl, rfl, rfl, rfl, rfl, rfl, rfl, rfl, rfl, rfl, rfl, trivial⟩ rfl
  refine fin_then ?_
  refine aw_seq ?_
  refine aw_text (rows := [_, _, _, _, _, _, _]) rfl (by kernel_rfl) ⟨
    ok_plain rfl rfl (op_build (x := .g [.v (.int .i64 100), .v (.int .i64 60), .v (.int .i64 1), .v (.int .i64 0)]) (ltN rfl) (EvL.cons rfl (EvL.cons rfl (EvL.cons rfl EvL.nil))) (fun m w => by kernel_rfl)),
    ok_plain rfl rfl (op_call (x := .t [.v (.int .i64 ((loadE (⟨100, 60, 1, 0⟩) 135 false).1)), .v (.int .i64 ((loadE (⟨100, 60, 1, 0⟩) 135 false).2))]) (fs := []) (caps := []) (extra := []) (ltN rfl) en_20 rfl ⟨rfl, rfl, rfl⟩ (EvL.cons rfl (EvL.cons rfl (EvL.cons rfl EvL.nil))) (fun mm aa ww gg hr hrel => (c20 (⟨100, 60, 1, 0⟩) 135 false ww))),
    ok_plain rfl rfl (op_move (ltN rfl) rfl),
    ok_plain rfl rfl (op_extract (ltN rfl) rfl rfl),
    ok_plain rfl rfl (op_extract (ltN rfl) rfl rfl),
    ok_plain rfl rfl (op_assign (ltN rfl) rfl),
    ok_plain rfl rfl (op_assign (ltN rfl) rfl),
    trivial⟩ ?_
  refine fin_keep (s' := [(.t 1, some (.x (.p 7 0))), (.t 2, some (.x (.p 9 0))), (.t 3, some (.x (.v (.int .i64 ((at_ ([⟨0, 0⟩, ⟨3, 10⟩]) 1).2))))), (.t 4, some (.x (.v (.int .i64 ((speedE exampleShip (⟨100, 50, 0, 0⟩) false).1))))), (.t 5, some (.x (.v (.int .i64 ((speedE exampleShip (⟨100, 50, 0, 0⟩) false).2))))), (.t 6, some (.x (.v (.int .i64 ((speedE exampleShip (⟨100, 50, 0, 0⟩) true).1))))), (.t 7, some (.x (.v (.int .i64 ((speedE exampleShip (⟨100, 50, 0, 0⟩) true).2))))), (.t 8, some (.x (.v (.int .i64 ((loadE (⟨100, 60, 1, 0⟩) 135 false).1))))), (.t 9, some (.x (.v (.int .i64 ((loadE (⟨100, 60, 1, 0⟩) 135 false).2))))), (.b 7, some (.sh 25 11)), (.b 9, some (.sh 86 2)), (.r 1, some (.vec false 2 84 2 (exampleShip.Thrust.flatMap encPt))), (.r 3, some (.vec false 4 84 2 (exampleShip.Water.flatMap encPt))), (.r 5, some (.vec false 6 84 2 (exampleShip.Ice.flatMap encPt))), (.c 7 0, some (.x (.v (.int .i64 exampleShip.Class)))), (.c 7 1, some (.x (.v (.int .i64 exampleShip.Power)))), (.c 7 2, some (.x (.v (.int .i64 exampleShip.Draught)))), (.c 7 3, some (.x (.v (.int .i64 exampleShip.Tonnes)))), (.c 7 4, some (.x (.o 1 2 exampleShip.Thrust.length))), (.c 7 5, some (.x (.o 3 4 exampleShip.Water.length))), (.c 7 6, some (.x (.o 5 6 exampleShip.Ice.length))), (.c 7 7, some (.x (.v (.int .i64 exampleShip.Slow)))), (.c 7 8, some (.x (.v (.int .i64 exampleShip.Brash)))), (.c 7 9, some (.x (.v (.int .i64 exampleShip.Ridge)))), (.c 7 10, some (.x (.v (.int .i64 exampleShip.Press)))), (.c 9 0, some (.x (.v (.int .i64 ((at_ ([⟨0, 0⟩, ⟨3, 10⟩]) 1).1.1))))), (.c 9 1, some (.x (.v (.int .i64 ((at_ ([⟨0, 0⟩, ⟨3, 10⟩]) 1).1.2)))))]) ?_ ⟨rfl, rfl, rfl, rfl, rfl, rfl, rfl, rfl, rfl, rfl, rfl, rfl, rfl, rfl, rfl, rfl, rfl, rfl, rfl, rfl, rfl, rfl, rfl, rfl, rfl, rfl, rfl, trivial⟩ rfl
  refine fin_then ?_
  refine aw_seq ?_
  refine aw_any (rows := [_, _, _, _, _, _, _, _, _, _, _, _, _]) (M := [0, 0, 2, 6, 15, 31, 63, 63, 63, 0, 639, 1791, 4095]) Tryd_mixed (by kernel_rfl) rfl (by kernel_rfl) ⟨
    ok_plain rfl rfl (op_loadN (ys := [.v (.int .i64 exampleShip.Class), .v (.int .i64 exampleShip.Power), .v (.int .i64 exampleShip.Draught), .v (.int .i64 exampleShip.Tonnes), .o 1 2 exampleShip.Thrust.length, .o 3 4 exampleShip.Water.length, .o 5 6 exampleShip.Ice.length, .v (.int .i64 exampleShip.Slow), .v (.int .i64 exampleShip.Brash), .v (.int .i64 exampleShip.Ridge), .v (.int .i64 exampleShip.Press)]) (ltN rfl) sh_25 rfl rfl ⟨rfl, rfl, rfl, rfl, rfl, rfl, rfl, rfl, rfl, rfl, rfl, trivial⟩),
    ok_plain rfl rfl (op_call (x := .g [.v (.int .i64 ((((level 40 60)).Conc).Lo)), .v (.int .i64 ((((level 40 60)).Conc).Hi)), .v (.int .i64 ((((level 40 60)).Thick).Lo)), .v (.int .i64 ((((level 40 60)).Thick).Hi)), .v (.int .i64 ((((level 40 60)).Ridge).Lo)), .v (.int .i64 ((((level 40 60)).Ridge).Hi)), .v (.int .i64 ((((level 40 60)).Press).Lo)), .v (.int .i64 ((((level 40 60)).Press).Hi))]) (fs := []) (caps := []) (extra := []) (ltN rfl) en_81 rfl ⟨rfl, rfl, rfl⟩ (EvL.cons rfl (EvL.cons rfl EvL.nil)) (fun mm aa ww gg hr hrel => (c81 40 60 ww))),
    ok_plain rfl rfl (op_build (x := .g [.v (.int .i64 ((((level 40 60)).Conc).Lo)), .v (.int .i64 ((((level 40 60)).Conc).Hi)), .v (.int .i64 ((((level 40 60)).Thick).Lo)), .v (.int .i64 ((((level 40 60)).Thick).Hi)), .v (.int .i64 ((((level 40 60)).Ridge).Lo)), .v (.int .i64 ((((level 40 60)).Ridge).Hi)), .v (.int .i64 ((((level 40 60)).Press).Lo)), .v (.int .i64 ((((level 40 60)).Press).Hi)), .v (.bool false), .v (.int .i64 100)]) (ltN rfl) (EvL.cons rfl (EvL.cons rfl EvL.nil)) (fun m w => by kernel_rfl)),
    ok_plain rfl rfl (op_buildSlice (L := 10) (ety := 48) (cs := [.v (.int .i64 ((((level 40 60)).Conc).Lo)), .v (.int .i64 ((((level 40 60)).Conc).Hi)), .v (.int .i64 ((((level 40 60)).Thick).Lo)), .v (.int .i64 ((((level 40 60)).Thick).Hi)), .v (.int .i64 ((((level 40 60)).Ridge).Lo)), .v (.int .i64 ((((level 40 60)).Ridge).Hi)), .v (.int .i64 ((((level 40 60)).Press).Lo)), .v (.int .i64 ((((level 40 60)).Press).Hi)), .v (.bool false), .v (.int .i64 100)]) (ltN rfl) (EvL.cons rfl EvL.nil) rfl (fun m w => by kernel_rfl)),
    ok_plain rfl rfl (op_callRowR (L := 11) (C := 12) (own := true) (x := .t [.o 11 12 ((leg exampleShip ([⟨(level 40 60), false, 100⟩])).1.length), .g [.v (.int .i64 (((leg exampleShip ([⟨(level 40 60), false, 100⟩])).2.1).Lo)), .v (.int .i64 (((leg exampleShip ([⟨(level 40 60), false, 100⟩])).2.1).Hi))], .v (.int .i64 ((leg exampleShip ([⟨(level 40 60), false, 100⟩])).2.2))]) (R := fun p c => .tuple #[(.slice p ((leg exampleShip ([⟨(level 40 60), false, 100⟩])).1.length) c), .agg #[.int .i64 (((leg exampleShip ([⟨(level 40 60), false, 100⟩])).2.1).Lo), .int .i64 (((leg exampleShip ([⟨(level 40 60), false, 100⟩])).2.1).Hi)], .int .i64 ((leg exampleShip ([⟨(level 40 60), false, 100⟩])).2.2)]) (fs := []) (caps := []) (extra := [.r 1] ++ ([.r 3] ++ ([.r 5] ++ ((.b 10 :: cellKeys 10 0 (([⟨(level 40 60), false, 100⟩] : List Part).length * 10)) ++ [])))) (ltN rfl) en_23 rfl ⟨rfl, rfl, rfl⟩ (EvL.cons rfl (EvL.cons rfl EvL.nil)) (by decide) (fun mm p c h => by show (.tuple #[(den mm (.o 11 12 ((leg exampleShip ([⟨(level 40 60), false, 100⟩])).1.length))), .agg #[.int .i64 (((leg exampleShip ([⟨(level 40 60), false, 100⟩])).2.1).Lo), .int .i64 (((leg exampleShip ([⟨(level 40 60), false, 100⟩])).2.1).Hi)], .int .i64 ((leg exampleShip ([⟨(level 40 60), false, 100⟩])).2.2)] : Value) = _; rw [h]) (fun mm aa ww gg hr hrel => (c23 exampleShip ⟨if mm 2 = 0 then none else some ⟨mm 1, 0, none⟩, exampleShip.Thrust.length, mm 2⟩ ⟨if mm 4 = 0 then none else some ⟨mm 3, 0, none⟩, exampleShip.Water.length, mm 4⟩ ⟨if mm 6 = 0 then none else some ⟨mm 5, 0, none⟩, exampleShip.Ice.length, mm 6⟩ ([⟨(level 40 60), false, 100⟩]) ⟨some ⟨mm 10, 0, none⟩, 1, 1⟩ ww (slAt_row (enc := encPt) (l := exampleShip.Thrust) (fun _ => rfl) (by decide) hrel ((hr _ (List.mem_append_left _ (by simp))).trans rfl)) (slAt_row (enc := encPt) (l := exampleShip.Water) (fun _ => rfl) (by decide) hrel ((hr _ (List.mem_append_right _ (List.mem_append_left _ (by simp)))).trans rfl)) (slAt_row (enc := encPt) (l := exampleShip.Ice) (fun _ => rfl) (by decide) hrel ((hr _ (List.mem_append_right _ (List.mem_append_right _ (List.mem_append_left _ (by simp))))).trans rfl)) (slAt_own (enc := encPart) (l := [⟨(level 40 60), false, 100⟩]) (fun _ => rfl) hrel (fun k hk => hr k (List.mem_append_right _ (List.mem_append_right _ (List.mem_append_right _ (List.mem_append_left _ hk))))) rfl ⟨rfl, rfl, rfl, rfl, rfl, rfl, rfl, rfl, rfl, rfl, trivial⟩ (Nat.le_of_ble_eq_true rfl)) (BoxAt.mono hG hrel.below)))),
    ok_plain rfl rfl (op_move (ltN rfl) rfl),
    ok_plain rfl rfl (op_extract (ltN rfl) rfl rfl),
    ok_plain rfl rfl (op_extract (ltN rfl) rfl rfl),
    ok_plain rfl rfl (op_extract (ltN rfl) rfl rfl),
    ok_plain rfl rfl (op_alloc (L := 13) (ltN rfl) zl_32),
    ok_plain rfl rfl (op_assign (ltN rfl) rfl),
    ok_plain rfl rfl (op_storeN sz_32 rfl rfl rfl rfl rfl (by decide)),
    ok_plain rfl rfl (op_assign (ltN rfl) rfl),
    trivial⟩ ?_
  refine fin_keep (s' := [(.t 1, some (.x (.p 7 0))), (.t 2, some (.x (.p 9 0))), (.t 3, some (.x (.v (.int .i64 ((at_ ([⟨0, 0⟩, ⟨3, 10⟩]) 1).2))))), (.t 4, some (.x (.v (.int .i64 ((speedE exampleShip (⟨100, 50, 0, 0⟩) false).1))))), (.t 5, some (.x (.v (.int .i64 ((speedE exampleShip (⟨100, 50, 0, 0⟩) false).2))))), (.t 6, some (.x (.v (.int .i64 ((speedE exampleShip (⟨100, 50, 0, 0⟩) true).1))))), (.t 7, some (.x (.v (.int .i64 ((speedE exampleShip (⟨100, 50, 0, 0⟩) true).2))))), (.t 8, some (.x (.v (.int .i64 ((loadE (⟨100, 60, 1, 0⟩) 135 false).1))))), (.t 9, some (.x (.v (.int .i64 ((loadE (⟨100, 60, 1, 0⟩) 135 false).2))))), (.t 10, some (.x (.o 11 12 ((leg exampleShip ([⟨(level 40 60), false, 100⟩])).1.length)))), (.t 11, some (.x (.p 13 0))), (.t 12, some (.x (.v (.int .i64 ((leg exampleShip ([⟨(level 40 60), false, 100⟩])).2.2))))), (.b 7, some (.sh 25 11)), (.b 9, some (.sh 86 2)), (.b 13, some (.sh 32 2)), (.r 1, some (.vec false 2 84 2 (exampleShip.Thrust.flatMap encPt))), (.r 3, some (.vec false 4 84 2 (exampleShip.Water.flatMap encPt))), (.r 5, some (.vec false 6 84 2 (exampleShip.Ice.flatMap encPt))), (.r 11, some (.vec true 12 3 1 (((leg exampleShip ([⟨(level 40 60), false, 100⟩])).1).flatMap encInt))), (.c 7 0, some (.x (.v (.int .i64 exampleShip.Class)))), (.c 7 1, some (.x (.v (.int .i64 exampleShip.Power)))), (.c 7 2, some (.x (.v (.int .i64 exampleShip.Draught)))), (.c 7 3, some (.x (.v (.int .i64 exampleShip.Tonnes)))), (.c 7 4, some (.x (.o 1 2 exampleShip.Thrust.length))), (.c 7 5, some (.x (.o 3 4 exampleShip.Water.length))), (.c 7 6, some (.x (.o 5 6 exampleShip.Ice.length))), (.c 7 7, some (.x (.v (.int .i64 exampleShip.Slow)))), (.c 7 8, some (.x (.v (.int .i64 exampleShip.Brash)))), (.c 7 9, some (.x (.v (.int .i64 exampleShip.Ridge)))), (.c 7 10, some (.x (.v (.int .i64 exampleShip.Press)))), (.c 9 0, some (.x (.v (.int .i64 ((at_ ([⟨0, 0⟩, ⟨3, 10⟩]) 1).1.1))))), (.c 9 1, some (.x (.v (.int .i64 ((at_ ([⟨0, 0⟩, ⟨3, 10⟩]) 1).1.2))))), (.c 13 0, some (.x (.v (.int .i64 (((leg exampleShip ([⟨(level 40 60), false, 100⟩])).2.1).Lo))))), (.c 13 1, some (.x (.v (.int .i64 (((leg exampleShip ([⟨(level 40 60), false, 100⟩])).2.1).Hi)))))]) ?_ ⟨rfl, rfl, rfl, rfl, rfl, rfl, rfl, rfl, rfl, rfl, rfl, rfl, rfl, rfl, rfl, rfl, rfl, rfl, rfl, rfl, rfl, rfl, rfl, rfl, rfl, rfl, rfl, rfl, rfl, rfl, rfl, rfl, rfl, rfl, trivial⟩ rfl
  refine fin_then ?_
  refine aw_seq ?_
  refine aw_any (rows := [_, _, _, _, _, _, _, _, _, _, _, _, _]) (M := [0, 0, 0, 0, 0, 28, 63, 127, 255, 255, 0, 1535, 4095]) Tryd_mixed (by kernel_rfl) rfl (by kernel_rfl) ⟨
    ok_plain rfl rfl (op_loadN (ys := [.v (.int .i64 exampleShip.Class), .v (.int .i64 exampleShip.Power), .v (.int .i64 exampleShip.Draught), .v (.int .i64 exampleShip.Tonnes), .o 1 2 exampleShip.Thrust.length, .o 3 4 exampleShip.Water.length, .o 5 6 exampleShip.Ice.length, .v (.int .i64 exampleShip.Slow), .v (.int .i64 exampleShip.Brash), .v (.int .i64 exampleShip.Ridge), .v (.int .i64 exampleShip.Press)]) (ltN rfl) sh_25 rfl rfl ⟨rfl, rfl, rfl, rfl, rfl, rfl, rfl, rfl, rfl, rfl, rfl, trivial⟩),
    ok_plain rfl rfl (op_call (x := .g [.v (.int .i64 ((((level 150 150)).Conc).Lo)), .v (.int .i64 ((((level 150 150)).Conc).Hi)), .v (.int .i64 ((((level 150 150)).Thick).Lo)), .v (.int .i64 ((((level 150 150)).Thick).Hi)), .v (.int .i64 ((((level 150 150)).Ridge).Lo)), .v (.int .i64 ((((level 150 150)).Ridge).Hi)), .v (.int .i64 ((((level 150 150)).Press).Lo)), .v (.int .i64 ((((level 150 150)).Press).Hi))]) (fs := []) (caps := []) (extra := []) (ltN rfl) en_81 rfl ⟨rfl, rfl, rfl⟩ (EvL.cons rfl (EvL.cons rfl EvL.nil)) (fun mm aa ww gg hr hrel => (c81 150 150 ww))),
    ok_plain rfl rfl (op_build (x := .g [.v (.int .i64 3), .v (.int .i64 3)]) (ltN rfl) (EvL.cons rfl (EvL.cons rfl EvL.nil)) (fun m w => by kernel_rfl)),
    ok_plain rfl rfl (op_build (x := .g [.v (.int .i64 2), .v (.int .i64 3)]) (ltN rfl) (EvL.cons rfl (EvL.cons rfl EvL.nil)) (fun m w => by kernel_rfl)),
    ok_plain rfl rfl (op_build (x := .g [.v (.int .i64 0), .v (.int .i64 2)]) (ltN rfl) (EvL.cons rfl (EvL.cons rfl EvL.nil)) (fun m w => by kernel_rfl)),
    ok_plain rfl rfl (op_buildSlice (L := 14) (ety := 32) (cs := [.v (.int .i64 3), .v (.int .i64 3), .v (.int .i64 2), .v (.int .i64 3), .v (.int .i64 0), .v (.int .i64 2)]) (ltN rfl) (EvL.cons rfl (EvL.cons rfl (EvL.cons rfl EvL.nil))) rfl (fun m w => by kernel_rfl)),
    ok_plain rfl rfl (op_call (x := .t [.g [.v (.int .i64 (((free exampleShip ((level 150 150)) ([⟨3, 3⟩, ⟨2, 3⟩, ⟨0, 2⟩])).1).Lo)), .v (.int .i64 (((free exampleShip ((level 150 150)) ([⟨3, 3⟩, ⟨2, 3⟩, ⟨0, 2⟩])).1).Hi))], .v (.int .i64 ((free exampleShip ((level 150 150)) ([⟨3, 3⟩, ⟨2, 3⟩, ⟨0, 2⟩])).2))]) (fs := []) (caps := []) (extra := [.r 1] ++ ([.r 3] ++ ([.r 5] ++ ((.b 14 :: cellKeys 14 0 (([⟨3, 3⟩, ⟨2, 3⟩, ⟨0, 2⟩] : List Span).length * 2)) ++ [])))) (ltN rfl) en_35 rfl ⟨rfl, rfl, rfl⟩ (EvL.cons rfl (EvL.cons rfl (EvL.cons rfl EvL.nil))) (fun mm aa ww gg hr hrel => (c35 exampleShip ⟨if mm 2 = 0 then none else some ⟨mm 1, 0, none⟩, exampleShip.Thrust.length, mm 2⟩ ⟨if mm 4 = 0 then none else some ⟨mm 3, 0, none⟩, exampleShip.Water.length, mm 4⟩ ⟨if mm 6 = 0 then none else some ⟨mm 5, 0, none⟩, exampleShip.Ice.length, mm 6⟩ ((level 150 150)) ([⟨3, 3⟩, ⟨2, 3⟩, ⟨0, 2⟩]) ⟨some ⟨mm 14, 0, none⟩, 3, 3⟩ ww (slAt_row (enc := encPt) (l := exampleShip.Thrust) (fun _ => rfl) (by decide) hrel ((hr _ (List.mem_append_left _ (by simp))).trans rfl)) (slAt_row (enc := encPt) (l := exampleShip.Water) (fun _ => rfl) (by decide) hrel ((hr _ (List.mem_append_right _ (List.mem_append_left _ (by simp)))).trans rfl)) (slAt_row (enc := encPt) (l := exampleShip.Ice) (fun _ => rfl) (by decide) hrel ((hr _ (List.mem_append_right _ (List.mem_append_right _ (List.mem_append_left _ (by simp))))).trans rfl)) (slAt_own (enc := encSpan) (l := [⟨3, 3⟩, ⟨2, 3⟩, ⟨0, 2⟩]) (fun _ => rfl) hrel (fun k hk => hr k (List.mem_append_right _ (List.mem_append_right _ (List.mem_append_right _ (List.mem_append_left _ hk))))) rfl ⟨rfl, rfl, rfl, rfl, rfl, rfl, trivial⟩ (Nat.le_of_ble_eq_true rfl))))),
    ok_plain rfl rfl (op_move (ltN rfl) rfl),
    ok_plain rfl rfl (op_extract (ltN rfl) rfl rfl),
    ok_plain rfl rfl (op_extract (ltN rfl) rfl rfl),
    ok_plain rfl rfl (op_alloc (L := 15) (ltN rfl) zl_32),
    ok_plain rfl rfl (op_storeN sz_32 rfl rfl rfl rfl rfl (by decide)),
    ok_plain rfl rfl (op_assign (ltN rfl) rfl),
    trivial⟩ ?_
  refine fin_keep (s' := [(.t 2, some (.x (.p 9 0))), (.t 3, some (.x (.v (.int .i64 ((at_ ([⟨0, 0⟩, ⟨3, 10⟩]) 1).2))))), (.t 4, some (.x (.v (.int .i64 ((speedE exampleShip (⟨100, 50, 0, 0⟩) false).1))))), (.t 5, some (.x (.v (.int .i64 ((speedE exampleShip (⟨100, 50, 0, 0⟩) false).2))))), (.t 6, some (.x (.v (.int .i64 ((speedE exampleShip (⟨100, 50, 0, 0⟩) true).1))))), (.t 7, some (.x (.v (.int .i64 ((speedE exampleShip (⟨100, 50, 0, 0⟩) true).2))))), (.t 8, some (.x (.v (.int .i64 ((loadE (⟨100, 60, 1, 0⟩) 135 false).1))))), (.t 9, some (.x (.v (.int .i64 ((loadE (⟨100, 60, 1, 0⟩) 135 false).2))))), (.t 10, some (.x (.o 11 12 ((leg exampleShip ([⟨(level 40 60), false, 100⟩])).1.length)))), (.t 11, some (.x (.p 13 0))), (.t 12, some (.x (.v (.int .i64 ((leg exampleShip ([⟨(level 40 60), false, 100⟩])).2.2))))), (.t 13, some (.x (.p 15 0))), (.t 14, some (.x (.v (.int .i64 ((free exampleShip ((level 150 150)) ([⟨3, 3⟩, ⟨2, 3⟩, ⟨0, 2⟩])).2))))), (.b 9, some (.sh 86 2)), (.b 13, some (.sh 32 2)), (.b 15, some (.sh 32 2)), (.r 11, some (.vec true 12 3 1 (((leg exampleShip ([⟨(level 40 60), false, 100⟩])).1).flatMap encInt))), (.c 9 0, some (.x (.v (.int .i64 ((at_ ([⟨0, 0⟩, ⟨3, 10⟩]) 1).1.1))))), (.c 9 1, some (.x (.v (.int .i64 ((at_ ([⟨0, 0⟩, ⟨3, 10⟩]) 1).1.2))))), (.c 13 0, some (.x (.v (.int .i64 (((leg exampleShip ([⟨(level 40 60), false, 100⟩])).2.1).Lo))))), (.c 13 1, some (.x (.v (.int .i64 (((leg exampleShip ([⟨(level 40 60), false, 100⟩])).2.1).Hi))))), (.c 15 0, some (.x (.v (.int .i64 (((free exampleShip ((level 150 150)) ([⟨3, 3⟩, ⟨2, 3⟩, ⟨0, 2⟩])).1).Lo))))), (.c 15 1, some (.x (.v (.int .i64 (((free exampleShip ((level 150 150)) ([⟨3, 3⟩, ⟨2, 3⟩, ⟨0, 2⟩])).1).Hi)))))]) ?_ ⟨rfl, rfl, rfl, rfl, rfl, rfl, rfl, rfl, rfl, rfl, rfl, rfl, rfl, rfl, rfl, rfl, rfl, rfl, rfl, rfl, rfl, rfl, rfl, trivial⟩ rfl
  refine fin_then ?_
  refine aw_seq ?_
  refine aw_text (rows := [_, _, _, _, _, _, _, _, _, _, _, _, _, _, _, _, _, _, _, _, _, _, _, _, _, _, _, _, _, _, _, _, _, _, _, _, _, _, _, _, _, _, _, _, _, _, _, _, _, _, _, _, _, _, _]) rfl (by kernel_rfl) ⟨
    ok_plain rfl rfl (op_move (ltN rfl) rfl),
    ok_plain rfl rfl (op_bin (r := .bool true) (ltN rfl) rfl rfl (by kernel_rfl)),
    ok_plain rfl rfl (op_move (ltN rfl) rfl),
    ok_yes rfl rfl rfl rfl rfl rfl (op_move (ltN rfl) rfl),
    ok_yes rfl rfl rfl rfl rfl rfl (op_bin (r := .bool true) (ltN rfl) rfl rfl (by kernel_rfl)),
    ok_plain rfl rfl (op_pickT (ltN rfl) rfl rfl),
    ok_plain rfl rfl (op_move (ltN rfl) rfl),
    ok_yes rfl rfl rfl rfl rfl rfl (op_move (ltN rfl) rfl),
    ok_yes rfl rfl rfl rfl rfl rfl (op_bin (r := .bool true) (ltN rfl) rfl rfl (by kernel_rfl)),
    ok_plain rfl rfl (op_pickT (ltN rfl) rfl rfl),
    ok_plain rfl rfl (op_move (ltN rfl) rfl),
    ok_yes rfl rfl rfl rfl rfl rfl (op_move (ltN rfl) rfl),
    ok_yes rfl rfl rfl rfl rfl rfl (op_bin (r := .bool true) (ltN rfl) rfl rfl (by kernel_rfl)),
    ok_plain rfl rfl (op_pickT (ltN rfl) rfl rfl),
    ok_plain rfl rfl (op_move (ltN rfl) rfl),
    ok_yes rfl rfl rfl rfl rfl rfl (op_move (ltN rfl) rfl),
    ok_yes rfl rfl rfl rfl rfl rfl (op_bin (r := .bool true) (ltN rfl) rfl rfl (by kernel_rfl)),
    ok_plain rfl rfl (op_pickT (ltN rfl) rfl rfl),
    ok_plain rfl rfl (op_move (ltN rfl) rfl),
    ok_yes rfl rfl rfl rfl rfl rfl (op_move (ltN rfl) rfl),
    ok_yes rfl rfl rfl rfl rfl rfl (op_bin (r := .bool true) (ltN rfl) rfl rfl (by kernel_rfl)),
    ok_plain rfl rfl (op_pickT (ltN rfl) rfl rfl),
    ok_plain rfl rfl (op_move (ltN rfl) rfl),
    ok_yes rfl rfl rfl rfl rfl rfl (op_loadN (ys := [.v (.int .i64 ((at_ ([⟨0, 0⟩, ⟨3, 10⟩]) 1).1.1)), .v (.int .i64 ((at_ ([⟨0, 0⟩, ⟨3, 10⟩]) 1).1.2))]) (ltN rfl) sh_86 rfl rfl ⟨rfl, rfl, trivial⟩),
    ok_yes rfl rfl rfl rfl rfl rfl (op_build (x := .g [.v (.int .i64 10), .v (.int .i64 3)]) (ltN rfl) (EvL.cons rfl (EvL.cons rfl EvL.nil)) (fun m w => by kernel_rfl)),
    ok_yes rfl rfl rfl rfl rfl rfl (op_eqv (r := true) (ltN rfl) rfl rfl (fun m w => by kernel_rfl)),
    ok_plain rfl rfl (op_pickT (ltN rfl) rfl rfl),
    ok_plain rfl rfl (op_move (ltN rfl) rfl),
    ok_yes rfl rfl rfl rfl rfl rfl (op_move (ltN rfl) rfl),
    ok_yes rfl rfl rfl rfl rfl rfl (op_bin (r := .bool true) (ltN rfl) rfl rfl (by kernel_rfl)),
    ok_plain rfl rfl (op_pickT (ltN rfl) rfl rfl),
    ok_plain rfl rfl (op_move (ltN rfl) rfl),
    ok_yes rfl rfl rfl rfl rfl rfl (op_move (ltN rfl) rfl),
    ok_yes rfl rfl rfl rfl rfl rfl (op_bin (r := .bool true) (ltN rfl) rfl rfl (by kernel_rfl)),
    ok_plain rfl rfl (op_pickT (ltN rfl) rfl rfl),
    ok_plain rfl rfl (op_move (ltN rfl) rfl),
    ok_yes rfl rfl rfl rfl rfl rfl (op_move (ltN rfl) rfl),
    ok_yes rfl rfl rfl rfl rfl rfl (op_bin (r := .bool true) (ltN rfl) rfl rfl (by kernel_rfl)),
    ok_plain rfl rfl (op_pickT (ltN rfl) rfl rfl),
    ok_plain rfl rfl (op_move (ltN rfl) rfl),
    ok_yes rfl rfl rfl rfl rfl rfl (op_move (ltN rfl) rfl),
    ok_yes rfl rfl rfl rfl rfl rfl (op_buildSlice (L := 16) (ety := 3) (cs := [.v (.int .i64 130)]) (ltN rfl) (EvL.cons rfl EvL.nil) rfl (fun m w => by kernel_rfl)),
    ok_yes rfl rfl rfl rfl rfl rfl (op_call (x := .v (.bool true)) (fs := []) (caps := []) (extra := [.r 11] ++ ((.b 16 :: cellKeys 16 0 (([130] : List Int).length * 1)) ++ [])) (ltN rfl) en_82 rfl ⟨rfl, rfl, rfl⟩ (EvL.cons rfl (EvL.cons rfl EvL.nil)) (fun mm aa ww gg hr hrel => by have h :=  (c82 ((leg exampleShip ([⟨(level 40 60), false, 100⟩])).1) ⟨if mm 12 = 0 then none else some ⟨mm 11, 0, none⟩, ((leg exampleShip ([⟨(level 40 60), false, 100⟩])).1.length), mm 12⟩ ([130]) ⟨some ⟨mm 16, 0, none⟩, 1, 1⟩ ww (slAt_row (enc := encInt) (l := (leg exampleShip ([⟨(level 40 60), false, 100⟩])).1) (fun _ => rfl) (by decide) hrel ((hr _ (List.mem_append_left _ (by simp))).trans rfl)) (slAt_own (enc := encInt) (l := [130]) (fun _ => rfl) hrel (fun k hk => hr k (List.mem_append_right _ (List.mem_append_left _ hk))) rfl ⟨rfl, trivial⟩ (Nat.le_of_ble_eq_true rfl)) (Nat.le_of_ble_eq_true (by kernel_rfl))); rw [show (decide ((leg exampleShip ([⟨(level 40 60), false, 100⟩])).1 = [130])) = true by kernel_rfl] at h; exact h)),
    ok_plain rfl rfl (op_pickT (ltN rfl) rfl rfl),
    ok_plain rfl rfl (op_move (ltN rfl) rfl),
    ok_yes rfl rfl rfl rfl rfl rfl (op_fieldAddr (ltN rfl) rfl fo_32_1),
    ok_yes rfl rfl rfl rfl rfl rfl (op_load1 (ltN rfl) sh_3 rfl rfl),
    ok_yes rfl rfl rfl rfl rfl rfl (op_bin (r := .bool true) (ltN rfl) rfl rfl (by kernel_rfl)),
    ok_plain rfl rfl (op_pickT (ltN rfl) rfl rfl),
    ok_plain rfl rfl (op_move (ltN rfl) rfl),
    ok_yes rfl rfl rfl rfl rfl rfl (op_loadN (ys := [.v (.int .i64 (((free exampleShip ((level 150 150)) ([⟨3, 3⟩, ⟨2, 3⟩, ⟨0, 2⟩])).1).Lo)), .v (.int .i64 (((free exampleShip ((level 150 150)) ([⟨3, 3⟩, ⟨2, 3⟩, ⟨0, 2⟩])).1).Hi))]) (ltN rfl) sh_32 rfl rfl ⟨rfl, rfl, trivial⟩),
    ok_yes rfl rfl rfl rfl rfl rfl (op_build (x := .g [.v (.int .i64 1), .v (.int .i64 2)]) (ltN rfl) (EvL.cons rfl (EvL.cons rfl EvL.nil)) (fun m w => by kernel_rfl)),
    ok_yes rfl rfl rfl rfl rfl rfl (op_eqv (r := true) (ltN rfl) rfl rfl (fun m w => by kernel_rfl)),
    ok_plain rfl rfl (op_pickT (ltN rfl) rfl rfl),
    ok_plain rfl rfl (op_assign (ltN rfl) rfl),
    trivial⟩ ?_
  refine fin_keep (s' := [(.t 0, some (.x (.v (.bool true))))]) ?_ ⟨rfl, trivial⟩ rfl
  refine fin_then ?_
  refine aw_ret ?_
  refine post_ret (x := .v (.bool true)) rfl rfl (resOK_tmp rfl resOK_nil) rfl (fun mm aa ww hr => ?_)
  show Ending.returned (.bool true) = _ ∧ _
  first
    | exact ⟨rfl, hr.below⟩

end Go.Proofs.T
