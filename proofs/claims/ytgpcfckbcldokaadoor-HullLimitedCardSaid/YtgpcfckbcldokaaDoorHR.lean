import Derived.Test.YtgpcfckbcldokaaDoorHQ
namespace Go.Proofs.T
open Go Go.AX Go.RowKit Hull
theorem en_15 : Proofs.Enters Tryd.prog 15 := Proofs.enters_of Tryd.func15 (by kernel_rfl) rfl
theorem us_77 : (Tryd.prog.underlying 77).isSome = true := by kernel_rfl
theorem en_40 : Proofs.Enters Tryd.prog 40 := Proofs.enters_of Tryd.func40 (by kernel_rfl) rfl
theorem en_41 : Proofs.Enters Tryd.prog 41 := Proofs.enters_of Tryd.func41 (by kernel_rfl) rfl
theorem un_4 : Tryd.prog.underlying 4 = some .bool := by kernel_rfl
theorem en_21 : Proofs.Enters Tryd.prog 21 := Proofs.enters_of Tryd.func21 (by kernel_rfl) rfl

def m6 (F : Nat) (a0 : List Int) (a1 : Int) (a2 : Int) (a3 : Int) (a4 : Bool) : Option (Bool) :=
  bnd (m15 F a0) (fun v1 => chk (InR (a2)) (chk (InR (a3)) (chk (0 ≤ (if a3 < a2 then a3 else a2) ∧ (if a3 < a2 then a3 else a2) ≤ 9223372036854775807) (chk (0 ≤ (if a3 > a2 then a3 else a2) ∧ (if a3 > a2 then a3 else a2) ≤ 9223372036854775807) (join (fun (x1 : Int × Int) => chk (InR (a1)) (chk (0 ≤ a1 ∧ a1 ≤ 9223372036854775807) (brk ((((((makesE v1 ((⟨100, a1 % 401, 0, 0⟩ : Ice)) x1.1 a4).2) != 0) || ((((limitE v1 x1.1 a4).2) != 0) && (((limitE v1 x1.1 a4).2) != 4))) || ((((limitE v1 x1.2 a4).2) == 0) && ((((limitE v1 x1.1 a4).2) != 0) || (decide (((limitE v1 x1.1 a4).1) < ((limitE v1 x1.2 a4).1)))))) || ((((limitE v1 x1.1 false).2) == 0) && ((((limitE v1 x1.1 a4).2) != 0) || (decide (((limitE v1 x1.1 a4).1) < ((limitE v1 x1.1 false).1)))))) (some false) (some ((((makesE v1 ((⟨100, a1 % 401, 0, 0⟩ : Ice)) x1.1 a4).1) == ((((limitE v1 x1.1 a4).2) == 0) && (decide ((a1 % 401) ≤ ((limitE v1 x1.1 a4).1))))) && true))))) (fun k1 => brk (decide (((if a3 < a2 then a3 else a2) % 251) > ((if a3 > a2 then a3 else a2) % 251))) (k1 ((if a3 > a2 then a3 else a2) % 251, (if a3 < a2 then a3 else a2) % 251)) (k1 ((if a3 < a2 then a3 else a2) % 251, (if a3 > a2 then a3 else a2) % 251))))))))

set_option maxHeartbeats 4000000 in
theorem c6 (F : Nat) (a0 : List Int) (a0_s : SlV) (a1 : Int) (a2 : Int) (a3 : Int) (a4 : Bool) (w : World) (ha0 : SlIs encU8 1 w a0_s a0) (h8a0 : ∀ x ∈ a0, 0 ≤ x ∧ x ≤ 255) (hlena0 : a0.length ≤ 9223372036854775807) (hG : BoxAt w 0 (strengths.map (fun n => Value.int .i64 n))) (r : Bool) (hm : m6 F a0 a1 a2 a3 a4 = some r) : Calls Tryd.prog 6 #[.slice a0_s.p a0_s.n a0_s.c, .int .u16 a1, .int .u8 a2, .int .u8 a3, .bool a4] w fun e w' => e = .returned (.bool r) ∧ Below w.heap.size w w' := by
  obtain ⟨a0_p, a0_n, a0_c⟩ := a0_s
  have ha0_l : a0_n = a0.length := ha0.1
  subst ha0_l
  obtain ⟨a0_b, a0_o, ha0_p, ha0_L⟩ := SlAt.lies' ha0
  unfold m6 at hm
  refine enter (args := [.v (.slice a0_p a0.length a0_c), .v (.int .u16 a1), .v (.int .u8 a2), .v (.int .u8 a3), .v (.bool a4)]) Tryd.func6 rfl (N := 122) rfl (Nat.le_of_ble_eq_true rfl) ?_
  refine aw_seq ?_
  refine aw_text (rows := [_]) rfl (by kernel_rfl) ⟨
    ok_plain rfl rfl (op_assign (ltN rfl) rfl),
    trivial⟩ ?_
  refine fin_keep (s' := [(.t 0, some (.x (.v (.slice a0_p a0.length a0_c)))), (.t 1, some (.x (.v (.int .u16 a1)))), (.t 2, some (.x (.v (.int .u8 a2)))), (.t 3, some (.x (.v (.int .u8 a3)))), (.t 4, some (.x (.v (.bool a4))))]) ?_ ⟨rfl, rfl, rfl, rfl, rfl, trivial⟩ rfl
  refine fin_then ?_
  refine aw_seq ?_
  obtain ⟨v1, hv1, hm⟩ := bnd_some hm
  refine aw_text (rows := [_, _, _, _]) rfl (by kernel_rfl) ⟨
    ok_plain rfl rfl (op_move (ltN rfl) rfl),
    ok_plain rfl rfl (op_callRows (x := .g [.v (.int .i64 v1.Class), .v (.int .i64 v1.Power), .v (.int .i64 v1.Draught), .v (.int .i64 v1.Tonnes), .o 1 2 v1.Thrust.length, .o 3 4 v1.Water.length, .o 5 6 v1.Ice.length, .v (.int .i64 v1.Slow), .v (.int .i64 v1.Brash), .v (.int .i64 v1.Ridge), .v (.int .i64 v1.Press)]) (R := (fun vs => .agg #[.int .i64 v1.Class, .int .i64 v1.Power, .int .i64 v1.Draught, .int .i64 v1.Tonnes, (vs.getD 0 (.bool false)), (vs.getD 1 (.bool false)), (vs.getD 2 (.bool false)), .int .i64 v1.Slow, .int .i64 v1.Brash, .int .i64 v1.Ridge, .int .i64 v1.Press])) (ls := [(1, 2), (3, 4), (5, 6)]) (ds := [(v1.Thrust.length, 84, 2, v1.Thrust.flatMap encPt), (v1.Water.length, 84, 2, v1.Water.flatMap encPt), (v1.Ice.length, 84, 2, v1.Ice.flatMap encPt)]) (fs := []) (caps := []) (extra := []) (ltN rfl) en_15 rfl ⟨rfl, rfl, rfl⟩ (EvL.cons rfl EvL.nil) rfl rfl (fun _ => rfl) (fun mm aa ww gg hr hrel => (c15 F a0 ⟨a0_p, a0.length, a0_c⟩ ww (SlIs.mono ha0 hrel.below) h8a0 hlena0 v1 hv1))),
    ok_plain rfl rfl (op_alloc (L := 7) (ltN rfl) zl_25),
    ok_plain rfl rfl (op_storeN sz_25 rfl rfl rfl rfl rfl (by decide)),
    trivial⟩ ?_
  refine fin_keep (s' := [(.t 1, some (.x (.v (.int .u16 a1)))), (.t 2, some (.x (.v (.int .u8 a2)))), (.t 3, some (.x (.v (.int .u8 a3)))), (.t 4, some (.x (.v (.bool a4)))), (.t 11, some (.x (.p 7 0))), (.b 7, some (.sh 25 11)), (.r 1, some (.vec false 2 84 2 (v1.Thrust.flatMap encPt))), (.r 3, some (.vec false 4 84 2 (v1.Water.flatMap encPt))), (.r 5, some (.vec false 6 84 2 (v1.Ice.flatMap encPt))), (.c 7 0, some (.x (.v (.int .i64 v1.Class)))), (.c 7 1, some (.x (.v (.int .i64 v1.Power)))), (.c 7 2, some (.x (.v (.int .i64 v1.Draught)))), (.c 7 3, some (.x (.v (.int .i64 v1.Tonnes)))), (.c 7 4, some (.x (.o 1 2 v1.Thrust.length))), (.c 7 5, some (.x (.o 3 4 v1.Water.length))), (.c 7 6, some (.x (.o 5 6 v1.Ice.length))), (.c 7 7, some (.x (.v (.int .i64 v1.Slow)))), (.c 7 8, some (.x (.v (.int .i64 v1.Brash)))), (.c 7 9, some (.x (.v (.int .i64 v1.Ridge)))), (.c 7 10, some (.x (.v (.int .i64 v1.Press))))]) ?_ ⟨rfl, rfl, rfl, rfl, rfl, rfl, rfl, rfl, rfl, rfl, rfl, rfl, rfl, rfl, rfl, rfl, rfl, rfl, rfl, rfl, trivial⟩ rfl
  refine fin_then ?_
  refine aw_seq ?_
  obtain ⟨hp1, hm⟩ := chk_some hm
  obtain ⟨hp2, hm⟩ := chk_some hm
  obtain ⟨hp3, hm⟩ := chk_some hm
  obtain ⟨hp4, hm⟩ := chk_some hm
  refine aw_text (rows := [_, _, _, _, _, _, _, _, _, _, _, _, _, _]) rfl (by kernel_rfl) ⟨
    ok_plain rfl rfl (op_move (ltN rfl) rfl),
    ok_plain rfl rfl (op_convInt (ltN rfl) (Option.isSome_iff_exists.1 us_5) un_3 rfl (wrap_of hp1)),
    ok_plain rfl rfl (op_move (ltN rfl) rfl),
    ok_plain rfl rfl (op_convInt (ltN rfl) (Option.isSome_iff_exists.1 us_5) un_3 rfl (wrap_of hp2)),
    ok_plain rfl rfl (op_min (ltN rfl) rfl rfl),
    ok_plain rfl rfl (op_rem (ltN rfl) rfl rfl (by decide) (rem_nn hp3.1 (by decide) hp3.2)),
    ok_plain rfl rfl (op_move (ltN rfl) rfl),
    ok_plain rfl rfl (op_convInt (ltN rfl) (Option.isSome_iff_exists.1 us_5) un_3 rfl (wrap_of hp1)),
    ok_plain rfl rfl (op_move (ltN rfl) rfl),
    ok_plain rfl rfl (op_convInt (ltN rfl) (Option.isSome_iff_exists.1 us_5) un_3 rfl (wrap_of hp2)),
    ok_plain rfl rfl (op_max (ltN rfl) rfl rfl),
    ok_plain rfl rfl (op_rem (ltN rfl) rfl rfl (by decide) (rem_nn hp4.1 (by decide) hp4.2)),
    ok_plain rfl rfl (op_assign (ltN rfl) rfl),
    ok_plain rfl rfl (op_assign (ltN rfl) rfl),
    trivial⟩ ?_
  refine fin_keep (s' := [(.t 1, some (.x (.v (.int .u16 a1)))), (.t 4, some (.x (.v (.bool a4)))), (.t 11, some (.x (.p 7 0))), (.t 12, some (.x (.v (.int .i64 ((if a3 < a2 then a3 else a2) % 251))))), (.t 13, some (.x (.v (.int .i64 ((if a3 > a2 then a3 else a2) % 251))))), (.b 7, some (.sh 25 11)), (.r 1, some (.vec false 2 84 2 (v1.Thrust.flatMap encPt))), (.r 3, some (.vec false 4 84 2 (v1.Water.flatMap encPt))), (.r 5, some (.vec false 6 84 2 (v1.Ice.flatMap encPt))), (.c 7 0, some (.x (.v (.int .i64 v1.Class)))), (.c 7 1, some (.x (.v (.int .i64 v1.Power)))), (.c 7 2, some (.x (.v (.int .i64 v1.Draught)))), (.c 7 3, some (.x (.v (.int .i64 v1.Tonnes)))), (.c 7 4, some (.x (.o 1 2 v1.Thrust.length))), (.c 7 5, some (.x (.o 3 4 v1.Water.length))), (.c 7 6, some (.x (.o 5 6 v1.Ice.length))), (.c 7 7, some (.x (.v (.int .i64 v1.Slow)))), (.c 7 8, some (.x (.v (.int .i64 v1.Brash)))), (.c 7 9, some (.x (.v (.int .i64 v1.Ridge)))), (.c 7 10, some (.x (.v (.int .i64 v1.Press))))]) ?_ ⟨rfl, rfl, rfl, rfl, rfl, rfl, rfl, rfl, rfl, rfl, rfl, rfl, rfl, rfl, rfl, rfl, rfl, rfl, rfl, rfl, trivial⟩ rfl
  refine fin_then ?_
  refine aw_cutM (ι := Int × Int) hm (fun x1 => [(.t 1, some (.x (.v (.int .u16 a1)))), (.t 4, some (.x (.v (.bool a4)))), (.t 11, some (.x (.p 7 0))), (.t 12, some (.x (.v (.int .i64 x1.1)))), (.t 13, some (.x (.v (.int .i64 x1.2)))), (.b 7, some (.sh 25 11)), (.r 1, some (.vec false 2 84 2 (v1.Thrust.flatMap encPt))), (.r 3, some (.vec false 4 84 2 (v1.Water.flatMap encPt))), (.r 5, some (.vec false 6 84 2 (v1.Ice.flatMap encPt))), (.c 7 0, some (.x (.v (.int .i64 v1.Class)))), (.c 7 1, some (.x (.v (.int .i64 v1.Power)))), (.c 7 2, some (.x (.v (.int .i64 v1.Draught)))), (.c 7 3, some (.x (.v (.int .i64 v1.Tonnes)))), (.c 7 4, some (.x (.o 1 2 v1.Thrust.length))), (.c 7 5, some (.x (.o 3 4 v1.Water.length))), (.c 7 6, some (.x (.o 5 6 v1.Ice.length))), (.c 7 7, some (.x (.v (.int .i64 v1.Slow)))), (.c 7 8, some (.x (.v (.int .i64 v1.Brash)))), (.c 7 9, some (.x (.v (.int .i64 v1.Ridge)))), (.c 7 10, some (.x (.v (.int .i64 v1.Press))))]) (fun hm => ?_) (fun x1 hm => ?_)
  · have _z := hm
    refine aw_seq ?_
    refine aw_text (rows := [_, _, _]) rfl (by kernel_rfl) ⟨
      ok_plain rfl rfl (op_move (ltN rfl) rfl),
      ok_plain rfl rfl (op_move (ltN rfl) rfl),
      ok_plain rfl rfl (op_bin (ltN rfl) rfl rfl rfl),
      trivial⟩ ?_
    refine fin_keep (s' := [(.t 1, some (.x (.v (.int .u16 a1)))), (.t 4, some (.x (.v (.bool a4)))), (.t 11, some (.x (.p 7 0))), (.t 12, some (.x (.v (.int .i64 ((if a3 < a2 then a3 else a2) % 251))))), (.t 13, some (.x (.v (.int .i64 ((if a3 > a2 then a3 else a2) % 251))))), (.t 39, some (.x (.v (.bool (decide (((if a3 < a2 then a3 else a2) % 251) > ((if a3 > a2 then a3 else a2) % 251))))))), (.b 7, some (.sh 25 11)), (.r 1, some (.vec false 2 84 2 (v1.Thrust.flatMap encPt))), (.r 3, some (.vec false 4 84 2 (v1.Water.flatMap encPt))), (.r 5, some (.vec false 6 84 2 (v1.Ice.flatMap encPt))), (.c 7 0, some (.x (.v (.int .i64 v1.Class)))), (.c 7 1, some (.x (.v (.int .i64 v1.Power)))), (.c 7 2, some (.x (.v (.int .i64 v1.Draught)))), (.c 7 3, some (.x (.v (.int .i64 v1.Tonnes)))), (.c 7 4, some (.x (.o 1 2 v1.Thrust.length))), (.c 7 5, some (.x (.o 3 4 v1.Water.length))), (.c 7 6, some (.x (.o 5 6 v1.Ice.length))), (.c 7 7, some (.x (.v (.int .i64 v1.Slow)))), (.c 7 8, some (.x (.v (.int .i64 v1.Brash)))), (.c 7 9, some (.x (.v (.int .i64 v1.Ridge)))), (.c 7 10, some (.x (.v (.int .i64 v1.Press))))]) ?_ ⟨rfl, rfl, rfl, rfl, rfl, rfl, rfl, rfl, rfl, rfl, rfl, rfl, rfl, rfl, rfl, rfl, rfl, rfl, rfl, rfl, rfl, trivial⟩ rfl
    refine fin_then ?_
    refine aw_cond rfl (fun hz5 => ?_) (fun hz5 => ?_)
    · have hm := brk_t hz5 hm
      refine aw_text (rows := [_, _, _, _]) rfl (by kernel_rfl) ⟨
        ok_plain rfl rfl (op_move (ltN rfl) rfl),
        ok_plain rfl rfl (op_move (ltN rfl) rfl),
        ok_plain rfl rfl (op_assign (ltN rfl) rfl),
        ok_plain rfl rfl (op_assign (ltN rfl) rfl),
        trivial⟩ ?_
      refine fin_keep (s' := [(.t 1, some (.x (.v (.int .u16 a1)))), (.t 4, some (.x (.v (.bool a4)))), (.t 11, some (.x (.p 7 0))), (.t 12, some (.x (.v (.int .i64 ((if a3 > a2 then a3 else a2) % 251))))), (.t 13, some (.x (.v (.int .i64 ((if a3 < a2 then a3 else a2) % 251))))), (.b 7, some (.sh 25 11)), (.r 1, some (.vec false 2 84 2 (v1.Thrust.flatMap encPt))), (.r 3, some (.vec false 4 84 2 (v1.Water.flatMap encPt))), (.r 5, some (.vec false 6 84 2 (v1.Ice.flatMap encPt))), (.c 7 0, some (.x (.v (.int .i64 v1.Class)))), (.c 7 1, some (.x (.v (.int .i64 v1.Power)))), (.c 7 2, some (.x (.v (.int .i64 v1.Draught)))), (.c 7 3, some (.x (.v (.int .i64 v1.Tonnes)))), (.c 7 4, some (.x (.o 1 2 v1.Thrust.length))), (.c 7 5, some (.x (.o 3 4 v1.Water.length))), (.c 7 6, some (.x (.o 5 6 v1.Ice.length))), (.c 7 7, some (.x (.v (.int .i64 v1.Slow)))), (.c 7 8, some (.x (.v (.int .i64 v1.Brash)))), (.c 7 9, some (.x (.v (.int .i64 v1.Ridge)))), (.c 7 10, some (.x (.v (.int .i64 v1.Press))))]) ?_ ⟨rfl, rfl, rfl, rfl, rfl, rfl, rfl, rfl, rfl, rfl, rfl, rfl, rfl, rfl, rfl, rfl, rfl, rfl, rfl, rfl, trivial⟩ rfl
      exact fin_cut ((if a3 > a2 then a3 else a2) % 251, (if a3 < a2 then a3 else a2) % 251) hm ⟨rfl, rfl, rfl, rfl, rfl, rfl, rfl, rfl, rfl, rfl, rfl, rfl, rfl, rfl, rfl, rfl, rfl, rfl, rfl, rfl, trivial⟩ rfl
    · have hm := brk_f hz5 hm
      refine aw_skip ?_
      exact fin_cut ((if a3 < a2 then a3 else a2) % 251, (if a3 > a2 then a3 else a2) % 251) hm ⟨rfl, rfl, rfl, rfl, rfl, rfl, rfl, rfl, rfl, rfl, rfl, rfl, rfl, rfl, rfl, rfl, rfl, rfl, rfl, rfl, trivial⟩ rfl
  · have _z := hm
    refine aw_seq ?_
    obtain ⟨hp6, hm⟩ := chk_some hm
    obtain ⟨hp7, hm⟩ := chk_some hm
    refine aw_text (rows := [_, _, _, _]) rfl (by kernel_rfl) ⟨
      ok_plain rfl rfl (op_move (ltN rfl) rfl),
      ok_plain rfl rfl (op_convInt (ltN rfl) (Option.isSome_iff_exists.1 us_77) un_3 rfl (wrap_of hp6)),
      ok_plain rfl rfl (op_rem (ltN rfl) rfl rfl (by decide) (rem_nn hp7.1 (by decide) hp7.2)),
      ok_plain rfl rfl (op_assign (ltN rfl) rfl),
      trivial⟩ ?_
    refine fin_keep (s' := [(.t 4, some (.x (.v (.bool a4)))), (.t 11, some (.x (.p 7 0))), (.t 12, some (.x (.v (.int .i64 x1.1)))), (.t 13, some (.x (.v (.int .i64 x1.2)))), (.t 14, some (.x (.v (.int .i64 (a1 % 401))))), (.b 7, some (.sh 25 11)), (.r 1, some (.vec false 2 84 2 (v1.Thrust.flatMap encPt))), (.r 3, some (.vec false 4 84 2 (v1.Water.flatMap encPt))), (.r 5, some (.vec false 6 84 2 (v1.Ice.flatMap encPt))), (.c 7 0, some (.x (.v (.int .i64 v1.Class)))), (.c 7 1, some (.x (.v (.int .i64 v1.Power)))), (.c 7 2, some (.x (.v (.int .i64 v1.Draught)))), (.c 7 3, some (.x (.v (.int .i64 v1.Tonnes)))), (.c 7 4, some (.x (.o 1 2 v1.Thrust.length))), (.c 7 5, some (.x (.o 3 4 v1.Water.length))), (.c 7 6, some (.x (.o 5 6 v1.Ice.length))), (.c 7 7, some (.x (.v (.int .i64 v1.Slow)))), (.c 7 8, some (.x (.v (.int .i64 v1.Brash)))), (.c 7 9, some (.x (.v (.int .i64 v1.Ridge)))), (.c 7 10, some (.x (.v (.int .i64 v1.Press))))]) ?_ ⟨rfl, rfl, rfl, rfl, rfl, rfl, rfl, rfl, rfl, rfl, rfl, rfl, rfl, rfl, rfl, rfl, rfl, rfl, rfl, rfl, trivial⟩ rfl
    refine fin_then ?_
    refine aw_seq ?_
    refine aw_text (rows := [_, _, _, _, _, _, _, _, _]) rfl (by kernel_rfl) ⟨
      ok_plain rfl rfl (op_loadN (ys := [.v (.int .i64 v1.Class), .v (.int .i64 v1.Power), .v (.int .i64 v1.Draught), .v (.int .i64 v1.Tonnes), .o 1 2 v1.Thrust.length, .o 3 4 v1.Water.length, .o 5 6 v1.Ice.length, .v (.int .i64 v1.Slow), .v (.int .i64 v1.Brash), .v (.int .i64 v1.Ridge), .v (.int .i64 v1.Press)]) (ltN rfl) sh_25 rfl rfl ⟨rfl, rfl, rfl, rfl, rfl, rfl, rfl, rfl, rfl, rfl, rfl, trivial⟩),
      ok_plain rfl rfl (op_move (ltN rfl) rfl),
      ok_plain rfl rfl (op_move (ltN rfl) rfl),
      ok_plain rfl rfl (op_call (x := .t [.v (.int .i64 ((limitE v1 x1.1 a4).1)), .v (.int .i64 ((limitE v1 x1.1 a4).2))]) (fs := []) (caps := []) (extra := [.r 1] ++ ([.r 3] ++ ([.r 5] ++ []))) (ltN rfl) en_40 rfl ⟨rfl, rfl, rfl⟩ (EvL.cons rfl (EvL.cons rfl (EvL.cons rfl EvL.nil))) (fun mm aa ww gg hr hrel => (c40 v1 ⟨if mm 2 = 0 then none else some ⟨mm 1, 0, none⟩, v1.Thrust.length, mm 2⟩ ⟨if mm 4 = 0 then none else some ⟨mm 3, 0, none⟩, v1.Water.length, mm 4⟩ ⟨if mm 6 = 0 then none else some ⟨mm 5, 0, none⟩, v1.Ice.length, mm 6⟩ x1.1 a4 ww (slAt_row (enc := encPt) (l := v1.Thrust) (fun _ => rfl) (by decide) hrel ((hr _ (List.mem_append_left _ (by simp))).trans rfl)) (slAt_row (enc := encPt) (l := v1.Water) (fun _ => rfl) (by decide) hrel ((hr _ (List.mem_append_right _ (List.mem_append_left _ (by simp)))).trans rfl)) (slAt_row (enc := encPt) (l := v1.Ice) (fun _ => rfl) (by decide) hrel ((hr _ (List.mem_append_right _ (List.mem_append_right _ (List.mem_append_left _ (by simp))))).trans rfl))))),
      ok_plain rfl rfl (op_move (ltN rfl) rfl),
      ok_plain rfl rfl (op_extract (ltN rfl) rfl rfl),
      ok_plain rfl rfl (op_extract (ltN rfl) rfl rfl),
      ok_plain rfl rfl (op_assign (ltN rfl) rfl),
      ok_plain rfl rfl (op_assign (ltN rfl) rfl),
      trivial⟩ ?_
    refine fin_keep (s' := [(.t 4, some (.x (.v (.bool a4)))), (.t 11, some (.x (.p 7 0))), (.t 12, some (.x (.v (.int .i64 x1.1)))), (.t 13, some (.x (.v (.int .i64 x1.2)))), (.t 14, some (.x (.v (.int .i64 (a1 % 401))))), (.t 15, some (.x (.v (.int .i64 ((limitE v1 x1.1 a4).1))))), (.t 16, some (.x (.v (.int .i64 ((limitE v1 x1.1 a4).2))))), (.b 7, some (.sh 25 11)), (.r 1, some (.vec false 2 84 2 (v1.Thrust.flatMap encPt))), (.r 3, some (.vec false 4 84 2 (v1.Water.flatMap encPt))), (.r 5, some (.vec false 6 84 2 (v1.Ice.flatMap encPt))), (.c 7 0, some (.x (.v (.int .i64 v1.Class)))), (.c 7 1, some (.x (.v (.int .i64 v1.Power)))), (.c 7 2, some (.x (.v (.int .i64 v1.Draught)))), (.c 7 3, some (.x (.v (.int .i64 v1.Tonnes)))), (.c 7 4, some (.x (.o 1 2 v1.Thrust.length))), (.c 7 5, some (.x (.o 3 4 v1.Water.length))), (.c 7 6, some (.x (.o 5 6 v1.Ice.length))), (.c 7 7, some (.x (.v (.int .i64 v1.Slow)))), (.c 7 8, some (.x (.v (.int .i64 v1.Brash)))), (.c 7 9, some (.x (.v (.int .i64 v1.Ridge)))), (.c 7 10, some (.x (.v (.int .i64 v1.Press))))]) ?_ ⟨rfl, rfl, rfl, rfl, rfl, rfl, rfl, rfl, rfl, rfl, rfl, rfl, rfl, rfl, rfl, rfl, rfl, rfl, rfl, rfl, rfl, rfl, trivial⟩ rfl
    refine fin_then ?_
    refine aw_seq ?_
    refine aw_text (rows := [_, _, _, _, _, _, _, _, _]) rfl (by kernel_rfl) ⟨
      ok_plain rfl rfl (op_loadN (ys := [.v (.int .i64 v1.Class), .v (.int .i64 v1.Power), .v (.int .i64 v1.Draught), .v (.int .i64 v1.Tonnes), .o 1 2 v1.Thrust.length, .o 3 4 v1.Water.length, .o 5 6 v1.Ice.length, .v (.int .i64 v1.Slow), .v (.int .i64 v1.Brash), .v (.int .i64 v1.Ridge), .v (.int .i64 v1.Press)]) (ltN rfl) sh_25 rfl rfl ⟨rfl, rfl, rfl, rfl, rfl, rfl, rfl, rfl, rfl, rfl, rfl, trivial⟩),
      ok_plain rfl rfl (op_move (ltN rfl) rfl),
      ok_plain rfl rfl (op_move (ltN rfl) rfl),
      ok_plain rfl rfl (op_call (x := .t [.v (.int .i64 ((limitE v1 x1.2 a4).1)), .v (.int .i64 ((limitE v1 x1.2 a4).2))]) (fs := []) (caps := []) (extra := [.r 1] ++ ([.r 3] ++ ([.r 5] ++ []))) (ltN rfl) en_40 rfl ⟨rfl, rfl, rfl⟩ (EvL.cons rfl (EvL.cons rfl (EvL.cons rfl EvL.nil))) (fun mm aa ww gg hr hrel => (c40 v1 ⟨if mm 2 = 0 then none else some ⟨mm 1, 0, none⟩, v1.Thrust.length, mm 2⟩ ⟨if mm 4 = 0 then none else some ⟨mm 3, 0, none⟩, v1.Water.length, mm 4⟩ ⟨if mm 6 = 0 then none else some ⟨mm 5, 0, none⟩, v1.Ice.length, mm 6⟩ x1.2 a4 ww (slAt_row (enc := encPt) (l := v1.Thrust) (fun _ => rfl) (by decide) hrel ((hr _ (List.mem_append_left _ (by simp))).trans rfl)) (slAt_row (enc := encPt) (l := v1.Water) (fun _ => rfl) (by decide) hrel ((hr _ (List.mem_append_right _ (List.mem_append_left _ (by simp)))).trans rfl)) (slAt_row (enc := encPt) (l := v1.Ice) (fun _ => rfl) (by decide) hrel ((hr _ (List.mem_append_right _ (List.mem_append_right _ (List.mem_append_left _ (by simp))))).trans rfl))))),
      ok_plain rfl rfl (op_move (ltN rfl) rfl),
      ok_plain rfl rfl (op_extract (ltN rfl) rfl rfl),
      ok_plain rfl rfl (op_extract (ltN rfl) rfl rfl),
      ok_plain rfl rfl (op_assign (ltN rfl) rfl),
      ok_plain rfl rfl (op_assign (ltN rfl) rfl),
      trivial⟩ ?_
    refine fin_keep (s' := [(.t 4, some (.x (.v (.bool a4)))), (.t 11, some (.x (.p 7 0))), (.t 12, some (.x (.v (.int .i64 x1.1)))), (.t 14, some (.x (.v (.int .i64 (a1 % 401))))), (.t 15, some (.x (.v (.int .i64 ((limitE v1 x1.1 a4).1))))), (.t 16, some (.x (.v (.int .i64 ((limitE v1 x1.1 a4).2))))), (.t 17, some (.x (.v (.int .i64 ((limitE v1 x1.2 a4).1))))), (.t 18, some (.x (.v (.int .i64 ((limitE v1 x1.2 a4).2))))), (.b 7, some (.sh 25 11)), (.r 1, some (.vec false 2 84 2 (v1.Thrust.flatMap encPt))), (.r 3, some (.vec false 4 84 2 (v1.Water.flatMap encPt))), (.r 5, some (.vec false 6 84 2 (v1.Ice.flatMap encPt))), (.c 7 0, some (.x (.v (.int .i64 v1.Class)))), (.c 7 1, some (.x (.v (.int .i64 v1.Power)))), (.c 7 2, some (.x (.v (.int .i64 v1.Draught)))), (.c 7 3, some (.x (.v (.int .i64 v1.Tonnes)))), (.c 7 4, some (.x (.o 1 2 v1.Thrust.length))), (.c 7 5, some (.x (.o 3 4 v1.Water.length))), (.c 7 6, some (.x (.o 5 6 v1.Ice.length))), (.c 7 7, some (.x (.v (.int .i64 v1.Slow)))), (.c 7 8, some (.x (.v (.int .i64 v1.Brash)))), (.c 7 9, some (.x (.v (.int .i64 v1.Ridge)))), (.c 7 10, some (.x (.v (.int .i64 v1.Press))))]) ?_ ⟨rfl, rfl, rfl, rfl, rfl, rfl, rfl, rfl, rfl, rfl, rfl, rfl, rfl, rfl, rfl, rfl, rfl, rfl, rfl, rfl, rfl, rfl, rfl, trivial⟩ rfl
    refine fin_then ?_
    refine aw_seq ?_
    refine aw_text (rows := [_, _, _, _, _, _, _, _]) rfl (by kernel_rfl) ⟨
      ok_plain rfl rfl (op_loadN (ys := [.v (.int .i64 v1.Class), .v (.int .i64 v1.Power), .v (.int .i64 v1.Draught), .v (.int .i64 v1.Tonnes), .o 1 2 v1.Thrust.length, .o 3 4 v1.Water.length, .o 5 6 v1.Ice.length, .v (.int .i64 v1.Slow), .v (.int .i64 v1.Brash), .v (.int .i64 v1.Ridge), .v (.int .i64 v1.Press)]) (ltN rfl) sh_25 rfl rfl ⟨rfl, rfl, rfl, rfl, rfl, rfl, rfl, rfl, rfl, rfl, rfl, trivial⟩),
      ok_plain rfl rfl (op_move (ltN rfl) rfl),
      ok_plain rfl rfl (op_call (x := .t [.v (.int .i64 ((limitE v1 x1.1 false).1)), .v (.int .i64 ((limitE v1 x1.1 false).2))]) (fs := []) (caps := []) (extra := [.r 1] ++ ([.r 3] ++ ([.r 5] ++ []))) (ltN rfl) en_40 rfl ⟨rfl, rfl, rfl⟩ (EvL.cons rfl (EvL.cons rfl (EvL.cons rfl EvL.nil))) (fun mm aa ww gg hr hrel => (c40 v1 ⟨if mm 2 = 0 then none else some ⟨mm 1, 0, none⟩, v1.Thrust.length, mm 2⟩ ⟨if mm 4 = 0 then none else some ⟨mm 3, 0, none⟩, v1.Water.length, mm 4⟩ ⟨if mm 6 = 0 then none else some ⟨mm 5, 0, none⟩, v1.Ice.length, mm 6⟩ x1.1 false ww (slAt_row (enc := encPt) (l := v1.Thrust) (fun _ => rfl) (by decide) hrel ((hr _ (List.mem_append_left _ (by simp))).trans rfl)) (slAt_row (enc := encPt) (l := v1.Water) (fun _ => rfl) (by decide) hrel ((hr _ (List.mem_append_right _ (List.mem_append_left _ (by simp)))).trans rfl)) (slAt_row (enc := encPt) (l := v1.Ice) (fun _ => rfl) (by decide) hrel ((hr _ (List.mem_append_right _ (List.mem_append_right _ (List.mem_append_left _ (by simp))))).trans rfl))))),
      ok_plain rfl rfl (op_move (ltN rfl) rfl),
      ok_plain rfl rfl (op_extract (ltN rfl) rfl rfl),
      ok_plain rfl rfl (op_extract (ltN rfl) rfl rfl),
      ok_plain rfl rfl (op_assign (ltN rfl) rfl),
      ok_plain rfl rfl (op_assign (ltN rfl) rfl),
      trivial⟩ ?_
    refine fin_keep (s' := [(.t 4, some (.x (.v (.bool a4)))), (.t 11, some (.x (.p 7 0))), (.t 12, some (.x (.v (.int .i64 x1.1)))), (.t 14, some (.x (.v (.int .i64 (a1 % 401))))), (.t 15, some (.x (.v (.int .i64 ((limitE v1 x1.1 a4).1))))), (.t 16, some (.x (.v (.int .i64 ((limitE v1 x1.1 a4).2))))), (.t 17, some (.x (.v (.int .i64 ((limitE v1 x1.2 a4).1))))), (.t 18, some (.x (.v (.int .i64 ((limitE v1 x1.2 a4).2))))), (.t 19, some (.x (.v (.int .i64 ((limitE v1 x1.1 false).1))))), (.t 20, some (.x (.v (.int .i64 ((limitE v1 x1.1 false).2))))), (.b 7, some (.sh 25 11)), (.r 1, some (.vec false 2 84 2 (v1.Thrust.flatMap encPt))), (.r 3, some (.vec false 4 84 2 (v1.Water.flatMap encPt))), (.r 5, some (.vec false 6 84 2 (v1.Ice.flatMap encPt))), (.c 7 0, some (.x (.v (.int .i64 v1.Class)))), (.c 7 1, some (.x (.v (.int .i64 v1.Power)))), (.c 7 2, some (.x (.v (.int .i64 v1.Draught)))), (.c 7 3, some (.x (.v (.int .i64 v1.Tonnes)))), (.c 7 4, some (.x (.o 1 2 v1.Thrust.length))), (.c 7 5, some (.x (.o 3 4 v1.Water.length))), (.c 7 6, some (.x (.o 5 6 v1.Ice.length))), (.c 7 7, some (.x (.v (.int .i64 v1.Slow)))), (.c 7 8, some (.x (.v (.int .i64 v1.Brash)))), (.c 7 9, some (.x (.v (.int .i64 v1.Ridge)))), (.c 7 10, some (.x (.v (.int .i64 v1.Press))))]) ?_ ⟨rfl, rfl, rfl, rfl, rfl, rfl, rfl, rfl, rfl, rfl, rfl, rfl, rfl, rfl, rfl, rfl, rfl, rfl, rfl, rfl, rfl, rfl, rfl, rfl, rfl, trivial⟩ rfl
    refine fin_then ?_
    refine aw_seq ?_
    refine aw_text (rows := [_, _, _, _, _, _, _, _, _, _, _]) rfl (by kernel_rfl) ⟨
      ok_plain rfl rfl (op_loadN (ys := [.v (.int .i64 v1.Class), .v (.int .i64 v1.Power), .v (.int .i64 v1.Draught), .v (.int .i64 v1.Tonnes), .o 1 2 v1.Thrust.length, .o 3 4 v1.Water.length, .o 5 6 v1.Ice.length, .v (.int .i64 v1.Slow), .v (.int .i64 v1.Brash), .v (.int .i64 v1.Ridge), .v (.int .i64 v1.Press)]) (ltN rfl) sh_25 rfl rfl ⟨rfl, rfl, rfl, rfl, rfl, rfl, rfl, rfl, rfl, rfl, rfl, trivial⟩),
      ok_plain rfl rfl (op_move (ltN rfl) rfl),
      ok_plain rfl rfl (op_build (x := .g [.v (.int .i64 100), .v (.int .i64 (a1 % 401)), .v (.int .i64 0), .v (.int .i64 0)]) (ltN rfl) (EvL.cons rfl (EvL.cons rfl EvL.nil)) (fun m w => by kernel_rfl)),
      ok_plain rfl rfl (op_move (ltN rfl) rfl),
      ok_plain rfl rfl (op_move (ltN rfl) rfl),
      ok_plain rfl rfl (op_call (x := .t [.v (.bool ((makesE v1 ((⟨100, a1 % 401, 0, 0⟩ : Ice)) x1.1 a4).1)), .v (.int .i64 ((makesE v1 ((⟨100, a1 % 401, 0, 0⟩ : Ice)) x1.1 a4).2))]) (fs := []) (caps := []) (extra := [.r 1] ++ ([.r 3] ++ ([.r 5] ++ []))) (ltN rfl) en_41 rfl ⟨rfl, rfl, rfl⟩ (EvL.cons rfl (EvL.cons rfl (EvL.cons rfl (EvL.cons rfl EvL.nil)))) (fun mm aa ww gg hr hrel => (c41 v1 ⟨if mm 2 = 0 then none else some ⟨mm 1, 0, none⟩, v1.Thrust.length, mm 2⟩ ⟨if mm 4 = 0 then none else some ⟨mm 3, 0, none⟩, v1.Water.length, mm 4⟩ ⟨if mm 6 = 0 then none else some ⟨mm 5, 0, none⟩, v1.Ice.length, mm 6⟩ ((⟨100, a1 % 401, 0, 0⟩ : Ice)) x1.1 a4 ww (slAt_row (enc := encPt) (l := v1.Thrust) (fun _ => rfl) (by decide) hrel ((hr _ (List.mem_append_left _ (by simp))).trans rfl)) (slAt_row (enc := encPt) (l := v1.Water) (fun _ => rfl) (by decide) hrel ((hr _ (List.mem_append_right _ (List.mem_append_left _ (by simp)))).trans rfl)) (slAt_row (enc := encPt) (l := v1.Ice) (fun _ => rfl) (by decide) hrel ((hr _ (List.mem_append_right _ (List.mem_append_right _ (List.mem_append_left _ (by simp))))).trans rfl))))),
      ok_plain rfl rfl (op_move (ltN rfl) rfl),
      ok_plain rfl rfl (op_extract (ltN rfl) rfl rfl),
      ok_plain rfl rfl (op_extract (ltN rfl) rfl rfl),
      ok_plain rfl rfl (op_assign (ltN rfl) rfl),
      ok_plain rfl rfl (op_assign (ltN rfl) rfl),
      trivial⟩ ?_
    refine fin_keep (s' := [(.t 14, some (.x (.v (.int .i64 (a1 % 401))))), (.t 15, some (.x (.v (.int .i64 ((limitE v1 x1.1 a4).1))))), (.t 16, some (.x (.v (.int .i64 ((limitE v1 x1.1 a4).2))))), (.t 17, some (.x (.v (.int .i64 ((limitE v1 x1.2 a4).1))))), (.t 18, some (.x (.v (.int .i64 ((limitE v1 x1.2 a4).2))))), (.t 19, some (.x (.v (.int .i64 ((limitE v1 x1.1 false).1))))), (.t 20, some (.x (.v (.int .i64 ((limitE v1 x1.1 false).2))))), (.t 21, some (.x (.v (.bool ((makesE v1 ((⟨100, a1 % 401, 0, 0⟩ : Ice)) x1.1 a4).1))))), (.t 22, some (.x (.v (.int .i64 ((makesE v1 ((⟨100, a1 % 401, 0, 0⟩ : Ice)) x1.1 a4).2)))))]) ?_ ⟨rfl, rfl, rfl, rfl, rfl, rfl, rfl, rfl, rfl, trivial⟩ rfl
    refine fin_then ?_
    refine aw_seq ?_
    refine aw_seq ?_
    refine aw_text (rows := [_, _, _, _, _, _, _, _, _, _, _, _, _, _, _, _, _, _, _, _, _, _, _, _, _, _, _, _, _, _, _, _, _, _, _, _]) rfl (by kernel_rfl) ⟨
      ok_plain rfl rfl (op_move (ltN rfl) rfl),
      ok_plain rfl rfl (op_bin (ltN rfl) rfl rfl rfl),
      ok_plain rfl rfl (op_move (ltN rfl) rfl),
      ok_if (ltN rfl) rfl rfl rfl rfl rfl rfl (fun hg8 => op_move (ltN rfl) (force_x rfl)),
      ok_if (ltN rfl) rfl rfl rfl rfl rfl rfl (fun hg9 => op_bin (ltN rfl) (force_eq (beq_iff_eq.2 hg9) rfl) rfl rfl),
      ok_if (ltN rfl) rfl rfl rfl rfl rfl rfl (fun hg10 => op_move (ltN rfl) (force_eq (beq_iff_eq.2 hg10) rfl)),
      ok_ifC (ltN rfl) rfl rfl rfl rfl rfl rfl (fun hg11 => op_move (ltN rfl) (force_x rfl)),
      ok_ifC (ltN rfl) rfl rfl rfl rfl rfl rfl (fun hg12 => op_bin (ltN rfl) (force_eq hg12 rfl) rfl rfl),
      ok_if (ltN rfl) rfl rfl rfl rfl rfl rfl (fun hg13 => op_andF (ltN rfl) (beq_iff_eq.2 hg13) rfl rfl),
      ok_plain rfl rfl (op_or (ltN rfl) rfl rfl),
      ok_plain rfl rfl (op_move (ltN rfl) rfl),
      ok_if (ltN rfl) rfl rfl rfl rfl rfl rfl (fun hg14 => op_move (ltN rfl) (force_x rfl)),
      ok_if (ltN rfl) rfl rfl rfl rfl rfl rfl (fun hg15 => op_bin (ltN rfl) (force_eq (beq_iff_eq.2 hg15) rfl) rfl rfl),
      ok_if (ltN rfl) rfl rfl rfl rfl rfl rfl (fun hg16 => op_move (ltN rfl) (force_eq (beq_iff_eq.2 hg16) rfl)),
      ok_ifC (ltN rfl) rfl rfl rfl rfl rfl rfl (fun hg17 => op_move (ltN rfl) (force_x rfl)),
      ok_ifC (ltN rfl) rfl rfl rfl rfl rfl rfl (fun hg18 => op_bin (ltN rfl) (force_eq hg18 rfl) rfl rfl),
      ok_ifC (ltN rfl) rfl rfl rfl rfl rfl rfl (fun hg19 => op_move (ltN rfl) (force_eq hg19 rfl)),
      ok_ifC (ltN rfl) rfl rfl rfl rfl rfl rfl (fun hg20 => op_move (ltN rfl) (force_x rfl)),
      ok_ifC (ltN rfl) rfl rfl rfl rfl rfl rfl (fun hg21 => op_move (ltN rfl) (force_x rfl)),
      ok_ifC (ltN rfl) rfl rfl rfl rfl rfl rfl (fun hg22 => op_bin (ltN rfl) (force_eq hg22 rfl) (force_eq hg22 rfl) rfl),
      ok_ifC (ltN rfl) rfl rfl rfl rfl rfl rfl (fun hg23 => op_orF (ltN rfl) hg23 rfl rfl),
      ok_if (ltN rfl) rfl rfl rfl rfl rfl rfl (fun hg24 => op_andF (ltN rfl) (beq_iff_eq.2 hg24) rfl rfl),
      ok_plain rfl rfl (op_or (ltN rfl) rfl rfl),
      ok_plain rfl rfl (op_move (ltN rfl) rfl),
      ok_if (ltN rfl) rfl rfl rfl rfl rfl rfl (fun hg25 => op_move (ltN rfl) (force_x rfl)),
      ok_if (ltN rfl) rfl rfl rfl rfl rfl rfl (fun hg26 => op_bin (ltN rfl) (force_eq (beq_iff_eq.2 hg26) rfl) rfl rfl),
      ok_if (ltN rfl) rfl rfl rfl rfl rfl rfl (fun hg27 => op_move (ltN rfl) (force_eq (beq_iff_eq.2 hg27) rfl)),
      ok_ifC (ltN rfl) rfl rfl rfl rfl rfl rfl (fun hg28 => op_move (ltN rfl) (force_x rfl)),
      ok_ifC (ltN rfl) rfl rfl rfl rfl rfl rfl (fun hg29 => op_bin (ltN rfl) (force_eq hg29 rfl) rfl rfl),
      ok_ifC (ltN rfl) rfl rfl rfl rfl rfl rfl (fun hg30 => op_move (ltN rfl) (force_eq hg30 rfl)),
      ok_ifC (ltN rfl) rfl rfl rfl rfl rfl rfl (fun hg31 => op_move (ltN rfl) (force_x rfl)),
      ok_ifC (ltN rfl) rfl rfl rfl rfl rfl rfl (fun hg32 => op_move (ltN rfl) (force_x rfl)),
      ok_ifC (ltN rfl) rfl rfl rfl rfl rfl rfl (fun hg33 => op_bin (ltN rfl) (force_eq hg33 rfl) (force_eq hg33 rfl) rfl),
      ok_ifC (ltN rfl) rfl rfl rfl rfl rfl rfl (fun hg34 => op_orF (ltN rfl) hg34 rfl rfl),
      ok_if (ltN rfl) rfl rfl rfl rfl rfl rfl (fun hg35 => op_andF (ltN rfl) (beq_iff_eq.2 hg35) rfl rfl),
      ok_plain rfl rfl (op_or (ltN rfl) rfl rfl),
      trivial⟩ ?_
    refine fin_keep (s' := [(.t 14, some (.x (.v (.int .i64 (a1 % 401))))), (.t 15, some (.x (.v (.int .i64 ((limitE v1 x1.1 a4).1))))), (.t 16, some (.x (.v (.int .i64 ((limitE v1 x1.1 a4).2))))), (.t 21, some (.x (.v (.bool ((makesE v1 ((⟨100, a1 % 401, 0, 0⟩ : Ice)) x1.1 a4).1))))), (.t 109, some (.x (.v (.bool ((((((makesE v1 ((⟨100, a1 % 401, 0, 0⟩ : Ice)) x1.1 a4).2) != 0) || ((((limitE v1 x1.1 a4).2) != 0) && (((limitE v1 x1.1 a4).2) != 4))) || ((((limitE v1 x1.2 a4).2) == 0) && ((((limitE v1 x1.1 a4).2) != 0) || (decide (((limitE v1 x1.1 a4).1) < ((limitE v1 x1.2 a4).1)))))) || ((((limitE v1 x1.1 false).2) == 0) && ((((limitE v1 x1.1 a4).2) != 0) || (decide (((limitE v1 x1.1 a4).1) < ((limitE v1 x1.1 false).1))))))))))]) ?_ ⟨rfl, rfl, rfl, rfl, rfl, trivial⟩ rfl
    refine fin_then ?_
    refine aw_cond rfl (fun hz36 => ?_) (fun hz36 => ?_)
    · have hm := brk_t hz36 hm
      refine aw_seq ?_
      refine aw_text (rows := [_]) rfl (by kernel_rfl) ⟨
        ok_plain rfl rfl (op_assign (ltN rfl) rfl),
        trivial⟩ ?_
      refine fin_keep (s' := [(.t 10, some (.x (.v (.bool false))))]) ?_ ⟨rfl, trivial⟩ rfl
      refine fin_then ?_
      refine aw_ret ?_
      refine fin_then_ret ?_
      refine post_ret (x := .v (.bool false)) rfl rfl (resOK_tmp rfl resOK_nil) rfl (fun mm aa ww hr => ?_)
      cases hm
      exact ⟨rfl, hr.below⟩
    · have hm := brk_f hz36 hm
      refine aw_skip ?_
      refine fin_then ?_
      refine aw_seq ?_
      refine aw_text (rows := [_, _, _, _, _, _, _, _, _, _, _, _, _]) rfl (by kernel_rfl) ⟨
        ok_plain rfl rfl (op_move (ltN rfl) rfl),
        ok_plain rfl rfl (op_move (ltN rfl) rfl),
        ok_plain rfl rfl (op_bin (ltN rfl) rfl rfl rfl),
        ok_plain rfl rfl (op_move (ltN rfl) rfl),
        ok_if (ltN rfl) rfl rfl rfl rfl rfl rfl (fun hg37 => op_move (ltN rfl) (force_x rfl)),
        ok_if (ltN rfl) rfl rfl rfl rfl rfl rfl (fun hg38 => op_move (ltN rfl) (force_x rfl)),
        ok_if (ltN rfl) rfl rfl rfl rfl rfl rfl (fun hg39 => op_bin (ltN rfl) (force_eq (beq_iff_eq.2 hg39) rfl) (force_eq (beq_iff_eq.2 hg39) rfl) rfl),
        ok_plain rfl rfl (op_and (ltN rfl) rfl rfl),
        ok_plain rfl rfl (op_eqb (ltN rfl) rfl rfl un_4),
        ok_plain rfl rfl (op_move (ltN rfl) rfl),
        ok_if (ltN rfl) rfl rfl rfl rfl rfl rfl (fun hg40 => op_call (x := .v (.bool true)) (fs := []) (caps := []) (extra := []) (ltN rfl) en_21 rfl ⟨rfl, rfl, rfl⟩ EvL.nil (fun mm aa ww gg hr hrel => (c21 ww (BoxAt.mono hG hrel.below)))),
        ok_plain rfl rfl (op_and (ltN rfl) rfl rfl),
        ok_plain rfl rfl (op_assign (ltN rfl) rfl),
        trivial⟩ ?_
      refine fin_keep (s' := [(.t 10, some (.x (.v (.bool ((((makesE v1 ((⟨100, a1 % 401, 0, 0⟩ : Ice)) x1.1 a4).1) == ((((limitE v1 x1.1 a4).2) == 0) && (decide ((a1 % 401) ≤ ((limitE v1 x1.1 a4).1))))) && true)))))]) ?_ ⟨rfl, trivial⟩ rfl
      refine fin_then ?_
      refine aw_ret ?_
      refine post_ret (x := .v (.bool ((((makesE v1 ((⟨100, a1 % 401, 0, 0⟩ : Ice)) x1.1 a4).1) == ((((limitE v1 x1.1 a4).2) == 0) && (decide ((a1 % 401) ≤ ((limitE v1 x1.1 a4).1))))) && true))) rfl rfl (resOK_tmp rfl resOK_nil) rfl (fun mm aa ww hr => ?_)
      cases hm
      exact ⟨rfl, hr.below⟩

end Go.Proofs.T
