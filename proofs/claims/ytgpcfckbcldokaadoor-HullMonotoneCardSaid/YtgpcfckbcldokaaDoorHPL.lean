import Derived.Test.YtgpcfckbcldokaaDoorHO
namespace Go.Proofs.T
open Go Go.AX Go.RowKit Hull
theorem en_15 : Proofs.Enters Tryd.prog 15 := Proofs.enters_of Tryd.func15 (by kernel_rfl) rfl
theorem en_17 : Proofs.Enters Tryd.prog 17 := Proofs.enters_of Tryd.func17 (by kernel_rfl) rfl
theorem en_16 : Proofs.Enters Tryd.prog 16 := Proofs.enters_of Tryd.func16 (by kernel_rfl) rfl
theorem en_19 : Proofs.Enters Tryd.prog 19 := Proofs.enters_of Tryd.func19 (by kernel_rfl) rfl
theorem ss_41 : sliceSz Tryd.prog 41 = some 4 := by kernel_rfl
theorem en_21 : Proofs.Enters Tryd.prog 21 := Proofs.enters_of Tryd.func21 (by kernel_rfl) rfl

def m3 (F : Nat) (a0 : List Int) (a1 : List Int) (a2 : Int) (a3 : Int) (a4 : Bool) : Option (Bool) :=
  bnd (m15 F a0) (fun v1 => bnd (m17 F a1) (fun v2 => bnd (m16 F v2) (fun v3 => chk (InR (a2)) (chk (InR (a3)) (chk (0 ≤ (if a3 < a2 then a3 else a2) ∧ (if a3 < a2 then a3 else a2) ≤ 9223372036854775807) (chk (0 ≤ (if a3 > a2 then a3 else a2) ∧ (if a3 > a2 then a3 else a2) ≤ 9223372036854775807) (join (fun (x1 : Int × Int) => brk (((((speedE v1 v3.1 a4).2) != 0) || (((speedE v1 v3.2 a4).2) != 0)) || (decide (((speedE v1 v3.1 a4).1) < ((speedE v1 v3.2 a4).1)))) (some false) (brk (((((((resistanceE v1 v3.1 x1.1 a4).2) != 0) || (((resistanceE v1 v3.2 x1.1 a4).2) != 0)) || (((resistanceE v1 v3.2 x1.2 a4).2) != 0)) || (decide (((resistanceE v1 v3.1 x1.1 a4).1) > ((resistanceE v1 v3.2 x1.1 a4).1)))) || (decide (((resistanceE v1 v3.2 x1.1 a4).1) > ((resistanceE v1 v3.2 x1.2 a4).1)))) (some false) (brk (((((((loadE v3.1 x1.1 a4).2) != 0) || (((loadE v3.2 x1.1 a4).2) != 0)) || (((loadE v3.2 x1.2 a4).2) != 0)) || (decide (((loadE v3.1 x1.1 a4).1) > ((loadE v3.2 x1.1 a4).1)))) || (decide (((loadE v3.2 x1.1 a4).1) > ((loadE v3.2 x1.2 a4).1)))) (some false) (join (fun (_ : Unit) => some true) (fun k2 => loopC (fun (x3 : List Ice × Int) n3 => brk (decide (x3.2 < 2)) (chk (0 ≤ x3.2 ∧ x3.2 < ((x3.1.length : Nat) : Int)) (brk (((((((((((speedE v1 ((x3.1.getD x3.2.toNat default)) false).2) != 0) || (((speedE v1 ((x3.1.getD x3.2.toNat default)) true).2) != 0)) || (((loadE ((x3.1.getD x3.2.toNat default)) x1.2 false).2) != 0)) || (((loadE ((x3.1.getD x3.2.toNat default)) x1.2 true).2) != 0)) || (((resistanceE v1 ((x3.1.getD x3.2.toNat default)) x1.2 false).2) != 0)) || (((resistanceE v1 ((x3.1.getD x3.2.toNat default)) x1.2 true).2) != 0)) || (decide (((speedE v1 ((x3.1.getD x3.2.toNat default)) false).1) > ((speedE v1 ((x3.1.getD x3.2.toNat default)) true).1)))) || (decide (((loadE ((x3.1.getD x3.2.toNat default)) x1.2 false).1) < ((loadE ((x3.1.getD x3.2.toNat default)) x1.2 true).1)))) || (decide (((resistanceE v1 ((x3.1.getD x3.2.toNat default)) x1.2 false).1) < ((resistanceE v1 ((x3.1.getD x3.2.toNat default)) x1.2 true).1)))) (some false) (chk (InR (x3.2 + 1)) (n3 (x3.1, x3.2 + 1))))) (k2 ())) F ([v3.1, v3.2], 0)))))) (fun k1 => brk (decide (((if a3 < a2 then a3 else a2) % 251) > ((if a3 > a2 then a3 else a2) % 251))) (k1 ((if a3 > a2 then a3 else a2) % 251, (if a3 < a2 then a3 else a2) % 251)) (k1 ((if a3 < a2 then a3 else a2) % 251, (if a3 > a2 then a3 else a2) % 251))))))))))

set_option maxHeartbeats 4000000 in
theorem c3 (F : Nat) (a0 : List Int) (a0_s : SlV) (a1 : List Int) (a1_s : SlV) (a2 : Int) (a3 : Int) (a4 : Bool) (w : World) (ha0 : SlIs encU8 1 w a0_s a0) (h8a0 : ∀ x ∈ a0, 0 ≤ x ∧ x ≤ 255) (hlena0 : a0.length ≤ 9223372036854775807) (ha1 : SlIs encU8 1 w a1_s a1) (h8a1 : ∀ x ∈ a1, 0 ≤ x ∧ x ≤ 255) (hlena1 : a1.length ≤ 9223372036854775807) (hG : BoxAt w 0 (strengths.map (fun n => Value.int .i64 n))) (r : Bool) (hm : m3 F a0 a1 a2 a3 a4 = some r) : Calls Tryd.prog 3 #[.slice a0_s.p a0_s.n a0_s.c, .slice a1_s.p a1_s.n a1_s.c, .int .u8 a2, .int .u8 a3, .bool a4] w fun e w' => e = .returned (.bool r) ∧ Below w.heap.size w w' := by
  obtain ⟨a0_p, a0_n, a0_c⟩ := a0_s
  have ha0_l : a0_n = a0.length := ha0.1
  subst ha0_l
  obtain ⟨a0_b, a0_o, ha0_p, ha0_L⟩ := SlAt.lies' ha0
  obtain ⟨a1_p, a1_n, a1_c⟩ := a1_s
  have ha1_l : a1_n = a1.length := ha1.1
  subst ha1_l
  obtain ⟨a1_b, a1_o, ha1_p, ha1_L⟩ := SlAt.lies' ha1
  unfold m3 at hm
  refine enter (args := [.v (.slice a0_p a0.length a0_c), .v (.slice a1_p a1.length a1_c), .v (.int .u8 a2), .v (.int .u8 a3), .v (.bool a4)]) Tryd.func3 rfl (N := 258) rfl (Nat.le_of_ble_eq_true rfl) ?_
  refine aw_seq ?_
  refine aw_text (rows := [_]) rfl (by kernel_rfl) ⟨
    ok_plain rfl rfl (op_assign (ltN rfl) rfl),
    trivial⟩ ?_
  refine fin_keep (s' := [(.t 0, some (.x (.v (.slice a0_p a0.length a0_c)))), (.t 1, some (.x (.v (.slice a1_p a1.length a1_c)))), (.t 2, some (.x (.v (.int .u8 a2)))), (.t 3, some (.x (.v (.int .u8 a3)))), (.t 4, some (.x (.v (.bool a4))))]) ?_ ⟨rfl, rfl, rfl, rfl, rfl, trivial⟩ rfl
  refine fin_then ?_
  refine aw_seq ?_
  obtain ⟨v1, hv1, hm⟩ := bnd_some hm
  refine aw_text (rows := [_, _, _, _]) rfl (by kernel_rfl) ⟨
    ok_plain rfl rfl (op_move (ltN rfl) rfl),
    ok_plain rfl rfl (op_callRows (x := .g [.v (.int .i64 v1.Class), .v (.int .i64 v1.Power), .v (.int .i64 v1.Draught), .v (.int .i64 v1.Tonnes), .o 1 2 v1.Thrust.length, .o 3 4 v1.Water.length, .o 5 6 v1.Ice.length, .v (.int .i64 v1.Slow), .v (.int .i64 v1.Brash), .v (.int .i64 v1.Ridge), .v (.int .i64 v1.Press)]) (R := (fun vs => .agg #[.int .i64 v1.Class, .int .i64 v1.Power, .int .i64 v1.Draught, .int .i64 v1.Tonnes, (vs.getD 0 (.bool false)), (vs.getD 1 (.bool false)), (vs.getD 2 (.bool false)), .int .i64 v1.Slow, .int .i64 v1.Brash, .int .i64 v1.Ridge, .int .i64 v1.Press])) (ls := [(1, 2), (3, 4), (5, 6)]) (ds := [(v1.Thrust.length, 84, 2, v1.Thrust.flatMap encPt), (v1.Water.length, 84, 2, v1.Water.flatMap encPt), (v1.Ice.length, 84, 2, v1.Ice.flatMap encPt)]) (fs := []) (caps := []) (extra := []) (ltN rfl) en_15 rfl ⟨rfl, rfl, rfl⟩ (EvL.cons rfl EvL.nil) rfl rfl (fun _ => rfl) (fun mm aa ww gg hr hrel => (c15 F a0 ⟨a0_p, a0.length, a0_c⟩ ww (SlIs.mono ha0 hrel.below) h8a0 hlena0 v1 hv1))),
    ok_plain rfl rfl (op_alloc (L := 7) (ltN rfl) zl_25),
    ok_plain rfl rfl (op_storeN sz_25 rfl rfl rfl rfl rfl (by decide)),
    trivial⟩ ?_
  refine fin_keep (s' := [(.t 1, some (.x (.v (.slice a1_p a1.length a1_c)))), (.t 2, some (.x (.v (.int .u8 a2)))), (.t 3, some (.x (.v (.int .u8 a3)))), (.t 4, some (.x (.v (.bool a4)))), (.t 11, some (.x (.p 7 0))), (.b 7, some (.sh 25 11)), (.r 1, some (.vec false 2 84 2 (v1.Thrust.flatMap encPt))), (.r 3, some (.vec false 4 84 2 (v1.Water.flatMap encPt))), (.r 5, some (.vec false 6 84 2 (v1.Ice.flatMap encPt))), (.c 7 0, some (.x (.v (.int .i64 v1.Class)))), (.c 7 1, some (.x (.v (.int .i64 v1.Power)))), (.c 7 2, some (.x (.v (.int .i64 v1.Draught)))), (.c 7 3, some (.x (.v (.int .i64 v1.Tonnes)))), (.c 7 4, some (.x (.o 1 2 v1.Thrust.length))), (.c 7 5, some (.x (.o 3 4 v1.Water.length))), (.c 7 6, some (.x (.o 5 6 v1.Ice.length))), (.c 7 7, some (.x (.v (.int .i64 v1.Slow)))), (.c 7 8, some (.x (.v (.int .i64 v1.Brash)))), (.c 7 9, some (.x (.v (.int .i64 v1.Ridge)))), (.c 7 10, some (.x (.v (.int .i64 v1.Press))))]) ?_ ⟨rfl, rfl, rfl, rfl, rfl, rfl, rfl, rfl, rfl, rfl, rfl, rfl, rfl, rfl, rfl, rfl, rfl, rfl, rfl, rfl, trivial⟩ rfl
  refine fin_then ?_
  refine aw_seq ?_
  obtain ⟨v2, hv2, hm⟩ := bnd_some hm
  obtain ⟨v3, hv3, hm⟩ := bnd_some hm
  refine aw_text (rows := [_, _, _, _, _, _, _, _, _, _]) rfl (by kernel_rfl) ⟨
    ok_plain rfl rfl (op_move (ltN rfl) rfl),
    ok_plain rfl rfl (op_call (x := .g [.v (.int .i64 v2.Conc.Lo), .v (.int .i64 v2.Conc.Hi), .v (.int .i64 v2.Thick.Lo), .v (.int .i64 v2.Thick.Hi), .v (.int .i64 v2.Ridge.Lo), .v (.int .i64 v2.Ridge.Hi), .v (.int .i64 v2.Press.Lo), .v (.int .i64 v2.Press.Hi)]) (fs := []) (caps := []) (extra := []) (ltN rfl) en_17 rfl ⟨rfl, rfl, rfl⟩ (EvL.cons rfl EvL.nil) (fun mm aa ww gg hr hrel => (c17 F a1 ⟨a1_p, a1.length, a1_c⟩ ww (SlIs.mono ha1 hrel.below) h8a1 hlena1 v2 hv2))),
    ok_plain rfl rfl (op_call (x := .t [.g [.v (.int .i64 v3.1.Conc), .v (.int .i64 v3.1.Thick), .v (.int .i64 v3.1.Ridge), .v (.int .i64 v3.1.Press)], .g [.v (.int .i64 v3.2.Conc), .v (.int .i64 v3.2.Thick), .v (.int .i64 v3.2.Ridge), .v (.int .i64 v3.2.Press)]]) (fs := []) (caps := []) (extra := []) (ltN rfl) en_16 rfl ⟨rfl, rfl, rfl⟩ (EvL.cons rfl EvL.nil) (fun mm aa ww gg hr hrel => (c16 F v2 ww v3 hv3))),
    ok_plain rfl rfl (op_move (ltN rfl) rfl),
    ok_plain rfl rfl (op_extract (ltN rfl) rfl rfl),
    ok_plain rfl rfl (op_extract (ltN rfl) rfl rfl),
    ok_plain rfl rfl (op_alloc (L := 8) (ltN rfl) zl_28),
    ok_plain rfl rfl (op_alloc (L := 9) (ltN rfl) zl_28),
    ok_plain rfl rfl (op_storeN sz_28 rfl rfl rfl rfl rfl (by decide)),
    ok_plain rfl rfl (op_storeN sz_28 rfl rfl rfl rfl rfl (by decide)),
    trivial⟩ ?_
  refine fin_keep (s' := [(.t 2, some (.x (.v (.int .u8 a2)))), (.t 3, some (.x (.v (.int .u8 a3)))), (.t 4, some (.x (.v (.bool a4)))), (.t 11, some (.x (.p 7 0))), (.t 12, some (.x (.p 8 0))), (.t 13, some (.x (.p 9 0))), (.b 7, some (.sh 25 11)), (.b 8, some (.sh 28 4)), (.b 9, some (.sh 28 4)), (.r 1, some (.vec false 2 84 2 (v1.Thrust.flatMap encPt))), (.r 3, some (.vec false 4 84 2 (v1.Water.flatMap encPt))), (.r 5, some (.vec false 6 84 2 (v1.Ice.flatMap encPt))), (.c 7 0, some (.x (.v (.int .i64 v1.Class)))), (.c 7 1, some (.x (.v (.int .i64 v1.Power)))), (.c 7 2, some (.x (.v (.int .i64 v1.Draught)))), (.c 7 3, some (.x (.v (.int .i64 v1.Tonnes)))), (.c 7 4, some (.x (.o 1 2 v1.Thrust.length))), (.c 7 5, some (.x (.o 3 4 v1.Water.length))), (.c 7 6, some (.x (.o 5 6 v1.Ice.length))), (.c 7 7, some (.x (.v (.int .i64 v1.Slow)))), (.c 7 8, some (.x (.v (.int .i64 v1.Brash)))), (.c 7 9, some (.x (.v (.int .i64 v1.Ridge)))), (.c 7 10, some (.x (.v (.int .i64 v1.Press)))), (.c 8 0, some (.x (.v (.int .i64 v3.1.Conc)))), (.c 8 1, some (.x (.v (.int .i64 v3.1.Thick)))), (.c 8 2, some (.x (.v (.int .i64 v3.1.Ridge)))), (.c 8 3, some (.x (.v (.int .i64 v3.1.Press)))), (.c 9 0, some (.x (.v (.int .i64 v3.2.Conc)))), (.c 9 1, some (.x (.v (.int .i64 v3.2.Thick)))), (.c 9 2, some (.x (.v (.int .i64 v3.2.Ridge)))), (.c 9 3, some (.x (.v (.int .i64 v3.2.Press))))]) ?_ ⟨rfl, rfl, rfl, rfl, rfl, rfl, rfl, rfl, rfl, rfl, rfl, rfl, rfl, rfl, rfl, rfl, rfl, rfl, rfl, rfl, rfl, rfl, rfl, rfl, rfl, rfl, rfl, rfl, rfl, rfl, rfl, trivial⟩ rfl
  refine fin_then ?_
  refine aw_seq ?_
  obtain ⟨hp1, hm⟩ := chk_some hm
  obtain ⟨hp2, hm⟩ := chk_some hm
  obtain ⟨hp3, hm⟩ := chk_some hm
  obtain ⟨hp4, hm⟩ := chk_some hm
  refine aw_text (rows := [_, _, _, _, _, _, _, _, _, _, _, _, _, _]) rfl (by kernel_rfl) ⟨
    ok_plain rfl rfl (op_move (ltN rfl) rfl),
    ok_plain rfl rfl (op_convInt (ltN rfl) (Option.isSome_iff_exists.1 us_5) un_3 rfl (wrap_of hp1)),
    ok_plain rfl rfl (op_move (ltN rfl) rfl),
    ok_plain rfl rfl (op_convInt (ltN rfl) (Option.isSome_iff_exists.1 us_5) un_3 rfl (wrap_of hp2)),
    ok_plain rfl rfl (op_min (ltN rfl) rfl rfl),
    ok_plain rfl rfl (op_rem (ltN rfl) rfl rfl (by decide) (rem_nn hp3.1 (by decide) hp3.2)),
    ok_plain rfl rfl (op_move (ltN rfl) rfl),
    ok_plain rfl rfl (op_convInt (ltN rfl) (Option.isSome_iff_exists.1 us_5) un_3 rfl (wrap_of hp1)),
    ok_plain rfl rfl (op_move (ltN rfl) rfl),
    ok_plain rfl rfl (op_convInt (ltN rfl) (Option.isSome_iff_exists.1 us_5) un_3 rfl (wrap_of hp2)),
    ok_plain rfl rfl (op_max (ltN rfl) rfl rfl),
    ok_plain rfl rfl (op_rem (ltN rfl) rfl rfl (by decide) (rem_nn hp4.1 (by decide) hp4.2)),
    ok_plain rfl rfl (op_assign (ltN rfl) rfl),
    ok_plain rfl rfl (op_assign (ltN rfl) rfl),
    trivial⟩ ?_
  refine fin_keep (s' := [(.t 4, some (.x (.v (.bool a4)))), (.t 11, some (.x (.p 7 0))), (.t 12, some (.x (.p 8 0))), (.t 13, some (.x (.p 9 0))), (.t 14, some (.x (.v (.int .i64 ((if a3 < a2 then a3 else a2) % 251))))), (.t 15, some (.x (.v (.int .i64 ((if a3 > a2 then a3 else a2) % 251))))), (.b 7, some (.sh 25 11)), (.b 8, some (.sh 28 4)), (.b 9, some (.sh 28 4)), (.r 1, some (.vec false 2 84 2 (v1.Thrust.flatMap encPt))), (.r 3, some (.vec false 4 84 2 (v1.Water.flatMap encPt))), (.r 5, some (.vec false 6 84 2 (v1.Ice.flatMap encPt))), (.c 7 0, some (.x (.v (.int .i64 v1.Class)))), (.c 7 1, some (.x (.v (.int .i64 v1.Power)))), (.c 7 2, some (.x (.v (.int .i64 v1.Draught)))), (.c 7 3, some (.x (.v (.int .i64 v1.Tonnes)))), (.c 7 4, some (.x (.o 1 2 v1.Thrust.length))), (.c 7 5, some (.x (.o 3 4 v1.Water.length))), (.c 7 6, some (.x (.o 5 6 v1.Ice.length))), (.c 7 7, some (.x (.v (.int .i64 v1.Slow)))), (.c 7 8, some (.x (.v (.int .i64 v1.Brash)))), (.c 7 9, some (.x (.v (.int .i64 v1.Ridge)))), (.c 7 10, some (.x (.v (.int .i64 v1.Press)))), (.c 8 0, some (.x (.v (.int .i64 v3.1.Conc)))), (.c 8 1, some (.x (.v (.int .i64 v3.1.Thick)))), (.c 8 2, some (.x (.v (.int .i64 v3.1.Ridge)))), (.c 8 3, some (.x (.v (.int .i64 v3.1.Press)))), (.c 9 0, some (.x (.v (.int .i64 v3.2.Conc)))), (.c 9 1, some (.x (.v (.int .i64 v3.2.Thick)))), (.c 9 2, some (.x (.v (.int .i64 v3.2.Ridge)))), (.c 9 3, some (.x (.v (.int .i64 v3.2.Press))))]) ?_ ⟨rfl, rfl, rfl, rfl, rfl, rfl, rfl, rfl, rfl, rfl, rfl, rfl, rfl, rfl, rfl, rfl, rfl, rfl, rfl, rfl, rfl, rfl, rfl, rfl, rfl, rfl, rfl, rfl, rfl, rfl, rfl, trivial⟩ rfl
  refine fin_then ?_
  refine aw_cutM (ι := Int × Int) hm (fun x1 => [(.t 4, some (.x (.v (.bool a4)))), (.t 11, some (.x (.p 7 0))), (.t 12, some (.x (.p 8 0))), (.t 13, some (.x (.p 9 0))), (.t 14, some (.x (.v (.int .i64 x1.1)))), (.t 15, some (.x (.v (.int .i64 x1.2)))), (.b 7, some (.sh 25 11)), (.b 8, some (.sh 28 4)), (.b 9, some (.sh 28 4)), (.r 1, some (.vec false 2 84 2 (v1.Thrust.flatMap encPt))), (.r 3, some (.vec false 4 84 2 (v1.Water.flatMap encPt))), (.r 5, some (.vec false 6 84 2 (v1.Ice.flatMap encPt))), (.c 7 0, some (.x (.v (.int .i64 v1.Class)))), (.c 7 1, some (.x (.v (.int .i64 v1.Power)))), (.c 7 2, some (.x (.v (.int .i64 v1.Draught)))), (.c 7 3, some (.x (.v (.int .i64 v1.Tonnes)))), (.c 7 4, some (.x (.o 1 2 v1.Thrust.length))), (.c 7 5, some (.x (.o 3 4 v1.Water.length))), (.c 7 6, some (.x (.o 5 6 v1.Ice.length))), (.c 7 7, some (.x (.v (.int .i64 v1.Slow)))), (.c 7 8, some (.x (.v (.int .i64 v1.Brash)))), (.c 7 9, some (.x (.v (.int .i64 v1.Ridge)))), (.c 7 10, some (.x (.v (.int .i64 v1.Press)))), (.c 8 0, some (.x (.v (.int .i64 v3.1.Conc)))), (.c 8 1, some (.x (.v (.int .i64 v3.1.Thick)))), (.c 8 2, some (.x (.v (.int .i64 v3.1.Ridge)))), (.c 8 3, some (.x (.v (.int .i64 v3.1.Press)))), (.c 9 0, some (.x (.v (.int .i64 v3.2.Conc)))), (.c 9 1, some (.x (.v (.int .i64 v3.2.Thick)))), (.c 9 2, some (.x (.v (.int .i64 v3.2.Ridge)))), (.c 9 3, some (.x (.v (.int .i64 v3.2.Press))))]) (fun hm => ?_) (fun x1 hm => ?_)
  · have _z := hm
    refine aw_seq ?_
    refine aw_text (rows := [_, _, _]) rfl (by kernel_rfl) ⟨
      ok_plain rfl rfl (op_move (ltN rfl) rfl),
      ok_plain rfl rfl (op_move (ltN rfl) rfl),
      ok_plain rfl rfl (op_bin (ltN rfl) rfl rfl rfl),
      trivial⟩ ?_
    refine fin_keep (s' := [(.t 4, some (.x (.v (.bool a4)))), (.t 11, some (.x (.p 7 0))), (.t 12, some (.x (.p 8 0))), (.t 13, some (.x (.p 9 0))), (.t 14, some (.x (.v (.int .i64 ((if a3 < a2 then a3 else a2) % 251))))), (.t 15, some (.x (.v (.int .i64 ((if a3 > a2 then a3 else a2) % 251))))), (.t 60, some (.x (.v (.bool (decide (((if a3 < a2 then a3 else a2) % 251) > ((if a3 > a2 then a3 else a2) % 251))))))), (.b 7, some (.sh 25 11)), (.b 8, some (.sh 28 4)), (.b 9, some (.sh 28 4)), (.r 1, some (.vec false 2 84 2 (v1.Thrust.flatMap encPt))), (.r 3, some (.vec false 4 84 2 (v1.Water.flatMap encPt))), (.r 5, some (.vec false 6 84 2 (v1.Ice.flatMap encPt))), (.c 7 0, some (.x (.v (.int .i64 v1.Class)))), (.c 7 1, some (.x (.v (.int .i64 v1.Power)))), (.c 7 2, some (.x (.v (.int .i64 v1.Draught)))), (.c 7 3, some (.x (.v (.int .i64 v1.Tonnes)))), (.c 7 4, some (.x (.o 1 2 v1.Thrust.length))), (.c 7 5, some (.x (.o 3 4 v1.Water.length))), (.c 7 6, some (.x (.o 5 6 v1.Ice.length))), (.c 7 7, some (.x (.v (.int .i64 v1.Slow)))), (.c 7 8, some (.x (.v (.int .i64 v1.Brash)))), (.c 7 9, some (.x (.v (.int .i64 v1.Ridge)))), (.c 7 10, some (.x (.v (.int .i64 v1.Press)))), (.c 8 0, some (.x (.v (.int .i64 v3.1.Conc)))), (.c 8 1, some (.x (.v (.int .i64 v3.1.Thick)))), (.c 8 2, some (.x (.v (.int .i64 v3.1.Ridge)))), (.c 8 3, some (.x (.v (.int .i64 v3.1.Press)))), (.c 9 0, some (.x (.v (.int .i64 v3.2.Conc)))), (.c 9 1, some (.x (.v (.int .i64 v3.2.Thick)))), (.c 9 2, some (.x (.v (.int .i64 v3.2.Ridge)))), (.c 9 3, some (.x (.v (.int .i64 v3.2.Press))))]) ?_ ⟨rfl, rfl, rfl, rfl, rfl, rfl, rfl, rfl, rfl, rfl, rfl, rfl, rfl, rfl, rfl, rfl, rfl, rfl, rfl, rfl, rfl, rfl, rfl, rfl, rfl, rfl, rfl, rfl, rfl, rfl, rfl, rfl, trivial⟩ rfl
    refine fin_then ?_
    refine aw_cond rfl (fun hz5 => ?_) (fun hz5 => ?_)
    · have hm := brk_t hz5 hm
      refine aw_text (rows := [_, _, _, _]) rfl (by kernel_rfl) ⟨
        ok_plain rfl rfl (op_move (ltN rfl) rfl),
        ok_plain rfl rfl (op_move (ltN rfl) rfl),
        ok_plain rfl rfl (op_assign (ltN rfl) rfl),
        ok_plain rfl rfl (op_assign (ltN rfl) rfl),
        trivial⟩ ?_
      refine fin_keep (s' := [(.t 4, some (.x (.v (.bool a4)))), (.t 11, some (.x (.p 7 0))), (.t 12, some (.x (.p 8 0))), (.t 13, some (.x (.p 9 0))), (.t 14, some (.x (.v (.int .i64 ((if a3 > a2 then a3 else a2) % 251))))), (.t 15, some (.x (.v (.int .i64 ((if a3 < a2 then a3 else a2) % 251))))), (.b 7, some (.sh 25 11)), (.b 8, some (.sh 28 4)), (.b 9, some (.sh 28 4)), (.r 1, some (.vec false 2 84 2 (v1.Thrust.flatMap encPt))), (.r 3, some (.vec false 4 84 2 (v1.Water.flatMap encPt))), (.r 5, some (.vec false 6 84 2 (v1.Ice.flatMap encPt))), (.c 7 0, some (.x (.v (.int .i64 v1.Class)))), (.c 7 1, some (.x (.v (.int .i64 v1.Power)))), (.c 7 2, some (.x (.v (.int .i64 v1.Draught)))), (.c 7 3, some (.x (.v (.int .i64 v1.Tonnes)))), (.c 7 4, some (.x (.o 1 2 v1.Thrust.length))), (.c 7 5, some (.x (.o 3 4 v1.Water.length))), (.c 7 6, some (.x (.o 5 6 v1.Ice.length))), (.c 7 7, some (.x (.v (.int .i64 v1.Slow)))), (.c 7 8, some (.x (.v (.int .i64 v1.Brash)))), (.c 7 9, some (.x (.v (.int .i64 v1.Ridge)))), (.c 7 10, some (.x (.v (.int .i64 v1.Press)))), (.c 8 0, some (.x (.v (.int .i64 v3.1.Conc)))), (.c 8 1, some (.x (.v (.int .i64 v3.1.Thick)))), (.c 8 2, some (.x (.v (.int .i64 v3.1.Ridge)))), (.c 8 3, some (.x (.v (.int .i64 v3.1.Press)))), (.c 9 0, some (.x (.v (.int .i64 v3.2.Conc)))), (.c 9 1, some (.x (.v (.int .i64 v3.2.Thick)))), (.c 9 2, some (.x (.v (.int .i64 v3.2.Ridge)))), (.c 9 3, some (.x (.v (.int .i64 v3.2.Press))))]) ?_ ⟨rfl, rfl, rfl, rfl, rfl, rfl, rfl, rfl, rfl, rfl, rfl, rfl, rfl, rfl, rfl, rfl, rfl, rfl, rfl, rfl, rfl, rfl, rfl, rfl, rfl, rfl, rfl, rfl, rfl, rfl, rfl, trivial⟩ rfl
      exact fin_cut ((if a3 > a2 then a3 else a2) % 251, (if a3 < a2 then a3 else a2) % 251) hm ⟨rfl, rfl, rfl, rfl, rfl, rfl, rfl, rfl, rfl, rfl, rfl, rfl, rfl, rfl, rfl, rfl, rfl, rfl, rfl, rfl, rfl, rfl, rfl, rfl, rfl, rfl, rfl, rfl, rfl, rfl, rfl, trivial⟩ rfl
    · have hm := brk_f hz5 hm
      refine aw_skip ?_
      exact fin_cut ((if a3 < a2 then a3 else a2) % 251, (if a3 > a2 then a3 else a2) % 251) hm ⟨rfl, rfl, rfl, rfl, rfl, rfl, rfl, rfl, rfl, rfl, rfl, rfl, rfl, rfl, rfl, rfl, rfl, rfl, rfl, rfl, rfl, rfl, rfl, rfl, rfl, rfl, rfl, rfl, rfl, rfl, rfl, trivial⟩ rfl
  · have _z := hm
    refine aw_seq ?_
    refine aw_text (rows := [_, _, _, _, _, _, _, _, _]) rfl (by kernel_rfl) ⟨
      ok_plain rfl rfl (op_loadN (ys := [.v (.int .i64 v1.Class), .v (.int .i64 v1.Power), .v (.int .i64 v1.Draught), .v (.int .i64 v1.Tonnes), .o 1 2 v1.Thrust.length, .o 3 4 v1.Water.length, .o 5 6 v1.Ice.length, .v (.int .i64 v1.Slow), .v (.int .i64 v1.Brash), .v (.int .i64 v1.Ridge), .v (.int .i64 v1.Press)]) (ltN rfl) sh_25 rfl rfl ⟨rfl, rfl, rfl, rfl, rfl, rfl, rfl, rfl, rfl, rfl, rfl, trivial⟩),
      ok_plain rfl rfl (op_loadN (ys := [.v (.int .i64 v3.1.Conc), .v (.int .i64 v3.1.Thick), .v (.int .i64 v3.1.Ridge), .v (.int .i64 v3.1.Press)]) (ltN rfl) sh_28 rfl rfl ⟨rfl, rfl, rfl, rfl, trivial⟩),
      ok_plain rfl rfl (op_move (ltN rfl) rfl),
      ok_plain rfl rfl (op_call (x := .t [.v (.int .i64 ((speedE v1 v3.1 a4).1)), .v (.int .i64 ((speedE v1 v3.1 a4).2))]) (fs := []) (caps := []) (extra := [.r 1] ++ ([.r 3] ++ ([.r 5] ++ []))) (ltN rfl) en_18 rfl ⟨rfl, rfl, rfl⟩ (EvL.cons rfl (EvL.cons rfl (EvL.cons rfl EvL.nil))) (fun mm aa ww gg hr hrel => (c18 v1 ⟨if mm 2 = 0 then none else some ⟨mm 1, 0, none⟩, v1.Thrust.length, mm 2⟩ ⟨if mm 4 = 0 then none else some ⟨mm 3, 0, none⟩, v1.Water.length, mm 4⟩ ⟨if mm 6 = 0 then none else some ⟨mm 5, 0, none⟩, v1.Ice.length, mm 6⟩ v3.1 a4 ww (slAt_row (enc := encPt) (l := v1.Thrust) (fun _ => rfl) (by decide) hrel ((hr _ (List.mem_append_left _ (by simp))).trans rfl)) (slAt_row (enc := encPt) (l := v1.Water) (fun _ => rfl) (by decide) hrel ((hr _ (List.mem_append_right _ (List.mem_append_left _ (by simp)))).trans rfl)) (slAt_row (enc := encPt) (l := v1.Ice) (fun _ => rfl) (by decide) hrel ((hr _ (List.mem_append_right _ (List.mem_append_right _ (List.mem_append_left _ (by simp))))).trans rfl))))),
      ok_plain rfl rfl (op_move (ltN rfl) rfl),
      ok_plain rfl rfl (op_extract (ltN rfl) rfl rfl),
      ok_plain rfl rfl (op_extract (ltN rfl) rfl rfl),
      ok_plain rfl rfl (op_assign (ltN rfl) rfl),
      ok_plain rfl rfl (op_assign (ltN rfl) rfl),
      trivial⟩ ?_
    refine fin_keep (s' := [(.t 4, some (.x (.v (.bool a4)))), (.t 11, some (.x (.p 7 0))), (.t 12, some (.x (.p 8 0))), (.t 13, some (.x (.p 9 0))), (.t 14, some (.x (.v (.int .i64 x1.1)))), (.t 15, some (.x (.v (.int .i64 x1.2)))), (.t 16, some (.x (.v (.int .i64 ((speedE v1 v3.1 a4).1))))), (.t 17, some (.x (.v (.int .i64 ((speedE v1 v3.1 a4).2))))), (.b 7, some (.sh 25 11)), (.b 8, some (.sh 28 4)), (.b 9, some (.sh 28 4)), (.r 1, some (.vec false 2 84 2 (v1.Thrust.flatMap encPt))), (.r 3, some (.vec false 4 84 2 (v1.Water.flatMap encPt))), (.r 5, some (.vec false 6 84 2 (v1.Ice.flatMap encPt))), (.c 7 0, some (.x (.v (.int .i64 v1.Class)))), (.c 7 1, some (.x (.v (.int .i64 v1.Power)))), (.c 7 2, some (.x (.v (.int .i64 v1.Draught)))), (.c 7 3, some (.x (.v (.int .i64 v1.Tonnes)))), (.c 7 4, some (.x (.o 1 2 v1.Thrust.length))), (.c 7 5, some (.x (.o 3 4 v1.Water.length))), (.c 7 6, some (.x (.o 5 6 v1.Ice.length))), (.c 7 7, some (.x (.v (.int .i64 v1.Slow)))), (.c 7 8, some (.x (.v (.int .i64 v1.Brash)))), (.c 7 9, some (.x (.v (.int .i64 v1.Ridge)))), (.c 7 10, some (.x (.v (.int .i64 v1.Press)))), (.c 8 0, some (.x (.v (.int .i64 v3.1.Conc)))), (.c 8 1, some (.x (.v (.int .i64 v3.1.Thick)))), (.c 8 2, some (.x (.v (.int .i64 v3.1.Ridge)))), (.c 8 3, some (.x (.v (.int .i64 v3.1.Press)))), (.c 9 0, some (.x (.v (.int .i64 v3.2.Conc)))), (.c 9 1, some (.x (.v (.int .i64 v3.2.Thick)))), (.c 9 2, some (.x (.v (.int .i64 v3.2.Ridge)))), (.c 9 3, some (.x (.v (.int .i64 v3.2.Press))))]) ?_ ⟨rfl, rfl, rfl, rfl, rfl, rfl, rfl, rfl, rfl, rfl, rfl, rfl, rfl, rfl, rfl, rfl, rfl, rfl, rfl, rfl, rfl, rfl, rfl, rfl, rfl, rfl, rfl, rfl, rfl, rfl, rfl, rfl, rfl, trivial⟩ rfl
    refine fin_then ?_
    refine aw_seq ?_
    refine aw_text (rows := [_, _, _, _, _, _, _, _, _]) rfl (by kernel_rfl) ⟨
      ok_plain rfl rfl (op_loadN (ys := [.v (.int .i64 v1.Class), .v (.int .i64 v1.Power), .v (.int .i64 v1.Draught), .v (.int .i64 v1.Tonnes), .o 1 2 v1.Thrust.length, .o 3 4 v1.Water.length, .o 5 6 v1.Ice.length, .v (.int .i64 v1.Slow), .v (.int .i64 v1.Brash), .v (.int .i64 v1.Ridge), .v (.int .i64 v1.Press)]) (ltN rfl) sh_25 rfl rfl ⟨rfl, rfl, rfl, rfl, rfl, rfl, rfl, rfl, rfl, rfl, rfl, trivial⟩),
      ok_plain rfl rfl (op_loadN (ys := [.v (.int .i64 v3.2.Conc), .v (.int .i64 v3.2.Thick), .v (.int .i64 v3.2.Ridge), .v (.int .i64 v3.2.Press)]) (ltN rfl) sh_28 rfl rfl ⟨rfl, rfl, rfl, rfl, trivial⟩),
      ok_plain rfl rfl (op_move (ltN rfl) rfl),
      ok_plain rfl rfl (op_call (x := .t [.v (.int .i64 ((speedE v1 v3.2 a4).1)), .v (.int .i64 ((speedE v1 v3.2 a4).2))]) (fs := []) (caps := []) (extra := [.r 1] ++ ([.r 3] ++ ([.r 5] ++ []))) (ltN rfl) en_18 rfl ⟨rfl, rfl, rfl⟩ (EvL.cons rfl (EvL.cons rfl (EvL.cons rfl EvL.nil))) (fun mm aa ww gg hr hrel => (c18 v1 ⟨if mm 2 = 0 then none else some ⟨mm 1, 0, none⟩, v1.Thrust.length, mm 2⟩ ⟨if mm 4 = 0 then none else some ⟨mm 3, 0, none⟩, v1.Water.length, mm 4⟩ ⟨if mm 6 = 0 then none else some ⟨mm 5, 0, none⟩, v1.Ice.length, mm 6⟩ v3.2 a4 ww (slAt_row (enc := encPt) (l := v1.Thrust) (fun _ => rfl) (by decide) hrel ((hr _ (List.mem_append_left _ (by simp))).trans rfl)) (slAt_row (enc := encPt) (l := v1.Water) (fun _ => rfl) (by decide) hrel ((hr _ (List.mem_append_right _ (List.mem_append_left _ (by simp)))).trans rfl)) (slAt_row (enc := encPt) (l := v1.Ice) (fun _ => rfl) (by decide) hrel ((hr _ (List.mem_append_right _ (List.mem_append_right _ (List.mem_append_left _ (by simp))))).trans rfl))))),
      ok_plain rfl rfl (op_move (ltN rfl) rfl),
      ok_plain rfl rfl (op_extract (ltN rfl) rfl rfl),
      ok_plain rfl rfl (op_extract (ltN rfl) rfl rfl),
      ok_plain rfl rfl (op_assign (ltN rfl) rfl),
      ok_plain rfl rfl (op_assign (ltN rfl) rfl),
      trivial⟩ ?_
    refine fin_keep (s' := [(.t 4, some (.x (.v (.bool a4)))), (.t 11, some (.x (.p 7 0))), (.t 12, some (.x (.p 8 0))), (.t 13, some (.x (.p 9 0))), (.t 14, some (.x (.v (.int .i64 x1.1)))), (.t 15, some (.x (.v (.int .i64 x1.2)))), (.t 16, some (.x (.v (.int .i64 ((speedE v1 v3.1 a4).1))))), (.t 17, some (.x (.v (.int .i64 ((speedE v1 v3.1 a4).2))))), (.t 18, some (.x (.v (.int .i64 ((speedE v1 v3.2 a4).1))))), (.t 19, some (.x (.v (.int .i64 ((speedE v1 v3.2 a4).2))))), (.b 7, some (.sh 25 11)), (.b 8, some (.sh 28 4)), (.b 9, some (.sh 28 4)), (.r 1, some (.vec false 2 84 2 (v1.Thrust.flatMap encPt))), (.r 3, some (.vec false 4 84 2 (v1.Water.flatMap encPt))), (.r 5, some (.vec false 6 84 2 (v1.Ice.flatMap encPt))), (.c 7 0, some (.x (.v (.int .i64 v1.Class)))), (.c 7 1, some (.x (.v (.int .i64 v1.Power)))), (.c 7 2, some (.x (.v (.int .i64 v1.Draught)))), (.c 7 3, some (.x (.v (.int .i64 v1.Tonnes)))), (.c 7 4, some (.x (.o 1 2 v1.Thrust.length))), (.c 7 5, some (.x (.o 3 4 v1.Water.length))), (.c 7 6, some (.x (.o 5 6 v1.Ice.length))), (.c 7 7, some (.x (.v (.int .i64 v1.Slow)))), (.c 7 8, some (.x (.v (.int .i64 v1.Brash)))), (.c 7 9, some (.x (.v (.int .i64 v1.Ridge)))), (.c 7 10, some (.x (.v (.int .i64 v1.Press)))), (.c 8 0, some (.x (.v (.int .i64 v3.1.Conc)))), (.c 8 1, some (.x (.v (.int .i64 v3.1.Thick)))), (.c 8 2, some (.x (.v (.int .i64 v3.1.Ridge)))), (.c 8 3, some (.x (.v (.int .i64 v3.1.Press)))), (.c 9 0, some (.x (.v (.int .i64 v3.2.Conc)))), (.c 9 1, some (.x (.v (.int .i64 v3.2.Thick)))), (.c 9 2, some (.x (.v (.int .i64 v3.2.Ridge)))), (.c 9 3, some (.x (.v (.int .i64 v3.2.Press))))]) ?_ ⟨rfl, rfl, rfl, rfl, rfl, rfl, rfl, rfl, rfl, rfl, rfl, rfl, rfl, rfl, rfl, rfl, rfl, rfl, rfl, rfl, rfl, rfl, rfl, rfl, rfl, rfl, rfl, rfl, rfl, rfl, rfl, rfl, rfl, rfl, rfl, trivial⟩ rfl
    refine fin_then ?_
    refine aw_seq ?_
    refine aw_seq ?_
    refine aw_text (rows := [_, _, _, _, _, _, _, _, _, _, _]) rfl (by kernel_rfl) ⟨
      ok_plain rfl rfl (op_move (ltN rfl) rfl),
      ok_plain rfl rfl (op_bin (ltN rfl) rfl rfl rfl),
      ok_plain rfl rfl (op_move (ltN rfl) rfl),
      ok_if (ltN rfl) rfl rfl rfl rfl rfl rfl (fun hg6 => op_move (ltN rfl) (force_x rfl)),
      ok_if (ltN rfl) rfl rfl rfl rfl rfl rfl (fun hg7 => op_bin (ltN rfl) (force_eq (beq_iff_eq.2 hg7) rfl) rfl rfl),
      ok_plain rfl rfl (op_or (ltN rfl) rfl rfl),
      ok_plain rfl rfl (op_move (ltN rfl) rfl),
      ok_if (ltN rfl) rfl rfl rfl rfl rfl rfl (fun hg8 => op_move (ltN rfl) (force_x rfl)),
      ok_if (ltN rfl) rfl rfl rfl rfl rfl rfl (fun hg9 => op_move (ltN rfl) (force_x rfl)),
      ok_if (ltN rfl) rfl rfl rfl rfl rfl rfl (fun hg10 => op_bin (ltN rfl) (force_eq (beq_iff_eq.2 hg10) rfl) (force_eq (beq_iff_eq.2 hg10) rfl) rfl),
      ok_plain rfl rfl (op_or (ltN rfl) rfl rfl),
      trivial⟩ ?_
    refine fin_keep (s' := [(.t 4, some (.x (.v (.bool a4)))), (.t 11, some (.x (.p 7 0))), (.t 12, some (.x (.p 8 0))), (.t 13, some (.x (.p 9 0))), (.t 14, some (.x (.v (.int .i64 x1.1)))), (.t 15, some (.x (.v (.int .i64 x1.2)))), (.t 87, some (.x (.v (.bool (((((speedE v1 v3.1 a4).2) != 0) || (((speedE v1 v3.2 a4).2) != 0)) || (decide (((speedE v1 v3.1 a4).1) < ((speedE v1 v3.2 a4).1)))))))), (.b 7, some (.sh 25 11)), (.b 8, some (.sh 28 4)), (.b 9, some (.sh 28 4)), (.r 1, some (.vec false 2 84 2 (v1.Thrust.flatMap encPt))), (.r 3, some (.vec false 4 84 2 (v1.Water.flatMap encPt))), (.r 5, some (.vec false 6 84 2 (v1.Ice.flatMap encPt))), (.c 7 0, some (.x (.v (.int .i64 v1.Class)))), (.c 7 1, some (.x (.v (.int .i64 v1.Power)))), (.c 7 2, some (.x (.v (.int .i64 v1.Draught)))), (.c 7 3, some (.x (.v (.int .i64 v1.Tonnes)))), (.c 7 4, some (.x (.o 1 2 v1.Thrust.length))), (.c 7 5, some (.x (.o 3 4 v1.Water.length))), (.c 7 6, some (.x (.o 5 6 v1.Ice.length))), (.c 7 7, some (.x (.v (.int .i64 v1.Slow)))), (.c 7 8, some (.x (.v (.int .i64 v1.Brash)))), (.c 7 9, some (.x (.v (.int .i64 v1.Ridge)))), (.c 7 10, some (.x (.v (.int .i64 v1.Press)))), (.c 8 0, some (.x (.v (.int .i64 v3.1.Conc)))), (.c 8 1, some (.x (.v (.int .i64 v3.1.Thick)))), (.c 8 2, some (.x (.v (.int .i64 v3.1.Ridge)))), (.c 8 3, some (.x (.v (.int .i64 v3.1.Press)))), (.c 9 0, some (.x (.v (.int .i64 v3.2.Conc)))), (.c 9 1, some (.x (.v (.int .i64 v3.2.Thick)))), (.c 9 2, some (.x (.v (.int .i64 v3.2.Ridge)))), (.c 9 3, some (.x (.v (.int .i64 v3.2.Press))))]) ?_ ⟨rfl, rfl, rfl, rfl, rfl, rfl, rfl, rfl, rfl, rfl, rfl, rfl, rfl, rfl, rfl, rfl, rfl, rfl, rfl, rfl, rfl, rfl, rfl, rfl, rfl, rfl, rfl, rfl, rfl, rfl, rfl, rfl, trivial⟩ rfl
    refine fin_then ?_
    refine aw_cond rfl (fun hz11 => ?_) (fun hz11 => ?_)
    · have hm := brk_t hz11 hm
      refine aw_seq ?_
      refine aw_text (rows := [_]) rfl (by kernel_rfl) ⟨
        ok_plain rfl rfl (op_assign (ltN rfl) rfl),
        trivial⟩ ?_
      refine fin_keep (s' := [(.t 10, some (.x (.v (.bool false))))]) ?_ ⟨rfl, trivial⟩ rfl
      refine fin_then ?_
      refine aw_ret ?_
      refine fin_then_ret ?_
      refine post_ret (x := .v (.bool false)) rfl rfl (resOK_tmp rfl resOK_nil) rfl (fun mm aa ww hr => ?_)
      cases hm
      exact ⟨rfl, hr.below⟩
    · have hm := brk_f hz11 hm
      refine aw_skip ?_
      refine fin_then ?_
      refine aw_seq ?_
      refine aw_text (rows := [_, _, _, _, _, _, _, _, _, _]) rfl (by kernel_rfl) ⟨
        ok_plain rfl rfl (op_loadN (ys := [.v (.int .i64 v1.Class), .v (.int .i64 v1.Power), .v (.int .i64 v1.Draught), .v (.int .i64 v1.Tonnes), .o 1 2 v1.Thrust.length, .o 3 4 v1.Water.length, .o 5 6 v1.Ice.length, .v (.int .i64 v1.Slow), .v (.int .i64 v1.Brash), .v (.int .i64 v1.Ridge), .v (.int .i64 v1.Press)]) (ltN rfl) sh_25 rfl rfl ⟨rfl, rfl, rfl, rfl, rfl, rfl, rfl, rfl, rfl, rfl, rfl, trivial⟩),
        ok_plain rfl rfl (op_loadN (ys := [.v (.int .i64 v3.1.Conc), .v (.int .i64 v3.1.Thick), .v (.int .i64 v3.1.Ridge), .v (.int .i64 v3.1.Press)]) (ltN rfl) sh_28 rfl rfl ⟨rfl, rfl, rfl, rfl, trivial⟩),
        ok_plain rfl rfl (op_move (ltN rfl) rfl),
        ok_plain rfl rfl (op_move (ltN rfl) rfl),
        ok_plain rfl rfl (op_call (x := .t [.v (.int .i64 ((resistanceE v1 v3.1 x1.1 a4).1)), .v (.int .i64 ((resistanceE v1 v3.1 x1.1 a4).2))]) (fs := []) (caps := []) (extra := [.r 1] ++ ([.r 3] ++ ([.r 5] ++ []))) (ltN rfl) en_19 rfl ⟨rfl, rfl, rfl⟩ (EvL.cons rfl (EvL.cons rfl (EvL.cons rfl (EvL.cons rfl EvL.nil)))) (fun mm aa ww gg hr hrel => (c19 v1 ⟨if mm 2 = 0 then none else some ⟨mm 1, 0, none⟩, v1.Thrust.length, mm 2⟩ ⟨if mm 4 = 0 then none else some ⟨mm 3, 0, none⟩, v1.Water.length, mm 4⟩ ⟨if mm 6 = 0 then none else some ⟨mm 5, 0, none⟩, v1.Ice.length, mm 6⟩ v3.1 x1.1 a4 ww (slAt_row (enc := encPt) (l := v1.Thrust) (fun _ => rfl) (by decide) hrel ((hr _ (List.mem_append_left _ (by simp))).trans rfl)) (slAt_row (enc := encPt) (l := v1.Water) (fun _ => rfl) (by decide) hrel ((hr _ (List.mem_append_right _ (List.mem_append_left _ (by simp)))).trans rfl)) (slAt_row (enc := encPt) (l := v1.Ice) (fun _ => rfl) (by decide) hrel ((hr _ (List.mem_append_right _ (List.mem_append_right _ (List.mem_append_left _ (by simp))))).trans rfl))))),
        ok_plain rfl rfl (op_move (ltN rfl) rfl),
        ok_plain rfl rfl (op_extract (ltN rfl) rfl rfl),
        ok_plain rfl rfl (op_extract (ltN rfl) rfl rfl),
        ok_plain rfl rfl (op_assign (ltN rfl) rfl),
        ok_plain rfl rfl (op_assign (ltN rfl) rfl),
        trivial⟩ ?_
      refine fin_keep (s' := [(.t 4, some (.x (.v (.bool a4)))), (.t 11, some (.x (.p 7 0))), (.t 12, some (.x (.p 8 0))), (.t 13, some (.x (.p 9 0))), (.t 14, some (.x (.v (.int .i64 x1.1)))), (.t 15, some (.x (.v (.int .i64 x1.2)))), (.t 17, some (.x (.v (.int .i64 ((resistanceE v1 v3.1 x1.1 a4).2))))), (.t 20, some (.x (.v (.int .i64 ((resistanceE v1 v3.1 x1.1 a4).1))))), (.b 7, some (.sh 25 11)), (.b 8, some (.sh 28 4)), (.b 9, some (.sh 28 4)), (.r 1, some (.vec false 2 84 2 (v1.Thrust.flatMap encPt))), (.r 3, some (.vec false 4 84 2 (v1.Water.flatMap encPt))), (.r 5, some (.vec false 6 84 2 (v1.Ice.flatMap encPt))), (.c 7 0, some (.x (.v (.int .i64 v1.Class)))), (.c 7 1, some (.x (.v (.int .i64 v1.Power)))), (.c 7 2, some (.x (.v (.int .i64 v1.Draught)))), (.c 7 3, some (.x (.v (.int .i64 v1.Tonnes)))), (.c 7 4, some (.x (.o 1 2 v1.Thrust.length))), (.c 7 5, some (.x (.o 3 4 v1.Water.length))), (.c 7 6, some (.x (.o 5 6 v1.Ice.length))), (.c 7 7, some (.x (.v (.int .i64 v1.Slow)))), (.c 7 8, some (.x (.v (.int .i64 v1.Brash)))), (.c 7 9, some (.x (.v (.int .i64 v1.Ridge)))), (.c 7 10, some (.x (.v (.int .i64 v1.Press)))), (.c 8 0, some (.x (.v (.int .i64 v3.1.Conc)))), (.c 8 1, some (.x (.v (.int .i64 v3.1.Thick)))), (.c 8 2, some (.x (.v (.int .i64 v3.1.Ridge)))), (.c 8 3, some (.x (.v (.int .i64 v3.1.Press)))), (.c 9 0, some (.x (.v (.int .i64 v3.2.Conc)))), (.c 9 1, some (.x (.v (.int .i64 v3.2.Thick)))), (.c 9 2, some (.x (.v (.int .i64 v3.2.Ridge)))), (.c 9 3, some (.x (.v (.int .i64 v3.2.Press))))]) ?_ ⟨rfl, rfl, rfl, rfl, rfl, rfl, rfl, rfl, rfl, rfl, rfl, rfl, rfl, rfl, rfl, rfl, rfl, rfl, rfl, rfl, rfl, rfl, rfl, rfl, rfl, rfl, rfl, rfl, rfl, rfl, rfl, rfl, rfl, trivial⟩ rfl
      refine fin_then ?_
      refine aw_seq ?_
      refine aw_text (rows := [_, _, _, _, _, _, _, _, _, _]) rfl (by kernel_rfl) ⟨
        ok_plain rfl rfl (op_loadN (ys := [.v (.int .i64 v1.Class), .v (.int .i64 v1.Power), .v (.int .i64 v1.Draught), .v (.int .i64 v1.Tonnes), .o 1 2 v1.Thrust.length, .o 3 4 v1.Water.length, .o 5 6 v1.Ice.length, .v (.int .i64 v1.Slow), .v (.int .i64 v1.Brash), .v (.int .i64 v1.Ridge), .v (.int .i64 v1.Press)]) (ltN rfl) sh_25 rfl rfl ⟨rfl, rfl, rfl, rfl, rfl, rfl, rfl, rfl, rfl, rfl, rfl, trivial⟩),
        ok_plain rfl rfl (op_loadN (ys := [.v (.int .i64 v3.2.Conc), .v (.int .i64 v3.2.Thick), .v (.int .i64 v3.2.Ridge), .v (.int .i64 v3.2.Press)]) (ltN rfl) sh_28 rfl rfl ⟨rfl, rfl, rfl, rfl, trivial⟩),
        ok_plain rfl rfl (op_move (ltN rfl) rfl),
        ok_plain rfl rfl (op_move (ltN rfl) rfl),
        ok_plain rfl rfl (op_call (x := .t [.v (.int .i64 ((resistanceE v1 v3.2 x1.1 a4).1)), .v (.int .i64 ((resistanceE v1 v3.2 x1.1 a4).2))]) (fs := []) (caps := []) (extra := [.r 1] ++ ([.r 3] ++ ([.r 5] ++ []))) (ltN rfl) en_19 rfl ⟨rfl, rfl, rfl⟩ (EvL.cons rfl (EvL.cons rfl (EvL.cons rfl (EvL.cons rfl EvL.nil)))) (fun mm aa ww gg hr hrel => (c19 v1 ⟨if mm 2 = 0 then none else some ⟨mm 1, 0, none⟩, v1.Thrust.length, mm 2⟩ ⟨if mm 4 = 0 then none else some ⟨mm 3, 0, none⟩, v1.Water.length, mm 4⟩ ⟨if mm 6 = 0 then none else some ⟨mm 5, 0, none⟩, v1.Ice.length, mm 6⟩ v3.2 x1.1 a4 ww (slAt_row (enc := encPt) (l := v1.Thrust) (fun _ => rfl) (by decide) hrel ((hr _ (List.mem_append_left _ (by simp))).trans rfl)) (slAt_row (enc := encPt) (l := v1.Water) (fun _ => rfl) (by decide) hrel ((hr _ (List.mem_append_right _ (List.mem_append_left _ (by simp)))).trans rfl)) (slAt_row (enc := encPt) (l := v1.Ice) (fun _ => rfl) (by decide) hrel ((hr _ (List.mem_append_right _ (List.mem_append_right _ (List.mem_append_left _ (by simp))))).trans rfl))))),
        ok_plain rfl rfl (op_move (ltN rfl) rfl),
        ok_plain rfl rfl (op_extract (ltN rfl) rfl rfl),
        ok_plain rfl rfl (op_extract (ltN rfl) rfl rfl),
        ok_plain rfl rfl (op_assign (ltN rfl) rfl),
        ok_plain rfl rfl (op_assign (ltN rfl) rfl),
        trivial⟩ ?_
      refine fin_keep (s' := [(.t 4, some (.x (.v (.bool a4)))), (.t 11, some (.x (.p 7 0))), (.t 12, some (.x (.p 8 0))), (.t 13, some (.x (.p 9 0))), (.t 14, some (.x (.v (.int .i64 x1.1)))), (.t 15, some (.x (.v (.int .i64 x1.2)))), (.t 17, some (.x (.v (.int .i64 ((resistanceE v1 v3.1 x1.1 a4).2))))), (.t 19, some (.x (.v (.int .i64 ((resistanceE v1 v3.2 x1.1 a4).2))))), (.t 20, some (.x (.v (.int .i64 ((resistanceE v1 v3.1 x1.1 a4).1))))), (.t 21, some (.x (.v (.int .i64 ((resistanceE v1 v3.2 x1.1 a4).1))))), (.b 7, some (.sh 25 11)), (.b 8, some (.sh 28 4)), (.b 9, some (.sh 28 4)), (.r 1, some (.vec false 2 84 2 (v1.Thrust.flatMap encPt))), (.r 3, some (.vec false 4 84 2 (v1.Water.flatMap encPt))), (.r 5, some (.vec false 6 84 2 (v1.Ice.flatMap encPt))), (.c 7 0, some (.x (.v (.int .i64 v1.Class)))), (.c 7 1, some (.x (.v (.int .i64 v1.Power)))), (.c 7 2, some (.x (.v (.int .i64 v1.Draught)))), (.c 7 3, some (.x (.v (.int .i64 v1.Tonnes)))), (.c 7 4, some (.x (.o 1 2 v1.Thrust.length))), (.c 7 5, some (.x (.o 3 4 v1.Water.length))), (.c 7 6, some (.x (.o 5 6 v1.Ice.length))), (.c 7 7, some (.x (.v (.int .i64 v1.Slow)))), (.c 7 8, some (.x (.v (.int .i64 v1.Brash)))), (.c 7 9, some (.x (.v (.int .i64 v1.Ridge)))), (.c 7 10, some (.x (.v (.int .i64 v1.Press)))), (.c 8 0, some (.x (.v (.int .i64 v3.1.Conc)))), (.c 8 1, some (.x (.v (.int .i64 v3.1.Thick)))), (.c 8 2, some (.x (.v (.int .i64 v3.1.Ridge)))), (.c 8 3, some (.x (.v (.int .i64 v3.1.Press)))), (.c 9 0, some (.x (.v (.int .i64 v3.2.Conc)))), (.c 9 1, some (.x (.v (.int .i64 v3.2.Thick)))), (.c 9 2, some (.x (.v (.int .i64 v3.2.Ridge)))), (.c 9 3, some (.x (.v (.int .i64 v3.2.Press))))]) ?_ ⟨rfl, rfl, rfl, rfl, rfl, rfl, rfl, rfl, rfl, rfl, rfl, rfl, rfl, rfl, rfl, rfl, rfl, rfl, rfl, rfl, rfl, rfl, rfl, rfl, rfl, rfl, rfl, rfl, rfl, rfl, rfl, rfl, rfl, rfl, rfl, trivial⟩ rfl
      refine fin_then ?_
      refine aw_seq ?_
      refine aw_text (rows := [_, _, _, _, _, _, _, _, _, _]) rfl (by kernel_rfl) ⟨
        ok_plain rfl rfl (op_loadN (ys := [.v (.int .i64 v1.Class), .v (.int .i64 v1.Power), .v (.int .i64 v1.Draught), .v (.int .i64 v1.Tonnes), .o 1 2 v1.Thrust.length, .o 3 4 v1.Water.length, .o 5 6 v1.Ice.length, .v (.int .i64 v1.Slow), .v (.int .i64 v1.Brash), .v (.int .i64 v1.Ridge), .v (.int .i64 v1.Press)]) (ltN rfl) sh_25 rfl rfl ⟨rfl, rfl, rfl, rfl, rfl, rfl, rfl, rfl, rfl, rfl, rfl, trivial⟩),
        ok_plain rfl rfl (op_loadN (ys := [.v (.int .i64 v3.2.Conc), .v (.int .i64 v3.2.Thick), .v (.int .i64 v3.2.Ridge), .v (.int .i64 v3.2.Press)]) (ltN rfl) sh_28 rfl rfl ⟨rfl, rfl, rfl, rfl, trivial⟩),
        ok_plain rfl rfl (op_move (ltN rfl) rfl),
        ok_plain rfl rfl (op_move (ltN rfl) rfl),
        ok_plain rfl rfl (op_call (x := .t [.v (.int .i64 ((resistanceE v1 v3.2 x1.2 a4).1)), .v (.int .i64 ((resistanceE v1 v3.2 x1.2 a4).2))]) (fs := []) (caps := []) (extra := [.r 1] ++ ([.r 3] ++ ([.r 5] ++ []))) (ltN rfl) en_19 rfl ⟨rfl, rfl, rfl⟩ (EvL.cons rfl (EvL.cons rfl (EvL.cons rfl (EvL.cons rfl EvL.nil)))) (fun mm aa ww gg hr hrel => (c19 v1 ⟨if mm 2 = 0 then none else some ⟨mm 1, 0, none⟩, v1.Thrust.length, mm 2⟩ ⟨if mm 4 = 0 then none else some ⟨mm 3, 0, none⟩, v1.Water.length, mm 4⟩ ⟨if mm 6 = 0 then none else some ⟨mm 5, 0, none⟩, v1.Ice.length, mm 6⟩ v3.2 x1.2 a4 ww (slAt_row (enc := encPt) (l := v1.Thrust) (fun _ => rfl) (by decide) hrel ((hr _ (List.mem_append_left _ (by simp))).trans rfl)) (slAt_row (enc := encPt) (l := v1.Water) (fun _ => rfl) (by decide) hrel ((hr _ (List.mem_append_right _ (List.mem_append_left _ (by simp)))).trans rfl)) (slAt_row (enc := encPt) (l := v1.Ice) (fun _ => rfl) (by decide) hrel ((hr _ (List.mem_append_right _ (List.mem_append_right _ (List.mem_append_left _ (by simp))))).trans rfl))))),
        ok_plain rfl rfl (op_move (ltN rfl) rfl),
        ok_plain rfl rfl (op_extract (ltN rfl) rfl rfl),
        ok_plain rfl rfl (op_extract (ltN rfl) rfl rfl),
        ok_plain rfl rfl (op_assign (ltN rfl) rfl),
        ok_plain rfl rfl (op_assign (ltN rfl) rfl),
        trivial⟩ ?_
      refine fin_keep (s' := [(.t 4, some (.x (.v (.bool a4)))), (.t 11, some (.x (.p 7 0))), (.t 12, some (.x (.p 8 0))), (.t 13, some (.x (.p 9 0))), (.t 14, some (.x (.v (.int .i64 x1.1)))), (.t 15, some (.x (.v (.int .i64 x1.2)))), (.t 17, some (.x (.v (.int .i64 ((resistanceE v1 v3.1 x1.1 a4).2))))), (.t 19, some (.x (.v (.int .i64 ((resistanceE v1 v3.2 x1.1 a4).2))))), (.t 20, some (.x (.v (.int .i64 ((resistanceE v1 v3.1 x1.1 a4).1))))), (.t 21, some (.x (.v (.int .i64 ((resistanceE v1 v3.2 x1.1 a4).1))))), (.t 22, some (.x (.v (.int .i64 ((resistanceE v1 v3.2 x1.2 a4).1))))), (.t 23, some (.x (.v (.int .i64 ((resistanceE v1 v3.2 x1.2 a4).2))))), (.b 7, some (.sh 25 11)), (.b 8, some (.sh 28 4)), (.b 9, some (.sh 28 4)), (.r 1, some (.vec false 2 84 2 (v1.Thrust.flatMap encPt))), (.r 3, some (.vec false 4 84 2 (v1.Water.flatMap encPt))), (.r 5, some (.vec false 6 84 2 (v1.Ice.flatMap encPt))), (.c 7 0, some (.x (.v (.int .i64 v1.Class)))), (.c 7 1, some (.x (.v (.int .i64 v1.Power)))), (.c 7 2, some (.x (.v (.int .i64 v1.Draught)))), (.c 7 3, some (.x (.v (.int .i64 v1.Tonnes)))), (.c 7 4, some (.x (.o 1 2 v1.Thrust.length))), (.c 7 5, some (.x (.o 3 4 v1.Water.length))), (.c 7 6, some (.x (.o 5 6 v1.Ice.length))), (.c 7 7, some (.x (.v (.int .i64 v1.Slow)))), (.c 7 8, some (.x (.v (.int .i64 v1.Brash)))), (.c 7 9, some (.x (.v (.int .i64 v1.Ridge)))), (.c 7 10, some (.x (.v (.int .i64 v1.Press)))), (.c 8 0, some (.x (.v (.int .i64 v3.1.Conc)))), (.c 8 1, some (.x (.v (.int .i64 v3.1.Thick)))), (.c 8 2, some (.x (.v (.int .i64 v3.1.Ridge)))), (.c 8 3, some (.x (.v (.int .i64 v3.1.Press)))), (.c 9 0, some (.x (.v (.int .i64 v3.2.Conc)))), (.c 9 1, some (.x (.v (.int .i64 v3.2.Thick)))), (.c 9 2, some (.x (.v (.int .i64 v3.2.Ridge)))), (.c 9 3, some (.x (.v (.int .i64 v3.2.Press))))]) ?_ ⟨rfl, rfl, rfl, rfl, rfl, rfl, rfl, rfl, rfl, rfl, rfl, rfl, rfl, rfl, rfl, rfl, rfl, rfl, rfl, rfl, rfl, rfl, rfl, rfl, rfl, rfl, rfl, rfl, rfl, rfl, rfl, rfl, rfl, rfl, rfl, rfl, rfl, trivial⟩ rfl
      refine fin_then ?_
      refine aw_seq ?_
      refine aw_seq ?_
      refine aw_text (rows := [_, _, _, _, _, _, _, _, _, _, _, _, _, _, _, _, _, _, _, _]) rfl (by kernel_rfl) ⟨
        ok_plain rfl rfl (op_move (ltN rfl) rfl),
        ok_plain rfl rfl (op_bin (ltN rfl) rfl rfl rfl),
        ok_plain rfl rfl (op_move (ltN rfl) rfl),
        ok_if (ltN rfl) rfl rfl rfl rfl rfl rfl (fun hg12 => op_move (ltN rfl) (force_x rfl)),
        ok_if (ltN rfl) rfl rfl rfl rfl rfl rfl (fun hg13 => op_bin (ltN rfl) (force_eq (beq_iff_eq.2 hg13) rfl) rfl rfl),
        ok_plain rfl rfl (op_or (ltN rfl) rfl rfl),
        ok_plain rfl rfl (op_move (ltN rfl) rfl),
        ok_if (ltN rfl) rfl rfl rfl rfl rfl rfl (fun hg14 => op_move (ltN rfl) (force_x rfl)),
        ok_if (ltN rfl) rfl rfl rfl rfl rfl rfl (fun hg15 => op_bin (ltN rfl) (force_eq (beq_iff_eq.2 hg15) rfl) rfl rfl),
        ok_plain rfl rfl (op_or (ltN rfl) rfl rfl),
        ok_plain rfl rfl (op_move (ltN rfl) rfl),
        ok_if (ltN rfl) rfl rfl rfl rfl rfl rfl (fun hg16 => op_move (ltN rfl) (force_x rfl)),
        ok_if (ltN rfl) rfl rfl rfl rfl rfl rfl (fun hg17 => op_move (ltN rfl) (force_x rfl)),
        ok_if (ltN rfl) rfl rfl rfl rfl rfl rfl (fun hg18 => op_bin (ltN rfl) (force_eq (beq_iff_eq.2 hg18) rfl) (force_eq (beq_iff_eq.2 hg18) rfl) rfl),
        ok_plain rfl rfl (op_or (ltN rfl) rfl rfl),
        ok_plain rfl rfl (op_move (ltN rfl) rfl),
        ok_if (ltN rfl) rfl rfl rfl rfl rfl rfl (fun hg19 => op_move (ltN rfl) (force_x rfl)),
        ok_if (ltN rfl) rfl rfl rfl rfl rfl rfl (fun hg20 => op_move (ltN rfl) (force_x rfl)),
        ok_if (ltN rfl) rfl rfl rfl rfl rfl rfl (fun hg21 => op_bin (ltN rfl) (force_eq (beq_iff_eq.2 hg21) rfl) (force_eq (beq_iff_eq.2 hg21) rfl) rfl),
        ok_plain rfl rfl (op_or (ltN rfl) rfl rfl),
        trivial⟩ ?_
      refine fin_keep (s' := [(.t 4, some (.x (.v (.bool a4)))), (.t 11, some (.x (.p 7 0))), (.t 12, some (.x (.p 8 0))), (.t 13, some (.x (.p 9 0))), (.t 14, some (.x (.v (.int .i64 x1.1)))), (.t 15, some (.x (.v (.int .i64 x1.2)))), (.t 131, some (.x (.v (.bool (((((((resistanceE v1 v3.1 x1.1 a4).2) != 0) || (((resistanceE v1 v3.2 x1.1 a4).2) != 0)) || (((resistanceE v1 v3.2 x1.2 a4).2) != 0)) || (decide (((resistanceE v1 v3.1 x1.1 a4).1) > ((resistanceE v1 v3.2 x1.1 a4).1)))) || (decide (((resistanceE v1 v3.2 x1.1 a4).1) > ((resistanceE v1 v3.2 x1.2 a4).1)))))))), (.b 7, some (.sh 25 11)), (.b 8, some (.sh 28 4)), (.b 9, some (.sh 28 4)), (.r 1, some (.vec false 2 84 2 (v1.Thrust.flatMap encPt))), (.r 3, some (.vec false 4 84 2 (v1.Water.flatMap encPt))), (.r 5, some (.vec false 6 84 2 (v1.Ice.flatMap encPt))), (.c 7 0, some (.x (.v (.int .i64 v1.Class)))), (.c 7 1, some (.x (.v (.int .i64 v1.Power)))), (.c 7 2, some (.x (.v (.int .i64 v1.Draught)))), (.c 7 3, some (.x (.v (.int .i64 v1.Tonnes)))), (.c 7 4, some (.x (.o 1 2 v1.Thrust.length))), (.c 7 5, some (.x (.o 3 4 v1.Water.length))), (.c 7 6, some (.x (.o 5 6 v1.Ice.length))), (.c 7 7, some (.x (.v (.int .i64 v1.Slow)))), (.c 7 8, some (.x (.v (.int .i64 v1.Brash)))), (.c 7 9, some (.x (.v (.int .i64 v1.Ridge)))), (.c 7 10, some (.x (.v (.int .i64 v1.Press)))), (.c 8 0, some (.x (.v (.int .i64 v3.1.Conc)))), (.c 8 1, some (.x (.v (.int .i64 v3.1.Thick)))), (.c 8 2, some (.x (.v (.int .i64 v3.1.Ridge)))), (.c 8 3, some (.x (.v (.int .i64 v3.1.Press)))), (.c 9 0, some (.x (.v (.int .i64 v3.2.Conc)))), (.c 9 1, some (.x (.v (.int .i64 v3.2.Thick)))), (.c 9 2, some (.x (.v (.int .i64 v3.2.Ridge)))), (.c 9 3, some (.x (.v (.int .i64 v3.2.Press))))]) ?_ ⟨rfl, rfl, rfl, rfl, rfl, rfl, rfl, rfl, rfl, rfl, rfl, rfl, rfl, rfl, rfl, rfl, rfl, rfl, rfl, rfl, rfl, rfl, rfl, rfl, rfl, rfl, rfl, rfl, rfl, rfl, rfl, rfl, trivial⟩ rfl
      refine fin_then ?_
      refine aw_cond rfl (fun hz22 => ?_) (fun hz22 => ?_)
      · have hm := brk_t hz22 hm
        refine aw_seq ?_
        refine aw_text (rows := [_]) rfl (by kernel_rfl) ⟨
          ok_plain rfl rfl (op_assign (ltN rfl) rfl),
          trivial⟩ ?_
        refine fin_keep (s' := [(.t 10, some (.x (.v (.bool false))))]) ?_ ⟨rfl, trivial⟩ rfl
        refine fin_then ?_
        refine aw_ret ?_
        refine fin_then_ret ?_
        refine post_ret (x := .v (.bool false)) rfl rfl (resOK_tmp rfl resOK_nil) rfl (fun mm aa ww hr => ?_)
        cases hm
        exact ⟨rfl, hr.below⟩
      · have hm := brk_f hz22 hm
        refine aw_skip ?_
        refine fin_then ?_
        refine aw_seq ?_
        refine aw_text (rows := [_, _, _, _, _, _, _, _, _]) rfl (by kernel_rfl) ⟨
          ok_plain rfl rfl (op_loadN (ys := [.v (.int .i64 v3.1.Conc), .v (.int .i64 v3.1.Thick), .v (.int .i64 v3.1.Ridge), .v (.int .i64 v3.1.Press)]) (ltN rfl) sh_28 rfl rfl ⟨rfl, rfl, rfl, rfl, trivial⟩),
          ok_plain rfl rfl (op_move (ltN rfl) rfl),
          ok_plain rfl rfl (op_move (ltN rfl) rfl),
          ok_plain rfl rfl (op_call (x := .t [.v (.int .i64 ((loadE v3.1 x1.1 a4).1)), .v (.int .i64 ((loadE v3.1 x1.1 a4).2))]) (fs := []) (caps := []) (extra := []) (ltN rfl) en_20 rfl ⟨rfl, rfl, rfl⟩ (EvL.cons rfl (EvL.cons rfl (EvL.cons rfl EvL.nil))) (fun mm aa ww gg hr hrel => (c20 v3.1 x1.1 a4 ww))),
          ok_plain rfl rfl (op_move (ltN rfl) rfl),
          ok_plain rfl rfl (op_extract (ltN rfl) rfl rfl),
          ok_plain rfl rfl (op_extract (ltN rfl) rfl rfl),
          ok_plain rfl rfl (op_assign (ltN rfl) rfl),
          ok_plain rfl rfl (op_assign (ltN rfl) rfl),
          trivial⟩ ?_
        refine fin_keep (s' := [(.t 4, some (.x (.v (.bool a4)))), (.t 11, some (.x (.p 7 0))), (.t 12, some (.x (.p 8 0))), (.t 13, some (.x (.p 9 0))), (.t 14, some (.x (.v (.int .i64 x1.1)))), (.t 15, some (.x (.v (.int .i64 x1.2)))), (.t 17, some (.x (.v (.int .i64 ((loadE v3.1 x1.1 a4).2))))), (.t 20, some (.x (.v (.int .i64 ((loadE v3.1 x1.1 a4).1))))), (.b 7, some (.sh 25 11)), (.b 8, some (.sh 28 4)), (.b 9, some (.sh 28 4)), (.r 1, some (.vec false 2 84 2 (v1.Thrust.flatMap encPt))), (.r 3, some (.vec false 4 84 2 (v1.Water.flatMap encPt))), (.r 5, some (.vec false 6 84 2 (v1.Ice.flatMap encPt))), (.c 7 0, some (.x (.v (.int .i64 v1.Class)))), (.c 7 1, some (.x (.v (.int .i64 v1.Power)))), (.c 7 2, some (.x (.v (.int .i64 v1.Draught)))), (.c 7 3, some (.x (.v (.int .i64 v1.Tonnes)))), (.c 7 4, some (.x (.o 1 2 v1.Thrust.length))), (.c 7 5, some (.x (.o 3 4 v1.Water.length))), (.c 7 6, some (.x (.o 5 6 v1.Ice.length))), (.c 7 7, some (.x (.v (.int .i64 v1.Slow)))), (.c 7 8, some (.x (.v (.int .i64 v1.Brash)))), (.c 7 9, some (.x (.v (.int .i64 v1.Ridge)))), (.c 7 10, some (.x (.v (.int .i64 v1.Press)))), (.c 8 0, some (.x (.v (.int .i64 v3.1.Conc)))), (.c 8 1, some (.x (.v (.int .i64 v3.1.Thick)))), (.c 8 2, some (.x (.v (.int .i64 v3.1.Ridge)))), (.c 8 3, some (.x (.v (.int .i64 v3.1.Press)))), (.c 9 0, some (.x (.v (.int .i64 v3.2.Conc)))), (.c 9 1, some (.x (.v (.int .i64 v3.2.Thick)))), (.c 9 2, some (.x (.v (.int .i64 v3.2.Ridge)))), (.c 9 3, some (.x (.v (.int .i64 v3.2.Press))))]) ?_ ⟨rfl, rfl, rfl, rfl, rfl, rfl, rfl, rfl, rfl, rfl, rfl, rfl, rfl, rfl, rfl, rfl, rfl, rfl, rfl, rfl, rfl, rfl, rfl, rfl, rfl, rfl, rfl, rfl, rfl, rfl, rfl, rfl, rfl, trivial⟩ rfl
        refine fin_then ?_
        refine aw_seq ?_
        refine aw_text (rows := [_, _, _, _, _, _, _, _, _]) rfl (by kernel_rfl) ⟨
          ok_plain rfl rfl (op_loadN (ys := [.v (.int .i64 v3.2.Conc), .v (.int .i64 v3.2.Thick), .v (.int .i64 v3.2.Ridge), .v (.int .i64 v3.2.Press)]) (ltN rfl) sh_28 rfl rfl ⟨rfl, rfl, rfl, rfl, trivial⟩),
          ok_plain rfl rfl (op_move (ltN rfl) rfl),
          ok_plain rfl rfl (op_move (ltN rfl) rfl),
          ok_plain rfl rfl (op_call (x := .t [.v (.int .i64 ((loadE v3.2 x1.1 a4).1)), .v (.int .i64 ((loadE v3.2 x1.1 a4).2))]) (fs := []) (caps := []) (extra := []) (ltN rfl) en_20 rfl ⟨rfl, rfl, rfl⟩ (EvL.cons rfl (EvL.cons rfl (EvL.cons rfl EvL.nil))) (fun mm aa ww gg hr hrel => (c20 v3.2 x1.1 a4 ww))),
          ok_plain rfl rfl (op_move (ltN rfl) rfl),
          ok_plain rfl rfl (op_extract (ltN rfl) rfl rfl),
          ok_plain rfl rfl (op_extract (ltN rfl) rfl rfl),
          ok_plain rfl rfl (op_assign (ltN rfl) rfl),
          ok_plain rfl rfl (op_assign (ltN rfl) rfl),
          trivial⟩ ?_
        refine fin_keep (s' := [(.t 4, some (.x (.v (.bool a4)))), (.t 11, some (.x (.p 7 0))), (.t 12, some (.x (.p 8 0))), (.t 13, some (.x (.p 9 0))), (.t 15, some (.x (.v (.int .i64 x1.2)))), (.t 17, some (.x (.v (.int .i64 ((loadE v3.1 x1.1 a4).2))))), (.t 19, some (.x (.v (.int .i64 ((loadE v3.2 x1.1 a4).2))))), (.t 20, some (.x (.v (.int .i64 ((loadE v3.1 x1.1 a4).1))))), (.t 21, some (.x (.v (.int .i64 ((loadE v3.2 x1.1 a4).1))))), (.b 7, some (.sh 25 11)), (.b 8, some (.sh 28 4)), (.b 9, some (.sh 28 4)), (.r 1, some (.vec false 2 84 2 (v1.Thrust.flatMap encPt))), (.r 3, some (.vec false 4 84 2 (v1.Water.flatMap encPt))), (.r 5, some (.vec false 6 84 2 (v1.Ice.flatMap encPt))), (.c 7 0, some (.x (.v (.int .i64 v1.Class)))), (.c 7 1, some (.x (.v (.int .i64 v1.Power)))), (.c 7 2, some (.x (.v (.int .i64 v1.Draught)))), (.c 7 3, some (.x (.v (.int .i64 v1.Tonnes)))), (.c 7 4, some (.x (.o 1 2 v1.Thrust.length))), (.c 7 5, some (.x (.o 3 4 v1.Water.length))), (.c 7 6, some (.x (.o 5 6 v1.Ice.length))), (.c 7 7, some (.x (.v (.int .i64 v1.Slow)))), (.c 7 8, some (.x (.v (.int .i64 v1.Brash)))), (.c 7 9, some (.x (.v (.int .i64 v1.Ridge)))), (.c 7 10, some (.x (.v (.int .i64 v1.Press)))), (.c 8 0, some (.x (.v (.int .i64 v3.1.Conc)))), (.c 8 1, some (.x (.v (.int .i64 v3.1.Thick)))), (.c 8 2, some (.x (.v (.int .i64 v3.1.Ridge)))), (.c 8 3, some (.x (.v (.int .i64 v3.1.Press)))), (.c 9 0, some (.x (.v (.int .i64 v3.2.Conc)))), (.c 9 1, some (.x (.v (.int .i64 v3.2.Thick)))), (.c 9 2, some (.x (.v (.int .i64 v3.2.Ridge)))), (.c 9 3, some (.x (.v (.int .i64 v3.2.Press))))]) ?_ ⟨rfl, rfl, rfl, rfl, rfl, rfl, rfl, rfl, rfl, rfl, rfl, rfl, rfl, rfl, rfl, rfl, rfl, rfl, rfl, rfl, rfl, rfl, rfl, rfl, rfl, rfl, rfl, rfl, rfl, rfl, rfl, rfl, rfl, rfl, trivial⟩ rfl
        refine fin_then ?_
        refine aw_seq ?_
        refine aw_text (rows := [_, _, _, _, _, _, _, _, _]) rfl (by kernel_rfl) ⟨
          ok_plain rfl rfl (op_loadN (ys := [.v (.int .i64 v3.2.Conc), .v (.int .i64 v3.2.Thick), .v (.int .i64 v3.2.Ridge), .v (.int .i64 v3.2.Press)]) (ltN rfl) sh_28 rfl rfl ⟨rfl, rfl, rfl, rfl, trivial⟩),
          ok_plain rfl rfl (op_move (ltN rfl) rfl),
          ok_plain rfl rfl (op_move (ltN rfl) rfl),
          ok_plain rfl rfl (op_call (x := .t [.v (.int .i64 ((loadE v3.2 x1.2 a4).1)), .v (.int .i64 ((loadE v3.2 x1.2 a4).2))]) (fs := []) (caps := []) (extra := []) (ltN rfl) en_20 rfl ⟨rfl, rfl, rfl⟩ (EvL.cons rfl (EvL.cons rfl (EvL.cons rfl EvL.nil))) (fun mm aa ww gg hr hrel => (c20 v3.2 x1.2 a4 ww))),
          ok_plain rfl rfl (op_move (ltN rfl) rfl),
          ok_plain rfl rfl (op_extract (ltN rfl) rfl rfl),
          ok_plain rfl rfl (op_extract (ltN rfl) rfl rfl),
          ok_plain rfl rfl (op_assign (ltN rfl) rfl),
          ok_plain rfl rfl (op_assign (ltN rfl) rfl),
          trivial⟩ ?_
        refine fin_keep (s' := [(.t 11, some (.x (.p 7 0))), (.t 12, some (.x (.p 8 0))), (.t 13, some (.x (.p 9 0))), (.t 15, some (.x (.v (.int .i64 x1.2)))), (.t 17, some (.x (.v (.int .i64 ((loadE v3.1 x1.1 a4).2))))), (.t 19, some (.x (.v (.int .i64 ((loadE v3.2 x1.1 a4).2))))), (.t 20, some (.x (.v (.int .i64 ((loadE v3.1 x1.1 a4).1))))), (.t 21, some (.x (.v (.int .i64 ((loadE v3.2 x1.1 a4).1))))), (.t 22, some (.x (.v (.int .i64 ((loadE v3.2 x1.2 a4).1))))), (.t 23, some (.x (.v (.int .i64 ((loadE v3.2 x1.2 a4).2))))), (.b 7, some (.sh 25 11)), (.b 8, some (.sh 28 4)), (.b 9, some (.sh 28 4)), (.r 1, some (.vec false 2 84 2 (v1.Thrust.flatMap encPt))), (.r 3, some (.vec false 4 84 2 (v1.Water.flatMap encPt))), (.r 5, some (.vec false 6 84 2 (v1.Ice.flatMap encPt))), (.c 7 0, some (.x (.v (.int .i64 v1.Class)))), (.c 7 1, some (.x (.v (.int .i64 v1.Power)))), (.c 7 2, some (.x (.v (.int .i64 v1.Draught)))), (.c 7 3, some (.x (.v (.int .i64 v1.Tonnes)))), (.c 7 4, some (.x (.o 1 2 v1.Thrust.length))), (.c 7 5, some (.x (.o 3 4 v1.Water.length))), (.c 7 6, some (.x (.o 5 6 v1.Ice.length))), (.c 7 7, some (.x (.v (.int .i64 v1.Slow)))), (.c 7 8, some (.x (.v (.int .i64 v1.Brash)))), (.c 7 9, some (.x (.v (.int .i64 v1.Ridge)))), (.c 7 10, some (.x (.v (.int .i64 v1.Press)))), (.c 8 0, some (.x (.v (.int .i64 v3.1.Conc)))), (.c 8 1, some (.x (.v (.int .i64 v3.1.Thick)))), (.c 8 2, some (.x (.v (.int .i64 v3.1.Ridge)))), (.c 8 3, some (.x (.v (.int .i64 v3.1.Press)))), (.c 9 0, some (.x (.v (.int .i64 v3.2.Conc)))), (.c 9 1, some (.x (.v (.int .i64 v3.2.Thick)))), (.c 9 2, some (.x (.v (.int .i64 v3.2.Ridge)))), (.c 9 3, some (.x (.v (.int .i64 v3.2.Press))))]) ?_ ⟨rfl, rfl, rfl, rfl, rfl, rfl, rfl, rfl, rfl, rfl, rfl, rfl, rfl, rfl, rfl, rfl, rfl, rfl, rfl, rfl, rfl, rfl, rfl, rfl, rfl, rfl, rfl, rfl, rfl, rfl, rfl, rfl, rfl, rfl, rfl, trivial⟩ rfl
        refine fin_then ?_
        refine aw_seq ?_
        refine aw_seq ?_
        refine aw_text (rows := [_, _, _, _, _, _, _, _, _, _, _, _, _, _, _, _, _, _, _, _]) rfl (by kernel_rfl) ⟨
          ok_plain rfl rfl (op_move (ltN rfl) rfl),
          ok_plain rfl rfl (op_bin (ltN rfl) rfl rfl rfl),
          ok_plain rfl rfl (op_move (ltN rfl) rfl),
          ok_if (ltN rfl) rfl rfl rfl rfl rfl rfl (fun hg23 => op_move (ltN rfl) (force_x rfl)),
          ok_if (ltN rfl) rfl rfl rfl rfl rfl rfl (fun hg24 => op_bin (ltN rfl) (force_eq (beq_iff_eq.2 hg24) rfl) rfl rfl),
          ok_plain rfl rfl (op_or (ltN rfl) rfl rfl),
          ok_plain rfl rfl (op_move (ltN rfl) rfl),
          ok_if (ltN rfl) rfl rfl rfl rfl rfl rfl (fun hg25 => op_move (ltN rfl) (force_x rfl)),
          ok_if (ltN rfl) rfl rfl rfl rfl rfl rfl (fun hg26 => op_bin (ltN rfl) (force_eq (beq_iff_eq.2 hg26) rfl) rfl rfl),
          ok_plain rfl rfl (op_or (ltN rfl) rfl rfl),
          ok_plain rfl rfl (op_move (ltN rfl) rfl),
          ok_if (ltN rfl) rfl rfl rfl rfl rfl rfl (fun hg27 => op_move (ltN rfl) (force_x rfl)),
          ok_if (ltN rfl) rfl rfl rfl rfl rfl rfl (fun hg28 => op_move (ltN rfl) (force_x rfl)),
          ok_if (ltN rfl) rfl rfl rfl rfl rfl rfl (fun hg29 => op_bin (ltN rfl) (force_eq (beq_iff_eq.2 hg29) rfl) (force_eq (beq_iff_eq.2 hg29) rfl) rfl),
          ok_plain rfl rfl (op_or (ltN rfl) rfl rfl),
          ok_plain rfl rfl (op_move (ltN rfl) rfl),
          ok_if (ltN rfl) rfl rfl rfl rfl rfl rfl (fun hg30 => op_move (ltN rfl) (force_x rfl)),
          ok_if (ltN rfl) rfl rfl rfl rfl rfl rfl (fun hg31 => op_move (ltN rfl) (force_x rfl)),
          ok_if (ltN rfl) rfl rfl rfl rfl rfl rfl (fun hg32 => op_bin (ltN rfl) (force_eq (beq_iff_eq.2 hg32) rfl) (force_eq (beq_iff_eq.2 hg32) rfl) rfl),
          ok_plain rfl rfl (op_or (ltN rfl) rfl rfl),
          trivial⟩ ?_
        refine fin_keep (s' := [(.t 11, some (.x (.p 7 0))), (.t 12, some (.x (.p 8 0))), (.t 13, some (.x (.p 9 0))), (.t 15, some (.x (.v (.int .i64 x1.2)))), (.t 172, some (.x (.v (.bool (((((((loadE v3.1 x1.1 a4).2) != 0) || (((loadE v3.2 x1.1 a4).2) != 0)) || (((loadE v3.2 x1.2 a4).2) != 0)) || (decide (((loadE v3.1 x1.1 a4).1) > ((loadE v3.2 x1.1 a4).1)))) || (decide (((loadE v3.2 x1.1 a4).1) > ((loadE v3.2 x1.2 a4).1)))))))), (.b 7, some (.sh 25 11)), (.b 8, some (.sh 28 4)), (.b 9, some (.sh 28 4)), (.r 1, some (.vec false 2 84 2 (v1.Thrust.flatMap encPt))), (.r 3, some (.vec false 4 84 2 (v1.Water.flatMap encPt))), (.r 5, some (.vec false 6 84 2 (v1.Ice.flatMap encPt))), (.c 7 0, some (.x (.v (.int .i64 v1.Class)))), (.c 7 1, some (.x (.v (.int .i64 v1.Power)))), (.c 7 2, some (.x (.v (.int .i64 v1.Draught)))), (.c 7 3, some (.x (.v (.int .i64 v1.Tonnes)))), (.c 7 4, some (.x (.o 1 2 v1.Thrust.length))), (.c 7 5, some (.x (.o 3 4 v1.Water.length))), (.c 7 6, some (.x (.o 5 6 v1.Ice.length))), (.c 7 7, some (.x (.v (.int .i64 v1.Slow)))), (.c 7 8, some (.x (.v (.int .i64 v1.Brash)))), (.c 7 9, some (.x (.v (.int .i64 v1.Ridge)))), (.c 7 10, some (.x (.v (.int .i64 v1.Press)))), (.c 8 0, some (.x (.v (.int .i64 v3.1.Conc)))), (.c 8 1, some (.x (.v (.int .i64 v3.1.Thick)))), (.c 8 2, some (.x (.v (.int .i64 v3.1.Ridge)))), (.c 8 3, some (.x (.v (.int .i64 v3.1.Press)))), (.c 9 0, some (.x (.v (.int .i64 v3.2.Conc)))), (.c 9 1, some (.x (.v (.int .i64 v3.2.Thick)))), (.c 9 2, some (.x (.v (.int .i64 v3.2.Ridge)))), (.c 9 3, some (.x (.v (.int .i64 v3.2.Press))))]) ?_ ⟨rfl, rfl, rfl, rfl, rfl, rfl, rfl, rfl, rfl, rfl, rfl, rfl, rfl, rfl, rfl, rfl, rfl, rfl, rfl, rfl, rfl, rfl, rfl, rfl, rfl, rfl, rfl, rfl, rfl, rfl, trivial⟩ rfl
        refine fin_then ?_
        refine aw_cond rfl (fun hz33 => ?_) (fun hz33 => ?_)
        · have hm := brk_t hz33 hm
          refine aw_seq ?_
          refine aw_text (rows := [_]) rfl (by kernel_rfl) ⟨
            ok_plain rfl rfl (op_assign (ltN rfl) rfl),
            trivial⟩ ?_
          refine fin_keep (s' := [(.t 10, some (.x (.v (.bool false))))]) ?_ ⟨rfl, trivial⟩ rfl
          refine fin_then ?_
          refine aw_ret ?_
          refine fin_then_ret ?_
          refine post_ret (x := .v (.bool false)) rfl rfl (resOK_tmp rfl resOK_nil) rfl (fun mm aa ww hr => ?_)
          cases hm
          exact ⟨rfl, hr.below⟩
        · have hm := brk_f hz33 hm
          refine aw_skip ?_
          refine fin_then ?_
          refine aw_cutM (ι := Unit) hm (fun x2 => []) (fun hm => ?_) (fun x2 hm => ?_)
          · have _z := hm
            refine aw_seq ?_
            refine aw_text (rows := [_, _, _, _, _]) rfl (by kernel_rfl) ⟨
              ok_plain rfl rfl (op_loadN (ys := [.v (.int .i64 v3.1.Conc), .v (.int .i64 v3.1.Thick), .v (.int .i64 v3.1.Ridge), .v (.int .i64 v3.1.Press)]) (ltN rfl) sh_28 rfl rfl ⟨rfl, rfl, rfl, rfl, trivial⟩),
              ok_plain rfl rfl (op_loadN (ys := [.v (.int .i64 v3.2.Conc), .v (.int .i64 v3.2.Thick), .v (.int .i64 v3.2.Ridge), .v (.int .i64 v3.2.Press)]) (ltN rfl) sh_28 rfl rfl ⟨rfl, rfl, rfl, rfl, trivial⟩),
              ok_plain rfl rfl (op_buildSlice (L := 10) (ety := 28) (cs := [.v (.int .i64 v3.1.Conc), .v (.int .i64 v3.1.Thick), .v (.int .i64 v3.1.Ridge), .v (.int .i64 v3.1.Press), .v (.int .i64 v3.2.Conc), .v (.int .i64 v3.2.Thick), .v (.int .i64 v3.2.Ridge), .v (.int .i64 v3.2.Press)]) (ltN rfl) (EvL.cons rfl (EvL.cons rfl EvL.nil)) rfl (fun m w => by kernel_rfl)),
              ok_plain rfl rfl (op_len (n := 2) (ltN rfl) (by rw [ss_41]; rfl) rfl rfl),
              ok_plain rfl rfl (op_move (ltN rfl) rfl),
              trivial⟩ ?_
            refine fin_keep (s' := [(.t 11, some (.x (.p 7 0))), (.t 15, some (.x (.v (.int .i64 x1.2)))), (.t 175, some (.x (.s 10 0 2 2))), (.t 176, some (.x (.v (.int .i64 2)))), (.t 177, some (.x (.v (.int .i64 0)))), (.b 7, some (.sh 25 11)), (.b 10, some (.sh 28 8)), (.r 1, some (.vec false 2 84 2 (v1.Thrust.flatMap encPt))), (.r 3, some (.vec false 4 84 2 (v1.Water.flatMap encPt))), (.r 5, some (.vec false 6 84 2 (v1.Ice.flatMap encPt))), (.c 7 0, some (.x (.v (.int .i64 v1.Class)))), (.c 7 1, some (.x (.v (.int .i64 v1.Power)))), (.c 7 2, some (.x (.v (.int .i64 v1.Draught)))), (.c 7 3, some (.x (.v (.int .i64 v1.Tonnes)))), (.c 7 4, some (.x (.o 1 2 v1.Thrust.length))), (.c 7 5, some (.x (.o 3 4 v1.Water.length))), (.c 7 6, some (.x (.o 5 6 v1.Ice.length))), (.c 7 7, some (.x (.v (.int .i64 v1.Slow)))), (.c 7 8, some (.x (.v (.int .i64 v1.Brash)))), (.c 7 9, some (.x (.v (.int .i64 v1.Ridge)))), (.c 7 10, some (.x (.v (.int .i64 v1.Press)))), (.c 10 0, some (.x (.v (.int .i64 v3.1.Conc)))), (.c 10 1, some (.x (.v (.int .i64 v3.1.Thick)))), (.c 10 2, some (.x (.v (.int .i64 v3.1.Ridge)))), (.c 10 3, some (.x (.v (.int .i64 v3.1.Press)))), (.c 10 4, some (.x (.v (.int .i64 v3.2.Conc)))), (.c 10 5, some (.x (.v (.int .i64 v3.2.Thick)))), (.c 10 6, some (.x (.v (.int .i64 v3.2.Ridge)))), (.c 10 7, some (.x (.v (.int .i64 v3.2.Press))))]) ?_ ⟨rfl, rfl, rfl, rfl, rfl, rfl, rfl, rfl, rfl, rfl, rfl, rfl, rfl, rfl, rfl, rfl, rfl, rfl, rfl, rfl, rfl, rfl, rfl, rfl, rfl, rfl, rfl, rfl, rfl, trivial⟩ rfl
            refine fin_then ?_
            refine aw_block ?_
            refine aw_toRow (.t 175) 10 11 2 4 [(.int .i64 v3.1.Conc), (.int .i64 v3.1.Thick), (.int .i64 v3.1.Ridge), (.int .i64 v3.1.Press), (.int .i64 v3.2.Conc), (.int .i64 v3.2.Thick), (.int .i64 v3.2.Ridge), (.int .i64 v3.2.Press)] rfl rfl rfl rfl (by decide) ⟨rfl, rfl, rfl, rfl, rfl, rfl, rfl, rfl, trivial⟩ rfl (by decide) rfl ?_
            refine aw_swp [(10, 300), (11, 301)] rfl ?_
            refine aw_loopC hm (fun x3 => [(.t 11, some (.x (.p 7 0))), (.t 15, some (.x (.v (.int .i64 x1.2)))), (.t 175, some (.x (.o 300 301 x3.1.length))), (.t 176, some (.x (.v (.int .i64 2)))), (.t 177, some (.x (.v (.int .i64 x3.2)))), (.b 7, some (.sh 25 11)), (.r 1, some (.vec false 2 84 2 (v1.Thrust.flatMap encPt))), (.r 3, some (.vec false 4 84 2 (v1.Water.flatMap encPt))), (.r 5, some (.vec false 6 84 2 (v1.Ice.flatMap encPt))), (.r 300, some (.vec true 301 28 4 (x3.1.flatMap encIce))), (.c 7 0, some (.x (.v (.int .i64 v1.Class)))), (.c 7 1, some (.x (.v (.int .i64 v1.Power)))), (.c 7 2, some (.x (.v (.int .i64 v1.Draught)))), (.c 7 3, some (.x (.v (.int .i64 v1.Tonnes)))), (.c 7 4, some (.x (.o 1 2 v1.Thrust.length))), (.c 7 5, some (.x (.o 3 4 v1.Water.length))), (.c 7 6, some (.x (.o 5 6 v1.Ice.length))), (.c 7 7, some (.x (.v (.int .i64 v1.Slow)))), (.c 7 8, some (.x (.v (.int .i64 v1.Brash)))), (.c 7 9, some (.x (.v (.int .i64 v1.Ridge)))), (.c 7 10, some (.x (.v (.int .i64 v1.Press))))]) ⟨rfl, rfl, rfl, rfl, rfl, rfl, rfl, rfl, rfl, rfl, rfl, rfl, rfl, rfl, rfl, rfl, rfl, rfl, rfl, rfl, rfl, trivial⟩ rfl (fun x3 n3 hm => ?_)
            refine aw_seq ?_
            refine aw_text (rows := [_]) rfl (by kernel_rfl) ⟨
              ok_plain rfl rfl (op_bin (ltN rfl) rfl rfl rfl),
              trivial⟩ ?_
            refine fin_keep (s' := [(.t 11, some (.x (.p 7 0))), (.t 15, some (.x (.v (.int .i64 x1.2)))), (.t 175, some (.x (.o 300 301 x3.1.length))), (.t 176, some (.x (.v (.int .i64 2)))), (.t 177, some (.x (.v (.int .i64 x3.2)))), (.t 178, some (.x (.v (.bool (decide (x3.2 < 2)))))), (.b 7, some (.sh 25 11)), (.r 1, some (.vec false 2 84 2 (v1.Thrust.flatMap encPt))), (.r 3, some (.vec false 4 84 2 (v1.Water.flatMap encPt))), (.r 5, some (.vec false 6 84 2 (v1.Ice.flatMap encPt))), (.r 300, some (.vec true 301 28 4 (x3.1.flatMap encIce))), (.c 7 0, some (.x (.v (.int .i64 v1.Class)))), (.c 7 1, some (.x (.v (.int .i64 v1.Power)))), (.c 7 2, some (.x (.v (.int .i64 v1.Draught)))), (.c 7 3, some (.x (.v (.int .i64 v1.Tonnes)))), (.c 7 4, some (.x (.o 1 2 v1.Thrust.length))), (.c 7 5, some (.x (.o 3 4 v1.Water.length))), (.c 7 6, some (.x (.o 5 6 v1.Ice.length))), (.c 7 7, some (.x (.v (.int .i64 v1.Slow)))), (.c 7 8, some (.x (.v (.int .i64 v1.Brash)))), (.c 7 9, some (.x (.v (.int .i64 v1.Ridge)))), (.c 7 10, some (.x (.v (.int .i64 v1.Press))))]) ?_ ⟨rfl, rfl, rfl, rfl, rfl, rfl, rfl, rfl, rfl, rfl, rfl, rfl, rfl, rfl, rfl, rfl, rfl, rfl, rfl, rfl, rfl, rfl, trivial⟩ rfl
            refine fin_then ?_
            refine aw_seq ?_
            refine aw_cond rfl (fun hz34 => ?_) (fun hz34 => ?_)
            · have hm := brk_t hz34 hm
              refine aw_skip ?_
              refine fin_then ?_
              refine aw_seq ?_
              refine aw_block ?_
              refine aw_seq ?_
              obtain ⟨hp35, hm⟩ := chk_some hm
              refine aw_text (rows := [_, _, _, _]) rfl (by kernel_rfl) ⟨
                ok_plain rfl rfl (op_ixO (ltN rfl) rfl rfl ss_41 rfl (flat_ne (enc := encIce) (k := 4) (fun _ => rfl) (by decide) (i := x3.2) hp35.1 hp35.2) hp35.1 hp35.2),
                ok_plain rfl rfl (op_loadON (vs := [(.int .i64 (((x3.1.getD x3.2.toNat default)).Conc)), (.int .i64 (((x3.1.getD x3.2.toNat default)).Thick)), (.int .i64 (((x3.1.getD x3.2.toNat default)).Ridge)), (.int .i64 (((x3.1.getD x3.2.toNat default)).Press))]) (ltN rfl) sh_28 rfl rfl rfl (fun zq zv zh => flat_sub (k := 4) (l := x3.1) (enc := encIce) (fun _ => rfl) default (i := x3.2) hp35.1 hp35.2 0 (vs := [(.int .i64 (((x3.1.getD x3.2.toNat default)).Conc)), (.int .i64 (((x3.1.getD x3.2.toNat default)).Thick)), (.int .i64 (((x3.1.getD x3.2.toNat default)).Ridge)), (.int .i64 (((x3.1.getD x3.2.toNat default)).Press))]) rfl zh)),
                ok_plain rfl rfl (op_alloc (L := 12) (ltN rfl) zl_28),
                ok_plain rfl rfl (op_storeN sz_28 rfl rfl rfl rfl rfl (by decide)),
                trivial⟩ ?_
              refine fin_keep (s' := [(.t 11, some (.x (.p 7 0))), (.t 15, some (.x (.v (.int .i64 x1.2)))), (.t 25, some (.x (.p 12 0))), (.t 175, some (.x (.o 300 301 x3.1.length))), (.t 176, some (.x (.v (.int .i64 2)))), (.t 177, some (.x (.v (.int .i64 x3.2)))), (.b 7, some (.sh 25 11)), (.b 12, some (.sh 28 4)), (.r 1, some (.vec false 2 84 2 (v1.Thrust.flatMap encPt))), (.r 3, some (.vec false 4 84 2 (v1.Water.flatMap encPt))), (.r 5, some (.vec false 6 84 2 (v1.Ice.flatMap encPt))), (.r 300, some (.vec true 301 28 4 (x3.1.flatMap encIce))), (.c 7 0, some (.x (.v (.int .i64 v1.Class)))), (.c 7 1, some (.x (.v (.int .i64 v1.Power)))), (.c 7 2, some (.x (.v (.int .i64 v1.Draught)))), (.c 7 3, some (.x (.v (.int .i64 v1.Tonnes)))), (.c 7 4, some (.x (.o 1 2 v1.Thrust.length))), (.c 7 5, some (.x (.o 3 4 v1.Water.length))), (.c 7 6, some (.x (.o 5 6 v1.Ice.length))), (.c 7 7, some (.x (.v (.int .i64 v1.Slow)))), (.c 7 8, some (.x (.v (.int .i64 v1.Brash)))), (.c 7 9, some (.x (.v (.int .i64 v1.Ridge)))), (.c 7 10, some (.x (.v (.int .i64 v1.Press)))), (.c 12 0, some (.x (.v (.int .i64 (((x3.1.getD x3.2.toNat default)).Conc))))), (.c 12 1, some (.x (.v (.int .i64 (((x3.1.getD x3.2.toNat default)).Thick))))), (.c 12 2, some (.x (.v (.int .i64 (((x3.1.getD x3.2.toNat default)).Ridge))))), (.c 12 3, some (.x (.v (.int .i64 (((x3.1.getD x3.2.toNat default)).Press)))))]) ?_ ⟨rfl, rfl, rfl, rfl, rfl, rfl, rfl, rfl, rfl, rfl, rfl, rfl, rfl, rfl, rfl, rfl, rfl, rfl, rfl, rfl, rfl, rfl, rfl, rfl, rfl, rfl, rfl, trivial⟩ rfl
              refine fin_then ?_
              refine aw_seq ?_
              refine aw_text (rows := [_, _, _, _, _, _, _, _]) rfl (by kernel_rfl) ⟨
                ok_plain rfl rfl (op_loadN (ys := [.v (.int .i64 v1.Class), .v (.int .i64 v1.Power), .v (.int .i64 v1.Draught), .v (.int .i64 v1.Tonnes), .o 1 2 v1.Thrust.length, .o 3 4 v1.Water.length, .o 5 6 v1.Ice.length, .v (.int .i64 v1.Slow), .v (.int .i64 v1.Brash), .v (.int .i64 v1.Ridge), .v (.int .i64 v1.Press)]) (ltN rfl) sh_25 rfl rfl ⟨rfl, rfl, rfl, rfl, rfl, rfl, rfl, rfl, rfl, rfl, rfl, trivial⟩),
                ok_plain rfl rfl (op_loadN (ys := [.v (.int .i64 (((x3.1.getD x3.2.toNat default)).Conc)), .v (.int .i64 (((x3.1.getD x3.2.toNat default)).Thick)), .v (.int .i64 (((x3.1.getD x3.2.toNat default)).Ridge)), .v (.int .i64 (((x3.1.getD x3.2.toNat default)).Press))]) (ltN rfl) sh_28 rfl rfl ⟨rfl, rfl, rfl, rfl, trivial⟩),
                ok_plain rfl rfl (op_call (x := .t [.v (.int .i64 ((speedE v1 ((x3.1.getD x3.2.toNat default)) false).1)), .v (.int .i64 ((speedE v1 ((x3.1.getD x3.2.toNat default)) false).2))]) (fs := []) (caps := []) (extra := [.r 1] ++ ([.r 3] ++ ([.r 5] ++ []))) (ltN rfl) en_18 rfl ⟨rfl, rfl, rfl⟩ (EvL.cons rfl (EvL.cons rfl (EvL.cons rfl EvL.nil))) (fun mm aa ww gg hr hrel => (c18 v1 ⟨if mm 2 = 0 then none else some ⟨mm 1, 0, none⟩, v1.Thrust.length, mm 2⟩ ⟨if mm 4 = 0 then none else some ⟨mm 3, 0, none⟩, v1.Water.length, mm 4⟩ ⟨if mm 6 = 0 then none else some ⟨mm 5, 0, none⟩, v1.Ice.length, mm 6⟩ ((x3.1.getD x3.2.toNat default)) false ww (slAt_row (enc := encPt) (l := v1.Thrust) (fun _ => rfl) (by decide) hrel ((hr _ (List.mem_append_left _ (by simp))).trans rfl)) (slAt_row (enc := encPt) (l := v1.Water) (fun _ => rfl) (by decide) hrel ((hr _ (List.mem_append_right _ (List.mem_append_left _ (by simp)))).trans rfl)) (slAt_row (enc := encPt) (l := v1.Ice) (fun _ => rfl) (by decide) hrel ((hr _ (List.mem_append_right _ (List.mem_append_right _ (List.mem_append_left _ (by simp))))).trans rfl))))),
                ok_plain rfl rfl (op_move (ltN rfl) rfl),
                ok_plain rfl rfl (op_extract (ltN rfl) rfl rfl),
                ok_plain rfl rfl (op_extract (ltN rfl) rfl rfl),
                ok_plain rfl rfl (op_assign (ltN rfl) rfl),
                ok_plain rfl rfl (op_assign (ltN rfl) rfl),
                trivial⟩ ?_
              refine fin_keep (s' := [(.t 11, some (.x (.p 7 0))), (.t 15, some (.x (.v (.int .i64 x1.2)))), (.t 25, some (.x (.p 12 0))), (.t 26, some (.x (.v (.int .i64 ((speedE v1 ((x3.1.getD x3.2.toNat default)) false).1))))), (.t 27, some (.x (.v (.int .i64 ((speedE v1 ((x3.1.getD x3.2.toNat default)) false).2))))), (.t 175, some (.x (.o 300 301 x3.1.length))), (.t 176, some (.x (.v (.int .i64 2)))), (.t 177, some (.x (.v (.int .i64 x3.2)))), (.b 7, some (.sh 25 11)), (.b 12, some (.sh 28 4)), (.r 1, some (.vec false 2 84 2 (v1.Thrust.flatMap encPt))), (.r 3, some (.vec false 4 84 2 (v1.Water.flatMap encPt))), (.r 5, some (.vec false 6 84 2 (v1.Ice.flatMap encPt))), (.r 300, some (.vec true 301 28 4 (x3.1.flatMap encIce))), (.c 7 0, some (.x (.v (.int .i64 v1.Class)))), (.c 7 1, some (.x (.v (.int .i64 v1.Power)))), (.c 7 2, some (.x (.v (.int .i64 v1.Draught)))), (.c 7 3, some (.x (.v (.int .i64 v1.Tonnes)))), (.c 7 4, some (.x (.o 1 2 v1.Thrust.length))), (.c 7 5, some (.x (.o 3 4 v1.Water.length))), (.c 7 6, some (.x (.o 5 6 v1.Ice.length))), (.c 7 7, some (.x (.v (.int .i64 v1.Slow)))), (.c 7 8, some (.x (.v (.int .i64 v1.Brash)))), (.c 7 9, some (.x (.v (.int .i64 v1.Ridge)))), (.c 7 10, some (.x (.v (.int .i64 v1.Press)))), (.c 12 0, some (.x (.v (.int .i64 (((x3.1.getD x3.2.toNat default)).Conc))))), (.c 12 1, some (.x (.v (.int .i64 (((x3.1.getD x3.2.toNat default)).Thick))))), (.c 12 2, some (.x (.v (.int .i64 (((x3.1.getD x3.2.toNat default)).Ridge))))), (.c 12 3, some (.x (.v (.int .i64 (((x3.1.getD x3.2.toNat default)).Press)))))]) ?_ ⟨rfl, rfl, rfl, rfl, rfl, rfl, rfl, rfl, rfl, rfl, rfl, rfl, rfl, rfl, rfl, rfl, rfl, rfl, rfl, rfl, rfl, rfl, rfl, rfl, rfl, rfl, rfl, rfl, rfl, trivial⟩ rfl
              refine fin_then ?_
              refine aw_seq ?_
              refine aw_text (rows := [_, _, _, _, _, _, _, _]) rfl (by kernel_rfl) ⟨
                ok_plain rfl rfl (op_loadN (ys := [.v (.int .i64 v1.Class), .v (.int .i64 v1.Power), .v (.int .i64 v1.Draught), .v (.int .i64 v1.Tonnes), .o 1 2 v1.Thrust.length, .o 3 4 v1.Water.length, .o 5 6 v1.Ice.length, .v (.int .i64 v1.Slow), .v (.int .i64 v1.Brash), .v (.int .i64 v1.Ridge), .v (.int .i64 v1.Press)]) (ltN rfl) sh_25 rfl rfl ⟨rfl, rfl, rfl, rfl, rfl, rfl, rfl, rfl, rfl, rfl, rfl, trivial⟩),
                ok_plain rfl rfl (op_loadN (ys := [.v (.int .i64 (((x3.1.getD x3.2.toNat default)).Conc)), .v (.int .i64 (((x3.1.getD x3.2.toNat default)).Thick)), .v (.int .i64 (((x3.1.getD x3.2.toNat default)).Ridge)), .v (.int .i64 (((x3.1.getD x3.2.toNat default)).Press))]) (ltN rfl) sh_28 rfl rfl ⟨rfl, rfl, rfl, rfl, trivial⟩),
                ok_plain rfl rfl (op_call (x := .t [.v (.int .i64 ((speedE v1 ((x3.1.getD x3.2.toNat default)) true).1)), .v (.int .i64 ((speedE v1 ((x3.1.getD x3.2.toNat default)) true).2))]) (fs := []) (caps := []) (extra := [.r 1] ++ ([.r 3] ++ ([.r 5] ++ []))) (ltN rfl) en_18 rfl ⟨rfl, rfl, rfl⟩ (EvL.cons rfl (EvL.cons rfl (EvL.cons rfl EvL.nil))) (fun mm aa ww gg hr hrel => (c18 v1 ⟨if mm 2 = 0 then none else some ⟨mm 1, 0, none⟩, v1.Thrust.length, mm 2⟩ ⟨if mm 4 = 0 then none else some ⟨mm 3, 0, none⟩, v1.Water.length, mm 4⟩ ⟨if mm 6 = 0 then none else some ⟨mm 5, 0, none⟩, v1.Ice.length, mm 6⟩ ((x3.1.getD x3.2.toNat default)) true ww (slAt_row (enc := encPt) (l := v1.Thrust) (fun _ => rfl) (by decide) hrel ((hr _ (List.mem_append_left _ (by simp))).trans rfl)) (slAt_row (enc := encPt) (l := v1.Water) (fun _ => rfl) (by decide) hrel ((hr _ (List.mem_append_right _ (List.mem_append_left _ (by simp)))).trans rfl)) (slAt_row (enc := encPt) (l := v1.Ice) (fun _ => rfl) (by decide) hrel ((hr _ (List.mem_append_right _ (List.mem_append_right _ (List.mem_append_left _ (by simp))))).trans rfl))))),
                ok_plain rfl rfl (op_move (ltN rfl) rfl),
                ok_plain rfl rfl (op_extract (ltN rfl) rfl rfl),
                ok_plain rfl rfl (op_extract (ltN rfl) rfl rfl),
                ok_plain rfl rfl (op_assign (ltN rfl) rfl),
                ok_plain rfl rfl (op_assign (ltN rfl) rfl),
                trivial⟩ ?_
              refine fin_keep (s' := [(.t 11, some (.x (.p 7 0))), (.t 15, some (.x (.v (.int .i64 x1.2)))), (.t 25, some (.x (.p 12 0))), (.t 26, some (.x (.v (.int .i64 ((speedE v1 ((x3.1.getD x3.2.toNat default)) false).1))))), (.t 27, some (.x (.v (.int .i64 ((speedE v1 ((x3.1.getD x3.2.toNat default)) false).2))))), (.t 28, some (.x (.v (.int .i64 ((speedE v1 ((x3.1.getD x3.2.toNat default)) true).1))))), (.t 29, some (.x (.v (.int .i64 ((speedE v1 ((x3.1.getD x3.2.toNat default)) true).2))))), (.t 175, some (.x (.o 300 301 x3.1.length))), (.t 176, some (.x (.v (.int .i64 2)))), (.t 177, some (.x (.v (.int .i64 x3.2)))), (.b 7, some (.sh 25 11)), (.b 12, some (.sh 28 4)), (.r 1, some (.vec false 2 84 2 (v1.Thrust.flatMap encPt))), (.r 3, some (.vec false 4 84 2 (v1.Water.flatMap encPt))), (.r 5, some (.vec false 6 84 2 (v1.Ice.flatMap encPt))), (.r 300, some (.vec true 301 28 4 (x3.1.flatMap encIce))), (.c 7 0, some (.x (.v (.int .i64 v1.Class)))), (.c 7 1, some (.x (.v (.int .i64 v1.Power)))), (.c 7 2, some (.x (.v (.int .i64 v1.Draught)))), (.c 7 3, some (.x (.v (.int .i64 v1.Tonnes)))), (.c 7 4, some (.x (.o 1 2 v1.Thrust.length))), (.c 7 5, some (.x (.o 3 4 v1.Water.length))), (.c 7 6, some (.x (.o 5 6 v1.Ice.length))), (.c 7 7, some (.x (.v (.int .i64 v1.Slow)))), (.c 7 8, some (.x (.v (.int .i64 v1.Brash)))), (.c 7 9, some (.x (.v (.int .i64 v1.Ridge)))), (.c 7 10, some (.x (.v (.int .i64 v1.Press)))), (.c 12 0, some (.x (.v (.int .i64 (((x3.1.getD x3.2.toNat default)).Conc))))), (.c 12 1, some (.x (.v (.int .i64 (((x3.1.getD x3.2.toNat default)).Thick))))), (.c 12 2, some (.x (.v (.int .i64 (((x3.1.getD x3.2.toNat default)).Ridge))))), (.c 12 3, some (.x (.v (.int .i64 (((x3.1.getD x3.2.toNat default)).Press)))))]) ?_ ⟨rfl, rfl, rfl, rfl, rfl, rfl, rfl, rfl, rfl, rfl, rfl, rfl, rfl, rfl, rfl, rfl, rfl, rfl, rfl, rfl, rfl, rfl, rfl, rfl, rfl, rfl, rfl, rfl, rfl, rfl, rfl, trivial⟩ rfl
              refine fin_then ?_
              refine aw_seq ?_
              refine aw_text (rows := [_, _, _, _, _, _, _, _]) rfl (by kernel_rfl) ⟨
                ok_plain rfl rfl (op_loadN (ys := [.v (.int .i64 (((x3.1.getD x3.2.toNat default)).Conc)), .v (.int .i64 (((x3.1.getD x3.2.toNat default)).Thick)), .v (.int .i64 (((x3.1.getD x3.2.toNat default)).Ridge)), .v (.int .i64 (((x3.1.getD x3.2.toNat default)).Press))]) (ltN rfl) sh_28 rfl rfl ⟨rfl, rfl, rfl, rfl, trivial⟩),
                ok_plain rfl rfl (op_move (ltN rfl) rfl),
                ok_plain rfl rfl (op_call (x := .t [.v (.int .i64 ((loadE ((x3.1.getD x3.2.toNat default)) x1.2 false).1)), .v (.int .i64 ((loadE ((x3.1.getD x3.2.toNat default)) x1.2 false).2))]) (fs := []) (caps := []) (extra := []) (ltN rfl) en_20 rfl ⟨rfl, rfl, rfl⟩ (EvL.cons rfl (EvL.cons rfl (EvL.cons rfl EvL.nil))) (fun mm aa ww gg hr hrel => (c20 ((x3.1.getD x3.2.toNat default)) x1.2 false ww))),
                ok_plain rfl rfl (op_move (ltN rfl) rfl),
                ok_plain rfl rfl (op_extract (ltN rfl) rfl rfl),
                ok_plain rfl rfl (op_extract (ltN rfl) rfl rfl),
                ok_plain rfl rfl (op_assign (ltN rfl) rfl),
                ok_plain rfl rfl (op_assign (ltN rfl) rfl),
                trivial⟩ ?_
              refine fin_keep (s' := [(.t 11, some (.x (.p 7 0))), (.t 15, some (.x (.v (.int .i64 x1.2)))), (.t 25, some (.x (.p 12 0))), (.t 26, some (.x (.v (.int .i64 ((speedE v1 ((x3.1.getD x3.2.toNat default)) false).1))))), (.t 27, some (.x (.v (.int .i64 ((speedE v1 ((x3.1.getD x3.2.toNat default)) false).2))))), (.t 28, some (.x (.v (.int .i64 ((speedE v1 ((x3.1.getD x3.2.toNat default)) true).1))))), (.t 29, some (.x (.v (.int .i64 ((speedE v1 ((x3.1.getD x3.2.toNat default)) true).2))))), (.t 30, some (.x (.v (.int .i64 ((loadE ((x3.1.getD x3.2.toNat default)) x1.2 false).1))))), (.t 31, some (.x (.v (.int .i64 ((loadE ((x3.1.getD x3.2.toNat default)) x1.2 false).2))))), (.t 175, some (.x (.o 300 301 x3.1.length))), (.t 176, some (.x (.v (.int .i64 2)))), (.t 177, some (.x (.v (.int .i64 x3.2)))), (.b 7, some (.sh 25 11)), (.b 12, some (.sh 28 4)), (.r 1, some (.vec false 2 84 2 (v1.Thrust.flatMap encPt))), (.r 3, some (.vec false 4 84 2 (v1.Water.flatMap encPt))), (.r 5, some (.vec false 6 84 2 (v1.Ice.flatMap encPt))), (.r 300, some (.vec true 301 28 4 (x3.1.flatMap encIce))), (.c 7 0, some (.x (.v (.int .i64 v1.Class)))), (.c 7 1, some (.x (.v (.int .i64 v1.Power)))), (.c 7 2, some (.x (.v (.int .i64 v1.Draught)))), (.c 7 3, some (.x (.v (.int .i64 v1.Tonnes)))), (.c 7 4, some (.x (.o 1 2 v1.Thrust.length))), (.c 7 5, some (.x (.o 3 4 v1.Water.length))), (.c 7 6, some (.x (.o 5 6 v1.Ice.length))), (.c 7 7, some (.x (.v (.int .i64 v1.Slow)))), (.c 7 8, some (.x (.v (.int .i64 v1.Brash)))), (.c 7 9, some (.x (.v (.int .i64 v1.Ridge)))), (.c 7 10, some (.x (.v (.int .i64 v1.Press)))), (.c 12 0, some (.x (.v (.int .i64 (((x3.1.getD x3.2.toNat default)).Conc))))), (.c 12 1, some (.x (.v (.int .i64 (((x3.1.getD x3.2.toNat default)).Thick))))), (.c 12 2, some (.x (.v (.int .i64 (((x3.1.getD x3.2.toNat default)).Ridge))))), (.c 12 3, some (.x (.v (.int .i64 (((x3.1.getD x3.2.toNat default)).Press)))))]) ?_ ⟨rfl, rfl, rfl, rfl, rfl, rfl, rfl, rfl, rfl, rfl, rfl, rfl, rfl, rfl, rfl, rfl, rfl, rfl, rfl, rfl, rfl, rfl, rfl, rfl, rfl, rfl, rfl, rfl, rfl, rfl, rfl, rfl, rfl, trivial⟩ rfl
              refine fin_then ?_
              refine aw_seq ?_
              refine aw_text (rows := [_, _, _, _, _, _, _, _]) rfl (by kernel_rfl) ⟨
                ok_plain rfl rfl (op_loadN (ys := [.v (.int .i64 (((x3.1.getD x3.2.toNat default)).Conc)), .v (.int .i64 (((x3.1.getD x3.2.toNat default)).Thick)), .v (.int .i64 (((x3.1.getD x3.2.toNat default)).Ridge)), .v (.int .i64 (((x3.1.getD x3.2.toNat default)).Press))]) (ltN rfl) sh_28 rfl rfl ⟨rfl, rfl, rfl, rfl, trivial⟩),
                ok_plain rfl rfl (op_move (ltN rfl) rfl),
                ok_plain rfl rfl (op_call (x := .t [.v (.int .i64 ((loadE ((x3.1.getD x3.2.toNat default)) x1.2 true).1)), .v (.int .i64 ((loadE ((x3.1.getD x3.2.toNat default)) x1.2 true).2))]) (fs := []) (caps := []) (extra := []) (ltN rfl) en_20 rfl ⟨rfl, rfl, rfl⟩ (EvL.cons rfl (EvL.cons rfl (EvL.cons rfl EvL.nil))) (fun mm aa ww gg hr hrel => (c20 ((x3.1.getD x3.2.toNat default)) x1.2 true ww))),
                ok_plain rfl rfl (op_move (ltN rfl) rfl),
                ok_plain rfl rfl (op_extract (ltN rfl) rfl rfl),
                ok_plain rfl rfl (op_extract (ltN rfl) rfl rfl),
                ok_plain rfl rfl (op_assign (ltN rfl) rfl),
                ok_plain rfl rfl (op_assign (ltN rfl) rfl),
                trivial⟩ ?_
              refine fin_keep (s' := [(.t 11, some (.x (.p 7 0))), (.t 15, some (.x (.v (.int .i64 x1.2)))), (.t 25, some (.x (.p 12 0))), (.t 26, some (.x (.v (.int .i64 ((speedE v1 ((x3.1.getD x3.2.toNat default)) false).1))))), (.t 27, some (.x (.v (.int .i64 ((speedE v1 ((x3.1.getD x3.2.toNat default)) false).2))))), (.t 28, some (.x (.v (.int .i64 ((speedE v1 ((x3.1.getD x3.2.toNat default)) true).1))))), (.t 29, some (.x (.v (.int .i64 ((speedE v1 ((x3.1.getD x3.2.toNat default)) true).2))))), (.t 30, some (.x (.v (.int .i64 ((loadE ((x3.1.getD x3.2.toNat default)) x1.2 false).1))))), (.t 31, some (.x (.v (.int .i64 ((loadE ((x3.1.getD x3.2.toNat default)) x1.2 false).2))))), (.t 32, some (.x (.v (.int .i64 ((loadE ((x3.1.getD x3.2.toNat default)) x1.2 true).1))))), (.t 33, some (.x (.v (.int .i64 ((loadE ((x3.1.getD x3.2.toNat default)) x1.2 true).2))))), (.t 175, some (.x (.o 300 301 x3.1.length))), (.t 176, some (.x (.v (.int .i64 2)))), (.t 177, some (.x (.v (.int .i64 x3.2)))), (.b 7, some (.sh 25 11)), (.b 12, some (.sh 28 4)), (.r 1, some (.vec false 2 84 2 (v1.Thrust.flatMap encPt))), (.r 3, some (.vec false 4 84 2 (v1.Water.flatMap encPt))), (.r 5, some (.vec false 6 84 2 (v1.Ice.flatMap encPt))), (.r 300, some (.vec true 301 28 4 (x3.1.flatMap encIce))), (.c 7 0, some (.x (.v (.int .i64 v1.Class)))), (.c 7 1, some (.x (.v (.int .i64 v1.Power)))), (.c 7 2, some (.x (.v (.int .i64 v1.Draught)))), (.c 7 3, some (.x (.v (.int .i64 v1.Tonnes)))), (.c 7 4, some (.x (.o 1 2 v1.Thrust.length))), (.c 7 5, some (.x (.o 3 4 v1.Water.length))), (.c 7 6, some (.x (.o 5 6 v1.Ice.length))), (.c 7 7, some (.x (.v (.int .i64 v1.Slow)))), (.c 7 8, some (.x (.v (.int .i64 v1.Brash)))), (.c 7 9, some (.x (.v (.int .i64 v1.Ridge)))), (.c 7 10, some (.x (.v (.int .i64 v1.Press)))), (.c 12 0, some (.x (.v (.int .i64 (((x3.1.getD x3.2.toNat default)).Conc))))), (.c 12 1, some (.x (.v (.int .i64 (((x3.1.getD x3.2.toNat default)).Thick))))), (.c 12 2, some (.x (.v (.int .i64 (((x3.1.getD x3.2.toNat default)).Ridge))))), (.c 12 3, some (.x (.v (.int .i64 (((x3.1.getD x3.2.toNat default)).Press)))))]) ?_ ⟨rfl, rfl, rfl, rfl, rfl, rfl, rfl, rfl, rfl, rfl, rfl, rfl, rfl, rfl, rfl, rfl, rfl, rfl, rfl, rfl, rfl, rfl, rfl, rfl, rfl, rfl, rfl, rfl, rfl, rfl, rfl, rfl, rfl, rfl, rfl, trivial⟩ rfl
              refine fin_then ?_
              refine aw_seq ?_
              refine aw_text (rows := [_, _, _, _, _, _, _, _, _]) rfl (by kernel_rfl) ⟨
                ok_plain rfl rfl (op_loadN (ys := [.v (.int .i64 v1.Class), .v (.int .i64 v1.Power), .v (.int .i64 v1.Draught), .v (.int .i64 v1.Tonnes), .o 1 2 v1.Thrust.length, .o 3 4 v1.Water.length, .o 5 6 v1.Ice.length, .v (.int .i64 v1.Slow), .v (.int .i64 v1.Brash), .v (.int .i64 v1.Ridge), .v (.int .i64 v1.Press)]) (ltN rfl) sh_25 rfl rfl ⟨rfl, rfl, rfl, rfl, rfl, rfl, rfl, rfl, rfl, rfl, rfl, trivial⟩),
                ok_plain rfl rfl (op_loadN (ys := [.v (.int .i64 (((x3.1.getD x3.2.toNat default)).Conc)), .v (.int .i64 (((x3.1.getD x3.2.toNat default)).Thick)), .v (.int .i64 (((x3.1.getD x3.2.toNat default)).Ridge)), .v (.int .i64 (((x3.1.getD x3.2.toNat default)).Press))]) (ltN rfl) sh_28 rfl rfl ⟨rfl, rfl, rfl, rfl, trivial⟩),
                ok_plain rfl rfl (op_move (ltN rfl) rfl),
                ok_plain rfl rfl (op_call (x := .t [.v (.int .i64 ((resistanceE v1 ((x3.1.getD x3.2.toNat default)) x1.2 false).1)), .v (.int .i64 ((resistanceE v1 ((x3.1.getD x3.2.toNat default)) x1.2 false).2))]) (fs := []) (caps := []) (extra := [.r 1] ++ ([.r 3] ++ ([.r 5] ++ []))) (ltN rfl) en_19 rfl ⟨rfl, rfl, rfl⟩ (EvL.cons rfl (EvL.cons rfl (EvL.cons rfl (EvL.cons rfl EvL.nil)))) (fun mm aa ww gg hr hrel => (c19 v1 ⟨if mm 2 = 0 then none else some ⟨mm 1, 0, none⟩, v1.Thrust.length, mm 2⟩ ⟨if mm 4 = 0 then none else some ⟨mm 3, 0, none⟩, v1.Water.length, mm 4⟩ ⟨if mm 6 = 0 then none else some ⟨mm 5, 0, none⟩, v1.Ice.length, mm 6⟩ ((x3.1.getD x3.2.toNat default)) x1.2 false ww (slAt_row (enc := encPt) (l := v1.Thrust) (fun _ => rfl) (by decide) hrel ((hr _ (List.mem_append_left _ (by simp))).trans rfl)) (slAt_row (enc := encPt) (l := v1.Water) (fun _ => rfl) (by decide) hrel ((hr _ (List.mem_append_right _ (List.mem_append_left _ (by simp)))).trans rfl)) (slAt_row (enc := encPt) (l := v1.Ice) (fun _ => rfl) (by decide) hrel ((hr _ (List.mem_append_right _ (List.mem_append_right _ (List.mem_append_left _ (by simp))))).trans rfl))))),
                ok_plain rfl rfl (op_move (ltN rfl) rfl),
                ok_plain rfl rfl (op_extract (ltN rfl) rfl rfl),
                ok_plain rfl rfl (op_extract (ltN rfl) rfl rfl),
                ok_plain rfl rfl (op_assign (ltN rfl) rfl),
                ok_plain rfl rfl (op_assign (ltN rfl) rfl),
                trivial⟩ ?_
              refine fin_keep (s' := [(.t 11, some (.x (.p 7 0))), (.t 15, some (.x (.v (.int .i64 x1.2)))), (.t 25, some (.x (.p 12 0))), (.t 26, some (.x (.v (.int .i64 ((speedE v1 ((x3.1.getD x3.2.toNat default)) false).1))))), (.t 27, some (.x (.v (.int .i64 ((speedE v1 ((x3.1.getD x3.2.toNat default)) false).2))))), (.t 28, some (.x (.v (.int .i64 ((speedE v1 ((x3.1.getD x3.2.toNat default)) true).1))))), (.t 29, some (.x (.v (.int .i64 ((speedE v1 ((x3.1.getD x3.2.toNat default)) true).2))))), (.t 30, some (.x (.v (.int .i64 ((loadE ((x3.1.getD x3.2.toNat default)) x1.2 false).1))))), (.t 31, some (.x (.v (.int .i64 ((loadE ((x3.1.getD x3.2.toNat default)) x1.2 false).2))))), (.t 32, some (.x (.v (.int .i64 ((loadE ((x3.1.getD x3.2.toNat default)) x1.2 true).1))))), (.t 33, some (.x (.v (.int .i64 ((loadE ((x3.1.getD x3.2.toNat default)) x1.2 true).2))))), (.t 34, some (.x (.v (.int .i64 ((resistanceE v1 ((x3.1.getD x3.2.toNat default)) x1.2 false).1))))), (.t 35, some (.x (.v (.int .i64 ((resistanceE v1 ((x3.1.getD x3.2.toNat default)) x1.2 false).2))))), (.t 175, some (.x (.o 300 301 x3.1.length))), (.t 176, some (.x (.v (.int .i64 2)))), (.t 177, some (.x (.v (.int .i64 x3.2)))), (.b 7, some (.sh 25 11)), (.b 12, some (.sh 28 4)), (.r 1, some (.vec false 2 84 2 (v1.Thrust.flatMap encPt))), (.r 3, some (.vec false 4 84 2 (v1.Water.flatMap encPt))), (.r 5, some (.vec false 6 84 2 (v1.Ice.flatMap encPt))), (.r 300, some (.vec true 301 28 4 (x3.1.flatMap encIce))), (.c 7 0, some (.x (.v (.int .i64 v1.Class)))), (.c 7 1, some (.x (.v (.int .i64 v1.Power)))), (.c 7 2, some (.x (.v (.int .i64 v1.Draught)))), (.c 7 3, some (.x (.v (.int .i64 v1.Tonnes)))), (.c 7 4, some (.x (.o 1 2 v1.Thrust.length))), (.c 7 5, some (.x (.o 3 4 v1.Water.length))), (.c 7 6, some (.x (.o 5 6 v1.Ice.length))), (.c 7 7, some (.x (.v (.int .i64 v1.Slow)))), (.c 7 8, some (.x (.v (.int .i64 v1.Brash)))), (.c 7 9, some (.x (.v (.int .i64 v1.Ridge)))), (.c 7 10, some (.x (.v (.int .i64 v1.Press)))), (.c 12 0, some (.x (.v (.int .i64 (((x3.1.getD x3.2.toNat default)).Conc))))), (.c 12 1, some (.x (.v (.int .i64 (((x3.1.getD x3.2.toNat default)).Thick))))), (.c 12 2, some (.x (.v (.int .i64 (((x3.1.getD x3.2.toNat default)).Ridge))))), (.c 12 3, some (.x (.v (.int .i64 (((x3.1.getD x3.2.toNat default)).Press)))))]) ?_ ⟨rfl, rfl, rfl, rfl, rfl, rfl, rfl, rfl, rfl, rfl, rfl, rfl, rfl, rfl, rfl, rfl, rfl, rfl, rfl, rfl, rfl, rfl, rfl, rfl, rfl, rfl, rfl, rfl, rfl, rfl, rfl, rfl, rfl, rfl, rfl, rfl, rfl, trivial⟩ rfl
              refine fin_then ?_
              refine aw_seq ?_
              refine aw_text (rows := [_, _, _, _, _, _, _, _, _]) rfl (by kernel_rfl) ⟨
                ok_plain rfl rfl (op_loadN (ys := [.v (.int .i64 v1.Class), .v (.int .i64 v1.Power), .v (.int .i64 v1.Draught), .v (.int .i64 v1.Tonnes), .o 1 2 v1.Thrust.length, .o 3 4 v1.Water.length, .o 5 6 v1.Ice.length, .v (.int .i64 v1.Slow), .v (.int .i64 v1.Brash), .v (.int .i64 v1.Ridge), .v (.int .i64 v1.Press)]) (ltN rfl) sh_25 rfl rfl ⟨rfl, rfl, rfl, rfl, rfl, rfl, rfl, rfl, rfl, rfl, rfl, trivial⟩),
                ok_plain rfl rfl (op_loadN (ys := [.v (.int .i64 (((x3.1.getD x3.2.toNat default)).Conc)), .v (.int .i64 (((x3.1.getD x3.2.toNat default)).Thick)), .v (.int .i64 (((x3.1.getD x3.2.toNat default)).Ridge)), .v (.int .i64 (((x3.1.getD x3.2.toNat default)).Press))]) (ltN rfl) sh_28 rfl rfl ⟨rfl, rfl, rfl, rfl, trivial⟩),
                ok_plain rfl rfl (op_move (ltN rfl) rfl),
                ok_plain rfl rfl (op_call (x := .t [.v (.int .i64 ((resistanceE v1 ((x3.1.getD x3.2.toNat default)) x1.2 true).1)), .v (.int .i64 ((resistanceE v1 ((x3.1.getD x3.2.toNat default)) x1.2 true).2))]) (fs := []) (caps := []) (extra := [.r 1] ++ ([.r 3] ++ ([.r 5] ++ []))) (ltN rfl) en_19 rfl ⟨rfl, rfl, rfl⟩ (EvL.cons rfl (EvL.cons rfl (EvL.cons rfl (EvL.cons rfl EvL.nil)))) (fun mm aa ww gg hr hrel => (c19 v1 ⟨if mm 2 = 0 then none else some ⟨mm 1, 0, none⟩, v1.Thrust.length, mm 2⟩ ⟨if mm 4 = 0 then none else some ⟨mm 3, 0, none⟩, v1.Water.length, mm 4⟩ ⟨if mm 6 = 0 then none else some ⟨mm 5, 0, none⟩, v1.Ice.length, mm 6⟩ ((x3.1.getD x3.2.toNat default)) x1.2 true ww (slAt_row (enc := encPt) (l := v1.Thrust) (fun _ => rfl) (by decide) hrel ((hr _ (List.mem_append_left _ (by simp))).trans rfl)) (slAt_row (enc := encPt) (l := v1.Water) (fun _ => rfl) (by decide) hrel ((hr _ (List.mem_append_right _ (List.mem_append_left _ (by simp)))).trans rfl)) (slAt_row (enc := encPt) (l := v1.Ice) (fun _ => rfl) (by decide) hrel ((hr _ (List.mem_append_right _ (List.mem_append_right _ (List.mem_append_left _ (by simp))))).trans rfl))))),
                ok_plain rfl rfl (op_move (ltN rfl) rfl),
                ok_plain rfl rfl (op_extract (ltN rfl) rfl rfl),
                ok_plain rfl rfl (op_extract (ltN rfl) rfl rfl),
                ok_plain rfl rfl (op_assign (ltN rfl) rfl),
                ok_plain rfl rfl (op_assign (ltN rfl) rfl),
                trivial⟩ ?_
              refine fin_keep (s' := [(.t 11, some (.x (.p 7 0))), (.t 15, some (.x (.v (.int .i64 x1.2)))), (.t 26, some (.x (.v (.int .i64 ((speedE v1 ((x3.1.getD x3.2.toNat default)) false).1))))), (.t 27, some (.x (.v (.int .i64 ((speedE v1 ((x3.1.getD x3.2.toNat default)) false).2))))), (.t 28, some (.x (.v (.int .i64 ((speedE v1 ((x3.1.getD x3.2.toNat default)) true).1))))), (.t 29, some (.x (.v (.int .i64 ((speedE v1 ((x3.1.getD x3.2.toNat default)) true).2))))), (.t 30, some (.x (.v (.int .i64 ((loadE ((x3.1.getD x3.2.toNat default)) x1.2 false).1))))), (.t 31, some (.x (.v (.int .i64 ((loadE ((x3.1.getD x3.2.toNat default)) x1.2 false).2))))), (.t 32, some (.x (.v (.int .i64 ((loadE ((x3.1.getD x3.2.toNat default)) x1.2 true).1))))), (.t 33, some (.x (.v (.int .i64 ((loadE ((x3.1.getD x3.2.toNat default)) x1.2 true).2))))), (.t 34, some (.x (.v (.int .i64 ((resistanceE v1 ((x3.1.getD x3.2.toNat default)) x1.2 false).1))))), (.t 35, some (.x (.v (.int .i64 ((resistanceE v1 ((x3.1.getD x3.2.toNat default)) x1.2 false).2))))), (.t 36, some (.x (.v (.int .i64 ((resistanceE v1 ((x3.1.getD x3.2.toNat default)) x1.2 true).1))))), (.t 37, some (.x (.v (.int .i64 ((resistanceE v1 ((x3.1.getD x3.2.toNat default)) x1.2 true).2))))), (.t 175, some (.x (.o 300 301 x3.1.length))), (.t 176, some (.x (.v (.int .i64 2)))), (.t 177, some (.x (.v (.int .i64 x3.2)))), (.b 7, some (.sh 25 11)), (.r 1, some (.vec false 2 84 2 (v1.Thrust.flatMap encPt))), (.r 3, some (.vec false 4 84 2 (v1.Water.flatMap encPt))), (.r 5, some (.vec false 6 84 2 (v1.Ice.flatMap encPt))), (.r 300, some (.vec true 301 28 4 (x3.1.flatMap encIce))), (.c 7 0, some (.x (.v (.int .i64 v1.Class)))), (.c 7 1, some (.x (.v (.int .i64 v1.Power)))), (.c 7 2, some (.x (.v (.int .i64 v1.Draught)))), (.c 7 3, some (.x (.v (.int .i64 v1.Tonnes)))), (.c 7 4, some (.x (.o 1 2 v1.Thrust.length))), (.c 7 5, some (.x (.o 3 4 v1.Water.length))), (.c 7 6, some (.x (.o 5 6 v1.Ice.length))), (.c 7 7, some (.x (.v (.int .i64 v1.Slow)))), (.c 7 8, some (.x (.v (.int .i64 v1.Brash)))), (.c 7 9, some (.x (.v (.int .i64 v1.Ridge)))), (.c 7 10, some (.x (.v (.int .i64 v1.Press))))]) ?_ ⟨rfl, rfl, rfl, rfl, rfl, rfl, rfl, rfl, rfl, rfl, rfl, rfl, rfl, rfl, rfl, rfl, rfl, rfl, rfl, rfl, rfl, rfl, rfl, rfl, rfl, rfl, rfl, rfl, rfl, rfl, rfl, rfl, rfl, trivial⟩ rfl
              refine fin_then ?_
              refine aw_seq ?_
              refine aw_text (rows := [_, _, _, _, _, _, _, _, _, _, _, _, _, _, _, _, _, _, _, _, _, _, _, _, _, _, _, _, _, _, _, _, _, _, _, _, _]) rfl (by kernel_rfl) ⟨
                ok_plain rfl rfl (op_move (ltN rfl) rfl),
                ok_plain rfl rfl (op_bin (ltN rfl) rfl rfl rfl),
                ok_plain rfl rfl (op_move (ltN rfl) rfl),
                ok_if (ltN rfl) rfl rfl rfl rfl rfl rfl (fun hg36 => op_move (ltN rfl) (force_x rfl)),
                ok_if (ltN rfl) rfl rfl rfl rfl rfl rfl (fun hg37 => op_bin (ltN rfl) (force_eq (beq_iff_eq.2 hg37) rfl) rfl rfl),
                ok_plain rfl rfl (op_or (ltN rfl) rfl rfl),
                ok_plain rfl rfl (op_move (ltN rfl) rfl),
                ok_if (ltN rfl) rfl rfl rfl rfl rfl rfl (fun hg38 => op_move (ltN rfl) (force_x rfl)),
                ok_if (ltN rfl) rfl rfl rfl rfl rfl rfl (fun hg39 => op_bin (ltN rfl) (force_eq (beq_iff_eq.2 hg39) rfl) rfl rfl),
                ok_plain rfl rfl (op_or (ltN rfl) rfl rfl),
                ok_plain rfl rfl (op_move (ltN rfl) rfl),
                ok_if (ltN rfl) rfl rfl rfl rfl rfl rfl (fun hg40 => op_move (ltN rfl) (force_x rfl)),
                ok_if (ltN rfl) rfl rfl rfl rfl rfl rfl (fun hg41 => op_bin (ltN rfl) (force_eq (beq_iff_eq.2 hg41) rfl) rfl rfl),
                ok_plain rfl rfl (op_or (ltN rfl) rfl rfl),
                ok_plain rfl rfl (op_move (ltN rfl) rfl),
                ok_if (ltN rfl) rfl rfl rfl rfl rfl rfl (fun hg42 => op_move (ltN rfl) (force_x rfl)),
                ok_if (ltN rfl) rfl rfl rfl rfl rfl rfl (fun hg43 => op_bin (ltN rfl) (force_eq (beq_iff_eq.2 hg43) rfl) rfl rfl),
                ok_plain rfl rfl (op_or (ltN rfl) rfl rfl),
                ok_plain rfl rfl (op_move (ltN rfl) rfl),
                ok_if (ltN rfl) rfl rfl rfl rfl rfl rfl (fun hg44 => op_move (ltN rfl) (force_x rfl)),
                ok_if (ltN rfl) rfl rfl rfl rfl rfl rfl (fun hg45 => op_bin (ltN rfl) (force_eq (beq_iff_eq.2 hg45) rfl) rfl rfl),
                ok_plain rfl rfl (op_or (ltN rfl) rfl rfl),
                ok_plain rfl rfl (op_move (ltN rfl) rfl),
                ok_if (ltN rfl) rfl rfl rfl rfl rfl rfl (fun hg46 => op_move (ltN rfl) (force_x rfl)),
                ok_if (ltN rfl) rfl rfl rfl rfl rfl rfl (fun hg47 => op_move (ltN rfl) (force_x rfl)),
                ok_if (ltN rfl) rfl rfl rfl rfl rfl rfl (fun hg48 => op_bin (ltN rfl) (force_eq (beq_iff_eq.2 hg48) rfl) (force_eq (beq_iff_eq.2 hg48) rfl) rfl),
                ok_plain rfl rfl (op_or (ltN rfl) rfl rfl),
                ok_plain rfl rfl (op_move (ltN rfl) rfl),
                ok_if (ltN rfl) rfl rfl rfl rfl rfl rfl (fun hg49 => op_move (ltN rfl) (force_x rfl)),
                ok_if (ltN rfl) rfl rfl rfl rfl rfl rfl (fun hg50 => op_move (ltN rfl) (force_x rfl)),
                ok_if (ltN rfl) rfl rfl rfl rfl rfl rfl (fun hg51 => op_bin (ltN rfl) (force_eq (beq_iff_eq.2 hg51) rfl) (force_eq (beq_iff_eq.2 hg51) rfl) rfl),
                ok_plain rfl rfl (op_or (ltN rfl) rfl rfl),
                ok_plain rfl rfl (op_move (ltN rfl) rfl),
                ok_if (ltN rfl) rfl rfl rfl rfl rfl rfl (fun hg52 => op_move (ltN rfl) (force_x rfl)),
                ok_if (ltN rfl) rfl rfl rfl rfl rfl rfl (fun hg53 => op_move (ltN rfl) (force_x rfl)),
                ok_if (ltN rfl) rfl rfl rfl rfl rfl rfl (fun hg54 => op_bin (ltN rfl) (force_eq (beq_iff_eq.2 hg54) rfl) (force_eq (beq_iff_eq.2 hg54) rfl) rfl),
                ok_plain rfl rfl (op_or (ltN rfl) rfl rfl),
                trivial⟩ ?_
              refine fin_keep (s' := [(.t 11, some (.x (.p 7 0))), (.t 15, some (.x (.v (.int .i64 x1.2)))), (.t 175, some (.x (.o 300 301 x3.1.length))), (.t 176, some (.x (.v (.int .i64 2)))), (.t 177, some (.x (.v (.int .i64 x3.2)))), (.t 255, some (.x (.v (.bool (((((((((((speedE v1 ((x3.1.getD x3.2.toNat default)) false).2) != 0) || (((speedE v1 ((x3.1.getD x3.2.toNat default)) true).2) != 0)) || (((loadE ((x3.1.getD x3.2.toNat default)) x1.2 false).2) != 0)) || (((loadE ((x3.1.getD x3.2.toNat default)) x1.2 true).2) != 0)) || (((resistanceE v1 ((x3.1.getD x3.2.toNat default)) x1.2 false).2) != 0)) || (((resistanceE v1 ((x3.1.getD x3.2.toNat default)) x1.2 true).2) != 0)) || (decide (((speedE v1 ((x3.1.getD x3.2.toNat default)) false).1) > ((speedE v1 ((x3.1.getD x3.2.toNat default)) true).1)))) || (decide (((loadE ((x3.1.getD x3.2.toNat default)) x1.2 false).1) < ((loadE ((x3.1.getD x3.2.toNat default)) x1.2 true).1)))) || (decide (((resistanceE v1 ((x3.1.getD x3.2.toNat default)) x1.2 false).1) < ((resistanceE v1 ((x3.1.getD x3.2.toNat default)) x1.2 true).1)))))))), (.b 7, some (.sh 25 11)), (.r 1, some (.vec false 2 84 2 (v1.Thrust.flatMap encPt))), (.r 3, some (.vec false 4 84 2 (v1.Water.flatMap encPt))), (.r 5, some (.vec false 6 84 2 (v1.Ice.flatMap encPt))), (.r 300, some (.vec true 301 28 4 (x3.1.flatMap encIce))), (.c 7 0, some (.x (.v (.int .i64 v1.Class)))), (.c 7 1, some (.x (.v (.int .i64 v1.Power)))), (.c 7 2, some (.x (.v (.int .i64 v1.Draught)))), (.c 7 3, some (.x (.v (.int .i64 v1.Tonnes)))), (.c 7 4, some (.x (.o 1 2 v1.Thrust.length))), (.c 7 5, some (.x (.o 3 4 v1.Water.length))), (.c 7 6, some (.x (.o 5 6 v1.Ice.length))), (.c 7 7, some (.x (.v (.int .i64 v1.Slow)))), (.c 7 8, some (.x (.v (.int .i64 v1.Brash)))), (.c 7 9, some (.x (.v (.int .i64 v1.Ridge)))), (.c 7 10, some (.x (.v (.int .i64 v1.Press))))]) ?_ ⟨rfl, rfl, rfl, rfl, rfl, rfl, rfl, rfl, rfl, rfl, rfl, rfl, rfl, rfl, rfl, rfl, rfl, rfl, rfl, rfl, rfl, rfl, trivial⟩ rfl
              refine fin_then ?_
              refine aw_cond rfl (fun hz55 => ?_) (fun hz55 => ?_)
              · have hm := brk_t hz55 hm
                refine aw_seq ?_
                refine aw_text (rows := [_]) rfl (by kernel_rfl) ⟨
                  ok_plain rfl rfl (op_assign (ltN rfl) rfl),
                  trivial⟩ ?_
                refine fin_keep (s' := [(.t 10, some (.x (.v (.bool false))))]) ?_ ⟨rfl, trivial⟩ rfl
                refine fin_then ?_
                refine aw_ret ?_
                refine fin_block_ret ?_
                refine fin_then_ret ?_
                refine fin_then_ret ?_
                refine fin_block_ret ?_
                refine fin_then_ret ?_
                refine post_ret (x := .v (.bool false)) rfl rfl (resOK_tmp rfl resOK_nil) rfl (fun mm aa ww hr => ?_)
                cases hm
                exact ⟨rfl, hr.below⟩
              · have hm := brk_f hz55 hm
                refine aw_skip ?_
                refine fin_block ?_
                refine fin_then ?_
                obtain ⟨hp56, hm⟩ := chk_some hm
                refine aw_text (rows := [_, _]) rfl (by kernel_rfl) ⟨
                  ok_plain rfl rfl (op_bin (ltN rfl) rfl rfl (nw_add hp56)),
                  ok_plain rfl rfl (op_move (ltN rfl) rfl),
                  trivial⟩ ?_
                refine fin_keep (s' := [(.t 11, some (.x (.p 7 0))), (.t 15, some (.x (.v (.int .i64 x1.2)))), (.t 175, some (.x (.o 300 301 x3.1.length))), (.t 176, some (.x (.v (.int .i64 2)))), (.t 177, some (.x (.v (.int .i64 (x3.2 + 1))))), (.b 7, some (.sh 25 11)), (.r 1, some (.vec false 2 84 2 (v1.Thrust.flatMap encPt))), (.r 3, some (.vec false 4 84 2 (v1.Water.flatMap encPt))), (.r 5, some (.vec false 6 84 2 (v1.Ice.flatMap encPt))), (.r 300, some (.vec true 301 28 4 (x3.1.flatMap encIce))), (.c 7 0, some (.x (.v (.int .i64 v1.Class)))), (.c 7 1, some (.x (.v (.int .i64 v1.Power)))), (.c 7 2, some (.x (.v (.int .i64 v1.Draught)))), (.c 7 3, some (.x (.v (.int .i64 v1.Tonnes)))), (.c 7 4, some (.x (.o 1 2 v1.Thrust.length))), (.c 7 5, some (.x (.o 3 4 v1.Water.length))), (.c 7 6, some (.x (.o 5 6 v1.Ice.length))), (.c 7 7, some (.x (.v (.int .i64 v1.Slow)))), (.c 7 8, some (.x (.v (.int .i64 v1.Brash)))), (.c 7 9, some (.x (.v (.int .i64 v1.Ridge)))), (.c 7 10, some (.x (.v (.int .i64 v1.Press))))]) ?_ ⟨rfl, rfl, rfl, rfl, rfl, rfl, rfl, rfl, rfl, rfl, rfl, rfl, rfl, rfl, rfl, rfl, rfl, rfl, rfl, rfl, rfl, trivial⟩ rfl
                exact fin_cut (x3.1, x3.2 + 1) hm ⟨rfl, rfl, rfl, rfl, rfl, rfl, rfl, rfl, rfl, rfl, rfl, rfl, rfl, rfl, rfl, rfl, rfl, rfl, rfl, rfl, rfl, trivial⟩ rfl
            · have hm := brk_f hz34 hm
              refine aw_exit ?_
              refine fin_then_exit ?_
              refine fin_then_exit ?_
              refine fin_block_exit ?_
              exact fin_cut () hm trivial rfl
          · have _z := hm
            refine aw_seq ?_
            refine aw_text (rows := [_, _]) rfl (by kernel_rfl) ⟨
              ok_plain rfl rfl (op_call (x := .v (.bool true)) (fs := []) (caps := []) (extra := []) (ltN rfl) en_21 rfl ⟨rfl, rfl, rfl⟩ EvL.nil (fun mm aa ww gg hr hrel => (c21 ww (BoxAt.mono hG hrel.below)))),
              ok_plain rfl rfl (op_assign (ltN rfl) rfl),
              trivial⟩ ?_
            refine fin_keep (s' := [(.t 10, some (.x (.v (.bool true))))]) ?_ ⟨rfl, trivial⟩ rfl
            refine fin_then ?_
            refine aw_ret ?_
            refine post_ret (x := .v (.bool true)) rfl rfl (resOK_tmp rfl resOK_nil) rfl (fun mm aa ww hr => ?_)
            cases hm
            exact ⟨rfl, hr.below⟩

end Go.Proofs.T
