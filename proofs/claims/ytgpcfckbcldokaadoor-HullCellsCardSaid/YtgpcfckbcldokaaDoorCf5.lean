/-
  This file has contracts of functions of the program: where the mirror gives a value, the call returns it. Conditions: those that each theorem names.
-/
import Derived.Test.YtgpcfckbcldokaaDoorCf4
set_option linter.unusedVariables false
namespace Go.Proofs.T
open Go Go.AX Go.RowKit Hull
theorem en_15 : Proofs.Enters Tryd.prog 15 := Proofs.enters_of Tryd.func15 (by kernel_rfl) rfl
theorem en_17 : Proofs.Enters Tryd.prog 17 := Proofs.enters_of Tryd.func17 (by kernel_rfl) rfl
theorem en_26 : Proofs.Enters Tryd.prog 26 := Proofs.enters_of Tryd.func26 (by kernel_rfl) rfl
theorem en_16 : Proofs.Enters Tryd.prog 16 := Proofs.enters_of Tryd.func16 (by kernel_rfl) rfl
theorem en_52 : Proofs.Enters Tryd.prog 52 := Proofs.enters_of Tryd.func52 (by kernel_rfl) rfl
theorem un_4 : Tryd.prog.underlying 4 = some .bool := by kernel_rfl
theorem en_56 : Proofs.Enters Tryd.prog 56 := Proofs.enters_of Tryd.func56 (by kernel_rfl) rfl
theorem en_25 : Proofs.Enters Tryd.prog 25 := Proofs.enters_of Tryd.func25 (by kernel_rfl) rfl
theorem en_24 : Proofs.Enters Tryd.prog 24 := Proofs.enters_of Tryd.func24 (by kernel_rfl) rfl
theorem en_41 : Proofs.Enters Tryd.prog 41 := Proofs.enters_of Tryd.func41 (by kernel_rfl) rfl

def m11 (F : Nat) (a0 : List Int) (a1 : List Int) (a2 : List Int) (a3 : Int) (a4 : Bool) : Option (Bool) :=
  bnd (m15 F a0) (fun v1 => bnd (m17 F a1) (fun v2 => bnd (m26 F v2 a2) (fun v3 => bnd (m16 F v2) (fun v4 => bnd (m55 F v1 v2 a4) (fun v5 => brk ((((((((v5.2 != 0) || (((speedE v1 v3 a4).2) != 0)) || (((speedE v1 v4.1 a4).2) != 0)) || (((speedE v1 v4.2 a4).2) != 0)) || (decide (((speedE v1 v3 a4).1) < v5.1.Lo))) || (decide (((speedE v1 v3 a4).1) > v5.1.Hi))) || (((speedE v1 v4.1 a4).1) != v5.1.Hi)) || (((speedE v1 v4.2 a4).1) != v5.1.Lo)) (some false) (bnd (m52 F v1 v2 a4) (fun v6 => brk (((((v6.2.2 != 0) || (!((v6.1) == (decide (((speedE v1 v4.2 a4).1) < 10))))) || (!((v6.2.1) == (decide (((speedE v1 v4.1 a4).1) < 10))))) || ((decide (((speedE v1 v3 a4).1) < 10)) && (!v6.1))) || ((decide (((speedE v1 v3 a4).1) ≥ 10)) && v6.2.1)) (some false) (chk (InR (a3)) (chk (0 ≤ a3 ∧ a3 ≤ 9223372036854775807) (bnd (m56 F v1 v2 (a3 % 251) a4) (fun v7 => bnd (m25 F v3) (fun v8 => bnd (m56 F v1 v8 (a3 % 251) a4) (fun v9 => brk (((((v7.2.2 != 0) || (v9.2.2 != 0)) || (!((v9.1) == (v9.2.1)))) || (v9.1 && (!v7.1))) || ((!v9.1) && v7.2.1)) (some false) (bnd (m56 F v1 v2 10 a4) (fun v10 => brk (v10.2.2 != 0) (some false) (brk (decide (((speedE v1 v4.2 a4).1) < 10)) (some ((((safeE v1 v2 a4).2) == 4) && true)) (brk (v10.1) (some ((((safeE v1 v2 a4).2) == 41) && true)) (brk (((((safeE v1 v2 a4).2) != 0) || (decide (((safeE v1 v2 a4).1) < 10))) || (decide (((safeE v1 v2 a4).1) > ((speedE v1 v4.2 a4).1)))) (some false) (bnd (m56 F v1 v2 ((safeE v1 v2 a4).1) a4) (fun v11 => brk ((((((makesE v1 v3 ((safeE v1 v2 a4).1) a4).2) != 0) || (v11.2.2 != 0)) || (!((makesE v1 v3 ((safeE v1 v2 a4).1) a4).1))) || v11.1) (some false) (join (fun (_ : Unit) => some true) (fun k1 => brk (decide (((safeE v1 v2 a4).1) < 250)) (chk (InR (((safeE v1 v2 a4).1) + 1)) (bnd (m56 F v1 v2 (((safeE v1 v2 a4).1) + 1) a4) (fun v12 => brk (((((makesE v1 v4.2 (((safeE v1 v2 a4).1) + 1) a4).2) != 0) || (v12.2.2 != 0)) || (((makesE v1 v4.2 (((safeE v1 v2 a4).1) + 1) a4).1) && (!v12.1))) (some false) (k1 ())))) (k1 ())))))))))))))))))))))))

set_option maxHeartbeats 8000000 in
set_option maxRecDepth 8000 in
theorem c11 (F : Nat) (a0 : List Int) (a0_s : SlV) (a1 : List Int) (a1_s : SlV) (a2 : List Int) (a2_s : SlV) (a3 : Int) (a4 : Bool) (w : World) (ha0 : SlIs encU8 1 w a0_s a0) (h8a0 : ∀ x ∈ a0, 0 ≤ x ∧ x ≤ 255) (hlena0 : a0.length ≤ 9223372036854775807) (ha1 : SlIs encU8 1 w a1_s a1) (h8a1 : ∀ x ∈ a1, 0 ≤ x ∧ x ≤ 255) (hlena1 : a1.length ≤ 9223372036854775807) (ha2 : SlIs encU8 1 w a2_s a2) (h8a2 : ∀ x ∈ a2, 0 ≤ x ∧ x ≤ 255) (hlena2 : a2.length ≤ 9223372036854775807) (hG : BoxAt w 0 (strengths.map (fun n => Value.int .i64 n))) (r : Bool) (hm : m11 F a0 a1 a2 a3 a4 = some r) : Calls Tryd.prog 11 #[.slice a0_s.p a0_s.n a0_s.c, .slice a1_s.p a1_s.n a1_s.c, .slice a2_s.p a2_s.n a2_s.c, .int .u8 a3, .bool a4] w fun e w' => e = .returned (.bool r) ∧ Below w.heap.size w w' := by
  obtain ⟨a0_p, a0_n, a0_c⟩ := a0_s
  have ha0_l : a0_n = a0.length := ha0.1
  subst ha0_l
  obtain ⟨a0_b, a0_o, ha0_p, ha0_L⟩ := SlAt.lies' ha0
  obtain ⟨a1_p, a1_n, a1_c⟩ := a1_s
  have ha1_l : a1_n = a1.length := ha1.1
  subst ha1_l
  obtain ⟨a1_b, a1_o, ha1_p, ha1_L⟩ := SlAt.lies' ha1
  obtain ⟨a2_p, a2_n, a2_c⟩ := a2_s
  have ha2_l : a2_n = a2.length := ha2.1
  subst ha2_l
  obtain ⟨a2_b, a2_o, ha2_p, ha2_L⟩ := SlAt.lies' ha2
  unfold m11 at hm
  refine enter (args := [.v (.slice a0_p a0.length a0_c), .v (.slice a1_p a1.length a1_c), .v (.slice a2_p a2.length a2_c), .v (.int .u8 a3), .B a4]) Tryd.func11 rfl (N := 305) rfl (Nat.le_of_ble_eq_true rfl) ?_
  refine aw_seq ?_
  refine aw_text (rows := [_]) rfl (by kernel_rfl) ⟨
    ok_plain rfl rfl (op_assign (ltN rfl) rfl),
    trivial⟩ ?_
  refine fin_keep (s' := [kt 0 (.v (.slice a0_p a0.length a0_c)), kt 1 (.v (.slice a1_p a1.length a1_c)), kt 2 (.v (.slice a2_p a2.length a2_c)), kt 3 (.v (.int .u8 a3)), kt 4 (.B a4)]) ?_ (kp rfl) rfl
  refine fin_then ?_
  refine aw_seq ?_
  obtain ⟨v1, hv1, hm⟩ := bnd_some hm
  obtain ⟨v2, hv2, hm⟩ := bnd_some hm
  refine aw_text (rows := [_, _, _, _, _, _, _, _]) rfl (by kernel_rfl) ⟨
    ok_plain rfl rfl (op_move (ltN rfl) rfl),
    ok_plain rfl rfl (op_callRowsD (x := .g [.i v1.Class, .i v1.Power, .i v1.Draught, .i v1.Tonnes, .o 1 2 v1.Thrust.length, .o 3 4 v1.Water.length, .o 5 6 v1.Ice.length, .i v1.Slow, .i v1.Brash, .i v1.Ridge, .i v1.Press]) (R := (fun vs => .agg #[.int .i64 v1.Class, .int .i64 v1.Power, .int .i64 v1.Draught, .int .i64 v1.Tonnes, (vs.getD 0 (.bool false)), (vs.getD 1 (.bool false)), (vs.getD 2 (.bool false)), .int .i64 v1.Slow, .int .i64 v1.Brash, .int .i64 v1.Ridge, .int .i64 v1.Press])) (ls := [(1, 2), (3, 4), (5, 6)]) (ds := [(v1.Thrust.length, 84, 2, v1.Thrust.flatMap encPt), (v1.Water.length, 84, 2, v1.Water.flatMap encPt), (v1.Ice.length, 84, 2, v1.Ice.flatMap encPt)]) (fs := []) (caps := []) (extra := []) (ltN rfl) en_15 rfl ⟨rfl, rfl, rfl⟩ (EvL.cons rfl EvL.nil) rfl rfl (fun _ => rfl) (fun mm aa ww gg hr hrel => (c15 F a0 ⟨a0_p, a0.length, a0_c⟩ ww (SlIs.mono ha0 hrel.below) h8a0 hlena0 v1 hv1))),
    ok_plain rfl rfl (op_move (ltN rfl) rfl),
    ok_plain rfl rfl (op_call (x := .g [.i v2.Conc.Lo, .i v2.Conc.Hi, .i v2.Thick.Lo, .i v2.Thick.Hi, .i v2.Ridge.Lo, .i v2.Ridge.Hi, .i v2.Press.Lo, .i v2.Press.Hi]) (fs := []) (caps := []) (extra := []) (ltN rfl) en_17 rfl ⟨rfl, rfl, rfl⟩ (EvL.cons rfl EvL.nil) (fun mm aa ww gg hr hrel => (c17 F a1 ⟨a1_p, a1.length, a1_c⟩ ww (SlIs.mono ha1 hrel.below) h8a1 hlena1 v2 hv2))),
    ok_plain rfl rfl (op_alloc (L := 7) (ltN rfl) zl_25),
    ok_plain rfl rfl (op_alloc (L := 8) (ltN rfl) zl_34),
    ok_plain rfl rfl (op_storeN sz_25 rfl rfl rfl rfl rfl (by decide)),
    ok_plain rfl rfl (op_storeN sz_34 rfl rfl rfl rfl rfl (by decide)),
    trivial⟩ ?_
  refine fin_keep (s' := [kt 2 (.v (.slice a2_p a2.length a2_c)), kt 3 (.v (.int .u8 a3)), kt 4 (.B a4), kt 11 (.p 7 0), kt 12 (.p 8 0), kb 7 25 11, kb 8 34 8, (.r 1, some (.vec true 2 84 2 (v1.Thrust.flatMap encPt))), (.r 3, some (.vec true 4 84 2 (v1.Water.flatMap encPt))), (.r 5, some (.vec true 6 84 2 (v1.Ice.flatMap encPt))), kc 7 0 (.i v1.Class), kc 7 1 (.i v1.Power), kc 7 2 (.i v1.Draught), kc 7 3 (.i v1.Tonnes), kc 7 4 (.o 1 2 v1.Thrust.length), kc 7 5 (.o 3 4 v1.Water.length), kc 7 6 (.o 5 6 v1.Ice.length), kc 7 7 (.i v1.Slow), kc 7 8 (.i v1.Brash), kc 7 9 (.i v1.Ridge), kc 7 10 (.i v1.Press), kc 8 0 (.i v2.Conc.Lo), kc 8 1 (.i v2.Conc.Hi), kc 8 2 (.i v2.Thick.Lo), kc 8 3 (.i v2.Thick.Hi), kc 8 4 (.i v2.Ridge.Lo), kc 8 5 (.i v2.Ridge.Hi), kc 8 6 (.i v2.Press.Lo), kc 8 7 (.i v2.Press.Hi)]) ?_ (kp rfl) rfl
  refine fin_then ?_
  refine aw_seq ?_
  obtain ⟨v3, hv3, hm⟩ := bnd_some hm
  refine aw_text (rows := [_, _, _, _, _]) rfl (by kernel_rfl) ⟨
    ok_plain rfl rfl (op_loadN (ys := [.i v2.Conc.Lo, .i v2.Conc.Hi, .i v2.Thick.Lo, .i v2.Thick.Hi, .i v2.Ridge.Lo, .i v2.Ridge.Hi, .i v2.Press.Lo, .i v2.Press.Hi]) (ltN rfl) sh_34 rfl rfl ⟨rfl, rfl, rfl, rfl, rfl, rfl, rfl, rfl, trivial⟩),
    ok_plain rfl rfl (op_move (ltN rfl) rfl),
    ok_plain rfl rfl (op_call (x := .g [.i v3.Conc, .i v3.Thick, .i v3.Ridge, .i v3.Press]) (fs := []) (caps := []) (extra := []) (ltN rfl) en_26 rfl ⟨rfl, rfl, rfl⟩ (EvL.cons rfl (EvL.cons rfl EvL.nil)) (fun mm aa ww gg hr hrel => (c26 F v2 a2 ⟨a2_p, a2.length, a2_c⟩ ww (SlIs.mono ha2 hrel.below) h8a2 hlena2 v3 hv3))),
    ok_plain rfl rfl (op_alloc (L := 9) (ltN rfl) zl_28),
    ok_plain rfl rfl (op_storeN sz_28 rfl rfl rfl rfl rfl (by decide)),
    trivial⟩ ?_
  refine fin_keep (s' := [kt 3 (.v (.int .u8 a3)), kt 4 (.B a4), kt 11 (.p 7 0), kt 12 (.p 8 0), kt 13 (.p 9 0), kb 7 25 11, kb 8 34 8, kb 9 28 4, (.r 1, some (.vec true 2 84 2 (v1.Thrust.flatMap encPt))), (.r 3, some (.vec true 4 84 2 (v1.Water.flatMap encPt))), (.r 5, some (.vec true 6 84 2 (v1.Ice.flatMap encPt))), kc 7 0 (.i v1.Class), kc 7 1 (.i v1.Power), kc 7 2 (.i v1.Draught), kc 7 3 (.i v1.Tonnes), kc 7 4 (.o 1 2 v1.Thrust.length), kc 7 5 (.o 3 4 v1.Water.length), kc 7 6 (.o 5 6 v1.Ice.length), kc 7 7 (.i v1.Slow), kc 7 8 (.i v1.Brash), kc 7 9 (.i v1.Ridge), kc 7 10 (.i v1.Press), kc 8 0 (.i v2.Conc.Lo), kc 8 1 (.i v2.Conc.Hi), kc 8 2 (.i v2.Thick.Lo), kc 8 3 (.i v2.Thick.Hi), kc 8 4 (.i v2.Ridge.Lo), kc 8 5 (.i v2.Ridge.Hi), kc 8 6 (.i v2.Press.Lo), kc 8 7 (.i v2.Press.Hi), kc 9 0 (.i v3.Conc), kc 9 1 (.i v3.Thick), kc 9 2 (.i v3.Ridge), kc 9 3 (.i v3.Press)]) ?_ (kp rfl) rfl
  refine fin_then ?_
  refine aw_seq ?_
  obtain ⟨v4, hv4, hm⟩ := bnd_some hm
  refine aw_text (rows := [_, _, _, _, _, _, _, _, _]) rfl (by kernel_rfl) ⟨
    ok_plain rfl rfl (op_loadN (ys := [.i v2.Conc.Lo, .i v2.Conc.Hi, .i v2.Thick.Lo, .i v2.Thick.Hi, .i v2.Ridge.Lo, .i v2.Ridge.Hi, .i v2.Press.Lo, .i v2.Press.Hi]) (ltN rfl) sh_34 rfl rfl ⟨rfl, rfl, rfl, rfl, rfl, rfl, rfl, rfl, trivial⟩),
    ok_plain rfl rfl (op_call (x := .t [.g [.i v4.1.Conc, .i v4.1.Thick, .i v4.1.Ridge, .i v4.1.Press], .g [.i v4.2.Conc, .i v4.2.Thick, .i v4.2.Ridge, .i v4.2.Press]]) (fs := []) (caps := []) (extra := []) (ltN rfl) en_16 rfl ⟨rfl, rfl, rfl⟩ (EvL.cons rfl EvL.nil) (fun mm aa ww gg hr hrel => (c16 F v2 ww v4 hv4))),
    ok_plain rfl rfl (op_move (ltN rfl) rfl),
    ok_plain rfl rfl (op_extract (ltN rfl) rfl rfl),
    ok_plain rfl rfl (op_extract (ltN rfl) rfl rfl),
    ok_plain rfl rfl (op_alloc (L := 10) (ltN rfl) zl_28),
    ok_plain rfl rfl (op_alloc (L := 11) (ltN rfl) zl_28),
    ok_plain rfl rfl (op_storeN sz_28 rfl rfl rfl rfl rfl (by decide)),
    ok_plain rfl rfl (op_storeN sz_28 rfl rfl rfl rfl rfl (by decide)),
    trivial⟩ ?_
  refine fin_keep (s' := [kt 3 (.v (.int .u8 a3)), kt 4 (.B a4), kt 11 (.p 7 0), kt 12 (.p 8 0), kt 13 (.p 9 0), kt 14 (.p 10 0), kt 15 (.p 11 0), kb 7 25 11, kb 8 34 8, kb 9 28 4, kb 10 28 4, kb 11 28 4, (.r 1, some (.vec true 2 84 2 (v1.Thrust.flatMap encPt))), (.r 3, some (.vec true 4 84 2 (v1.Water.flatMap encPt))), (.r 5, some (.vec true 6 84 2 (v1.Ice.flatMap encPt))), kc 7 0 (.i v1.Class), kc 7 1 (.i v1.Power), kc 7 2 (.i v1.Draught), kc 7 3 (.i v1.Tonnes), kc 7 4 (.o 1 2 v1.Thrust.length), kc 7 5 (.o 3 4 v1.Water.length), kc 7 6 (.o 5 6 v1.Ice.length), kc 7 7 (.i v1.Slow), kc 7 8 (.i v1.Brash), kc 7 9 (.i v1.Ridge), kc 7 10 (.i v1.Press), kc 8 0 (.i v2.Conc.Lo), kc 8 1 (.i v2.Conc.Hi), kc 8 2 (.i v2.Thick.Lo), kc 8 3 (.i v2.Thick.Hi), kc 8 4 (.i v2.Ridge.Lo), kc 8 5 (.i v2.Ridge.Hi), kc 8 6 (.i v2.Press.Lo), kc 8 7 (.i v2.Press.Hi), kc 9 0 (.i v3.Conc), kc 9 1 (.i v3.Thick), kc 9 2 (.i v3.Ridge), kc 9 3 (.i v3.Press), kc 10 0 (.i v4.1.Conc), kc 10 1 (.i v4.1.Thick), kc 10 2 (.i v4.1.Ridge), kc 10 3 (.i v4.1.Press), kc 11 0 (.i v4.2.Conc), kc 11 1 (.i v4.2.Thick), kc 11 2 (.i v4.2.Ridge), kc 11 3 (.i v4.2.Press)]) ?_ (kp rfl) rfl
  refine fin_then ?_
  refine aw_seq ?_
  obtain ⟨v5, hv5, hm⟩ := bnd_some hm
  refine aw_text (rows := [_, _, _, _, _, _, _, _, _, _]) rfl (by kernel_rfl) ⟨
    ok_plain rfl rfl (op_loadN (ys := [.i v1.Class, .i v1.Power, .i v1.Draught, .i v1.Tonnes, .o 1 2 v1.Thrust.length, .o 3 4 v1.Water.length, .o 5 6 v1.Ice.length, .i v1.Slow, .i v1.Brash, .i v1.Ridge, .i v1.Press]) (ltN rfl) sh_25 rfl rfl ⟨rfl, rfl, rfl, rfl, rfl, rfl, rfl, rfl, rfl, rfl, rfl, trivial⟩),
    ok_plain rfl rfl (op_loadN (ys := [.i v2.Conc.Lo, .i v2.Conc.Hi, .i v2.Thick.Lo, .i v2.Thick.Hi, .i v2.Ridge.Lo, .i v2.Ridge.Hi, .i v2.Press.Lo, .i v2.Press.Hi]) (ltN rfl) sh_34 rfl rfl ⟨rfl, rfl, rfl, rfl, rfl, rfl, rfl, rfl, trivial⟩),
    ok_plain rfl rfl (op_move (ltN rfl) rfl),
    ok_plain rfl rfl (op_call (x := .t [.g [.i v5.1.Lo, .i v5.1.Hi], .i v5.2]) (fs := []) (caps := []) (extra := (kapp [.r 1] (kapp [.r 3] (kapp [.r 5] [])))) (ltN rfl) en_55 rfl ⟨rfl, rfl, rfl⟩ (EvL.cons rfl (EvL.cons rfl (EvL.cons rfl EvL.nil))) (fun mm aa ww gg hr hrel => (c55 F v1 ⟨ptr0 (mm 1) (mm 2), v1.Thrust.length, mm 2⟩ ⟨ptr0 (mm 3) (mm 4), v1.Water.length, mm 4⟩ ⟨ptr0 (mm 5) (mm 6), v1.Ice.length, mm 6⟩ v2 a4 ww (slAt_row (enc := encPt) (l := v1.Thrust) (fun _ => rfl) (by decide) hrel ((hr _ (List.mem_append_left _ (by simp))).trans rfl)) (slAt_row (enc := encPt) (l := v1.Water) (fun _ => rfl) (by decide) hrel ((hr _ (List.mem_append_right _ (List.mem_append_left _ (by simp)))).trans rfl)) (slAt_row (enc := encPt) (l := v1.Ice) (fun _ => rfl) (by decide) hrel ((hr _ (List.mem_append_right _ (List.mem_append_right _ (List.mem_append_left _ (by simp))))).trans rfl)) (BoxAt.mono hG hrel.below) v5 hv5))),
    ok_plain rfl rfl (op_move (ltN rfl) rfl),
    ok_plain rfl rfl (op_extract (ltN rfl) rfl rfl),
    ok_plain rfl rfl (op_extract (ltN rfl) rfl rfl),
    ok_plain rfl rfl (op_alloc (L := 12) (ltN rfl) zl_32),
    ok_plain rfl rfl (op_storeN sz_32 rfl rfl rfl rfl rfl (by decide)),
    ok_plain rfl rfl (op_assign (ltN rfl) rfl),
    trivial⟩ ?_
  refine fin_keep (s' := [kt 3 (.v (.int .u8 a3)), kt 4 (.B a4), kt 11 (.p 7 0), kt 12 (.p 8 0), kt 13 (.p 9 0), kt 14 (.p 10 0), kt 15 (.p 11 0), kt 16 (.p 12 0), kt 17 (.i v5.2), kb 7 25 11, kb 8 34 8, kb 9 28 4, kb 10 28 4, kb 11 28 4, kb 12 32 2, (.r 1, some (.vec true 2 84 2 (v1.Thrust.flatMap encPt))), (.r 3, some (.vec true 4 84 2 (v1.Water.flatMap encPt))), (.r 5, some (.vec true 6 84 2 (v1.Ice.flatMap encPt))), kc 7 0 (.i v1.Class), kc 7 1 (.i v1.Power), kc 7 2 (.i v1.Draught), kc 7 3 (.i v1.Tonnes), kc 7 4 (.o 1 2 v1.Thrust.length), kc 7 5 (.o 3 4 v1.Water.length), kc 7 6 (.o 5 6 v1.Ice.length), kc 7 7 (.i v1.Slow), kc 7 8 (.i v1.Brash), kc 7 9 (.i v1.Ridge), kc 7 10 (.i v1.Press), kc 8 0 (.i v2.Conc.Lo), kc 8 1 (.i v2.Conc.Hi), kc 8 2 (.i v2.Thick.Lo), kc 8 3 (.i v2.Thick.Hi), kc 8 4 (.i v2.Ridge.Lo), kc 8 5 (.i v2.Ridge.Hi), kc 8 6 (.i v2.Press.Lo), kc 8 7 (.i v2.Press.Hi), kc 9 0 (.i v3.Conc), kc 9 1 (.i v3.Thick), kc 9 2 (.i v3.Ridge), kc 9 3 (.i v3.Press), kc 10 0 (.i v4.1.Conc), kc 10 1 (.i v4.1.Thick), kc 10 2 (.i v4.1.Ridge), kc 10 3 (.i v4.1.Press), kc 11 0 (.i v4.2.Conc), kc 11 1 (.i v4.2.Thick), kc 11 2 (.i v4.2.Ridge), kc 11 3 (.i v4.2.Press), kc 12 0 (.i v5.1.Lo), kc 12 1 (.i v5.1.Hi)]) ?_ (kp rfl) rfl
  refine fin_then ?_
  refine aw_seq ?_
  refine aw_text (rows := [_, _, _, _, _, _, _, _, _]) rfl (by kernel_rfl) ⟨
    ok_plain rfl rfl (op_loadN (ys := [.i v1.Class, .i v1.Power, .i v1.Draught, .i v1.Tonnes, .o 1 2 v1.Thrust.length, .o 3 4 v1.Water.length, .o 5 6 v1.Ice.length, .i v1.Slow, .i v1.Brash, .i v1.Ridge, .i v1.Press]) (ltN rfl) sh_25 rfl rfl ⟨rfl, rfl, rfl, rfl, rfl, rfl, rfl, rfl, rfl, rfl, rfl, trivial⟩),
    ok_plain rfl rfl (op_loadN (ys := [.i v3.Conc, .i v3.Thick, .i v3.Ridge, .i v3.Press]) (ltN rfl) sh_28 rfl rfl ⟨rfl, rfl, rfl, rfl, trivial⟩),
    ok_plain rfl rfl (op_move (ltN rfl) rfl),
    ok_plain rfl rfl (op_call (x := .t [.i ((speedE v1 v3 a4).1), .i ((speedE v1 v3 a4).2)]) (fs := []) (caps := []) (extra := (kapp [.r 1] (kapp [.r 3] (kapp [.r 5] [])))) (ltN rfl) en_18 rfl ⟨rfl, rfl, rfl⟩ (EvL.cons rfl (EvL.cons rfl (EvL.cons rfl EvL.nil))) (fun mm aa ww gg hr hrel => (c18 v1 ⟨ptr0 (mm 1) (mm 2), v1.Thrust.length, mm 2⟩ ⟨ptr0 (mm 3) (mm 4), v1.Water.length, mm 4⟩ ⟨ptr0 (mm 5) (mm 6), v1.Ice.length, mm 6⟩ v3 a4 ww (slAt_row (enc := encPt) (l := v1.Thrust) (fun _ => rfl) (by decide) hrel ((hr _ (List.mem_append_left _ (by simp))).trans rfl)) (slAt_row (enc := encPt) (l := v1.Water) (fun _ => rfl) (by decide) hrel ((hr _ (List.mem_append_right _ (List.mem_append_left _ (by simp)))).trans rfl)) (slAt_row (enc := encPt) (l := v1.Ice) (fun _ => rfl) (by decide) hrel ((hr _ (List.mem_append_right _ (List.mem_append_right _ (List.mem_append_left _ (by simp))))).trans rfl))))),
    ok_plain rfl rfl (op_move (ltN rfl) rfl),
    ok_plain rfl rfl (op_extract (ltN rfl) rfl rfl),
    ok_plain rfl rfl (op_extract (ltN rfl) rfl rfl),
    ok_plain rfl rfl (op_assign (ltN rfl) rfl),
    ok_plain rfl rfl (op_assign (ltN rfl) rfl),
    trivial⟩ ?_
  refine fin_keep (s' := [kt 3 (.v (.int .u8 a3)), kt 4 (.B a4), kt 11 (.p 7 0), kt 12 (.p 8 0), kt 13 (.p 9 0), kt 14 (.p 10 0), kt 15 (.p 11 0), kt 16 (.p 12 0), kt 17 (.i v5.2), kt 18 (.i ((speedE v1 v3 a4).1)), kt 19 (.i ((speedE v1 v3 a4).2)), kb 7 25 11, kb 8 34 8, kb 9 28 4, kb 10 28 4, kb 11 28 4, kb 12 32 2, (.r 1, some (.vec true 2 84 2 (v1.Thrust.flatMap encPt))), (.r 3, some (.vec true 4 84 2 (v1.Water.flatMap encPt))), (.r 5, some (.vec true 6 84 2 (v1.Ice.flatMap encPt))), kc 7 0 (.i v1.Class), kc 7 1 (.i v1.Power), kc 7 2 (.i v1.Draught), kc 7 3 (.i v1.Tonnes), kc 7 4 (.o 1 2 v1.Thrust.length), kc 7 5 (.o 3 4 v1.Water.length), kc 7 6 (.o 5 6 v1.Ice.length), kc 7 7 (.i v1.Slow), kc 7 8 (.i v1.Brash), kc 7 9 (.i v1.Ridge), kc 7 10 (.i v1.Press), kc 8 0 (.i v2.Conc.Lo), kc 8 1 (.i v2.Conc.Hi), kc 8 2 (.i v2.Thick.Lo), kc 8 3 (.i v2.Thick.Hi), kc 8 4 (.i v2.Ridge.Lo), kc 8 5 (.i v2.Ridge.Hi), kc 8 6 (.i v2.Press.Lo), kc 8 7 (.i v2.Press.Hi), kc 9 0 (.i v3.Conc), kc 9 1 (.i v3.Thick), kc 9 2 (.i v3.Ridge), kc 9 3 (.i v3.Press), kc 10 0 (.i v4.1.Conc), kc 10 1 (.i v4.1.Thick), kc 10 2 (.i v4.1.Ridge), kc 10 3 (.i v4.1.Press), kc 11 0 (.i v4.2.Conc), kc 11 1 (.i v4.2.Thick), kc 11 2 (.i v4.2.Ridge), kc 11 3 (.i v4.2.Press), kc 12 0 (.i v5.1.Lo), kc 12 1 (.i v5.1.Hi)]) ?_ (kp rfl) rfl
  refine fin_then ?_
  refine aw_seq ?_
  refine aw_text (rows := [_, _, _, _, _, _, _, _, _]) rfl (by kernel_rfl) ⟨
    ok_plain rfl rfl (op_loadN (ys := [.i v1.Class, .i v1.Power, .i v1.Draught, .i v1.Tonnes, .o 1 2 v1.Thrust.length, .o 3 4 v1.Water.length, .o 5 6 v1.Ice.length, .i v1.Slow, .i v1.Brash, .i v1.Ridge, .i v1.Press]) (ltN rfl) sh_25 rfl rfl ⟨rfl, rfl, rfl, rfl, rfl, rfl, rfl, rfl, rfl, rfl, rfl, trivial⟩),
    ok_plain rfl rfl (op_loadN (ys := [.i v4.1.Conc, .i v4.1.Thick, .i v4.1.Ridge, .i v4.1.Press]) (ltN rfl) sh_28 rfl rfl ⟨rfl, rfl, rfl, rfl, trivial⟩),
    ok_plain rfl rfl (op_move (ltN rfl) rfl),
    ok_plain rfl rfl (op_call (x := .t [.i ((speedE v1 v4.1 a4).1), .i ((speedE v1 v4.1 a4).2)]) (fs := []) (caps := []) (extra := (kapp [.r 1] (kapp [.r 3] (kapp [.r 5] [])))) (ltN rfl) en_18 rfl ⟨rfl, rfl, rfl⟩ (EvL.cons rfl (EvL.cons rfl (EvL.cons rfl EvL.nil))) (fun mm aa ww gg hr hrel => (c18 v1 ⟨ptr0 (mm 1) (mm 2), v1.Thrust.length, mm 2⟩ ⟨ptr0 (mm 3) (mm 4), v1.Water.length, mm 4⟩ ⟨ptr0 (mm 5) (mm 6), v1.Ice.length, mm 6⟩ v4.1 a4 ww (slAt_row (enc := encPt) (l := v1.Thrust) (fun _ => rfl) (by decide) hrel ((hr _ (List.mem_append_left _ (by simp))).trans rfl)) (slAt_row (enc := encPt) (l := v1.Water) (fun _ => rfl) (by decide) hrel ((hr _ (List.mem_append_right _ (List.mem_append_left _ (by simp)))).trans rfl)) (slAt_row (enc := encPt) (l := v1.Ice) (fun _ => rfl) (by decide) hrel ((hr _ (List.mem_append_right _ (List.mem_append_right _ (List.mem_append_left _ (by simp))))).trans rfl))))),
    ok_plain rfl rfl (op_move (ltN rfl) rfl),
    ok_plain rfl rfl (op_extract (ltN rfl) rfl rfl),
    ok_plain rfl rfl (op_extract (ltN rfl) rfl rfl),
    ok_plain rfl rfl (op_assign (ltN rfl) rfl),
    ok_plain rfl rfl (op_assign (ltN rfl) rfl),
    trivial⟩ ?_
  refine fin_keep (s' := [kt 3 (.v (.int .u8 a3)), kt 4 (.B a4), kt 11 (.p 7 0), kt 12 (.p 8 0), kt 13 (.p 9 0), kt 15 (.p 11 0), kt 16 (.p 12 0), kt 17 (.i v5.2), kt 18 (.i ((speedE v1 v3 a4).1)), kt 19 (.i ((speedE v1 v3 a4).2)), kt 20 (.i ((speedE v1 v4.1 a4).1)), kt 21 (.i ((speedE v1 v4.1 a4).2)), kb 7 25 11, kb 8 34 8, kb 9 28 4, kb 11 28 4, kb 12 32 2, (.r 1, some (.vec true 2 84 2 (v1.Thrust.flatMap encPt))), (.r 3, some (.vec true 4 84 2 (v1.Water.flatMap encPt))), (.r 5, some (.vec true 6 84 2 (v1.Ice.flatMap encPt))), kc 7 0 (.i v1.Class), kc 7 1 (.i v1.Power), kc 7 2 (.i v1.Draught), kc 7 3 (.i v1.Tonnes), kc 7 4 (.o 1 2 v1.Thrust.length), kc 7 5 (.o 3 4 v1.Water.length), kc 7 6 (.o 5 6 v1.Ice.length), kc 7 7 (.i v1.Slow), kc 7 8 (.i v1.Brash), kc 7 9 (.i v1.Ridge), kc 7 10 (.i v1.Press), kc 8 0 (.i v2.Conc.Lo), kc 8 1 (.i v2.Conc.Hi), kc 8 2 (.i v2.Thick.Lo), kc 8 3 (.i v2.Thick.Hi), kc 8 4 (.i v2.Ridge.Lo), kc 8 5 (.i v2.Ridge.Hi), kc 8 6 (.i v2.Press.Lo), kc 8 7 (.i v2.Press.Hi), kc 9 0 (.i v3.Conc), kc 9 1 (.i v3.Thick), kc 9 2 (.i v3.Ridge), kc 9 3 (.i v3.Press), kc 11 0 (.i v4.2.Conc), kc 11 1 (.i v4.2.Thick), kc 11 2 (.i v4.2.Ridge), kc 11 3 (.i v4.2.Press), kc 12 0 (.i v5.1.Lo), kc 12 1 (.i v5.1.Hi)]) ?_ (kp rfl) rfl
  refine fin_then ?_
  refine aw_seq ?_
  refine aw_text (rows := [_, _, _, _, _, _, _, _, _]) rfl (by kernel_rfl) ⟨
    ok_plain rfl rfl (op_loadN (ys := [.i v1.Class, .i v1.Power, .i v1.Draught, .i v1.Tonnes, .o 1 2 v1.Thrust.length, .o 3 4 v1.Water.length, .o 5 6 v1.Ice.length, .i v1.Slow, .i v1.Brash, .i v1.Ridge, .i v1.Press]) (ltN rfl) sh_25 rfl rfl ⟨rfl, rfl, rfl, rfl, rfl, rfl, rfl, rfl, rfl, rfl, rfl, trivial⟩),
    ok_plain rfl rfl (op_loadN (ys := [.i v4.2.Conc, .i v4.2.Thick, .i v4.2.Ridge, .i v4.2.Press]) (ltN rfl) sh_28 rfl rfl ⟨rfl, rfl, rfl, rfl, trivial⟩),
    ok_plain rfl rfl (op_move (ltN rfl) rfl),
    ok_plain rfl rfl (op_call (x := .t [.i ((speedE v1 v4.2 a4).1), .i ((speedE v1 v4.2 a4).2)]) (fs := []) (caps := []) (extra := (kapp [.r 1] (kapp [.r 3] (kapp [.r 5] [])))) (ltN rfl) en_18 rfl ⟨rfl, rfl, rfl⟩ (EvL.cons rfl (EvL.cons rfl (EvL.cons rfl EvL.nil))) (fun mm aa ww gg hr hrel => (c18 v1 ⟨ptr0 (mm 1) (mm 2), v1.Thrust.length, mm 2⟩ ⟨ptr0 (mm 3) (mm 4), v1.Water.length, mm 4⟩ ⟨ptr0 (mm 5) (mm 6), v1.Ice.length, mm 6⟩ v4.2 a4 ww (slAt_row (enc := encPt) (l := v1.Thrust) (fun _ => rfl) (by decide) hrel ((hr _ (List.mem_append_left _ (by simp))).trans rfl)) (slAt_row (enc := encPt) (l := v1.Water) (fun _ => rfl) (by decide) hrel ((hr _ (List.mem_append_right _ (List.mem_append_left _ (by simp)))).trans rfl)) (slAt_row (enc := encPt) (l := v1.Ice) (fun _ => rfl) (by decide) hrel ((hr _ (List.mem_append_right _ (List.mem_append_right _ (List.mem_append_left _ (by simp))))).trans rfl))))),
    ok_plain rfl rfl (op_move (ltN rfl) rfl),
    ok_plain rfl rfl (op_extract (ltN rfl) rfl rfl),
    ok_plain rfl rfl (op_extract (ltN rfl) rfl rfl),
    ok_plain rfl rfl (op_assign (ltN rfl) rfl),
    ok_plain rfl rfl (op_assign (ltN rfl) rfl),
    trivial⟩ ?_
  refine fin_keep (s' := [kt 3 (.v (.int .u8 a3)), kt 4 (.B a4), kt 11 (.p 7 0), kt 12 (.p 8 0), kt 13 (.p 9 0), kt 15 (.p 11 0), kt 16 (.p 12 0), kt 17 (.i v5.2), kt 18 (.i ((speedE v1 v3 a4).1)), kt 19 (.i ((speedE v1 v3 a4).2)), kt 20 (.i ((speedE v1 v4.1 a4).1)), kt 21 (.i ((speedE v1 v4.1 a4).2)), kt 22 (.i ((speedE v1 v4.2 a4).1)), kt 23 (.i ((speedE v1 v4.2 a4).2)), kb 7 25 11, kb 8 34 8, kb 9 28 4, kb 11 28 4, kb 12 32 2, (.r 1, some (.vec true 2 84 2 (v1.Thrust.flatMap encPt))), (.r 3, some (.vec true 4 84 2 (v1.Water.flatMap encPt))), (.r 5, some (.vec true 6 84 2 (v1.Ice.flatMap encPt))), kc 7 0 (.i v1.Class), kc 7 1 (.i v1.Power), kc 7 2 (.i v1.Draught), kc 7 3 (.i v1.Tonnes), kc 7 4 (.o 1 2 v1.Thrust.length), kc 7 5 (.o 3 4 v1.Water.length), kc 7 6 (.o 5 6 v1.Ice.length), kc 7 7 (.i v1.Slow), kc 7 8 (.i v1.Brash), kc 7 9 (.i v1.Ridge), kc 7 10 (.i v1.Press), kc 8 0 (.i v2.Conc.Lo), kc 8 1 (.i v2.Conc.Hi), kc 8 2 (.i v2.Thick.Lo), kc 8 3 (.i v2.Thick.Hi), kc 8 4 (.i v2.Ridge.Lo), kc 8 5 (.i v2.Ridge.Hi), kc 8 6 (.i v2.Press.Lo), kc 8 7 (.i v2.Press.Hi), kc 9 0 (.i v3.Conc), kc 9 1 (.i v3.Thick), kc 9 2 (.i v3.Ridge), kc 9 3 (.i v3.Press), kc 11 0 (.i v4.2.Conc), kc 11 1 (.i v4.2.Thick), kc 11 2 (.i v4.2.Ridge), kc 11 3 (.i v4.2.Press), kc 12 0 (.i v5.1.Lo), kc 12 1 (.i v5.1.Hi)]) ?_ (kp rfl) rfl
  refine fin_then ?_
  refine aw_seq ?_
  refine aw_seq ?_
  refine aw_text (rows := [_, _, _, _, _, _, _, _, _, _, _, _, _, _, _, _, _, _, _, _, _, _, _, _, _, _, _, _, _, _, _, _, _, _, _, _, _, _]) rfl (by kernel_rfl) ⟨
    ok_plain rfl rfl (op_move (ltN rfl) rfl),
    ok_plain rfl rfl (op_bin (ltN rfl) rfl rfl rfl),
    ok_plain rfl rfl (op_move (ltN rfl) rfl),
    ok_if (ltN rfl) rfl rfl rfl rfl rfl rfl (fun hg1 => op_move (ltN rfl) (force_x rfl)),
    ok_if (ltN rfl) rfl rfl rfl rfl rfl rfl (fun hg2 => op_bin (ltN rfl) (force_eq (beq_iff_eq.2 hg2) rfl) rfl rfl),
    ok_plain rfl rfl (op_or (ltN rfl) rfl rfl),
    ok_plain rfl rfl (op_move (ltN rfl) rfl),
    ok_if (ltN rfl) rfl rfl rfl rfl rfl rfl (fun hg3 => op_move (ltN rfl) (force_x rfl)),
    ok_if (ltN rfl) rfl rfl rfl rfl rfl rfl (fun hg4 => op_bin (ltN rfl) (force_eq (beq_iff_eq.2 hg4) rfl) rfl rfl),
    ok_plain rfl rfl (op_or (ltN rfl) rfl rfl),
    ok_plain rfl rfl (op_move (ltN rfl) rfl),
    ok_if (ltN rfl) rfl rfl rfl rfl rfl rfl (fun hg5 => op_move (ltN rfl) (force_x rfl)),
    ok_if (ltN rfl) rfl rfl rfl rfl rfl rfl (fun hg6 => op_bin (ltN rfl) (force_eq (beq_iff_eq.2 hg6) rfl) rfl rfl),
    ok_plain rfl rfl (op_or (ltN rfl) rfl rfl),
    ok_plain rfl rfl (op_move (ltN rfl) rfl),
    ok_if (ltN rfl) rfl rfl rfl rfl rfl rfl (fun hg7 => op_move (ltN rfl) (force_x rfl)),
    ok_if (ltN rfl) rfl rfl rfl rfl rfl rfl (fun hg8 => op_fieldAddr (ltN rfl) (force_x rfl) fo_32_0),
    ok_if (ltN rfl) rfl rfl rfl rfl rfl rfl (fun hg9 => op_load1 (ltN rfl) sh_3 (force_eq (beq_iff_eq.2 hg9) rfl) rfl),
    ok_if (ltN rfl) rfl rfl rfl rfl rfl rfl (fun hg10 => op_bin (ltN rfl) (force_eq (beq_iff_eq.2 hg10) rfl) (force_eq (beq_iff_eq.2 hg10) rfl) rfl),
    ok_plain rfl rfl (op_or (ltN rfl) rfl rfl),
    ok_plain rfl rfl (op_move (ltN rfl) rfl),
    ok_if (ltN rfl) rfl rfl rfl rfl rfl rfl (fun hg11 => op_move (ltN rfl) (force_x rfl)),
    ok_if (ltN rfl) rfl rfl rfl rfl rfl rfl (fun hg12 => op_fieldAddr (ltN rfl) (force_x rfl) fo_32_1),
    ok_if (ltN rfl) rfl rfl rfl rfl rfl rfl (fun hg13 => op_load1 (ltN rfl) sh_3 (force_eq (beq_iff_eq.2 hg13) rfl) rfl),
    ok_if (ltN rfl) rfl rfl rfl rfl rfl rfl (fun hg14 => op_bin (ltN rfl) (force_eq (beq_iff_eq.2 hg14) rfl) (force_eq (beq_iff_eq.2 hg14) rfl) rfl),
    ok_plain rfl rfl (op_or (ltN rfl) rfl rfl),
    ok_plain rfl rfl (op_move (ltN rfl) rfl),
    ok_if (ltN rfl) rfl rfl rfl rfl rfl rfl (fun hg15 => op_move (ltN rfl) (force_x rfl)),
    ok_if (ltN rfl) rfl rfl rfl rfl rfl rfl (fun hg16 => op_fieldAddr (ltN rfl) (force_x rfl) fo_32_1),
    ok_if (ltN rfl) rfl rfl rfl rfl rfl rfl (fun hg17 => op_load1 (ltN rfl) sh_3 (force_eq (beq_iff_eq.2 hg17) rfl) rfl),
    ok_if (ltN rfl) rfl rfl rfl rfl rfl rfl (fun hg18 => op_bin (ltN rfl) (force_eq (beq_iff_eq.2 hg18) rfl) (force_eq (beq_iff_eq.2 hg18) rfl) rfl),
    ok_plain rfl rfl (op_or (ltN rfl) rfl rfl),
    ok_plain rfl rfl (op_move (ltN rfl) rfl),
    ok_if (ltN rfl) rfl rfl rfl rfl rfl rfl (fun hg19 => op_move (ltN rfl) (force_x rfl)),
    ok_if (ltN rfl) rfl rfl rfl rfl rfl rfl (fun hg20 => op_fieldAddr (ltN rfl) (force_x rfl) fo_32_0),
    ok_if (ltN rfl) rfl rfl rfl rfl rfl rfl (fun hg21 => op_load1 (ltN rfl) sh_3 (force_eq (beq_iff_eq.2 hg21) rfl) rfl),
    ok_if (ltN rfl) rfl rfl rfl rfl rfl rfl (fun hg22 => op_bin (ltN rfl) (force_eq (beq_iff_eq.2 hg22) rfl) (force_eq (beq_iff_eq.2 hg22) rfl) rfl),
    ok_plain rfl rfl (op_or (ltN rfl) rfl rfl),
    trivial⟩ ?_
  refine fin_keep (s' := [kt 3 (.v (.int .u8 a3)), kt 4 (.B a4), kt 11 (.p 7 0), kt 12 (.p 8 0), kt 13 (.p 9 0), kt 15 (.p 11 0), kt 18 (.i ((speedE v1 v3 a4).1)), kt 20 (.i ((speedE v1 v4.1 a4).1)), kt 22 (.i ((speedE v1 v4.2 a4).1)), kt 110 (.B ((((((((v5.2 != 0) || (((speedE v1 v3 a4).2) != 0)) || (((speedE v1 v4.1 a4).2) != 0)) || (((speedE v1 v4.2 a4).2) != 0)) || (decide (((speedE v1 v3 a4).1) < v5.1.Lo))) || (decide (((speedE v1 v3 a4).1) > v5.1.Hi))) || (((speedE v1 v4.1 a4).1) != v5.1.Hi)) || (((speedE v1 v4.2 a4).1) != v5.1.Lo))), kb 7 25 11, kb 8 34 8, kb 9 28 4, kb 11 28 4, (.r 1, some (.vec true 2 84 2 (v1.Thrust.flatMap encPt))), (.r 3, some (.vec true 4 84 2 (v1.Water.flatMap encPt))), (.r 5, some (.vec true 6 84 2 (v1.Ice.flatMap encPt))), kc 7 0 (.i v1.Class), kc 7 1 (.i v1.Power), kc 7 2 (.i v1.Draught), kc 7 3 (.i v1.Tonnes), kc 7 4 (.o 1 2 v1.Thrust.length), kc 7 5 (.o 3 4 v1.Water.length), kc 7 6 (.o 5 6 v1.Ice.length), kc 7 7 (.i v1.Slow), kc 7 8 (.i v1.Brash), kc 7 9 (.i v1.Ridge), kc 7 10 (.i v1.Press), kc 8 0 (.i v2.Conc.Lo), kc 8 1 (.i v2.Conc.Hi), kc 8 2 (.i v2.Thick.Lo), kc 8 3 (.i v2.Thick.Hi), kc 8 4 (.i v2.Ridge.Lo), kc 8 5 (.i v2.Ridge.Hi), kc 8 6 (.i v2.Press.Lo), kc 8 7 (.i v2.Press.Hi), kc 9 0 (.i v3.Conc), kc 9 1 (.i v3.Thick), kc 9 2 (.i v3.Ridge), kc 9 3 (.i v3.Press), kc 11 0 (.i v4.2.Conc), kc 11 1 (.i v4.2.Thick), kc 11 2 (.i v4.2.Ridge), kc 11 3 (.i v4.2.Press)]) ?_ (kp rfl) rfl
  refine fin_then ?_
  refine aw_cond rfl (fun hz23 => ?_) (fun hz23 => ?_)
  · have hm := brk_t hz23 hm
    refine aw_seq ?_
    refine aw_text (rows := [_]) rfl (by kernel_rfl) ⟨
      ok_plain rfl rfl (op_assign (ltN rfl) rfl),
      trivial⟩ ?_
    refine fin_keep (s' := [kt 10 (.B false)]) ?_ (kp rfl) rfl
    refine fin_then ?_
    refine aw_ret ?_
    refine fin_then_ret ?_
    refine post_ret (x := .B false) rfl rfl (resOK_tmp rfl resOK_nil) rfl (fun mm aa ww hr => ?_)
    have hm := Option.some.inj hm
    subst hm
    exact ⟨rfl, hr.below⟩
  · have hm := brk_f hz23 hm
    refine aw_skip ?_
    refine fin_then ?_
    refine aw_seq ?_
    obtain ⟨v6, hv6, hm⟩ := bnd_some hm
    refine aw_text (rows := [_, _, _, _, _, _, _, _, _, _, _]) rfl (by kernel_rfl) ⟨
      ok_plain rfl rfl (op_loadN (ys := [.i v1.Class, .i v1.Power, .i v1.Draught, .i v1.Tonnes, .o 1 2 v1.Thrust.length, .o 3 4 v1.Water.length, .o 5 6 v1.Ice.length, .i v1.Slow, .i v1.Brash, .i v1.Ridge, .i v1.Press]) (ltN rfl) sh_25 rfl rfl ⟨rfl, rfl, rfl, rfl, rfl, rfl, rfl, rfl, rfl, rfl, rfl, trivial⟩),
      ok_plain rfl rfl (op_loadN (ys := [.i v2.Conc.Lo, .i v2.Conc.Hi, .i v2.Thick.Lo, .i v2.Thick.Hi, .i v2.Ridge.Lo, .i v2.Ridge.Hi, .i v2.Press.Lo, .i v2.Press.Hi]) (ltN rfl) sh_34 rfl rfl ⟨rfl, rfl, rfl, rfl, rfl, rfl, rfl, rfl, trivial⟩),
      ok_plain rfl rfl (op_move (ltN rfl) rfl),
      ok_plain rfl rfl (op_call (x := .t [.B v6.1, .B v6.2.1, .i v6.2.2]) (fs := []) (caps := []) (extra := (kapp [.r 1] (kapp [.r 3] (kapp [.r 5] [])))) (ltN rfl) en_52 rfl ⟨rfl, rfl, rfl⟩ (EvL.cons rfl (EvL.cons rfl (EvL.cons rfl EvL.nil))) (fun mm aa ww gg hr hrel => (c52 F v1 ⟨ptr0 (mm 1) (mm 2), v1.Thrust.length, mm 2⟩ ⟨ptr0 (mm 3) (mm 4), v1.Water.length, mm 4⟩ ⟨ptr0 (mm 5) (mm 6), v1.Ice.length, mm 6⟩ v2 a4 ww (slAt_row (enc := encPt) (l := v1.Thrust) (fun _ => rfl) (by decide) hrel ((hr _ (List.mem_append_left _ (by simp))).trans rfl)) (slAt_row (enc := encPt) (l := v1.Water) (fun _ => rfl) (by decide) hrel ((hr _ (List.mem_append_right _ (List.mem_append_left _ (by simp)))).trans rfl)) (slAt_row (enc := encPt) (l := v1.Ice) (fun _ => rfl) (by decide) hrel ((hr _ (List.mem_append_right _ (List.mem_append_right _ (List.mem_append_left _ (by simp))))).trans rfl)) (BoxAt.mono hG hrel.below) v6 hv6))),
      ok_plain rfl rfl (op_move (ltN rfl) rfl),
      ok_plain rfl rfl (op_extract (ltN rfl) rfl rfl),
      ok_plain rfl rfl (op_extract (ltN rfl) rfl rfl),
      ok_plain rfl rfl (op_extract (ltN rfl) rfl rfl),
      ok_plain rfl rfl (op_assign (ltN rfl) rfl),
      ok_plain rfl rfl (op_assign (ltN rfl) rfl),
      ok_plain rfl rfl (op_assign (ltN rfl) rfl),
      trivial⟩ ?_
    refine fin_keep (s' := [kt 3 (.v (.int .u8 a3)), kt 4 (.B a4), kt 11 (.p 7 0), kt 12 (.p 8 0), kt 13 (.p 9 0), kt 15 (.p 11 0), kt 17 (.i v6.2.2), kt 18 (.i ((speedE v1 v3 a4).1)), kt 20 (.i ((speedE v1 v4.1 a4).1)), kt 22 (.i ((speedE v1 v4.2 a4).1)), kt 24 (.B v6.1), kt 25 (.B v6.2.1), kb 7 25 11, kb 8 34 8, kb 9 28 4, kb 11 28 4, (.r 1, some (.vec true 2 84 2 (v1.Thrust.flatMap encPt))), (.r 3, some (.vec true 4 84 2 (v1.Water.flatMap encPt))), (.r 5, some (.vec true 6 84 2 (v1.Ice.flatMap encPt))), kc 7 0 (.i v1.Class), kc 7 1 (.i v1.Power), kc 7 2 (.i v1.Draught), kc 7 3 (.i v1.Tonnes), kc 7 4 (.o 1 2 v1.Thrust.length), kc 7 5 (.o 3 4 v1.Water.length), kc 7 6 (.o 5 6 v1.Ice.length), kc 7 7 (.i v1.Slow), kc 7 8 (.i v1.Brash), kc 7 9 (.i v1.Ridge), kc 7 10 (.i v1.Press), kc 8 0 (.i v2.Conc.Lo), kc 8 1 (.i v2.Conc.Hi), kc 8 2 (.i v2.Thick.Lo), kc 8 3 (.i v2.Thick.Hi), kc 8 4 (.i v2.Ridge.Lo), kc 8 5 (.i v2.Ridge.Hi), kc 8 6 (.i v2.Press.Lo), kc 8 7 (.i v2.Press.Hi), kc 9 0 (.i v3.Conc), kc 9 1 (.i v3.Thick), kc 9 2 (.i v3.Ridge), kc 9 3 (.i v3.Press), kc 11 0 (.i v4.2.Conc), kc 11 1 (.i v4.2.Thick), kc 11 2 (.i v4.2.Ridge), kc 11 3 (.i v4.2.Press)]) ?_ (kp rfl) rfl
    refine fin_then ?_
    refine aw_seq ?_
    refine aw_seq ?_
    refine aw_text (rows := [_, _, _, _, _, _, _, _, _, _, _, _, _, _, _, _, _, _, _, _, _, _, _, _, _, _, _, _, _]) rfl (by kernel_rfl) ⟨
      ok_plain rfl rfl (op_move (ltN rfl) rfl),
      ok_plain rfl rfl (op_bin (ltN rfl) rfl rfl rfl),
      ok_plain rfl rfl (op_move (ltN rfl) rfl),
      ok_if (ltN rfl) rfl rfl rfl rfl rfl rfl (fun hg24 => op_move (ltN rfl) (force_x rfl)),
      ok_if (ltN rfl) rfl rfl rfl rfl rfl rfl (fun hg25 => op_move (ltN rfl) (force_x rfl)),
      ok_if (ltN rfl) rfl rfl rfl rfl rfl rfl (fun hg26 => op_bin (ltN rfl) (force_eq (beq_iff_eq.2 hg26) rfl) rfl rfl),
      ok_if (ltN rfl) rfl rfl rfl rfl rfl rfl (fun hg27 => op_neb (ltN rfl) (force_eq (beq_iff_eq.2 hg27) rfl) (force_eq (beq_iff_eq.2 hg27) rfl) un_4),
      ok_plain rfl rfl (op_or (ltN rfl) rfl rfl),
      ok_plain rfl rfl (op_move (ltN rfl) rfl),
      ok_if (ltN rfl) rfl rfl rfl rfl rfl rfl (fun hg28 => op_move (ltN rfl) (force_x rfl)),
      ok_if (ltN rfl) rfl rfl rfl rfl rfl rfl (fun hg29 => op_move (ltN rfl) (force_x rfl)),
      ok_if (ltN rfl) rfl rfl rfl rfl rfl rfl (fun hg30 => op_bin (ltN rfl) (force_eq (beq_iff_eq.2 hg30) rfl) rfl rfl),
      ok_if (ltN rfl) rfl rfl rfl rfl rfl rfl (fun hg31 => op_neb (ltN rfl) (force_eq (beq_iff_eq.2 hg31) rfl) (force_eq (beq_iff_eq.2 hg31) rfl) un_4),
      ok_plain rfl rfl (op_or (ltN rfl) rfl rfl),
      ok_plain rfl rfl (op_move (ltN rfl) rfl),
      ok_if (ltN rfl) rfl rfl rfl rfl rfl rfl (fun hg32 => op_move (ltN rfl) (force_x rfl)),
      ok_if (ltN rfl) rfl rfl rfl rfl rfl rfl (fun hg33 => op_bin (ltN rfl) (force_eq (beq_iff_eq.2 hg33) rfl) rfl rfl),
      ok_if (ltN rfl) rfl rfl rfl rfl rfl rfl (fun hg34 => op_move (ltN rfl) (force_eq (beq_iff_eq.2 hg34) rfl)),
      ok_ifC (ltN rfl) rfl rfl rfl rfl rfl rfl (fun hg35 => op_move (ltN rfl) (force_x rfl)),
      ok_ifC (ltN rfl) rfl rfl rfl rfl rfl rfl (fun hg36 => op_not (ltN rfl) (force_eq hg36 rfl)),
      ok_if (ltN rfl) rfl rfl rfl rfl rfl rfl (fun hg37 => op_andF (ltN rfl) (beq_iff_eq.2 hg37) rfl rfl),
      ok_plain rfl rfl (op_or (ltN rfl) rfl rfl),
      ok_plain rfl rfl (op_move (ltN rfl) rfl),
      ok_if (ltN rfl) rfl rfl rfl rfl rfl rfl (fun hg38 => op_move (ltN rfl) (force_x rfl)),
      ok_if (ltN rfl) rfl rfl rfl rfl rfl rfl (fun hg39 => op_bin (ltN rfl) (force_eq (beq_iff_eq.2 hg39) rfl) rfl rfl),
      ok_if (ltN rfl) rfl rfl rfl rfl rfl rfl (fun hg40 => op_move (ltN rfl) (force_eq (beq_iff_eq.2 hg40) rfl)),
      ok_ifC (ltN rfl) rfl rfl rfl rfl rfl rfl (fun hg41 => op_move (ltN rfl) (force_x rfl)),
      ok_if (ltN rfl) rfl rfl rfl rfl rfl rfl (fun hg42 => op_andF (ltN rfl) (beq_iff_eq.2 hg42) rfl rfl),
      ok_plain rfl rfl (op_or (ltN rfl) rfl rfl),
      trivial⟩ ?_
    refine fin_keep (s' := [kt 3 (.v (.int .u8 a3)), kt 4 (.B a4), kt 11 (.p 7 0), kt 12 (.p 8 0), kt 13 (.p 9 0), kt 15 (.p 11 0), kt 22 (.i ((speedE v1 v4.2 a4).1)), kt 147 (.B (((((v6.2.2 != 0) || (!((v6.1) == (decide (((speedE v1 v4.2 a4).1) < 10))))) || (!((v6.2.1) == (decide (((speedE v1 v4.1 a4).1) < 10))))) || ((decide (((speedE v1 v3 a4).1) < 10)) && (!v6.1))) || ((decide (((speedE v1 v3 a4).1) ≥ 10)) && v6.2.1))), kb 7 25 11, kb 8 34 8, kb 9 28 4, kb 11 28 4, (.r 1, some (.vec true 2 84 2 (v1.Thrust.flatMap encPt))), (.r 3, some (.vec true 4 84 2 (v1.Water.flatMap encPt))), (.r 5, some (.vec true 6 84 2 (v1.Ice.flatMap encPt))), kc 7 0 (.i v1.Class), kc 7 1 (.i v1.Power), kc 7 2 (.i v1.Draught), kc 7 3 (.i v1.Tonnes), kc 7 4 (.o 1 2 v1.Thrust.length), kc 7 5 (.o 3 4 v1.Water.length), kc 7 6 (.o 5 6 v1.Ice.length), kc 7 7 (.i v1.Slow), kc 7 8 (.i v1.Brash), kc 7 9 (.i v1.Ridge), kc 7 10 (.i v1.Press), kc 8 0 (.i v2.Conc.Lo), kc 8 1 (.i v2.Conc.Hi), kc 8 2 (.i v2.Thick.Lo), kc 8 3 (.i v2.Thick.Hi), kc 8 4 (.i v2.Ridge.Lo), kc 8 5 (.i v2.Ridge.Hi), kc 8 6 (.i v2.Press.Lo), kc 8 7 (.i v2.Press.Hi), kc 9 0 (.i v3.Conc), kc 9 1 (.i v3.Thick), kc 9 2 (.i v3.Ridge), kc 9 3 (.i v3.Press), kc 11 0 (.i v4.2.Conc), kc 11 1 (.i v4.2.Thick), kc 11 2 (.i v4.2.Ridge), kc 11 3 (.i v4.2.Press)]) ?_ (kp rfl) rfl
    refine fin_then ?_
    refine aw_cond rfl (fun hz43 => ?_) (fun hz43 => ?_)
    · have hm := brk_t hz43 hm
      refine aw_seq ?_
      refine aw_text (rows := [_]) rfl (by kernel_rfl) ⟨
        ok_plain rfl rfl (op_assign (ltN rfl) rfl),
        trivial⟩ ?_
      refine fin_keep (s' := [kt 10 (.B false)]) ?_ (kp rfl) rfl
      refine fin_then ?_
      refine aw_ret ?_
      refine fin_then_ret ?_
      refine post_ret (x := .B false) rfl rfl (resOK_tmp rfl resOK_nil) rfl (fun mm aa ww hr => ?_)
      have hm := Option.some.inj hm
      subst hm
      exact ⟨rfl, hr.below⟩
    · have hm := brk_f hz43 hm
      refine aw_skip ?_
      refine fin_then ?_
      refine aw_seq ?_
      obtain ⟨hp44, hm⟩ := chk_some hm
      obtain ⟨hp45, hm⟩ := chk_some hm
      refine aw_text (rows := [_, _, _, _]) rfl (by kernel_rfl) ⟨
        ok_plain rfl rfl (op_move (ltN rfl) rfl),
        ok_plain rfl rfl (op_convInt (ltN rfl) (Option.isSome_iff_exists.1 us_5) un_3 rfl (wrap_of hp44)),
        ok_plain rfl rfl (op_rem (ltN rfl) rfl rfl (by decide) (rem_nn hp45.1 (by decide) hp45.2)),
        ok_plain rfl rfl (op_assign (ltN rfl) rfl),
        trivial⟩ ?_
      refine fin_keep (s' := [kt 4 (.B a4), kt 11 (.p 7 0), kt 12 (.p 8 0), kt 13 (.p 9 0), kt 15 (.p 11 0), kt 22 (.i ((speedE v1 v4.2 a4).1)), kt 26 (.i (a3 % 251)), kb 7 25 11, kb 8 34 8, kb 9 28 4, kb 11 28 4, (.r 1, some (.vec true 2 84 2 (v1.Thrust.flatMap encPt))), (.r 3, some (.vec true 4 84 2 (v1.Water.flatMap encPt))), (.r 5, some (.vec true 6 84 2 (v1.Ice.flatMap encPt))), kc 7 0 (.i v1.Class), kc 7 1 (.i v1.Power), kc 7 2 (.i v1.Draught), kc 7 3 (.i v1.Tonnes), kc 7 4 (.o 1 2 v1.Thrust.length), kc 7 5 (.o 3 4 v1.Water.length), kc 7 6 (.o 5 6 v1.Ice.length), kc 7 7 (.i v1.Slow), kc 7 8 (.i v1.Brash), kc 7 9 (.i v1.Ridge), kc 7 10 (.i v1.Press), kc 8 0 (.i v2.Conc.Lo), kc 8 1 (.i v2.Conc.Hi), kc 8 2 (.i v2.Thick.Lo), kc 8 3 (.i v2.Thick.Hi), kc 8 4 (.i v2.Ridge.Lo), kc 8 5 (.i v2.Ridge.Hi), kc 8 6 (.i v2.Press.Lo), kc 8 7 (.i v2.Press.Hi), kc 9 0 (.i v3.Conc), kc 9 1 (.i v3.Thick), kc 9 2 (.i v3.Ridge), kc 9 3 (.i v3.Press), kc 11 0 (.i v4.2.Conc), kc 11 1 (.i v4.2.Thick), kc 11 2 (.i v4.2.Ridge), kc 11 3 (.i v4.2.Press)]) ?_ (kp rfl) rfl
      refine fin_then ?_
      refine aw_seq ?_
      obtain ⟨v7, hv7, hm⟩ := bnd_some hm
      refine aw_text (rows := [_, _, _, _, _, _, _, _, _, _, _, _]) rfl (by kernel_rfl) ⟨
        ok_plain rfl rfl (op_loadN (ys := [.i v1.Class, .i v1.Power, .i v1.Draught, .i v1.Tonnes, .o 1 2 v1.Thrust.length, .o 3 4 v1.Water.length, .o 5 6 v1.Ice.length, .i v1.Slow, .i v1.Brash, .i v1.Ridge, .i v1.Press]) (ltN rfl) sh_25 rfl rfl ⟨rfl, rfl, rfl, rfl, rfl, rfl, rfl, rfl, rfl, rfl, rfl, trivial⟩),
        ok_plain rfl rfl (op_loadN (ys := [.i v2.Conc.Lo, .i v2.Conc.Hi, .i v2.Thick.Lo, .i v2.Thick.Hi, .i v2.Ridge.Lo, .i v2.Ridge.Hi, .i v2.Press.Lo, .i v2.Press.Hi]) (ltN rfl) sh_34 rfl rfl ⟨rfl, rfl, rfl, rfl, rfl, rfl, rfl, rfl, trivial⟩),
        ok_plain rfl rfl (op_move (ltN rfl) rfl),
        ok_plain rfl rfl (op_move (ltN rfl) rfl),
        ok_plain rfl rfl (op_call (x := .t [.B v7.1, .B v7.2.1, .i v7.2.2]) (fs := []) (caps := []) (extra := (kapp [.r 1] (kapp [.r 3] (kapp [.r 5] [])))) (ltN rfl) en_56 rfl ⟨rfl, rfl, rfl⟩ (EvL.cons rfl (EvL.cons rfl (EvL.cons rfl (EvL.cons rfl EvL.nil)))) (fun mm aa ww gg hr hrel => (c56 F v1 ⟨ptr0 (mm 1) (mm 2), v1.Thrust.length, mm 2⟩ ⟨ptr0 (mm 3) (mm 4), v1.Water.length, mm 4⟩ ⟨ptr0 (mm 5) (mm 6), v1.Ice.length, mm 6⟩ v2 (a3 % 251) a4 ww (slAt_row (enc := encPt) (l := v1.Thrust) (fun _ => rfl) (by decide) hrel ((hr _ (List.mem_append_left _ (by simp))).trans rfl)) (slAt_row (enc := encPt) (l := v1.Water) (fun _ => rfl) (by decide) hrel ((hr _ (List.mem_append_right _ (List.mem_append_left _ (by simp)))).trans rfl)) (slAt_row (enc := encPt) (l := v1.Ice) (fun _ => rfl) (by decide) hrel ((hr _ (List.mem_append_right _ (List.mem_append_right _ (List.mem_append_left _ (by simp))))).trans rfl)) (BoxAt.mono hG hrel.below) v7 hv7))),
        ok_plain rfl rfl (op_move (ltN rfl) rfl),
        ok_plain rfl rfl (op_extract (ltN rfl) rfl rfl),
        ok_plain rfl rfl (op_extract (ltN rfl) rfl rfl),
        ok_plain rfl rfl (op_extract (ltN rfl) rfl rfl),
        ok_plain rfl rfl (op_assign (ltN rfl) rfl),
        ok_plain rfl rfl (op_assign (ltN rfl) rfl),
        ok_plain rfl rfl (op_assign (ltN rfl) rfl),
        trivial⟩ ?_
      refine fin_keep (s' := [kt 4 (.B a4), kt 11 (.p 7 0), kt 12 (.p 8 0), kt 13 (.p 9 0), kt 15 (.p 11 0), kt 17 (.i v7.2.2), kt 22 (.i ((speedE v1 v4.2 a4).1)), kt 24 (.B v7.1), kt 25 (.B v7.2.1), kt 26 (.i (a3 % 251)), kb 7 25 11, kb 8 34 8, kb 9 28 4, kb 11 28 4, (.r 1, some (.vec true 2 84 2 (v1.Thrust.flatMap encPt))), (.r 3, some (.vec true 4 84 2 (v1.Water.flatMap encPt))), (.r 5, some (.vec true 6 84 2 (v1.Ice.flatMap encPt))), kc 7 0 (.i v1.Class), kc 7 1 (.i v1.Power), kc 7 2 (.i v1.Draught), kc 7 3 (.i v1.Tonnes), kc 7 4 (.o 1 2 v1.Thrust.length), kc 7 5 (.o 3 4 v1.Water.length), kc 7 6 (.o 5 6 v1.Ice.length), kc 7 7 (.i v1.Slow), kc 7 8 (.i v1.Brash), kc 7 9 (.i v1.Ridge), kc 7 10 (.i v1.Press), kc 8 0 (.i v2.Conc.Lo), kc 8 1 (.i v2.Conc.Hi), kc 8 2 (.i v2.Thick.Lo), kc 8 3 (.i v2.Thick.Hi), kc 8 4 (.i v2.Ridge.Lo), kc 8 5 (.i v2.Ridge.Hi), kc 8 6 (.i v2.Press.Lo), kc 8 7 (.i v2.Press.Hi), kc 9 0 (.i v3.Conc), kc 9 1 (.i v3.Thick), kc 9 2 (.i v3.Ridge), kc 9 3 (.i v3.Press), kc 11 0 (.i v4.2.Conc), kc 11 1 (.i v4.2.Thick), kc 11 2 (.i v4.2.Ridge), kc 11 3 (.i v4.2.Press)]) ?_ (kp rfl) rfl
      refine fin_then ?_
      refine aw_seq ?_
      obtain ⟨v8, hv8, hm⟩ := bnd_some hm
      obtain ⟨v9, hv9, hm⟩ := bnd_some hm
      refine aw_any (rows := [_, _, _, _, _, _, _, _, _, _, _, _, _]) (M := [0, 0, 2, 0, 0, 31, 63, 127, 127, 127, 255, 1535, 4095]) Tryd_mixed (by kernel_rfl) rfl (by kernel_rfl) ⟨
        ok_plain rfl rfl (op_loadN (ys := [.i v1.Class, .i v1.Power, .i v1.Draught, .i v1.Tonnes, .o 1 2 v1.Thrust.length, .o 3 4 v1.Water.length, .o 5 6 v1.Ice.length, .i v1.Slow, .i v1.Brash, .i v1.Ridge, .i v1.Press]) (ltN rfl) sh_25 rfl rfl ⟨rfl, rfl, rfl, rfl, rfl, rfl, rfl, rfl, rfl, rfl, rfl, trivial⟩),
        ok_plain rfl rfl (op_loadN (ys := [.i v3.Conc, .i v3.Thick, .i v3.Ridge, .i v3.Press]) (ltN rfl) sh_28 rfl rfl ⟨rfl, rfl, rfl, rfl, trivial⟩),
        ok_plain rfl rfl (op_call (x := .g [.i v8.Conc.Lo, .i v8.Conc.Hi, .i v8.Thick.Lo, .i v8.Thick.Hi, .i v8.Ridge.Lo, .i v8.Ridge.Hi, .i v8.Press.Lo, .i v8.Press.Hi]) (fs := []) (caps := []) (extra := []) (ltN rfl) en_25 rfl ⟨rfl, rfl, rfl⟩ (EvL.cons rfl EvL.nil) (fun mm aa ww gg hr hrel => (c25 F v3 ww v8 hv8))),
        ok_plain rfl rfl (op_move (ltN rfl) rfl),
        ok_plain rfl rfl (op_move (ltN rfl) rfl),
        ok_plain rfl rfl (op_call (x := .t [.B v9.1, .B v9.2.1, .i v9.2.2]) (fs := []) (caps := []) (extra := (kapp [.r 1] (kapp [.r 3] (kapp [.r 5] [])))) (ltN rfl) en_56 rfl ⟨rfl, rfl, rfl⟩ (EvL.cons rfl (EvL.cons rfl (EvL.cons rfl (EvL.cons rfl EvL.nil)))) (fun mm aa ww gg hr hrel => (c56 F v1 ⟨ptr0 (mm 1) (mm 2), v1.Thrust.length, mm 2⟩ ⟨ptr0 (mm 3) (mm 4), v1.Water.length, mm 4⟩ ⟨ptr0 (mm 5) (mm 6), v1.Ice.length, mm 6⟩ v8 (a3 % 251) a4 ww (slAt_row (enc := encPt) (l := v1.Thrust) (fun _ => rfl) (by decide) hrel ((hr _ (List.mem_append_left _ (by simp))).trans rfl)) (slAt_row (enc := encPt) (l := v1.Water) (fun _ => rfl) (by decide) hrel ((hr _ (List.mem_append_right _ (List.mem_append_left _ (by simp)))).trans rfl)) (slAt_row (enc := encPt) (l := v1.Ice) (fun _ => rfl) (by decide) hrel ((hr _ (List.mem_append_right _ (List.mem_append_right _ (List.mem_append_left _ (by simp))))).trans rfl)) (BoxAt.mono hG hrel.below) v9 hv9))),
        ok_plain rfl rfl (op_move (ltN rfl) rfl),
        ok_plain rfl rfl (op_extract (ltN rfl) rfl rfl),
        ok_plain rfl rfl (op_extract (ltN rfl) rfl rfl),
        ok_plain rfl rfl (op_extract (ltN rfl) rfl rfl),
        ok_plain rfl rfl (op_assign (ltN rfl) rfl),
        ok_plain rfl rfl (op_assign (ltN rfl) rfl),
        ok_plain rfl rfl (op_assign (ltN rfl) rfl),
        trivial⟩ ?_
      refine fin_keep (s' := [kt 4 (.B a4), kt 11 (.p 7 0), kt 12 (.p 8 0), kt 13 (.p 9 0), kt 15 (.p 11 0), kt 17 (.i v7.2.2), kt 19 (.i v9.2.2), kt 22 (.i ((speedE v1 v4.2 a4).1)), kt 24 (.B v7.1), kt 25 (.B v7.2.1), kt 27 (.B v9.1), kt 28 (.B v9.2.1), kb 7 25 11, kb 8 34 8, kb 9 28 4, kb 11 28 4, (.r 1, some (.vec true 2 84 2 (v1.Thrust.flatMap encPt))), (.r 3, some (.vec true 4 84 2 (v1.Water.flatMap encPt))), (.r 5, some (.vec true 6 84 2 (v1.Ice.flatMap encPt))), kc 7 0 (.i v1.Class), kc 7 1 (.i v1.Power), kc 7 2 (.i v1.Draught), kc 7 3 (.i v1.Tonnes), kc 7 4 (.o 1 2 v1.Thrust.length), kc 7 5 (.o 3 4 v1.Water.length), kc 7 6 (.o 5 6 v1.Ice.length), kc 7 7 (.i v1.Slow), kc 7 8 (.i v1.Brash), kc 7 9 (.i v1.Ridge), kc 7 10 (.i v1.Press), kc 8 0 (.i v2.Conc.Lo), kc 8 1 (.i v2.Conc.Hi), kc 8 2 (.i v2.Thick.Lo), kc 8 3 (.i v2.Thick.Hi), kc 8 4 (.i v2.Ridge.Lo), kc 8 5 (.i v2.Ridge.Hi), kc 8 6 (.i v2.Press.Lo), kc 8 7 (.i v2.Press.Hi), kc 9 0 (.i v3.Conc), kc 9 1 (.i v3.Thick), kc 9 2 (.i v3.Ridge), kc 9 3 (.i v3.Press), kc 11 0 (.i v4.2.Conc), kc 11 1 (.i v4.2.Thick), kc 11 2 (.i v4.2.Ridge), kc 11 3 (.i v4.2.Press)]) ?_ (kp rfl) rfl
      refine fin_then ?_
      refine aw_seq ?_
      refine aw_seq ?_
      refine aw_text (rows := [_, _, _, _, _, _, _, _, _, _, _, _, _, _, _, _, _, _, _, _, _, _, _, _, _]) rfl (by kernel_rfl) ⟨
        ok_plain rfl rfl (op_move (ltN rfl) rfl),
        ok_plain rfl rfl (op_bin (ltN rfl) rfl rfl rfl),
        ok_plain rfl rfl (op_move (ltN rfl) rfl),
        ok_if (ltN rfl) rfl rfl rfl rfl rfl rfl (fun hg46 => op_move (ltN rfl) (force_x rfl)),
        ok_if (ltN rfl) rfl rfl rfl rfl rfl rfl (fun hg47 => op_bin (ltN rfl) (force_eq (beq_iff_eq.2 hg47) rfl) rfl rfl),
        ok_plain rfl rfl (op_or (ltN rfl) rfl rfl),
        ok_plain rfl rfl (op_move (ltN rfl) rfl),
        ok_if (ltN rfl) rfl rfl rfl rfl rfl rfl (fun hg48 => op_move (ltN rfl) (force_x rfl)),
        ok_if (ltN rfl) rfl rfl rfl rfl rfl rfl (fun hg49 => op_move (ltN rfl) (force_x rfl)),
        ok_if (ltN rfl) rfl rfl rfl rfl rfl rfl (fun hg50 => op_neb (ltN rfl) (force_eq (beq_iff_eq.2 hg50) rfl) (force_eq (beq_iff_eq.2 hg50) rfl) un_4),
        ok_plain rfl rfl (op_or (ltN rfl) rfl rfl),
        ok_plain rfl rfl (op_move (ltN rfl) rfl),
        ok_if (ltN rfl) rfl rfl rfl rfl rfl rfl (fun hg51 => op_move (ltN rfl) (force_x rfl)),
        ok_if (ltN rfl) rfl rfl rfl rfl rfl rfl (fun hg52 => op_move (ltN rfl) (force_eq (beq_iff_eq.2 hg52) rfl)),
        ok_ifC (ltN rfl) rfl rfl rfl rfl rfl rfl (fun hg53 => op_move (ltN rfl) (force_x rfl)),
        ok_ifC (ltN rfl) rfl rfl rfl rfl rfl rfl (fun hg54 => op_not (ltN rfl) (force_eq hg54 rfl)),
        ok_if (ltN rfl) rfl rfl rfl rfl rfl rfl (fun hg55 => op_andF (ltN rfl) (beq_iff_eq.2 hg55) rfl rfl),
        ok_plain rfl rfl (op_or (ltN rfl) rfl rfl),
        ok_plain rfl rfl (op_move (ltN rfl) rfl),
        ok_if (ltN rfl) rfl rfl rfl rfl rfl rfl (fun hg56 => op_move (ltN rfl) (force_x rfl)),
        ok_if (ltN rfl) rfl rfl rfl rfl rfl rfl (fun hg57 => op_not (ltN rfl) (force_eq (beq_iff_eq.2 hg57) rfl)),
        ok_if (ltN rfl) rfl rfl rfl rfl rfl rfl (fun hg58 => op_move (ltN rfl) (force_eq (beq_iff_eq.2 hg58) rfl)),
        ok_ifC (ltN rfl) rfl rfl rfl rfl rfl rfl (fun hg59 => op_move (ltN rfl) (force_x rfl)),
        ok_if (ltN rfl) rfl rfl rfl rfl rfl rfl (fun hg60 => op_andF (ltN rfl) (beq_iff_eq.2 hg60) rfl rfl),
        ok_plain rfl rfl (op_or (ltN rfl) rfl rfl),
        trivial⟩ ?_
      refine fin_keep (s' := [kt 4 (.B a4), kt 11 (.p 7 0), kt 12 (.p 8 0), kt 13 (.p 9 0), kt 15 (.p 11 0), kt 22 (.i ((speedE v1 v4.2 a4).1)), kt 194 (.B (((((v7.2.2 != 0) || (v9.2.2 != 0)) || (!((v9.1) == (v9.2.1)))) || (v9.1 && (!v7.1))) || ((!v9.1) && v7.2.1))), kb 7 25 11, kb 8 34 8, kb 9 28 4, kb 11 28 4, (.r 1, some (.vec true 2 84 2 (v1.Thrust.flatMap encPt))), (.r 3, some (.vec true 4 84 2 (v1.Water.flatMap encPt))), (.r 5, some (.vec true 6 84 2 (v1.Ice.flatMap encPt))), kc 7 0 (.i v1.Class), kc 7 1 (.i v1.Power), kc 7 2 (.i v1.Draught), kc 7 3 (.i v1.Tonnes), kc 7 4 (.o 1 2 v1.Thrust.length), kc 7 5 (.o 3 4 v1.Water.length), kc 7 6 (.o 5 6 v1.Ice.length), kc 7 7 (.i v1.Slow), kc 7 8 (.i v1.Brash), kc 7 9 (.i v1.Ridge), kc 7 10 (.i v1.Press), kc 8 0 (.i v2.Conc.Lo), kc 8 1 (.i v2.Conc.Hi), kc 8 2 (.i v2.Thick.Lo), kc 8 3 (.i v2.Thick.Hi), kc 8 4 (.i v2.Ridge.Lo), kc 8 5 (.i v2.Ridge.Hi), kc 8 6 (.i v2.Press.Lo), kc 8 7 (.i v2.Press.Hi), kc 9 0 (.i v3.Conc), kc 9 1 (.i v3.Thick), kc 9 2 (.i v3.Ridge), kc 9 3 (.i v3.Press), kc 11 0 (.i v4.2.Conc), kc 11 1 (.i v4.2.Thick), kc 11 2 (.i v4.2.Ridge), kc 11 3 (.i v4.2.Press)]) ?_ (kp rfl) rfl
      refine fin_then ?_
      refine aw_cond rfl (fun hz61 => ?_) (fun hz61 => ?_)
      · have hm := brk_t hz61 hm
        refine aw_seq ?_
        refine aw_text (rows := [_]) rfl (by kernel_rfl) ⟨
          ok_plain rfl rfl (op_assign (ltN rfl) rfl),
          trivial⟩ ?_
        refine fin_keep (s' := [kt 10 (.B false)]) ?_ (kp rfl) rfl
        refine fin_then ?_
        refine aw_ret ?_
        refine fin_then_ret ?_
        refine post_ret (x := .B false) rfl rfl (resOK_tmp rfl resOK_nil) rfl (fun mm aa ww hr => ?_)
        have hm := Option.some.inj hm
        subst hm
        exact ⟨rfl, hr.below⟩
      · have hm := brk_f hz61 hm
        refine aw_skip ?_
        refine fin_then ?_
        refine aw_seq ?_
        refine aw_text (rows := [_, _, _, _, _, _, _, _, _]) rfl (by kernel_rfl) ⟨
          ok_plain rfl rfl (op_loadN (ys := [.i v1.Class, .i v1.Power, .i v1.Draught, .i v1.Tonnes, .o 1 2 v1.Thrust.length, .o 3 4 v1.Water.length, .o 5 6 v1.Ice.length, .i v1.Slow, .i v1.Brash, .i v1.Ridge, .i v1.Press]) (ltN rfl) sh_25 rfl rfl ⟨rfl, rfl, rfl, rfl, rfl, rfl, rfl, rfl, rfl, rfl, rfl, trivial⟩),
          ok_plain rfl rfl (op_loadN (ys := [.i v2.Conc.Lo, .i v2.Conc.Hi, .i v2.Thick.Lo, .i v2.Thick.Hi, .i v2.Ridge.Lo, .i v2.Ridge.Hi, .i v2.Press.Lo, .i v2.Press.Hi]) (ltN rfl) sh_34 rfl rfl ⟨rfl, rfl, rfl, rfl, rfl, rfl, rfl, rfl, trivial⟩),
          ok_plain rfl rfl (op_move (ltN rfl) rfl),
          ok_plain rfl rfl (op_call (x := .t [.i ((safeE v1 v2 a4).1), .i ((safeE v1 v2 a4).2)]) (fs := []) (caps := []) (extra := (kapp [.r 1] (kapp [.r 3] (kapp [.r 5] [])))) (ltN rfl) en_24 rfl ⟨rfl, rfl, rfl⟩ (EvL.cons rfl (EvL.cons rfl (EvL.cons rfl EvL.nil))) (fun mm aa ww gg hr hrel => (c24 v1 ⟨ptr0 (mm 1) (mm 2), v1.Thrust.length, mm 2⟩ ⟨ptr0 (mm 3) (mm 4), v1.Water.length, mm 4⟩ ⟨ptr0 (mm 5) (mm 6), v1.Ice.length, mm 6⟩ v2 a4 ww (slAt_row (enc := encPt) (l := v1.Thrust) (fun _ => rfl) (by decide) hrel ((hr _ (List.mem_append_left _ (by simp))).trans rfl)) (slAt_row (enc := encPt) (l := v1.Water) (fun _ => rfl) (by decide) hrel ((hr _ (List.mem_append_right _ (List.mem_append_left _ (by simp)))).trans rfl)) (slAt_row (enc := encPt) (l := v1.Ice) (fun _ => rfl) (by decide) hrel ((hr _ (List.mem_append_right _ (List.mem_append_right _ (List.mem_append_left _ (by simp))))).trans rfl)) (BoxAt.mono hG hrel.below)))),
          ok_plain rfl rfl (op_move (ltN rfl) rfl),
          ok_plain rfl rfl (op_extract (ltN rfl) rfl rfl),
          ok_plain rfl rfl (op_extract (ltN rfl) rfl rfl),
          ok_plain rfl rfl (op_assign (ltN rfl) rfl),
          ok_plain rfl rfl (op_assign (ltN rfl) rfl),
          trivial⟩ ?_
        refine fin_keep (s' := [kt 4 (.B a4), kt 11 (.p 7 0), kt 12 (.p 8 0), kt 13 (.p 9 0), kt 15 (.p 11 0), kt 17 (.i ((safeE v1 v2 a4).2)), kt 22 (.i ((speedE v1 v4.2 a4).1)), kt 29 (.i ((safeE v1 v2 a4).1)), kb 7 25 11, kb 8 34 8, kb 9 28 4, kb 11 28 4, (.r 1, some (.vec true 2 84 2 (v1.Thrust.flatMap encPt))), (.r 3, some (.vec true 4 84 2 (v1.Water.flatMap encPt))), (.r 5, some (.vec true 6 84 2 (v1.Ice.flatMap encPt))), kc 7 0 (.i v1.Class), kc 7 1 (.i v1.Power), kc 7 2 (.i v1.Draught), kc 7 3 (.i v1.Tonnes), kc 7 4 (.o 1 2 v1.Thrust.length), kc 7 5 (.o 3 4 v1.Water.length), kc 7 6 (.o 5 6 v1.Ice.length), kc 7 7 (.i v1.Slow), kc 7 8 (.i v1.Brash), kc 7 9 (.i v1.Ridge), kc 7 10 (.i v1.Press), kc 8 0 (.i v2.Conc.Lo), kc 8 1 (.i v2.Conc.Hi), kc 8 2 (.i v2.Thick.Lo), kc 8 3 (.i v2.Thick.Hi), kc 8 4 (.i v2.Ridge.Lo), kc 8 5 (.i v2.Ridge.Hi), kc 8 6 (.i v2.Press.Lo), kc 8 7 (.i v2.Press.Hi), kc 9 0 (.i v3.Conc), kc 9 1 (.i v3.Thick), kc 9 2 (.i v3.Ridge), kc 9 3 (.i v3.Press), kc 11 0 (.i v4.2.Conc), kc 11 1 (.i v4.2.Thick), kc 11 2 (.i v4.2.Ridge), kc 11 3 (.i v4.2.Press)]) ?_ (kp rfl) rfl
        refine fin_then ?_
        refine aw_seq ?_
        obtain ⟨v10, hv10, hm⟩ := bnd_some hm
        refine aw_text (rows := [_, _, _, _, _, _, _, _, _, _, _]) rfl (by kernel_rfl) ⟨
          ok_plain rfl rfl (op_loadN (ys := [.i v1.Class, .i v1.Power, .i v1.Draught, .i v1.Tonnes, .o 1 2 v1.Thrust.length, .o 3 4 v1.Water.length, .o 5 6 v1.Ice.length, .i v1.Slow, .i v1.Brash, .i v1.Ridge, .i v1.Press]) (ltN rfl) sh_25 rfl rfl ⟨rfl, rfl, rfl, rfl, rfl, rfl, rfl, rfl, rfl, rfl, rfl, trivial⟩),
          ok_plain rfl rfl (op_loadN (ys := [.i v2.Conc.Lo, .i v2.Conc.Hi, .i v2.Thick.Lo, .i v2.Thick.Hi, .i v2.Ridge.Lo, .i v2.Ridge.Hi, .i v2.Press.Lo, .i v2.Press.Hi]) (ltN rfl) sh_34 rfl rfl ⟨rfl, rfl, rfl, rfl, rfl, rfl, rfl, rfl, trivial⟩),
          ok_plain rfl rfl (op_move (ltN rfl) rfl),
          ok_plain rfl rfl (op_call (x := .t [.B v10.1, .B v10.2.1, .i v10.2.2]) (fs := []) (caps := []) (extra := (kapp [.r 1] (kapp [.r 3] (kapp [.r 5] [])))) (ltN rfl) en_56 rfl ⟨rfl, rfl, rfl⟩ (EvL.cons rfl (EvL.cons rfl (EvL.cons rfl (EvL.cons rfl EvL.nil)))) (fun mm aa ww gg hr hrel => (c56 F v1 ⟨ptr0 (mm 1) (mm 2), v1.Thrust.length, mm 2⟩ ⟨ptr0 (mm 3) (mm 4), v1.Water.length, mm 4⟩ ⟨ptr0 (mm 5) (mm 6), v1.Ice.length, mm 6⟩ v2 10 a4 ww (slAt_row (enc := encPt) (l := v1.Thrust) (fun _ => rfl) (by decide) hrel ((hr _ (List.mem_append_left _ (by simp))).trans rfl)) (slAt_row (enc := encPt) (l := v1.Water) (fun _ => rfl) (by decide) hrel ((hr _ (List.mem_append_right _ (List.mem_append_left _ (by simp)))).trans rfl)) (slAt_row (enc := encPt) (l := v1.Ice) (fun _ => rfl) (by decide) hrel ((hr _ (List.mem_append_right _ (List.mem_append_right _ (List.mem_append_left _ (by simp))))).trans rfl)) (BoxAt.mono hG hrel.below) v10 hv10))),
          ok_plain rfl rfl (op_move (ltN rfl) rfl),
          ok_plain rfl rfl (op_extract (ltN rfl) rfl rfl),
          ok_plain rfl rfl (op_extract (ltN rfl) rfl rfl),
          ok_plain rfl rfl (op_extract (ltN rfl) rfl rfl),
          ok_plain rfl rfl (op_assign (ltN rfl) rfl),
          ok_plain rfl rfl (op_assign (ltN rfl) rfl),
          ok_plain rfl rfl (op_assign (ltN rfl) rfl),
          trivial⟩ ?_
        refine fin_keep (s' := [kt 4 (.B a4), kt 11 (.p 7 0), kt 12 (.p 8 0), kt 13 (.p 9 0), kt 15 (.p 11 0), kt 17 (.i ((safeE v1 v2 a4).2)), kt 19 (.i v10.2.2), kt 22 (.i ((speedE v1 v4.2 a4).1)), kt 29 (.i ((safeE v1 v2 a4).1)), kt 30 (.B v10.1), kb 7 25 11, kb 8 34 8, kb 9 28 4, kb 11 28 4, (.r 1, some (.vec true 2 84 2 (v1.Thrust.flatMap encPt))), (.r 3, some (.vec true 4 84 2 (v1.Water.flatMap encPt))), (.r 5, some (.vec true 6 84 2 (v1.Ice.flatMap encPt))), kc 7 0 (.i v1.Class), kc 7 1 (.i v1.Power), kc 7 2 (.i v1.Draught), kc 7 3 (.i v1.Tonnes), kc 7 4 (.o 1 2 v1.Thrust.length), kc 7 5 (.o 3 4 v1.Water.length), kc 7 6 (.o 5 6 v1.Ice.length), kc 7 7 (.i v1.Slow), kc 7 8 (.i v1.Brash), kc 7 9 (.i v1.Ridge), kc 7 10 (.i v1.Press), kc 8 0 (.i v2.Conc.Lo), kc 8 1 (.i v2.Conc.Hi), kc 8 2 (.i v2.Thick.Lo), kc 8 3 (.i v2.Thick.Hi), kc 8 4 (.i v2.Ridge.Lo), kc 8 5 (.i v2.Ridge.Hi), kc 8 6 (.i v2.Press.Lo), kc 8 7 (.i v2.Press.Hi), kc 9 0 (.i v3.Conc), kc 9 1 (.i v3.Thick), kc 9 2 (.i v3.Ridge), kc 9 3 (.i v3.Press), kc 11 0 (.i v4.2.Conc), kc 11 1 (.i v4.2.Thick), kc 11 2 (.i v4.2.Ridge), kc 11 3 (.i v4.2.Press)]) ?_ (kp rfl) rfl
        refine fin_then ?_
        refine aw_seq ?_
        refine aw_block ?_
        refine aw_seq ?_
        refine aw_text (rows := [_, _, _]) rfl (by kernel_rfl) ⟨
          ok_plain rfl rfl (op_move (ltN rfl) rfl),
          ok_plain rfl rfl (op_bin (ltN rfl) rfl rfl rfl),
          ok_plain rfl rfl (op_assign (ltN rfl) rfl),
          trivial⟩ ?_
        refine fin_keep (s' := [kt 4 (.B a4), kt 11 (.p 7 0), kt 12 (.p 8 0), kt 13 (.p 9 0), kt 15 (.p 11 0), kt 17 (.i ((safeE v1 v2 a4).2)), kt 22 (.i ((speedE v1 v4.2 a4).1)), kt 29 (.i ((safeE v1 v2 a4).1)), kt 30 (.B v10.1), kt 210 (.B (v10.2.2 != 0)), kb 7 25 11, kb 8 34 8, kb 9 28 4, kb 11 28 4, (.r 1, some (.vec true 2 84 2 (v1.Thrust.flatMap encPt))), (.r 3, some (.vec true 4 84 2 (v1.Water.flatMap encPt))), (.r 5, some (.vec true 6 84 2 (v1.Ice.flatMap encPt))), kc 7 0 (.i v1.Class), kc 7 1 (.i v1.Power), kc 7 2 (.i v1.Draught), kc 7 3 (.i v1.Tonnes), kc 7 4 (.o 1 2 v1.Thrust.length), kc 7 5 (.o 3 4 v1.Water.length), kc 7 6 (.o 5 6 v1.Ice.length), kc 7 7 (.i v1.Slow), kc 7 8 (.i v1.Brash), kc 7 9 (.i v1.Ridge), kc 7 10 (.i v1.Press), kc 8 0 (.i v2.Conc.Lo), kc 8 1 (.i v2.Conc.Hi), kc 8 2 (.i v2.Thick.Lo), kc 8 3 (.i v2.Thick.Hi), kc 8 4 (.i v2.Ridge.Lo), kc 8 5 (.i v2.Ridge.Hi), kc 8 6 (.i v2.Press.Lo), kc 8 7 (.i v2.Press.Hi), kc 9 0 (.i v3.Conc), kc 9 1 (.i v3.Thick), kc 9 2 (.i v3.Ridge), kc 9 3 (.i v3.Press), kc 11 0 (.i v4.2.Conc), kc 11 1 (.i v4.2.Thick), kc 11 2 (.i v4.2.Ridge), kc 11 3 (.i v4.2.Press)]) ?_ (kp rfl) rfl
        refine fin_then ?_
        refine aw_cond rfl (fun hz62 => ?_) (fun hz62 => ?_)
        · have hm := brk_t hz62 hm
          refine aw_seq ?_
          refine aw_text (rows := [_]) rfl (by kernel_rfl) ⟨
            ok_plain rfl rfl (op_assign (ltN rfl) rfl),
            trivial⟩ ?_
          refine fin_keep (s' := [kt 10 (.B false)]) ?_ (kp rfl) rfl
          refine fin_then ?_
          refine aw_ret ?_
          refine fin_block_ret ?_
          refine fin_then_ret ?_
          refine post_ret (x := .B false) rfl rfl (resOK_tmp rfl resOK_nil) rfl (fun mm aa ww hr => ?_)
          have hm := Option.some.inj hm
          subst hm
          exact ⟨rfl, hr.below⟩
        · have hm := brk_f hz62 hm
          refine aw_seq ?_
          refine aw_text (rows := [_, _, _]) rfl (by kernel_rfl) ⟨
            ok_plain rfl rfl (op_move (ltN rfl) rfl),
            ok_plain rfl rfl (op_bin (ltN rfl) rfl rfl rfl),
            ok_plain rfl rfl (op_assign (ltN rfl) rfl),
            trivial⟩ ?_
          refine fin_keep (s' := [kt 4 (.B a4), kt 11 (.p 7 0), kt 12 (.p 8 0), kt 13 (.p 9 0), kt 15 (.p 11 0), kt 17 (.i ((safeE v1 v2 a4).2)), kt 22 (.i ((speedE v1 v4.2 a4).1)), kt 29 (.i ((safeE v1 v2 a4).1)), kt 30 (.B v10.1), kt 213 (.B (decide (((speedE v1 v4.2 a4).1) < 10))), kb 7 25 11, kb 8 34 8, kb 9 28 4, kb 11 28 4, (.r 1, some (.vec true 2 84 2 (v1.Thrust.flatMap encPt))), (.r 3, some (.vec true 4 84 2 (v1.Water.flatMap encPt))), (.r 5, some (.vec true 6 84 2 (v1.Ice.flatMap encPt))), kc 7 0 (.i v1.Class), kc 7 1 (.i v1.Power), kc 7 2 (.i v1.Draught), kc 7 3 (.i v1.Tonnes), kc 7 4 (.o 1 2 v1.Thrust.length), kc 7 5 (.o 3 4 v1.Water.length), kc 7 6 (.o 5 6 v1.Ice.length), kc 7 7 (.i v1.Slow), kc 7 8 (.i v1.Brash), kc 7 9 (.i v1.Ridge), kc 7 10 (.i v1.Press), kc 8 0 (.i v2.Conc.Lo), kc 8 1 (.i v2.Conc.Hi), kc 8 2 (.i v2.Thick.Lo), kc 8 3 (.i v2.Thick.Hi), kc 8 4 (.i v2.Ridge.Lo), kc 8 5 (.i v2.Ridge.Hi), kc 8 6 (.i v2.Press.Lo), kc 8 7 (.i v2.Press.Hi), kc 9 0 (.i v3.Conc), kc 9 1 (.i v3.Thick), kc 9 2 (.i v3.Ridge), kc 9 3 (.i v3.Press), kc 11 0 (.i v4.2.Conc), kc 11 1 (.i v4.2.Thick), kc 11 2 (.i v4.2.Ridge), kc 11 3 (.i v4.2.Press)]) ?_ (kp rfl) rfl
          refine fin_then ?_
          refine aw_cond rfl (fun hz63 => ?_) (fun hz63 => ?_)
          · have hm := brk_t hz63 hm
            refine aw_seq ?_
            refine aw_text (rows := [_, _, _, _, _, _]) rfl (by kernel_rfl) ⟨
              ok_plain rfl rfl (op_move (ltN rfl) rfl),
              ok_plain rfl rfl (op_bin (ltN rfl) rfl rfl rfl),
              ok_plain rfl rfl (op_move (ltN rfl) rfl),
              ok_if (ltN rfl) rfl rfl rfl rfl rfl rfl (fun hg64 => op_call (x := .B true) (fs := []) (caps := []) (extra := []) (ltN rfl) en_21 rfl ⟨rfl, rfl, rfl⟩ EvL.nil (fun mm aa ww gg hr hrel => (c21 ww (BoxAt.mono hG hrel.below)))),
              ok_plain rfl rfl (op_and (ltN rfl) rfl rfl),
              ok_plain rfl rfl (op_assign (ltN rfl) rfl),
              trivial⟩ ?_
            refine fin_keep (s' := [kt 10 (.B ((((safeE v1 v2 a4).2) == 4) && true))]) ?_ (kp rfl) rfl
            refine fin_then ?_
            refine aw_ret ?_
            refine fin_block_ret ?_
            refine fin_then_ret ?_
            refine post_ret (x := .B ((((safeE v1 v2 a4).2) == 4) && true)) rfl rfl (resOK_tmp rfl resOK_nil) rfl (fun mm aa ww hr => ?_)
            have hm := Option.some.inj hm
            subst hm
            exact ⟨rfl, hr.below⟩
          · have hm := brk_f hz63 hm
            refine aw_seq ?_
            refine aw_text (rows := [_, _]) rfl (by kernel_rfl) ⟨
              ok_plain rfl rfl (op_move (ltN rfl) rfl),
              ok_plain rfl rfl (op_assign (ltN rfl) rfl),
              trivial⟩ ?_
            refine fin_keep (s' := [kt 4 (.B a4), kt 11 (.p 7 0), kt 12 (.p 8 0), kt 13 (.p 9 0), kt 15 (.p 11 0), kt 17 (.i ((safeE v1 v2 a4).2)), kt 22 (.i ((speedE v1 v4.2 a4).1)), kt 29 (.i ((safeE v1 v2 a4).1)), kt 221 (.B v10.1), kb 7 25 11, kb 8 34 8, kb 9 28 4, kb 11 28 4, (.r 1, some (.vec true 2 84 2 (v1.Thrust.flatMap encPt))), (.r 3, some (.vec true 4 84 2 (v1.Water.flatMap encPt))), (.r 5, some (.vec true 6 84 2 (v1.Ice.flatMap encPt))), kc 7 0 (.i v1.Class), kc 7 1 (.i v1.Power), kc 7 2 (.i v1.Draught), kc 7 3 (.i v1.Tonnes), kc 7 4 (.o 1 2 v1.Thrust.length), kc 7 5 (.o 3 4 v1.Water.length), kc 7 6 (.o 5 6 v1.Ice.length), kc 7 7 (.i v1.Slow), kc 7 8 (.i v1.Brash), kc 7 9 (.i v1.Ridge), kc 7 10 (.i v1.Press), kc 8 0 (.i v2.Conc.Lo), kc 8 1 (.i v2.Conc.Hi), kc 8 2 (.i v2.Thick.Lo), kc 8 3 (.i v2.Thick.Hi), kc 8 4 (.i v2.Ridge.Lo), kc 8 5 (.i v2.Ridge.Hi), kc 8 6 (.i v2.Press.Lo), kc 8 7 (.i v2.Press.Hi), kc 9 0 (.i v3.Conc), kc 9 1 (.i v3.Thick), kc 9 2 (.i v3.Ridge), kc 9 3 (.i v3.Press), kc 11 0 (.i v4.2.Conc), kc 11 1 (.i v4.2.Thick), kc 11 2 (.i v4.2.Ridge), kc 11 3 (.i v4.2.Press)]) ?_ (kp rfl) rfl
            refine fin_then ?_
            refine aw_cond rfl (fun hz65 => ?_) (fun hz65 => ?_)
            · have hm := brk_t hz65 hm
              refine aw_seq ?_
              refine aw_text (rows := [_, _, _, _, _, _]) rfl (by kernel_rfl) ⟨
                ok_plain rfl rfl (op_move (ltN rfl) rfl),
                ok_plain rfl rfl (op_bin (ltN rfl) rfl rfl rfl),
                ok_plain rfl rfl (op_move (ltN rfl) rfl),
                ok_if (ltN rfl) rfl rfl rfl rfl rfl rfl (fun hg66 => op_call (x := .B true) (fs := []) (caps := []) (extra := []) (ltN rfl) en_21 rfl ⟨rfl, rfl, rfl⟩ EvL.nil (fun mm aa ww gg hr hrel => (c21 ww (BoxAt.mono hG hrel.below)))),
                ok_plain rfl rfl (op_and (ltN rfl) rfl rfl),
                ok_plain rfl rfl (op_assign (ltN rfl) rfl),
                trivial⟩ ?_
              refine fin_keep (s' := [kt 10 (.B ((((safeE v1 v2 a4).2) == 41) && true))]) ?_ (kp rfl) rfl
              refine fin_then ?_
              refine aw_ret ?_
              refine fin_block_ret ?_
              refine fin_then_ret ?_
              refine post_ret (x := .B ((((safeE v1 v2 a4).2) == 41) && true)) rfl rfl (resOK_tmp rfl resOK_nil) rfl (fun mm aa ww hr => ?_)
              have hm := Option.some.inj hm
              subst hm
              exact ⟨rfl, hr.below⟩
            · have hm := brk_f hz65 hm
              refine aw_seq ?_
              refine aw_text (rows := [_, _, _, _, _, _, _, _, _, _, _, _]) rfl (by kernel_rfl) ⟨
                ok_plain rfl rfl (op_move (ltN rfl) rfl),
                ok_plain rfl rfl (op_bin (ltN rfl) rfl rfl rfl),
                ok_plain rfl rfl (op_move (ltN rfl) rfl),
                ok_if (ltN rfl) rfl rfl rfl rfl rfl rfl (fun hg67 => op_move (ltN rfl) (force_x rfl)),
                ok_if (ltN rfl) rfl rfl rfl rfl rfl rfl (fun hg68 => op_bin (ltN rfl) (force_eq (beq_iff_eq.2 hg68) rfl) rfl rfl),
                ok_plain rfl rfl (op_or (ltN rfl) rfl rfl),
                ok_plain rfl rfl (op_move (ltN rfl) rfl),
                ok_if (ltN rfl) rfl rfl rfl rfl rfl rfl (fun hg69 => op_move (ltN rfl) (force_x rfl)),
                ok_if (ltN rfl) rfl rfl rfl rfl rfl rfl (fun hg70 => op_move (ltN rfl) (force_x rfl)),
                ok_if (ltN rfl) rfl rfl rfl rfl rfl rfl (fun hg71 => op_bin (ltN rfl) (force_eq (beq_iff_eq.2 hg71) rfl) (force_eq (beq_iff_eq.2 hg71) rfl) rfl),
                ok_plain rfl rfl (op_or (ltN rfl) rfl rfl),
                ok_plain rfl rfl (op_assign (ltN rfl) rfl),
                trivial⟩ ?_
              refine fin_keep (s' := [kt 4 (.B a4), kt 11 (.p 7 0), kt 12 (.p 8 0), kt 13 (.p 9 0), kt 15 (.p 11 0), kt 29 (.i ((safeE v1 v2 a4).1)), kt 228 (.B (((((safeE v1 v2 a4).2) != 0) || (decide (((safeE v1 v2 a4).1) < 10))) || (decide (((safeE v1 v2 a4).1) > ((speedE v1 v4.2 a4).1))))), kb 7 25 11, kb 8 34 8, kb 9 28 4, kb 11 28 4, (.r 1, some (.vec true 2 84 2 (v1.Thrust.flatMap encPt))), (.r 3, some (.vec true 4 84 2 (v1.Water.flatMap encPt))), (.r 5, some (.vec true 6 84 2 (v1.Ice.flatMap encPt))), kc 7 0 (.i v1.Class), kc 7 1 (.i v1.Power), kc 7 2 (.i v1.Draught), kc 7 3 (.i v1.Tonnes), kc 7 4 (.o 1 2 v1.Thrust.length), kc 7 5 (.o 3 4 v1.Water.length), kc 7 6 (.o 5 6 v1.Ice.length), kc 7 7 (.i v1.Slow), kc 7 8 (.i v1.Brash), kc 7 9 (.i v1.Ridge), kc 7 10 (.i v1.Press), kc 8 0 (.i v2.Conc.Lo), kc 8 1 (.i v2.Conc.Hi), kc 8 2 (.i v2.Thick.Lo), kc 8 3 (.i v2.Thick.Hi), kc 8 4 (.i v2.Ridge.Lo), kc 8 5 (.i v2.Ridge.Hi), kc 8 6 (.i v2.Press.Lo), kc 8 7 (.i v2.Press.Hi), kc 9 0 (.i v3.Conc), kc 9 1 (.i v3.Thick), kc 9 2 (.i v3.Ridge), kc 9 3 (.i v3.Press), kc 11 0 (.i v4.2.Conc), kc 11 1 (.i v4.2.Thick), kc 11 2 (.i v4.2.Ridge), kc 11 3 (.i v4.2.Press)]) ?_ (kp rfl) rfl
              refine fin_then ?_
              refine aw_cond rfl (fun hz72 => ?_) (fun hz72 => ?_)
              · have hm := brk_t hz72 hm
                refine aw_seq ?_
                refine aw_text (rows := [_]) rfl (by kernel_rfl) ⟨
                  ok_plain rfl rfl (op_assign (ltN rfl) rfl),
                  trivial⟩ ?_
                refine fin_keep (s' := [kt 10 (.B false)]) ?_ (kp rfl) rfl
                refine fin_then ?_
                refine aw_ret ?_
                refine fin_block_ret ?_
                refine fin_then_ret ?_
                refine post_ret (x := .B false) rfl rfl (resOK_tmp rfl resOK_nil) rfl (fun mm aa ww hr => ?_)
                have hm := Option.some.inj hm
                subst hm
                exact ⟨rfl, hr.below⟩
              · have hm := brk_f hz72 hm
                refine aw_skip ?_
                refine fin_block ?_
                refine fin_then ?_
                refine aw_seq ?_
                refine aw_text (rows := [_, _, _, _, _, _, _, _, _, _]) rfl (by kernel_rfl) ⟨
                  ok_plain rfl rfl (op_loadN (ys := [.i v1.Class, .i v1.Power, .i v1.Draught, .i v1.Tonnes, .o 1 2 v1.Thrust.length, .o 3 4 v1.Water.length, .o 5 6 v1.Ice.length, .i v1.Slow, .i v1.Brash, .i v1.Ridge, .i v1.Press]) (ltN rfl) sh_25 rfl rfl ⟨rfl, rfl, rfl, rfl, rfl, rfl, rfl, rfl, rfl, rfl, rfl, trivial⟩),
                  ok_plain rfl rfl (op_loadN (ys := [.i v3.Conc, .i v3.Thick, .i v3.Ridge, .i v3.Press]) (ltN rfl) sh_28 rfl rfl ⟨rfl, rfl, rfl, rfl, trivial⟩),
                  ok_plain rfl rfl (op_move (ltN rfl) rfl),
                  ok_plain rfl rfl (op_move (ltN rfl) rfl),
                  ok_plain rfl rfl (op_call (x := .t [.B ((makesE v1 v3 ((safeE v1 v2 a4).1) a4).1), .i ((makesE v1 v3 ((safeE v1 v2 a4).1) a4).2)]) (fs := []) (caps := []) (extra := (kapp [.r 1] (kapp [.r 3] (kapp [.r 5] [])))) (ltN rfl) en_41 rfl ⟨rfl, rfl, rfl⟩ (EvL.cons rfl (EvL.cons rfl (EvL.cons rfl (EvL.cons rfl EvL.nil)))) (fun mm aa ww gg hr hrel => (c41 v1 ⟨ptr0 (mm 1) (mm 2), v1.Thrust.length, mm 2⟩ ⟨ptr0 (mm 3) (mm 4), v1.Water.length, mm 4⟩ ⟨ptr0 (mm 5) (mm 6), v1.Ice.length, mm 6⟩ v3 ((safeE v1 v2 a4).1) a4 ww (slAt_row (enc := encPt) (l := v1.Thrust) (fun _ => rfl) (by decide) hrel ((hr _ (List.mem_append_left _ (by simp))).trans rfl)) (slAt_row (enc := encPt) (l := v1.Water) (fun _ => rfl) (by decide) hrel ((hr _ (List.mem_append_right _ (List.mem_append_left _ (by simp)))).trans rfl)) (slAt_row (enc := encPt) (l := v1.Ice) (fun _ => rfl) (by decide) hrel ((hr _ (List.mem_append_right _ (List.mem_append_right _ (List.mem_append_left _ (by simp))))).trans rfl))))),
                  ok_plain rfl rfl (op_move (ltN rfl) rfl),
                  ok_plain rfl rfl (op_extract (ltN rfl) rfl rfl),
                  ok_plain rfl rfl (op_extract (ltN rfl) rfl rfl),
                  ok_plain rfl rfl (op_assign (ltN rfl) rfl),
                  ok_plain rfl rfl (op_assign (ltN rfl) rfl),
                  trivial⟩ ?_
                refine fin_keep (s' := [kt 4 (.B a4), kt 11 (.p 7 0), kt 12 (.p 8 0), kt 15 (.p 11 0), kt 17 (.i ((makesE v1 v3 ((safeE v1 v2 a4).1) a4).2)), kt 29 (.i ((safeE v1 v2 a4).1)), kt 32 (.B ((makesE v1 v3 ((safeE v1 v2 a4).1) a4).1)), kb 7 25 11, kb 8 34 8, kb 11 28 4, (.r 1, some (.vec true 2 84 2 (v1.Thrust.flatMap encPt))), (.r 3, some (.vec true 4 84 2 (v1.Water.flatMap encPt))), (.r 5, some (.vec true 6 84 2 (v1.Ice.flatMap encPt))), kc 7 0 (.i v1.Class), kc 7 1 (.i v1.Power), kc 7 2 (.i v1.Draught), kc 7 3 (.i v1.Tonnes), kc 7 4 (.o 1 2 v1.Thrust.length), kc 7 5 (.o 3 4 v1.Water.length), kc 7 6 (.o 5 6 v1.Ice.length), kc 7 7 (.i v1.Slow), kc 7 8 (.i v1.Brash), kc 7 9 (.i v1.Ridge), kc 7 10 (.i v1.Press), kc 8 0 (.i v2.Conc.Lo), kc 8 1 (.i v2.Conc.Hi), kc 8 2 (.i v2.Thick.Lo), kc 8 3 (.i v2.Thick.Hi), kc 8 4 (.i v2.Ridge.Lo), kc 8 5 (.i v2.Ridge.Hi), kc 8 6 (.i v2.Press.Lo), kc 8 7 (.i v2.Press.Hi), kc 11 0 (.i v4.2.Conc), kc 11 1 (.i v4.2.Thick), kc 11 2 (.i v4.2.Ridge), kc 11 3 (.i v4.2.Press)]) ?_ (kp rfl) rfl
                refine fin_then ?_
                refine aw_seq ?_
                obtain ⟨v11, hv11, hm⟩ := bnd_some hm
                refine aw_text (rows := [_, _, _, _, _, _, _, _, _, _, _]) rfl (by kernel_rfl) ⟨
                  ok_plain rfl rfl (op_loadN (ys := [.i v1.Class, .i v1.Power, .i v1.Draught, .i v1.Tonnes, .o 1 2 v1.Thrust.length, .o 3 4 v1.Water.length, .o 5 6 v1.Ice.length, .i v1.Slow, .i v1.Brash, .i v1.Ridge, .i v1.Press]) (ltN rfl) sh_25 rfl rfl ⟨rfl, rfl, rfl, rfl, rfl, rfl, rfl, rfl, rfl, rfl, rfl, trivial⟩),
                  ok_plain rfl rfl (op_loadN (ys := [.i v2.Conc.Lo, .i v2.Conc.Hi, .i v2.Thick.Lo, .i v2.Thick.Hi, .i v2.Ridge.Lo, .i v2.Ridge.Hi, .i v2.Press.Lo, .i v2.Press.Hi]) (ltN rfl) sh_34 rfl rfl ⟨rfl, rfl, rfl, rfl, rfl, rfl, rfl, rfl, trivial⟩),
                  ok_plain rfl rfl (op_move (ltN rfl) rfl),
                  ok_plain rfl rfl (op_move (ltN rfl) rfl),
                  ok_plain rfl rfl (op_call (x := .t [.B v11.1, .B v11.2.1, .i v11.2.2]) (fs := []) (caps := []) (extra := (kapp [.r 1] (kapp [.r 3] (kapp [.r 5] [])))) (ltN rfl) en_56 rfl ⟨rfl, rfl, rfl⟩ (EvL.cons rfl (EvL.cons rfl (EvL.cons rfl (EvL.cons rfl EvL.nil)))) (fun mm aa ww gg hr hrel => (c56 F v1 ⟨ptr0 (mm 1) (mm 2), v1.Thrust.length, mm 2⟩ ⟨ptr0 (mm 3) (mm 4), v1.Water.length, mm 4⟩ ⟨ptr0 (mm 5) (mm 6), v1.Ice.length, mm 6⟩ v2 ((safeE v1 v2 a4).1) a4 ww (slAt_row (enc := encPt) (l := v1.Thrust) (fun _ => rfl) (by decide) hrel ((hr _ (List.mem_append_left _ (by simp))).trans rfl)) (slAt_row (enc := encPt) (l := v1.Water) (fun _ => rfl) (by decide) hrel ((hr _ (List.mem_append_right _ (List.mem_append_left _ (by simp)))).trans rfl)) (slAt_row (enc := encPt) (l := v1.Ice) (fun _ => rfl) (by decide) hrel ((hr _ (List.mem_append_right _ (List.mem_append_right _ (List.mem_append_left _ (by simp))))).trans rfl)) (BoxAt.mono hG hrel.below) v11 hv11))),
                  ok_plain rfl rfl (op_move (ltN rfl) rfl),
                  ok_plain rfl rfl (op_extract (ltN rfl) rfl rfl),
                  ok_plain rfl rfl (op_extract (ltN rfl) rfl rfl),
                  ok_plain rfl rfl (op_extract (ltN rfl) rfl rfl),
                  ok_plain rfl rfl (op_assign (ltN rfl) rfl),
                  ok_plain rfl rfl (op_assign (ltN rfl) rfl),
                  trivial⟩ ?_
                refine fin_keep (s' := [kt 4 (.B a4), kt 11 (.p 7 0), kt 12 (.p 8 0), kt 15 (.p 11 0), kt 17 (.i ((makesE v1 v3 ((safeE v1 v2 a4).1) a4).2)), kt 19 (.i v11.2.2), kt 29 (.i ((safeE v1 v2 a4).1)), kt 30 (.B v11.1), kt 32 (.B ((makesE v1 v3 ((safeE v1 v2 a4).1) a4).1)), kb 7 25 11, kb 8 34 8, kb 11 28 4, (.r 1, some (.vec true 2 84 2 (v1.Thrust.flatMap encPt))), (.r 3, some (.vec true 4 84 2 (v1.Water.flatMap encPt))), (.r 5, some (.vec true 6 84 2 (v1.Ice.flatMap encPt))), kc 7 0 (.i v1.Class), kc 7 1 (.i v1.Power), kc 7 2 (.i v1.Draught), kc 7 3 (.i v1.Tonnes), kc 7 4 (.o 1 2 v1.Thrust.length), kc 7 5 (.o 3 4 v1.Water.length), kc 7 6 (.o 5 6 v1.Ice.length), kc 7 7 (.i v1.Slow), kc 7 8 (.i v1.Brash), kc 7 9 (.i v1.Ridge), kc 7 10 (.i v1.Press), kc 8 0 (.i v2.Conc.Lo), kc 8 1 (.i v2.Conc.Hi), kc 8 2 (.i v2.Thick.Lo), kc 8 3 (.i v2.Thick.Hi), kc 8 4 (.i v2.Ridge.Lo), kc 8 5 (.i v2.Ridge.Hi), kc 8 6 (.i v2.Press.Lo), kc 8 7 (.i v2.Press.Hi), kc 11 0 (.i v4.2.Conc), kc 11 1 (.i v4.2.Thick), kc 11 2 (.i v4.2.Ridge), kc 11 3 (.i v4.2.Press)]) ?_ (kp rfl) rfl
                refine fin_then ?_
                refine aw_seq ?_
                refine aw_seq ?_
                refine aw_text (rows := [_, _, _, _, _, _, _, _, _, _, _, _, _]) rfl (by kernel_rfl) ⟨
                  ok_plain rfl rfl (op_move (ltN rfl) rfl),
                  ok_plain rfl rfl (op_bin (ltN rfl) rfl rfl rfl),
                  ok_plain rfl rfl (op_move (ltN rfl) rfl),
                  ok_if (ltN rfl) rfl rfl rfl rfl rfl rfl (fun hg73 => op_move (ltN rfl) (force_x rfl)),
                  ok_if (ltN rfl) rfl rfl rfl rfl rfl rfl (fun hg74 => op_bin (ltN rfl) (force_eq (beq_iff_eq.2 hg74) rfl) rfl rfl),
                  ok_plain rfl rfl (op_or (ltN rfl) rfl rfl),
                  ok_plain rfl rfl (op_move (ltN rfl) rfl),
                  ok_if (ltN rfl) rfl rfl rfl rfl rfl rfl (fun hg75 => op_move (ltN rfl) (force_x rfl)),
                  ok_if (ltN rfl) rfl rfl rfl rfl rfl rfl (fun hg76 => op_not (ltN rfl) (force_eq (beq_iff_eq.2 hg76) rfl)),
                  ok_plain rfl rfl (op_or (ltN rfl) rfl rfl),
                  ok_plain rfl rfl (op_move (ltN rfl) rfl),
                  ok_if (ltN rfl) rfl rfl rfl rfl rfl rfl (fun hg77 => op_move (ltN rfl) (force_x rfl)),
                  ok_plain rfl rfl (op_or (ltN rfl) rfl rfl),
                  trivial⟩ ?_
                refine fin_keep (s' := [kt 4 (.B a4), kt 11 (.p 7 0), kt 12 (.p 8 0), kt 15 (.p 11 0), kt 29 (.i ((safeE v1 v2 a4).1)), kt 269 (.B ((((((makesE v1 v3 ((safeE v1 v2 a4).1) a4).2) != 0) || (v11.2.2 != 0)) || (!((makesE v1 v3 ((safeE v1 v2 a4).1) a4).1))) || v11.1)), kb 7 25 11, kb 8 34 8, kb 11 28 4, (.r 1, some (.vec true 2 84 2 (v1.Thrust.flatMap encPt))), (.r 3, some (.vec true 4 84 2 (v1.Water.flatMap encPt))), (.r 5, some (.vec true 6 84 2 (v1.Ice.flatMap encPt))), kc 7 0 (.i v1.Class), kc 7 1 (.i v1.Power), kc 7 2 (.i v1.Draught), kc 7 3 (.i v1.Tonnes), kc 7 4 (.o 1 2 v1.Thrust.length), kc 7 5 (.o 3 4 v1.Water.length), kc 7 6 (.o 5 6 v1.Ice.length), kc 7 7 (.i v1.Slow), kc 7 8 (.i v1.Brash), kc 7 9 (.i v1.Ridge), kc 7 10 (.i v1.Press), kc 8 0 (.i v2.Conc.Lo), kc 8 1 (.i v2.Conc.Hi), kc 8 2 (.i v2.Thick.Lo), kc 8 3 (.i v2.Thick.Hi), kc 8 4 (.i v2.Ridge.Lo), kc 8 5 (.i v2.Ridge.Hi), kc 8 6 (.i v2.Press.Lo), kc 8 7 (.i v2.Press.Hi), kc 11 0 (.i v4.2.Conc), kc 11 1 (.i v4.2.Thick), kc 11 2 (.i v4.2.Ridge), kc 11 3 (.i v4.2.Press)]) ?_ (kp rfl) rfl
                refine fin_then ?_
                refine aw_cond rfl (fun hz78 => ?_) (fun hz78 => ?_)
                · have hm := brk_t hz78 hm
                  refine aw_seq ?_
                  refine aw_text (rows := [_]) rfl (by kernel_rfl) ⟨
                    ok_plain rfl rfl (op_assign (ltN rfl) rfl),
                    trivial⟩ ?_
                  refine fin_keep (s' := [kt 10 (.B false)]) ?_ (kp rfl) rfl
                  refine fin_then ?_
                  refine aw_ret ?_
                  refine fin_then_ret ?_
                  refine post_ret (x := .B false) rfl rfl (resOK_tmp rfl resOK_nil) rfl (fun mm aa ww hr => ?_)
                  have hm := Option.some.inj hm
                  subst hm
                  exact ⟨rfl, hr.below⟩
                · have hm := brk_f hz78 hm
                  refine aw_skip ?_
                  refine fin_then ?_
                  refine aw_cutM (ι := Unit) hm (fun x1 => []) (fun hm => ?_) (fun x1 hm => ?_)
                  · have _z := hm
                    refine aw_seq ?_
                    refine aw_text (rows := [_, _]) rfl (by kernel_rfl) ⟨
                      ok_plain rfl rfl (op_move (ltN rfl) rfl),
                      ok_plain rfl rfl (op_bin (ltN rfl) rfl rfl rfl),
                      trivial⟩ ?_
                    refine fin_keep (s' := [kt 4 (.B a4), kt 11 (.p 7 0), kt 12 (.p 8 0), kt 15 (.p 11 0), kt 29 (.i ((safeE v1 v2 a4).1)), kt 271 (.B (decide (((safeE v1 v2 a4).1) < 250))), kb 7 25 11, kb 8 34 8, kb 11 28 4, (.r 1, some (.vec true 2 84 2 (v1.Thrust.flatMap encPt))), (.r 3, some (.vec true 4 84 2 (v1.Water.flatMap encPt))), (.r 5, some (.vec true 6 84 2 (v1.Ice.flatMap encPt))), kc 7 0 (.i v1.Class), kc 7 1 (.i v1.Power), kc 7 2 (.i v1.Draught), kc 7 3 (.i v1.Tonnes), kc 7 4 (.o 1 2 v1.Thrust.length), kc 7 5 (.o 3 4 v1.Water.length), kc 7 6 (.o 5 6 v1.Ice.length), kc 7 7 (.i v1.Slow), kc 7 8 (.i v1.Brash), kc 7 9 (.i v1.Ridge), kc 7 10 (.i v1.Press), kc 8 0 (.i v2.Conc.Lo), kc 8 1 (.i v2.Conc.Hi), kc 8 2 (.i v2.Thick.Lo), kc 8 3 (.i v2.Thick.Hi), kc 8 4 (.i v2.Ridge.Lo), kc 8 5 (.i v2.Ridge.Hi), kc 8 6 (.i v2.Press.Lo), kc 8 7 (.i v2.Press.Hi), kc 11 0 (.i v4.2.Conc), kc 11 1 (.i v4.2.Thick), kc 11 2 (.i v4.2.Ridge), kc 11 3 (.i v4.2.Press)]) ?_ (kp rfl) rfl
                    refine fin_then ?_
                    refine aw_cond rfl (fun hz79 => ?_) (fun hz79 => ?_)
                    · have hm := brk_t hz79 hm
                      refine aw_seq ?_
                      obtain ⟨hp80, hm⟩ := chk_some hm
                      refine aw_text (rows := [_, _, _, _, _, _, _, _, _, _, _]) rfl (by kernel_rfl) ⟨
                        ok_plain rfl rfl (op_loadN (ys := [.i v1.Class, .i v1.Power, .i v1.Draught, .i v1.Tonnes, .o 1 2 v1.Thrust.length, .o 3 4 v1.Water.length, .o 5 6 v1.Ice.length, .i v1.Slow, .i v1.Brash, .i v1.Ridge, .i v1.Press]) (ltN rfl) sh_25 rfl rfl ⟨rfl, rfl, rfl, rfl, rfl, rfl, rfl, rfl, rfl, rfl, rfl, trivial⟩),
                        ok_plain rfl rfl (op_loadN (ys := [.i v4.2.Conc, .i v4.2.Thick, .i v4.2.Ridge, .i v4.2.Press]) (ltN rfl) sh_28 rfl rfl ⟨rfl, rfl, rfl, rfl, trivial⟩),
                        ok_plain rfl rfl (op_move (ltN rfl) rfl),
                        ok_plain rfl rfl (op_bin (ltN rfl) rfl rfl (nw_add hp80)),
                        ok_plain rfl rfl (op_move (ltN rfl) rfl),
                        ok_plain rfl rfl (op_call (x := .t [.B ((makesE v1 v4.2 (((safeE v1 v2 a4).1) + 1) a4).1), .i ((makesE v1 v4.2 (((safeE v1 v2 a4).1) + 1) a4).2)]) (fs := []) (caps := []) (extra := (kapp [.r 1] (kapp [.r 3] (kapp [.r 5] [])))) (ltN rfl) en_41 rfl ⟨rfl, rfl, rfl⟩ (EvL.cons rfl (EvL.cons rfl (EvL.cons rfl (EvL.cons rfl EvL.nil)))) (fun mm aa ww gg hr hrel => (c41 v1 ⟨ptr0 (mm 1) (mm 2), v1.Thrust.length, mm 2⟩ ⟨ptr0 (mm 3) (mm 4), v1.Water.length, mm 4⟩ ⟨ptr0 (mm 5) (mm 6), v1.Ice.length, mm 6⟩ v4.2 (((safeE v1 v2 a4).1) + 1) a4 ww (slAt_row (enc := encPt) (l := v1.Thrust) (fun _ => rfl) (by decide) hrel ((hr _ (List.mem_append_left _ (by simp))).trans rfl)) (slAt_row (enc := encPt) (l := v1.Water) (fun _ => rfl) (by decide) hrel ((hr _ (List.mem_append_right _ (List.mem_append_left _ (by simp)))).trans rfl)) (slAt_row (enc := encPt) (l := v1.Ice) (fun _ => rfl) (by decide) hrel ((hr _ (List.mem_append_right _ (List.mem_append_right _ (List.mem_append_left _ (by simp))))).trans rfl))))),
                        ok_plain rfl rfl (op_move (ltN rfl) rfl),
                        ok_plain rfl rfl (op_extract (ltN rfl) rfl rfl),
                        ok_plain rfl rfl (op_extract (ltN rfl) rfl rfl),
                        ok_plain rfl rfl (op_assign (ltN rfl) rfl),
                        ok_plain rfl rfl (op_assign (ltN rfl) rfl),
                        trivial⟩ ?_
                      refine fin_keep (s' := [kt 4 (.B a4), kt 11 (.p 7 0), kt 12 (.p 8 0), kt 17 (.i ((makesE v1 v4.2 (((safeE v1 v2 a4).1) + 1) a4).2)), kt 29 (.i ((safeE v1 v2 a4).1)), kt 32 (.B ((makesE v1 v4.2 (((safeE v1 v2 a4).1) + 1) a4).1)), kb 7 25 11, kb 8 34 8, (.r 1, some (.vec true 2 84 2 (v1.Thrust.flatMap encPt))), (.r 3, some (.vec true 4 84 2 (v1.Water.flatMap encPt))), (.r 5, some (.vec true 6 84 2 (v1.Ice.flatMap encPt))), kc 7 0 (.i v1.Class), kc 7 1 (.i v1.Power), kc 7 2 (.i v1.Draught), kc 7 3 (.i v1.Tonnes), kc 7 4 (.o 1 2 v1.Thrust.length), kc 7 5 (.o 3 4 v1.Water.length), kc 7 6 (.o 5 6 v1.Ice.length), kc 7 7 (.i v1.Slow), kc 7 8 (.i v1.Brash), kc 7 9 (.i v1.Ridge), kc 7 10 (.i v1.Press), kc 8 0 (.i v2.Conc.Lo), kc 8 1 (.i v2.Conc.Hi), kc 8 2 (.i v2.Thick.Lo), kc 8 3 (.i v2.Thick.Hi), kc 8 4 (.i v2.Ridge.Lo), kc 8 5 (.i v2.Ridge.Hi), kc 8 6 (.i v2.Press.Lo), kc 8 7 (.i v2.Press.Hi)]) ?_ (kp rfl) rfl
                      refine fin_then ?_
                      refine aw_seq ?_
                      obtain ⟨v12, hv12, hm⟩ := bnd_some hm
                      refine aw_text (rows := [_, _, _, _, _, _, _, _, _, _, _, _]) rfl (by kernel_rfl) ⟨
                        ok_plain rfl rfl (op_loadN (ys := [.i v1.Class, .i v1.Power, .i v1.Draught, .i v1.Tonnes, .o 1 2 v1.Thrust.length, .o 3 4 v1.Water.length, .o 5 6 v1.Ice.length, .i v1.Slow, .i v1.Brash, .i v1.Ridge, .i v1.Press]) (ltN rfl) sh_25 rfl rfl ⟨rfl, rfl, rfl, rfl, rfl, rfl, rfl, rfl, rfl, rfl, rfl, trivial⟩),
                        ok_plain rfl rfl (op_loadN (ys := [.i v2.Conc.Lo, .i v2.Conc.Hi, .i v2.Thick.Lo, .i v2.Thick.Hi, .i v2.Ridge.Lo, .i v2.Ridge.Hi, .i v2.Press.Lo, .i v2.Press.Hi]) (ltN rfl) sh_34 rfl rfl ⟨rfl, rfl, rfl, rfl, rfl, rfl, rfl, rfl, trivial⟩),
                        ok_plain rfl rfl (op_move (ltN rfl) rfl),
                        ok_plain rfl rfl (op_bin (ltN rfl) rfl rfl (nw_add hp80)),
                        ok_plain rfl rfl (op_move (ltN rfl) rfl),
                        ok_plain rfl rfl (op_call (x := .t [.B v12.1, .B v12.2.1, .i v12.2.2]) (fs := []) (caps := []) (extra := (kapp [.r 1] (kapp [.r 3] (kapp [.r 5] [])))) (ltN rfl) en_56 rfl ⟨rfl, rfl, rfl⟩ (EvL.cons rfl (EvL.cons rfl (EvL.cons rfl (EvL.cons rfl EvL.nil)))) (fun mm aa ww gg hr hrel => (c56 F v1 ⟨ptr0 (mm 1) (mm 2), v1.Thrust.length, mm 2⟩ ⟨ptr0 (mm 3) (mm 4), v1.Water.length, mm 4⟩ ⟨ptr0 (mm 5) (mm 6), v1.Ice.length, mm 6⟩ v2 (((safeE v1 v2 a4).1) + 1) a4 ww (slAt_row (enc := encPt) (l := v1.Thrust) (fun _ => rfl) (by decide) hrel ((hr _ (List.mem_append_left _ (by simp))).trans rfl)) (slAt_row (enc := encPt) (l := v1.Water) (fun _ => rfl) (by decide) hrel ((hr _ (List.mem_append_right _ (List.mem_append_left _ (by simp)))).trans rfl)) (slAt_row (enc := encPt) (l := v1.Ice) (fun _ => rfl) (by decide) hrel ((hr _ (List.mem_append_right _ (List.mem_append_right _ (List.mem_append_left _ (by simp))))).trans rfl)) (BoxAt.mono hG hrel.below) v12 hv12))),
                        ok_plain rfl rfl (op_move (ltN rfl) rfl),
                        ok_plain rfl rfl (op_extract (ltN rfl) rfl rfl),
                        ok_plain rfl rfl (op_extract (ltN rfl) rfl rfl),
                        ok_plain rfl rfl (op_extract (ltN rfl) rfl rfl),
                        ok_plain rfl rfl (op_assign (ltN rfl) rfl),
                        ok_plain rfl rfl (op_assign (ltN rfl) rfl),
                        trivial⟩ ?_
                      refine fin_keep (s' := [kt 17 (.i ((makesE v1 v4.2 (((safeE v1 v2 a4).1) + 1) a4).2)), kt 19 (.i v12.2.2), kt 30 (.B v12.1), kt 32 (.B ((makesE v1 v4.2 (((safeE v1 v2 a4).1) + 1) a4).1))]) ?_ (kp rfl) rfl
                      refine fin_then ?_
                      refine aw_seq ?_
                      refine aw_text (rows := [_, _, _, _, _, _, _, _, _, _, _, _, _]) rfl (by kernel_rfl) ⟨
                        ok_plain rfl rfl (op_move (ltN rfl) rfl),
                        ok_plain rfl rfl (op_bin (ltN rfl) rfl rfl rfl),
                        ok_plain rfl rfl (op_move (ltN rfl) rfl),
                        ok_if (ltN rfl) rfl rfl rfl rfl rfl rfl (fun hg81 => op_move (ltN rfl) (force_x rfl)),
                        ok_if (ltN rfl) rfl rfl rfl rfl rfl rfl (fun hg82 => op_bin (ltN rfl) (force_eq (beq_iff_eq.2 hg82) rfl) rfl rfl),
                        ok_plain rfl rfl (op_or (ltN rfl) rfl rfl),
                        ok_plain rfl rfl (op_move (ltN rfl) rfl),
                        ok_if (ltN rfl) rfl rfl rfl rfl rfl rfl (fun hg83 => op_move (ltN rfl) (force_x rfl)),
                        ok_if (ltN rfl) rfl rfl rfl rfl rfl rfl (fun hg84 => op_move (ltN rfl) (force_eq (beq_iff_eq.2 hg84) rfl)),
                        ok_ifC (ltN rfl) rfl rfl rfl rfl rfl rfl (fun hg85 => op_move (ltN rfl) (force_x rfl)),
                        ok_ifC (ltN rfl) rfl rfl rfl rfl rfl rfl (fun hg86 => op_not (ltN rfl) (force_eq hg86 rfl)),
                        ok_if (ltN rfl) rfl rfl rfl rfl rfl rfl (fun hg87 => op_andF (ltN rfl) (beq_iff_eq.2 hg87) rfl rfl),
                        ok_plain rfl rfl (op_or (ltN rfl) rfl rfl),
                        trivial⟩ ?_
                      refine fin_keep (s' := [kt 303 (.B (((((makesE v1 v4.2 (((safeE v1 v2 a4).1) + 1) a4).2) != 0) || (v12.2.2 != 0)) || (((makesE v1 v4.2 (((safeE v1 v2 a4).1) + 1) a4).1) && (!v12.1))))]) ?_ (kp rfl) rfl
                      refine fin_then ?_
                      refine aw_cond rfl (fun hz88 => ?_) (fun hz88 => ?_)
                      · have hm := brk_t hz88 hm
                        refine aw_seq ?_
                        refine aw_text (rows := [_]) rfl (by kernel_rfl) ⟨
                          ok_plain rfl rfl (op_assign (ltN rfl) rfl),
                          trivial⟩ ?_
                        refine fin_keep (s' := [kt 10 (.B false)]) ?_ (kp rfl) rfl
                        refine fin_then ?_
                        refine aw_ret ?_
                        refine fin_then_ret ?_
                        refine post_ret (x := .B false) rfl rfl (resOK_tmp rfl resOK_nil) rfl (fun mm aa ww hr => ?_)
                        have hm := Option.some.inj hm
                        subst hm
                        exact ⟨rfl, hr.below⟩
                      · have hm := brk_f hz88 hm
                        refine aw_skip ?_
                        exact fin_cut () hm trivial rfl
                    · have hm := brk_f hz79 hm
                      refine aw_skip ?_
                      exact fin_cut () hm trivial rfl
                  · have _z := hm
                    refine aw_seq ?_
                    refine aw_text (rows := [_, _]) rfl (by kernel_rfl) ⟨
                      ok_plain rfl rfl (op_call (x := .B true) (fs := []) (caps := []) (extra := []) (ltN rfl) en_21 rfl ⟨rfl, rfl, rfl⟩ EvL.nil (fun mm aa ww gg hr hrel => (c21 ww (BoxAt.mono hG hrel.below)))),
                      ok_plain rfl rfl (op_assign (ltN rfl) rfl),
                      trivial⟩ ?_
                    refine fin_keep (s' := [kt 10 (.B true)]) ?_ (kp rfl) rfl
                    refine fin_then ?_
                    refine aw_ret ?_
                    refine post_ret (x := .B true) rfl rfl (resOK_tmp rfl resOK_nil) rfl (fun mm aa ww hr => ?_)
                    have hm := Option.some.inj hm
                    subst hm
                    exact ⟨rfl, hr.below⟩

end Go.Proofs.T
