/-
  This file has contracts of functions of the program: where the mirror gives a value, the call returns it. Conditions: those that each theorem names.
-/
import Derived.Test.YtgpcfckbcldokaaDoorHb4
namespace Go.Proofs.T
open Go Go.AX Go.RowKit Hull
theorem en_116 : Proofs.Enters Tryd.prog 116 := Proofs.enters_of Tryd.func116 (by kernel_rfl) rfl
theorem zl_108 : zeroL Tryd.prog 108 = some [(.int .i64 0), (.int .i64 0), (.int .i64 0), (.int .i64 0)] := by kernel_rfl
theorem sz_108 : sizeIn Tryd.prog 108 = some 4 := by kernel_rfl
theorem en_117 : Proofs.Enters Tryd.prog 117 := Proofs.enters_of Tryd.func117 (by kernel_rfl) rfl
theorem ss_176 : sliceSz Tryd.prog 176 = some 11 := by kernel_rfl

def m53 (F : Nat) (a0 : Ship) (a1 : Int) (a2 : Bool) : Option (Int × Int) :=
  bnd (m116 F a0 ((⟨0, 0, 0, 0⟩ : Ice)) a1) (fun v1 => brk (v1 != 0) (some (0, v1)) (join (fun (x1 : Int) => brk (decide (x1 < 0)) (some (0, 4)) (some (x1, 0))) (fun k1 => loopC (fun (x2 : Int × Int) n2 => brk (decide (x2.2 ≤ 400)) (join (fun (x3 : Int) => chk (InR (x2.2 + 1)) (n2 (x3, x2.2 + 1))) (fun k3 => bnd (m96 F a0 ((⟨100, x2.2, 0, 0⟩ : Ice)) a1 a2) (fun v2 => brk (v2) (k3 x2.2) (k3 x2.1)))) (k1 x2.1)) F ((-1), 0))))

theorem c53 (F : Nat) (a0 : Ship) (a0_Thrust_s : SlV) (a0_Water_s : SlV) (a0_Ice_s : SlV) (a1 : Int) (a2 : Bool) (w : World) (ha0_Thrust : SlIs encPt 2 w a0_Thrust_s a0.Thrust) (ha0_Water : SlIs encPt 2 w a0_Water_s a0.Water) (ha0_Ice : SlIs encPt 2 w a0_Ice_s a0.Ice) (r : Int × Int) (hm : m53 F a0 a1 a2 = some r) : Calls Tryd.prog 53 #[.agg #[.int .i64 a0.Class, .int .i64 a0.Power, .int .i64 a0.Draught, .int .i64 a0.Tonnes, .slice a0_Thrust_s.p a0_Thrust_s.n a0_Thrust_s.c, .slice a0_Water_s.p a0_Water_s.n a0_Water_s.c, .slice a0_Ice_s.p a0_Ice_s.n a0_Ice_s.c, .int .i64 a0.Slow, .int .i64 a0.Brash, .int .i64 a0.Ridge, .int .i64 a0.Press], .int .i64 a1, .bool a2] w fun e w' => e = .returned (.tuple #[.int .i64 r.1, .int .i64 r.2]) ∧ Below w.heap.size w w' := by
  obtain ⟨a0_Thrust_p, a0_Thrust_n, a0_Thrust_c⟩ := a0_Thrust_s
  have ha0_Thrust_l : a0_Thrust_n = a0.Thrust.length := ha0_Thrust.1
  subst ha0_Thrust_l
  obtain ⟨a0_Thrust_b, a0_Thrust_o, ha0_Thrust_p, ha0_Thrust_L⟩ := SlAt.lies' ha0_Thrust
  obtain ⟨a0_Water_p, a0_Water_n, a0_Water_c⟩ := a0_Water_s
  have ha0_Water_l : a0_Water_n = a0.Water.length := ha0_Water.1
  subst ha0_Water_l
  obtain ⟨a0_Water_b, a0_Water_o, ha0_Water_p, ha0_Water_L⟩ := SlAt.lies' ha0_Water
  obtain ⟨a0_Ice_p, a0_Ice_n, a0_Ice_c⟩ := a0_Ice_s
  have ha0_Ice_l : a0_Ice_n = a0.Ice.length := ha0_Ice.1
  subst ha0_Ice_l
  obtain ⟨a0_Ice_b, a0_Ice_o, ha0_Ice_p, ha0_Ice_L⟩ := SlAt.lies' ha0_Ice
  unfold m53 at hm
  refine enter (args := [.g [.i a0.Class, .i a0.Power, .i a0.Draught, .i a0.Tonnes, .v (.slice a0_Thrust_p a0.Thrust.length a0_Thrust_c), .v (.slice a0_Water_p a0.Water.length a0_Water_c), .v (.slice a0_Ice_p a0.Ice.length a0_Ice_c), .i a0.Slow, .i a0.Brash, .i a0.Ridge, .i a0.Press], .i a1, .B a2]) Tryd.func53 rfl (N := 32) rfl (Nat.le_of_ble_eq_true rfl) ?_
  refine aw_seq ?_
  refine aw_text (rows := [_, _, _]) rfl (by kernel_rfl) ⟨
    ok_plain rfl rfl (op_boxN (L := 1) (ltN rfl) rfl rfl rfl),
    ok_plain rfl rfl (op_assign (ltN rfl) rfl),
    ok_plain rfl rfl (op_assign (ltN rfl) rfl),
    trivial⟩ ?_
  refine fin_keep (s' := [kt 1 (.i a1), kt 2 (.B a2), kt 3 (.p 1 0), kb 1 64 11, kc 1 0 (.i a0.Class), kc 1 1 (.i a0.Power), kc 1 2 (.i a0.Draught), kc 1 3 (.i a0.Tonnes), kc 1 4 (.v (.slice a0_Thrust_p a0.Thrust.length a0_Thrust_c)), kc 1 5 (.v (.slice a0_Water_p a0.Water.length a0_Water_c)), kc 1 6 (.v (.slice a0_Ice_p a0.Ice.length a0_Ice_c)), kc 1 7 (.i a0.Slow), kc 1 8 (.i a0.Brash), kc 1 9 (.i a0.Ridge), kc 1 10 (.i a0.Press)]) ?_ (kp rfl) rfl
  refine fin_then ?_
  refine aw_seq ?_
  refine aw_seq ?_
  obtain ⟨v1, hv1, hm⟩ := bnd_some hm
  refine aw_text (rows := [_, _, _, _, _]) rfl (by kernel_rfl) ⟨
    ok_plain rfl rfl (op_loadN (ys := [.i a0.Class, .i a0.Power, .i a0.Draught, .i a0.Tonnes, .v (.slice a0_Thrust_p a0.Thrust.length a0_Thrust_c), .v (.slice a0_Water_p a0.Water.length a0_Water_c), .v (.slice a0_Ice_p a0.Ice.length a0_Ice_c), .i a0.Slow, .i a0.Brash, .i a0.Ridge, .i a0.Press]) (ltN rfl) sh_64 rfl rfl ⟨rfl, rfl, rfl, rfl, rfl, rfl, rfl, rfl, rfl, rfl, rfl, trivial⟩),
    ok_plain rfl rfl (op_build (x := .g [.i 0, .i 0, .i 0, .i 0]) (ltN rfl) EvL.nil (fun m w => by kernel_rfl)),
    ok_plain rfl rfl (op_move (ltN rfl) rfl),
    ok_plain rfl rfl (op_call (x := .i v1) (fs := []) (caps := []) (extra := []) (ltN rfl) en_116 rfl ⟨rfl, rfl, rfl⟩ (EvL.cons rfl (EvL.cons rfl (EvL.cons rfl EvL.nil))) (fun mm aa ww gg hr hrel => (c116 F a0 ⟨a0_Thrust_p, a0.Thrust.length, a0_Thrust_c⟩ ⟨a0_Water_p, a0.Water.length, a0_Water_c⟩ ⟨a0_Ice_p, a0.Ice.length, a0_Ice_c⟩ ((⟨0, 0, 0, 0⟩ : Ice)) a1 ww (SlIs.mono ha0_Thrust hrel.below) (SlIs.mono ha0_Water hrel.below) (SlIs.mono ha0_Ice hrel.below) v1 hv1))),
    ok_plain rfl rfl (op_assign (ltN rfl) rfl),
    trivial⟩ ?_
  refine fin_keep (s' := [kt 1 (.i a1), kt 2 (.B a2), kt 3 (.p 1 0), kt 8 (.i v1), kb 1 64 11, kc 1 0 (.i a0.Class), kc 1 1 (.i a0.Power), kc 1 2 (.i a0.Draught), kc 1 3 (.i a0.Tonnes), kc 1 4 (.v (.slice a0_Thrust_p a0.Thrust.length a0_Thrust_c)), kc 1 5 (.v (.slice a0_Water_p a0.Water.length a0_Water_c)), kc 1 6 (.v (.slice a0_Ice_p a0.Ice.length a0_Ice_c)), kc 1 7 (.i a0.Slow), kc 1 8 (.i a0.Brash), kc 1 9 (.i a0.Ridge), kc 1 10 (.i a0.Press)]) ?_ (kp rfl) rfl
  refine fin_then ?_
  refine aw_seq ?_
  refine aw_text (rows := [_, _]) rfl (by kernel_rfl) ⟨
    ok_plain rfl rfl (op_move (ltN rfl) rfl),
    ok_plain rfl rfl (op_bin (ltN rfl) rfl rfl rfl),
    trivial⟩ ?_
  refine fin_keep (s' := [kt 1 (.i a1), kt 2 (.B a2), kt 3 (.p 1 0), kt 8 (.i v1), kt 16 (.B (v1 != 0)), kb 1 64 11, kc 1 0 (.i a0.Class), kc 1 1 (.i a0.Power), kc 1 2 (.i a0.Draught), kc 1 3 (.i a0.Tonnes), kc 1 4 (.v (.slice a0_Thrust_p a0.Thrust.length a0_Thrust_c)), kc 1 5 (.v (.slice a0_Water_p a0.Water.length a0_Water_c)), kc 1 6 (.v (.slice a0_Ice_p a0.Ice.length a0_Ice_c)), kc 1 7 (.i a0.Slow), kc 1 8 (.i a0.Brash), kc 1 9 (.i a0.Ridge), kc 1 10 (.i a0.Press)]) ?_ (kp rfl) rfl
  refine fin_then ?_
  refine aw_cond rfl (fun hz1 => ?_) (fun hz1 => ?_)
  · have hm := brk_t hz1 hm
    refine aw_seq ?_
    refine aw_text (rows := [_, _, _]) rfl (by kernel_rfl) ⟨
      ok_plain rfl rfl (op_move (ltN rfl) rfl),
      ok_plain rfl rfl (op_assign (ltN rfl) rfl),
      ok_plain rfl rfl (op_assign (ltN rfl) rfl),
      trivial⟩ ?_
    refine fin_keep (s' := [kt 6 (.i 0), kt 7 (.i v1)]) ?_ (kp rfl) rfl
    refine fin_then ?_
    refine aw_ret ?_
    refine fin_then_ret ?_
    refine post_ret (x := .t [.i 0, .i v1]) rfl rfl (resOK_tmp rfl (resOK_tmp rfl resOK_nil)) rfl (fun mm aa ww hr => ?_)
    have hm := Option.some.inj hm
    subst hm
    exact ⟨rfl, hr.below⟩
  · have hm := brk_f hz1 hm
    refine aw_skip ?_
    refine fin_then ?_
    refine aw_seq ?_
    refine aw_text (rows := [_]) rfl (by kernel_rfl) ⟨
      ok_plain rfl rfl (op_assign (ltN rfl) rfl),
      trivial⟩ ?_
    refine fin_keep (s' := [kt 1 (.i a1), kt 2 (.B a2), kt 3 (.p 1 0), kt 9 (.i ((-1))), kb 1 64 11, kc 1 0 (.i a0.Class), kc 1 1 (.i a0.Power), kc 1 2 (.i a0.Draught), kc 1 3 (.i a0.Tonnes), kc 1 4 (.v (.slice a0_Thrust_p a0.Thrust.length a0_Thrust_c)), kc 1 5 (.v (.slice a0_Water_p a0.Water.length a0_Water_c)), kc 1 6 (.v (.slice a0_Ice_p a0.Ice.length a0_Ice_c)), kc 1 7 (.i a0.Slow), kc 1 8 (.i a0.Brash), kc 1 9 (.i a0.Ridge), kc 1 10 (.i a0.Press)]) ?_ (kp rfl) rfl
    refine fin_then ?_
    refine aw_cutM (ι := Int) hm (fun x1 => [kt 9 (.i x1)]) (fun hm => ?_) (fun x1 hm => ?_)
    · have _z := hm
      refine aw_seq ?_
      refine aw_text (rows := [_]) rfl (by kernel_rfl) ⟨
        ok_plain rfl rfl (op_assign (ltN rfl) rfl),
        trivial⟩ ?_
      refine fin_keep (s' := [kt 1 (.i a1), kt 2 (.B a2), kt 3 (.p 1 0), kt 9 (.i ((-1))), kt 10 (.i 0), kb 1 64 11, kc 1 0 (.i a0.Class), kc 1 1 (.i a0.Power), kc 1 2 (.i a0.Draught), kc 1 3 (.i a0.Tonnes), kc 1 4 (.v (.slice a0_Thrust_p a0.Thrust.length a0_Thrust_c)), kc 1 5 (.v (.slice a0_Water_p a0.Water.length a0_Water_c)), kc 1 6 (.v (.slice a0_Ice_p a0.Ice.length a0_Ice_c)), kc 1 7 (.i a0.Slow), kc 1 8 (.i a0.Brash), kc 1 9 (.i a0.Ridge), kc 1 10 (.i a0.Press)]) ?_ (kp rfl) rfl
      refine fin_then ?_
      refine aw_block ?_
      refine aw_loopC hm (fun x2 => [kt 1 (.i a1), kt 2 (.B a2), kt 3 (.p 1 0), kt 9 (.i x2.1), kt 10 (.i x2.2), kb 1 64 11, kc 1 0 (.i a0.Class), kc 1 1 (.i a0.Power), kc 1 2 (.i a0.Draught), kc 1 3 (.i a0.Tonnes), kc 1 4 (.v (.slice a0_Thrust_p a0.Thrust.length a0_Thrust_c)), kc 1 5 (.v (.slice a0_Water_p a0.Water.length a0_Water_c)), kc 1 6 (.v (.slice a0_Ice_p a0.Ice.length a0_Ice_c)), kc 1 7 (.i a0.Slow), kc 1 8 (.i a0.Brash), kc 1 9 (.i a0.Ridge), kc 1 10 (.i a0.Press)]) ⟨rfl, rfl, rfl, rfl, rfl, rfl, rfl, rfl, rfl, rfl, rfl, rfl, rfl, rfl, rfl, rfl, rfl, trivial⟩ rfl (fun x2 n2 hm => ?_)
      refine aw_seq ?_
      refine aw_seq ?_
      refine aw_text (rows := [_, _]) rfl (by kernel_rfl) ⟨
        ok_plain rfl rfl (op_move (ltN rfl) rfl),
        ok_plain rfl rfl (op_bin (ltN rfl) rfl rfl rfl),
        trivial⟩ ?_
      refine fin_keep (s' := [kt 1 (.i a1), kt 2 (.B a2), kt 3 (.p 1 0), kt 9 (.i x2.1), kt 10 (.i x2.2), kt 19 (.B (decide (x2.2 ≤ 400))), kb 1 64 11, kc 1 0 (.i a0.Class), kc 1 1 (.i a0.Power), kc 1 2 (.i a0.Draught), kc 1 3 (.i a0.Tonnes), kc 1 4 (.v (.slice a0_Thrust_p a0.Thrust.length a0_Thrust_c)), kc 1 5 (.v (.slice a0_Water_p a0.Water.length a0_Water_c)), kc 1 6 (.v (.slice a0_Ice_p a0.Ice.length a0_Ice_c)), kc 1 7 (.i a0.Slow), kc 1 8 (.i a0.Brash), kc 1 9 (.i a0.Ridge), kc 1 10 (.i a0.Press)]) ?_ (kp rfl) rfl
      refine fin_then ?_
      refine aw_cond rfl (fun hz2 => ?_) (fun hz2 => ?_)
      · have hm := brk_t hz2 hm
        refine aw_skip ?_
        refine fin_then ?_
        refine aw_cutM (ι := Int) hm (fun x3 => [kt 1 (.i a1), kt 2 (.B a2), kt 3 (.p 1 0), kt 9 (.i x3), kt 10 (.i x2.2), kb 1 64 11, kc 1 0 (.i a0.Class), kc 1 1 (.i a0.Power), kc 1 2 (.i a0.Draught), kc 1 3 (.i a0.Tonnes), kc 1 4 (.v (.slice a0_Thrust_p a0.Thrust.length a0_Thrust_c)), kc 1 5 (.v (.slice a0_Water_p a0.Water.length a0_Water_c)), kc 1 6 (.v (.slice a0_Ice_p a0.Ice.length a0_Ice_c)), kc 1 7 (.i a0.Slow), kc 1 8 (.i a0.Brash), kc 1 9 (.i a0.Ridge), kc 1 10 (.i a0.Press)]) (fun hm => ?_) (fun x3 hm => ?_)
        · have _z := hm
          refine aw_block ?_
          refine aw_seq ?_
          obtain ⟨v2, hv2, hm⟩ := bnd_some hm
          refine aw_text (rows := [_, _, _, _, _, _]) rfl (by kernel_rfl) ⟨
            ok_plain rfl rfl (op_loadN (ys := [.i a0.Class, .i a0.Power, .i a0.Draught, .i a0.Tonnes, .v (.slice a0_Thrust_p a0.Thrust.length a0_Thrust_c), .v (.slice a0_Water_p a0.Water.length a0_Water_c), .v (.slice a0_Ice_p a0.Ice.length a0_Ice_c), .i a0.Slow, .i a0.Brash, .i a0.Ridge, .i a0.Press]) (ltN rfl) sh_64 rfl rfl ⟨rfl, rfl, rfl, rfl, rfl, rfl, rfl, rfl, rfl, rfl, rfl, trivial⟩),
            ok_plain rfl rfl (op_move (ltN rfl) rfl),
            ok_plain rfl rfl (op_build (x := .g [.i 100, .i x2.2, .i 0, .i 0]) (ltN rfl) (EvL.cons rfl (EvL.cons rfl EvL.nil)) (fun m w => by kernel_rfl)),
            ok_plain rfl rfl (op_move (ltN rfl) rfl),
            ok_plain rfl rfl (op_move (ltN rfl) rfl),
            ok_plain rfl rfl (op_call (x := .B v2) (fs := []) (caps := []) (extra := []) (ltN rfl) en_96 rfl ⟨rfl, rfl, rfl⟩ (EvL.cons rfl (EvL.cons rfl (EvL.cons rfl (EvL.cons rfl EvL.nil)))) (fun mm aa ww gg hr hrel => (c96 F a0 ⟨a0_Thrust_p, a0.Thrust.length, a0_Thrust_c⟩ ⟨a0_Water_p, a0.Water.length, a0_Water_c⟩ ⟨a0_Ice_p, a0.Ice.length, a0_Ice_c⟩ ((⟨100, x2.2, 0, 0⟩ : Ice)) a1 a2 ww (SlIs.mono ha0_Thrust hrel.below) (SlIs.mono ha0_Water hrel.below) (SlIs.mono ha0_Ice hrel.below) v2 hv2))),
            trivial⟩ ?_
          refine fin_keep (s' := [kt 1 (.i a1), kt 2 (.B a2), kt 3 (.p 1 0), kt 9 (.i x2.1), kt 10 (.i x2.2), kt 27 (.B v2), kb 1 64 11, kc 1 0 (.i a0.Class), kc 1 1 (.i a0.Power), kc 1 2 (.i a0.Draught), kc 1 3 (.i a0.Tonnes), kc 1 4 (.v (.slice a0_Thrust_p a0.Thrust.length a0_Thrust_c)), kc 1 5 (.v (.slice a0_Water_p a0.Water.length a0_Water_c)), kc 1 6 (.v (.slice a0_Ice_p a0.Ice.length a0_Ice_c)), kc 1 7 (.i a0.Slow), kc 1 8 (.i a0.Brash), kc 1 9 (.i a0.Ridge), kc 1 10 (.i a0.Press)]) ?_ (kp rfl) rfl
          refine fin_then ?_
          refine aw_cond rfl (fun hz3 => ?_) (fun hz3 => ?_)
          · have hm := brk_t hz3 hm
            refine aw_text (rows := [_, _]) rfl (by kernel_rfl) ⟨
              ok_plain rfl rfl (op_move (ltN rfl) rfl),
              ok_plain rfl rfl (op_assign (ltN rfl) rfl),
              trivial⟩ ?_
            refine fin_keep (s' := [kt 1 (.i a1), kt 2 (.B a2), kt 3 (.p 1 0), kt 9 (.i x2.2), kt 10 (.i x2.2), kb 1 64 11, kc 1 0 (.i a0.Class), kc 1 1 (.i a0.Power), kc 1 2 (.i a0.Draught), kc 1 3 (.i a0.Tonnes), kc 1 4 (.v (.slice a0_Thrust_p a0.Thrust.length a0_Thrust_c)), kc 1 5 (.v (.slice a0_Water_p a0.Water.length a0_Water_c)), kc 1 6 (.v (.slice a0_Ice_p a0.Ice.length a0_Ice_c)), kc 1 7 (.i a0.Slow), kc 1 8 (.i a0.Brash), kc 1 9 (.i a0.Ridge), kc 1 10 (.i a0.Press)]) ?_ (kp rfl) rfl
            refine fin_block ?_
            exact fin_cut x2.2 hm ⟨rfl, rfl, rfl, rfl, rfl, rfl, rfl, rfl, rfl, rfl, rfl, rfl, rfl, rfl, rfl, rfl, rfl, trivial⟩ rfl
          · have hm := brk_f hz3 hm
            refine aw_skip ?_
            refine fin_block ?_
            exact fin_cut x2.1 hm ⟨rfl, rfl, rfl, rfl, rfl, rfl, rfl, rfl, rfl, rfl, rfl, rfl, rfl, rfl, rfl, rfl, rfl, trivial⟩ rfl
        · have _z := hm
          obtain ⟨hp4, hm⟩ := chk_some hm
          refine aw_text (rows := [_, _, _]) rfl (by kernel_rfl) ⟨
            ok_plain rfl rfl (op_move (ltN rfl) rfl),
            ok_plain rfl rfl (op_bin (ltN rfl) rfl rfl (nw_add hp4)),
            ok_plain rfl rfl (op_assign (ltN rfl) rfl),
            trivial⟩ ?_
          refine fin_keep (s' := [kt 1 (.i a1), kt 2 (.B a2), kt 3 (.p 1 0), kt 9 (.i x3), kt 10 (.i (x2.2 + 1)), kb 1 64 11, kc 1 0 (.i a0.Class), kc 1 1 (.i a0.Power), kc 1 2 (.i a0.Draught), kc 1 3 (.i a0.Tonnes), kc 1 4 (.v (.slice a0_Thrust_p a0.Thrust.length a0_Thrust_c)), kc 1 5 (.v (.slice a0_Water_p a0.Water.length a0_Water_c)), kc 1 6 (.v (.slice a0_Ice_p a0.Ice.length a0_Ice_c)), kc 1 7 (.i a0.Slow), kc 1 8 (.i a0.Brash), kc 1 9 (.i a0.Ridge), kc 1 10 (.i a0.Press)]) ?_ (kp rfl) rfl
          exact fin_cut (x3, x2.2 + 1) hm ⟨rfl, rfl, rfl, rfl, rfl, rfl, rfl, rfl, rfl, rfl, rfl, rfl, rfl, rfl, rfl, rfl, rfl, trivial⟩ rfl
      · have hm := brk_f hz2 hm
        refine aw_exit ?_
        refine fin_then_exit ?_
        refine fin_then_exit ?_
        refine fin_block_exit ?_
        exact fin_cut x2.1 hm ⟨rfl, trivial⟩ rfl
    · have _z := hm
      refine aw_seq ?_
      refine aw_seq ?_
      refine aw_text (rows := [_, _]) rfl (by kernel_rfl) ⟨
        ok_plain rfl rfl (op_move (ltN rfl) rfl),
        ok_plain rfl rfl (op_bin (ltN rfl) rfl rfl rfl),
        trivial⟩ ?_
      refine fin_keep (s' := [kt 9 (.i x1), kt 30 (.B (decide (x1 < 0)))]) ?_ (kp rfl) rfl
      refine fin_then ?_
      refine aw_cond rfl (fun hz5 => ?_) (fun hz5 => ?_)
      · have hm := brk_t hz5 hm
        refine aw_seq ?_
        refine aw_text (rows := [_, _]) rfl (by kernel_rfl) ⟨
          ok_plain rfl rfl (op_assign (ltN rfl) rfl),
          ok_plain rfl rfl (op_assign (ltN rfl) rfl),
          trivial⟩ ?_
        refine fin_keep (s' := [kt 6 (.i 0), kt 7 (.i 4)]) ?_ (kp rfl) rfl
        refine fin_then ?_
        refine aw_ret ?_
        refine fin_then_ret ?_
        refine post_ret (x := .t [.i 0, .i 4]) rfl rfl (resOK_tmp rfl (resOK_tmp rfl resOK_nil)) rfl (fun mm aa ww hr => ?_)
        have hm := Option.some.inj hm
        subst hm
        exact ⟨rfl, hr.below⟩
      · have hm := brk_f hz5 hm
        refine aw_skip ?_
        refine fin_then ?_
        refine aw_seq ?_
        refine aw_text (rows := [_, _, _]) rfl (by kernel_rfl) ⟨
          ok_plain rfl rfl (op_move (ltN rfl) rfl),
          ok_plain rfl rfl (op_assign (ltN rfl) rfl),
          ok_plain rfl rfl (op_assign (ltN rfl) rfl),
          trivial⟩ ?_
        refine fin_keep (s' := [kt 6 (.i x1), kt 7 (.i 0)]) ?_ (kp rfl) rfl
        refine fin_then ?_
        refine aw_ret ?_
        refine post_ret (x := .t [.i x1, .i 0]) rfl rfl (resOK_tmp rfl (resOK_tmp rfl resOK_nil)) rfl (fun mm aa ww hr => ?_)
        have hm := Option.some.inj hm
        subst hm
        exact ⟨rfl, hr.below⟩

def m54 (F : Nat) (a0 : Ship) (a1 : Ship) : Option (Int × Int) :=
  bnd (m47 F a0) (fun v1 => brk (v1 != 0) (some (0, v1)) (bnd (m47 F a1) (fun v2 => brk (v2 != 0) (some (0, v2)) (join (fun (_ : Unit) => some (0, 4)) (fun k1 => loopC (fun (x2 : Int) n2 => brk (decide (x2 ≤ 400)) (bnd (m117 F a0 ((⟨100, x2, 0, 0⟩ : Ice)) false) (fun v3 => bnd (m117 F a1 ((⟨100, x2, 0, 0⟩ : Ice)) false) (fun v4 => brk (decide (v3 < v4)) (some (x2, 0)) (chk (InR (x2 + 1)) (n2 (x2 + 1)))))) (k1 ())) F 0)))))

theorem c54 (F : Nat) (a0 : Ship) (a0_Thrust_s : SlV) (a0_Water_s : SlV) (a0_Ice_s : SlV) (a1 : Ship) (a1_Thrust_s : SlV) (a1_Water_s : SlV) (a1_Ice_s : SlV) (w : World) (ha0_Thrust : SlIs encPt 2 w a0_Thrust_s a0.Thrust) (ha0_Water : SlIs encPt 2 w a0_Water_s a0.Water) (ha0_Ice : SlIs encPt 2 w a0_Ice_s a0.Ice) (ha1_Thrust : SlIs encPt 2 w a1_Thrust_s a1.Thrust) (ha1_Water : SlIs encPt 2 w a1_Water_s a1.Water) (ha1_Ice : SlIs encPt 2 w a1_Ice_s a1.Ice) (r : Int × Int) (hm : m54 F a0 a1 = some r) : Calls Tryd.prog 54 #[.agg #[.int .i64 a0.Class, .int .i64 a0.Power, .int .i64 a0.Draught, .int .i64 a0.Tonnes, .slice a0_Thrust_s.p a0_Thrust_s.n a0_Thrust_s.c, .slice a0_Water_s.p a0_Water_s.n a0_Water_s.c, .slice a0_Ice_s.p a0_Ice_s.n a0_Ice_s.c, .int .i64 a0.Slow, .int .i64 a0.Brash, .int .i64 a0.Ridge, .int .i64 a0.Press], .agg #[.int .i64 a1.Class, .int .i64 a1.Power, .int .i64 a1.Draught, .int .i64 a1.Tonnes, .slice a1_Thrust_s.p a1_Thrust_s.n a1_Thrust_s.c, .slice a1_Water_s.p a1_Water_s.n a1_Water_s.c, .slice a1_Ice_s.p a1_Ice_s.n a1_Ice_s.c, .int .i64 a1.Slow, .int .i64 a1.Brash, .int .i64 a1.Ridge, .int .i64 a1.Press]] w fun e w' => e = .returned (.tuple #[.int .i64 r.1, .int .i64 r.2]) ∧ Below w.heap.size w w' := by
  obtain ⟨a0_Thrust_p, a0_Thrust_n, a0_Thrust_c⟩ := a0_Thrust_s
  have ha0_Thrust_l : a0_Thrust_n = a0.Thrust.length := ha0_Thrust.1
  subst ha0_Thrust_l
  obtain ⟨a0_Thrust_b, a0_Thrust_o, ha0_Thrust_p, ha0_Thrust_L⟩ := SlAt.lies' ha0_Thrust
  obtain ⟨a0_Water_p, a0_Water_n, a0_Water_c⟩ := a0_Water_s
  have ha0_Water_l : a0_Water_n = a0.Water.length := ha0_Water.1
  subst ha0_Water_l
  obtain ⟨a0_Water_b, a0_Water_o, ha0_Water_p, ha0_Water_L⟩ := SlAt.lies' ha0_Water
  obtain ⟨a0_Ice_p, a0_Ice_n, a0_Ice_c⟩ := a0_Ice_s
  have ha0_Ice_l : a0_Ice_n = a0.Ice.length := ha0_Ice.1
  subst ha0_Ice_l
  obtain ⟨a0_Ice_b, a0_Ice_o, ha0_Ice_p, ha0_Ice_L⟩ := SlAt.lies' ha0_Ice
  obtain ⟨a1_Thrust_p, a1_Thrust_n, a1_Thrust_c⟩ := a1_Thrust_s
  have ha1_Thrust_l : a1_Thrust_n = a1.Thrust.length := ha1_Thrust.1
  subst ha1_Thrust_l
  obtain ⟨a1_Thrust_b, a1_Thrust_o, ha1_Thrust_p, ha1_Thrust_L⟩ := SlAt.lies' ha1_Thrust
  obtain ⟨a1_Water_p, a1_Water_n, a1_Water_c⟩ := a1_Water_s
  have ha1_Water_l : a1_Water_n = a1.Water.length := ha1_Water.1
  subst ha1_Water_l
  obtain ⟨a1_Water_b, a1_Water_o, ha1_Water_p, ha1_Water_L⟩ := SlAt.lies' ha1_Water
  obtain ⟨a1_Ice_p, a1_Ice_n, a1_Ice_c⟩ := a1_Ice_s
  have ha1_Ice_l : a1_Ice_n = a1.Ice.length := ha1_Ice.1
  subst ha1_Ice_l
  obtain ⟨a1_Ice_b, a1_Ice_o, ha1_Ice_p, ha1_Ice_L⟩ := SlAt.lies' ha1_Ice
  unfold m54 at hm
  refine enter (args := [.g [.i a0.Class, .i a0.Power, .i a0.Draught, .i a0.Tonnes, .v (.slice a0_Thrust_p a0.Thrust.length a0_Thrust_c), .v (.slice a0_Water_p a0.Water.length a0_Water_c), .v (.slice a0_Ice_p a0.Ice.length a0_Ice_c), .i a0.Slow, .i a0.Brash, .i a0.Ridge, .i a0.Press], .g [.i a1.Class, .i a1.Power, .i a1.Draught, .i a1.Tonnes, .v (.slice a1_Thrust_p a1.Thrust.length a1_Thrust_c), .v (.slice a1_Water_p a1.Water.length a1_Water_c), .v (.slice a1_Ice_p a1.Ice.length a1_Ice_c), .i a1.Slow, .i a1.Brash, .i a1.Ridge, .i a1.Press]]) Tryd.func54 rfl (N := 34) rfl (Nat.le_of_ble_eq_true rfl) ?_
  refine aw_seq ?_
  refine aw_text (rows := [_, _, _, _]) rfl (by kernel_rfl) ⟨
    ok_plain rfl rfl (op_boxN (L := 1) (ltN rfl) rfl rfl rfl),
    ok_plain rfl rfl (op_boxN (L := 2) (ltN rfl) rfl rfl rfl),
    ok_plain rfl rfl (op_assign (ltN rfl) rfl),
    ok_plain rfl rfl (op_assign (ltN rfl) rfl),
    trivial⟩ ?_
  refine fin_keep (s' := [kt 2 (.p 1 0), kt 3 (.p 2 0), kb 1 64 11, kb 2 64 11, kc 1 0 (.i a0.Class), kc 1 1 (.i a0.Power), kc 1 2 (.i a0.Draught), kc 1 3 (.i a0.Tonnes), kc 1 4 (.v (.slice a0_Thrust_p a0.Thrust.length a0_Thrust_c)), kc 1 5 (.v (.slice a0_Water_p a0.Water.length a0_Water_c)), kc 1 6 (.v (.slice a0_Ice_p a0.Ice.length a0_Ice_c)), kc 1 7 (.i a0.Slow), kc 1 8 (.i a0.Brash), kc 1 9 (.i a0.Ridge), kc 1 10 (.i a0.Press), kc 2 0 (.i a1.Class), kc 2 1 (.i a1.Power), kc 2 2 (.i a1.Draught), kc 2 3 (.i a1.Tonnes), kc 2 4 (.v (.slice a1_Thrust_p a1.Thrust.length a1_Thrust_c)), kc 2 5 (.v (.slice a1_Water_p a1.Water.length a1_Water_c)), kc 2 6 (.v (.slice a1_Ice_p a1.Ice.length a1_Ice_c)), kc 2 7 (.i a1.Slow), kc 2 8 (.i a1.Brash), kc 2 9 (.i a1.Ridge), kc 2 10 (.i a1.Press)]) ?_ (kp rfl) rfl
  refine fin_then ?_
  refine aw_seq ?_
  refine aw_seq ?_
  obtain ⟨v1, hv1, hm⟩ := bnd_some hm
  refine aw_text (rows := [_, _, _]) rfl (by kernel_rfl) ⟨
    ok_plain rfl rfl (op_loadN (ys := [.i a0.Class, .i a0.Power, .i a0.Draught, .i a0.Tonnes, .v (.slice a0_Thrust_p a0.Thrust.length a0_Thrust_c), .v (.slice a0_Water_p a0.Water.length a0_Water_c), .v (.slice a0_Ice_p a0.Ice.length a0_Ice_c), .i a0.Slow, .i a0.Brash, .i a0.Ridge, .i a0.Press]) (ltN rfl) sh_64 rfl rfl ⟨rfl, rfl, rfl, rfl, rfl, rfl, rfl, rfl, rfl, rfl, rfl, trivial⟩),
    ok_plain rfl rfl (op_call (x := .i v1) (fs := []) (caps := []) (extra := []) (ltN rfl) en_47 rfl ⟨rfl, rfl, rfl⟩ (EvL.cons rfl EvL.nil) (fun mm aa ww gg hr hrel => (c47 F a0 ⟨a0_Thrust_p, a0.Thrust.length, a0_Thrust_c⟩ ⟨a0_Water_p, a0.Water.length, a0_Water_c⟩ ⟨a0_Ice_p, a0.Ice.length, a0_Ice_c⟩ ww (SlIs.mono ha0_Thrust hrel.below) (SlIs.mono ha0_Water hrel.below) (SlIs.mono ha0_Ice hrel.below) v1 hv1))),
    ok_plain rfl rfl (op_assign (ltN rfl) rfl),
    trivial⟩ ?_
  refine fin_keep (s' := [kt 2 (.p 1 0), kt 3 (.p 2 0), kt 6 (.i v1), kb 1 64 11, kb 2 64 11, kc 1 0 (.i a0.Class), kc 1 1 (.i a0.Power), kc 1 2 (.i a0.Draught), kc 1 3 (.i a0.Tonnes), kc 1 4 (.v (.slice a0_Thrust_p a0.Thrust.length a0_Thrust_c)), kc 1 5 (.v (.slice a0_Water_p a0.Water.length a0_Water_c)), kc 1 6 (.v (.slice a0_Ice_p a0.Ice.length a0_Ice_c)), kc 1 7 (.i a0.Slow), kc 1 8 (.i a0.Brash), kc 1 9 (.i a0.Ridge), kc 1 10 (.i a0.Press), kc 2 0 (.i a1.Class), kc 2 1 (.i a1.Power), kc 2 2 (.i a1.Draught), kc 2 3 (.i a1.Tonnes), kc 2 4 (.v (.slice a1_Thrust_p a1.Thrust.length a1_Thrust_c)), kc 2 5 (.v (.slice a1_Water_p a1.Water.length a1_Water_c)), kc 2 6 (.v (.slice a1_Ice_p a1.Ice.length a1_Ice_c)), kc 2 7 (.i a1.Slow), kc 2 8 (.i a1.Brash), kc 2 9 (.i a1.Ridge), kc 2 10 (.i a1.Press)]) ?_ (kp rfl) rfl
  refine fin_then ?_
  refine aw_seq ?_
  refine aw_text (rows := [_, _]) rfl (by kernel_rfl) ⟨
    ok_plain rfl rfl (op_move (ltN rfl) rfl),
    ok_plain rfl rfl (op_bin (ltN rfl) rfl rfl rfl),
    trivial⟩ ?_
  refine fin_keep (s' := [kt 2 (.p 1 0), kt 3 (.p 2 0), kt 6 (.i v1), kt 13 (.B (v1 != 0)), kb 1 64 11, kb 2 64 11, kc 1 0 (.i a0.Class), kc 1 1 (.i a0.Power), kc 1 2 (.i a0.Draught), kc 1 3 (.i a0.Tonnes), kc 1 4 (.v (.slice a0_Thrust_p a0.Thrust.length a0_Thrust_c)), kc 1 5 (.v (.slice a0_Water_p a0.Water.length a0_Water_c)), kc 1 6 (.v (.slice a0_Ice_p a0.Ice.length a0_Ice_c)), kc 1 7 (.i a0.Slow), kc 1 8 (.i a0.Brash), kc 1 9 (.i a0.Ridge), kc 1 10 (.i a0.Press), kc 2 0 (.i a1.Class), kc 2 1 (.i a1.Power), kc 2 2 (.i a1.Draught), kc 2 3 (.i a1.Tonnes), kc 2 4 (.v (.slice a1_Thrust_p a1.Thrust.length a1_Thrust_c)), kc 2 5 (.v (.slice a1_Water_p a1.Water.length a1_Water_c)), kc 2 6 (.v (.slice a1_Ice_p a1.Ice.length a1_Ice_c)), kc 2 7 (.i a1.Slow), kc 2 8 (.i a1.Brash), kc 2 9 (.i a1.Ridge), kc 2 10 (.i a1.Press)]) ?_ (kp rfl) rfl
  refine fin_then ?_
  refine aw_cond rfl (fun hz1 => ?_) (fun hz1 => ?_)
  · have hm := brk_t hz1 hm
    refine aw_seq ?_
    refine aw_text (rows := [_, _, _]) rfl (by kernel_rfl) ⟨
      ok_plain rfl rfl (op_move (ltN rfl) rfl),
      ok_plain rfl rfl (op_assign (ltN rfl) rfl),
      ok_plain rfl rfl (op_assign (ltN rfl) rfl),
      trivial⟩ ?_
    refine fin_keep (s' := [kt 4 (.i 0), kt 5 (.i v1)]) ?_ (kp rfl) rfl
    refine fin_then ?_
    refine aw_ret ?_
    refine fin_then_ret ?_
    refine post_ret (x := .t [.i 0, .i v1]) rfl rfl (resOK_tmp rfl (resOK_tmp rfl resOK_nil)) rfl (fun mm aa ww hr => ?_)
    have hm := Option.some.inj hm
    subst hm
    exact ⟨rfl, hr.below⟩
  · have hm := brk_f hz1 hm
    refine aw_skip ?_
    refine fin_then ?_
    refine aw_seq ?_
    refine aw_seq ?_
    obtain ⟨v2, hv2, hm⟩ := bnd_some hm
    refine aw_text (rows := [_, _, _]) rfl (by kernel_rfl) ⟨
      ok_plain rfl rfl (op_loadN (ys := [.i a1.Class, .i a1.Power, .i a1.Draught, .i a1.Tonnes, .v (.slice a1_Thrust_p a1.Thrust.length a1_Thrust_c), .v (.slice a1_Water_p a1.Water.length a1_Water_c), .v (.slice a1_Ice_p a1.Ice.length a1_Ice_c), .i a1.Slow, .i a1.Brash, .i a1.Ridge, .i a1.Press]) (ltN rfl) sh_64 rfl rfl ⟨rfl, rfl, rfl, rfl, rfl, rfl, rfl, rfl, rfl, rfl, rfl, trivial⟩),
      ok_plain rfl rfl (op_call (x := .i v2) (fs := []) (caps := []) (extra := []) (ltN rfl) en_47 rfl ⟨rfl, rfl, rfl⟩ (EvL.cons rfl EvL.nil) (fun mm aa ww gg hr hrel => (c47 F a1 ⟨a1_Thrust_p, a1.Thrust.length, a1_Thrust_c⟩ ⟨a1_Water_p, a1.Water.length, a1_Water_c⟩ ⟨a1_Ice_p, a1.Ice.length, a1_Ice_c⟩ ww (SlIs.mono ha1_Thrust hrel.below) (SlIs.mono ha1_Water hrel.below) (SlIs.mono ha1_Ice hrel.below) v2 hv2))),
      ok_plain rfl rfl (op_assign (ltN rfl) rfl),
      trivial⟩ ?_
    refine fin_keep (s' := [kt 2 (.p 1 0), kt 3 (.p 2 0), kt 7 (.i v2), kb 1 64 11, kb 2 64 11, kc 1 0 (.i a0.Class), kc 1 1 (.i a0.Power), kc 1 2 (.i a0.Draught), kc 1 3 (.i a0.Tonnes), kc 1 4 (.v (.slice a0_Thrust_p a0.Thrust.length a0_Thrust_c)), kc 1 5 (.v (.slice a0_Water_p a0.Water.length a0_Water_c)), kc 1 6 (.v (.slice a0_Ice_p a0.Ice.length a0_Ice_c)), kc 1 7 (.i a0.Slow), kc 1 8 (.i a0.Brash), kc 1 9 (.i a0.Ridge), kc 1 10 (.i a0.Press), kc 2 0 (.i a1.Class), kc 2 1 (.i a1.Power), kc 2 2 (.i a1.Draught), kc 2 3 (.i a1.Tonnes), kc 2 4 (.v (.slice a1_Thrust_p a1.Thrust.length a1_Thrust_c)), kc 2 5 (.v (.slice a1_Water_p a1.Water.length a1_Water_c)), kc 2 6 (.v (.slice a1_Ice_p a1.Ice.length a1_Ice_c)), kc 2 7 (.i a1.Slow), kc 2 8 (.i a1.Brash), kc 2 9 (.i a1.Ridge), kc 2 10 (.i a1.Press)]) ?_ (kp rfl) rfl
    refine fin_then ?_
    refine aw_seq ?_
    refine aw_text (rows := [_, _]) rfl (by kernel_rfl) ⟨
      ok_plain rfl rfl (op_move (ltN rfl) rfl),
      ok_plain rfl rfl (op_bin (ltN rfl) rfl rfl rfl),
      trivial⟩ ?_
    refine fin_keep (s' := [kt 2 (.p 1 0), kt 3 (.p 2 0), kt 7 (.i v2), kt 18 (.B (v2 != 0)), kb 1 64 11, kb 2 64 11, kc 1 0 (.i a0.Class), kc 1 1 (.i a0.Power), kc 1 2 (.i a0.Draught), kc 1 3 (.i a0.Tonnes), kc 1 4 (.v (.slice a0_Thrust_p a0.Thrust.length a0_Thrust_c)), kc 1 5 (.v (.slice a0_Water_p a0.Water.length a0_Water_c)), kc 1 6 (.v (.slice a0_Ice_p a0.Ice.length a0_Ice_c)), kc 1 7 (.i a0.Slow), kc 1 8 (.i a0.Brash), kc 1 9 (.i a0.Ridge), kc 1 10 (.i a0.Press), kc 2 0 (.i a1.Class), kc 2 1 (.i a1.Power), kc 2 2 (.i a1.Draught), kc 2 3 (.i a1.Tonnes), kc 2 4 (.v (.slice a1_Thrust_p a1.Thrust.length a1_Thrust_c)), kc 2 5 (.v (.slice a1_Water_p a1.Water.length a1_Water_c)), kc 2 6 (.v (.slice a1_Ice_p a1.Ice.length a1_Ice_c)), kc 2 7 (.i a1.Slow), kc 2 8 (.i a1.Brash), kc 2 9 (.i a1.Ridge), kc 2 10 (.i a1.Press)]) ?_ (kp rfl) rfl
    refine fin_then ?_
    refine aw_cond rfl (fun hz2 => ?_) (fun hz2 => ?_)
    · have hm := brk_t hz2 hm
      refine aw_seq ?_
      refine aw_text (rows := [_, _, _]) rfl (by kernel_rfl) ⟨
        ok_plain rfl rfl (op_move (ltN rfl) rfl),
        ok_plain rfl rfl (op_assign (ltN rfl) rfl),
        ok_plain rfl rfl (op_assign (ltN rfl) rfl),
        trivial⟩ ?_
      refine fin_keep (s' := [kt 4 (.i 0), kt 5 (.i v2)]) ?_ (kp rfl) rfl
      refine fin_then ?_
      refine aw_ret ?_
      refine fin_then_ret ?_
      refine post_ret (x := .t [.i 0, .i v2]) rfl rfl (resOK_tmp rfl (resOK_tmp rfl resOK_nil)) rfl (fun mm aa ww hr => ?_)
      have hm := Option.some.inj hm
      subst hm
      exact ⟨rfl, hr.below⟩
    · have hm := brk_f hz2 hm
      refine aw_skip ?_
      refine fin_then ?_
      refine aw_cutM (ι := Unit) hm (fun x1 => []) (fun hm => ?_) (fun x1 hm => ?_)
      · have _z := hm
        refine aw_seq ?_
        refine aw_text (rows := [_]) rfl (by kernel_rfl) ⟨
          ok_plain rfl rfl (op_assign (ltN rfl) rfl),
          trivial⟩ ?_
        refine fin_keep (s' := [kt 2 (.p 1 0), kt 3 (.p 2 0), kt 8 (.i 0), kb 1 64 11, kb 2 64 11, kc 1 0 (.i a0.Class), kc 1 1 (.i a0.Power), kc 1 2 (.i a0.Draught), kc 1 3 (.i a0.Tonnes), kc 1 4 (.v (.slice a0_Thrust_p a0.Thrust.length a0_Thrust_c)), kc 1 5 (.v (.slice a0_Water_p a0.Water.length a0_Water_c)), kc 1 6 (.v (.slice a0_Ice_p a0.Ice.length a0_Ice_c)), kc 1 7 (.i a0.Slow), kc 1 8 (.i a0.Brash), kc 1 9 (.i a0.Ridge), kc 1 10 (.i a0.Press), kc 2 0 (.i a1.Class), kc 2 1 (.i a1.Power), kc 2 2 (.i a1.Draught), kc 2 3 (.i a1.Tonnes), kc 2 4 (.v (.slice a1_Thrust_p a1.Thrust.length a1_Thrust_c)), kc 2 5 (.v (.slice a1_Water_p a1.Water.length a1_Water_c)), kc 2 6 (.v (.slice a1_Ice_p a1.Ice.length a1_Ice_c)), kc 2 7 (.i a1.Slow), kc 2 8 (.i a1.Brash), kc 2 9 (.i a1.Ridge), kc 2 10 (.i a1.Press)]) ?_ (kp rfl) rfl
        refine fin_then ?_
        refine aw_block ?_
        refine aw_loopC hm (fun x2 => [kt 2 (.p 1 0), kt 3 (.p 2 0), kt 8 (.i x2), kb 1 64 11, kb 2 64 11, kc 1 0 (.i a0.Class), kc 1 1 (.i a0.Power), kc 1 2 (.i a0.Draught), kc 1 3 (.i a0.Tonnes), kc 1 4 (.v (.slice a0_Thrust_p a0.Thrust.length a0_Thrust_c)), kc 1 5 (.v (.slice a0_Water_p a0.Water.length a0_Water_c)), kc 1 6 (.v (.slice a0_Ice_p a0.Ice.length a0_Ice_c)), kc 1 7 (.i a0.Slow), kc 1 8 (.i a0.Brash), kc 1 9 (.i a0.Ridge), kc 1 10 (.i a0.Press), kc 2 0 (.i a1.Class), kc 2 1 (.i a1.Power), kc 2 2 (.i a1.Draught), kc 2 3 (.i a1.Tonnes), kc 2 4 (.v (.slice a1_Thrust_p a1.Thrust.length a1_Thrust_c)), kc 2 5 (.v (.slice a1_Water_p a1.Water.length a1_Water_c)), kc 2 6 (.v (.slice a1_Ice_p a1.Ice.length a1_Ice_c)), kc 2 7 (.i a1.Slow), kc 2 8 (.i a1.Brash), kc 2 9 (.i a1.Ridge), kc 2 10 (.i a1.Press)]) ⟨rfl, rfl, rfl, rfl, rfl, rfl, rfl, rfl, rfl, rfl, rfl, rfl, rfl, rfl, rfl, rfl, rfl, rfl, rfl, rfl, rfl, rfl, rfl, rfl, rfl, rfl, rfl, trivial⟩ rfl (fun x2 n2 hm => ?_)
        refine aw_seq ?_
        refine aw_seq ?_
        refine aw_text (rows := [_, _]) rfl (by kernel_rfl) ⟨
          ok_plain rfl rfl (op_move (ltN rfl) rfl),
          ok_plain rfl rfl (op_bin (ltN rfl) rfl rfl rfl),
          trivial⟩ ?_
        refine fin_keep (s' := [kt 2 (.p 1 0), kt 3 (.p 2 0), kt 8 (.i x2), kt 21 (.B (decide (x2 ≤ 400))), kb 1 64 11, kb 2 64 11, kc 1 0 (.i a0.Class), kc 1 1 (.i a0.Power), kc 1 2 (.i a0.Draught), kc 1 3 (.i a0.Tonnes), kc 1 4 (.v (.slice a0_Thrust_p a0.Thrust.length a0_Thrust_c)), kc 1 5 (.v (.slice a0_Water_p a0.Water.length a0_Water_c)), kc 1 6 (.v (.slice a0_Ice_p a0.Ice.length a0_Ice_c)), kc 1 7 (.i a0.Slow), kc 1 8 (.i a0.Brash), kc 1 9 (.i a0.Ridge), kc 1 10 (.i a0.Press), kc 2 0 (.i a1.Class), kc 2 1 (.i a1.Power), kc 2 2 (.i a1.Draught), kc 2 3 (.i a1.Tonnes), kc 2 4 (.v (.slice a1_Thrust_p a1.Thrust.length a1_Thrust_c)), kc 2 5 (.v (.slice a1_Water_p a1.Water.length a1_Water_c)), kc 2 6 (.v (.slice a1_Ice_p a1.Ice.length a1_Ice_c)), kc 2 7 (.i a1.Slow), kc 2 8 (.i a1.Brash), kc 2 9 (.i a1.Ridge), kc 2 10 (.i a1.Press)]) ?_ (kp rfl) rfl
        refine fin_then ?_
        refine aw_cond rfl (fun hz3 => ?_) (fun hz3 => ?_)
        · have hm := brk_t hz3 hm
          refine aw_skip ?_
          refine fin_then ?_
          refine aw_seq ?_
          refine aw_block ?_
          refine aw_seq ?_
          refine aw_text (rows := [_, _, _, _]) rfl (by kernel_rfl) ⟨
            ok_plain rfl rfl (op_move (ltN rfl) rfl),
            ok_plain rfl rfl (op_build (x := .g [.i 100, .i x2, .i 0, .i 0]) (ltN rfl) (EvL.cons rfl (EvL.cons rfl EvL.nil)) (fun m w => by kernel_rfl)),
            ok_plain rfl rfl (op_alloc (L := 3) (ltN rfl) zl_108),
            ok_plain rfl rfl (op_storeN sz_108 rfl rfl rfl rfl rfl (by decide)),
            trivial⟩ ?_
          refine fin_keep (s' := [kt 2 (.p 1 0), kt 3 (.p 2 0), kt 8 (.i x2), kt 9 (.p 3 0), kb 1 64 11, kb 2 64 11, kb 3 108 4, kc 1 0 (.i a0.Class), kc 1 1 (.i a0.Power), kc 1 2 (.i a0.Draught), kc 1 3 (.i a0.Tonnes), kc 1 4 (.v (.slice a0_Thrust_p a0.Thrust.length a0_Thrust_c)), kc 1 5 (.v (.slice a0_Water_p a0.Water.length a0_Water_c)), kc 1 6 (.v (.slice a0_Ice_p a0.Ice.length a0_Ice_c)), kc 1 7 (.i a0.Slow), kc 1 8 (.i a0.Brash), kc 1 9 (.i a0.Ridge), kc 1 10 (.i a0.Press), kc 2 0 (.i a1.Class), kc 2 1 (.i a1.Power), kc 2 2 (.i a1.Draught), kc 2 3 (.i a1.Tonnes), kc 2 4 (.v (.slice a1_Thrust_p a1.Thrust.length a1_Thrust_c)), kc 2 5 (.v (.slice a1_Water_p a1.Water.length a1_Water_c)), kc 2 6 (.v (.slice a1_Ice_p a1.Ice.length a1_Ice_c)), kc 2 7 (.i a1.Slow), kc 2 8 (.i a1.Brash), kc 2 9 (.i a1.Ridge), kc 2 10 (.i a1.Press), kc 3 0 (.i 100), kc 3 1 (.i x2), kc 3 2 (.i 0), kc 3 3 (.i 0)]) ?_ (kp rfl) rfl
          refine fin_then ?_
          refine aw_seq ?_
          obtain ⟨v3, hv3, hm⟩ := bnd_some hm
          obtain ⟨v4, hv4, hm⟩ := bnd_some hm
          refine aw_any (rows := [_, _, _, _, _, _, _]) (M := [0, 0, 3, 0, 0, 31, 63]) Tryd_mixed (by kernel_rfl) rfl (by kernel_rfl) ⟨
            ok_plain rfl rfl (op_loadN (ys := [.i a0.Class, .i a0.Power, .i a0.Draught, .i a0.Tonnes, .v (.slice a0_Thrust_p a0.Thrust.length a0_Thrust_c), .v (.slice a0_Water_p a0.Water.length a0_Water_c), .v (.slice a0_Ice_p a0.Ice.length a0_Ice_c), .i a0.Slow, .i a0.Brash, .i a0.Ridge, .i a0.Press]) (ltN rfl) sh_64 rfl rfl ⟨rfl, rfl, rfl, rfl, rfl, rfl, rfl, rfl, rfl, rfl, rfl, trivial⟩),
            ok_plain rfl rfl (op_loadN (ys := [.i 100, .i x2, .i 0, .i 0]) (ltN rfl) sh_108 rfl rfl ⟨rfl, rfl, rfl, rfl, trivial⟩),
            ok_plain rfl rfl (op_call (x := .i v3) (fs := []) (caps := []) (extra := []) (ltN rfl) en_117 rfl ⟨rfl, rfl, rfl⟩ (EvL.cons rfl (EvL.cons rfl (EvL.cons rfl EvL.nil))) (fun mm aa ww gg hr hrel => (c117 F a0 ⟨a0_Thrust_p, a0.Thrust.length, a0_Thrust_c⟩ ⟨a0_Water_p, a0.Water.length, a0_Water_c⟩ ⟨a0_Ice_p, a0.Ice.length, a0_Ice_c⟩ ((⟨100, x2, 0, 0⟩ : Ice)) false ww (SlIs.mono ha0_Thrust hrel.below) (SlIs.mono ha0_Water hrel.below) (SlIs.mono ha0_Ice hrel.below) v3 hv3))),
            ok_plain rfl rfl (op_loadN (ys := [.i a1.Class, .i a1.Power, .i a1.Draught, .i a1.Tonnes, .v (.slice a1_Thrust_p a1.Thrust.length a1_Thrust_c), .v (.slice a1_Water_p a1.Water.length a1_Water_c), .v (.slice a1_Ice_p a1.Ice.length a1_Ice_c), .i a1.Slow, .i a1.Brash, .i a1.Ridge, .i a1.Press]) (ltN rfl) sh_64 rfl rfl ⟨rfl, rfl, rfl, rfl, rfl, rfl, rfl, rfl, rfl, rfl, rfl, trivial⟩),
            ok_plain rfl rfl (op_loadN (ys := [.i 100, .i x2, .i 0, .i 0]) (ltN rfl) sh_108 rfl rfl ⟨rfl, rfl, rfl, rfl, trivial⟩),
            ok_plain rfl rfl (op_call (x := .i v4) (fs := []) (caps := []) (extra := []) (ltN rfl) en_117 rfl ⟨rfl, rfl, rfl⟩ (EvL.cons rfl (EvL.cons rfl (EvL.cons rfl EvL.nil))) (fun mm aa ww gg hr hrel => (c117 F a1 ⟨a1_Thrust_p, a1.Thrust.length, a1_Thrust_c⟩ ⟨a1_Water_p, a1.Water.length, a1_Water_c⟩ ⟨a1_Ice_p, a1.Ice.length, a1_Ice_c⟩ ((⟨100, x2, 0, 0⟩ : Ice)) false ww (SlIs.mono ha1_Thrust hrel.below) (SlIs.mono ha1_Water hrel.below) (SlIs.mono ha1_Ice hrel.below) v4 hv4))),
            ok_plain rfl rfl (op_bin (ltN rfl) rfl rfl rfl),
            trivial⟩ ?_
          refine fin_keep (s' := [kt 2 (.p 1 0), kt 3 (.p 2 0), kt 8 (.i x2), kt 32 (.B (decide (v3 < v4))), kb 1 64 11, kb 2 64 11, kc 1 0 (.i a0.Class), kc 1 1 (.i a0.Power), kc 1 2 (.i a0.Draught), kc 1 3 (.i a0.Tonnes), kc 1 4 (.v (.slice a0_Thrust_p a0.Thrust.length a0_Thrust_c)), kc 1 5 (.v (.slice a0_Water_p a0.Water.length a0_Water_c)), kc 1 6 (.v (.slice a0_Ice_p a0.Ice.length a0_Ice_c)), kc 1 7 (.i a0.Slow), kc 1 8 (.i a0.Brash), kc 1 9 (.i a0.Ridge), kc 1 10 (.i a0.Press), kc 2 0 (.i a1.Class), kc 2 1 (.i a1.Power), kc 2 2 (.i a1.Draught), kc 2 3 (.i a1.Tonnes), kc 2 4 (.v (.slice a1_Thrust_p a1.Thrust.length a1_Thrust_c)), kc 2 5 (.v (.slice a1_Water_p a1.Water.length a1_Water_c)), kc 2 6 (.v (.slice a1_Ice_p a1.Ice.length a1_Ice_c)), kc 2 7 (.i a1.Slow), kc 2 8 (.i a1.Brash), kc 2 9 (.i a1.Ridge), kc 2 10 (.i a1.Press)]) ?_ (kp rfl) rfl
          refine fin_then ?_
          refine aw_cond rfl (fun hz4 => ?_) (fun hz4 => ?_)
          · have hm := brk_t hz4 hm
            refine aw_seq ?_
            refine aw_text (rows := [_, _, _]) rfl (by kernel_rfl) ⟨
              ok_plain rfl rfl (op_move (ltN rfl) rfl),
              ok_plain rfl rfl (op_assign (ltN rfl) rfl),
              ok_plain rfl rfl (op_assign (ltN rfl) rfl),
              trivial⟩ ?_
            refine fin_keep (s' := [kt 4 (.i x2), kt 5 (.i 0)]) ?_ (kp rfl) rfl
            refine fin_then ?_
            refine aw_ret ?_
            refine fin_block_ret ?_
            refine fin_then_ret ?_
            refine fin_then_ret ?_
            refine fin_block_ret ?_
            refine fin_then_ret ?_
            refine post_ret (x := .t [.i x2, .i 0]) rfl rfl (resOK_tmp rfl (resOK_tmp rfl resOK_nil)) rfl (fun mm aa ww hr => ?_)
            have hm := Option.some.inj hm
            subst hm
            exact ⟨rfl, hr.below⟩
          · have hm := brk_f hz4 hm
            refine aw_skip ?_
            refine fin_block ?_
            refine fin_then ?_
            obtain ⟨hp5, hm⟩ := chk_some hm
            refine aw_text (rows := [_, _, _]) rfl (by kernel_rfl) ⟨
              ok_plain rfl rfl (op_move (ltN rfl) rfl),
              ok_plain rfl rfl (op_bin (ltN rfl) rfl rfl (nw_add hp5)),
              ok_plain rfl rfl (op_assign (ltN rfl) rfl),
              trivial⟩ ?_
            refine fin_keep (s' := [kt 2 (.p 1 0), kt 3 (.p 2 0), kt 8 (.i (x2 + 1)), kb 1 64 11, kb 2 64 11, kc 1 0 (.i a0.Class), kc 1 1 (.i a0.Power), kc 1 2 (.i a0.Draught), kc 1 3 (.i a0.Tonnes), kc 1 4 (.v (.slice a0_Thrust_p a0.Thrust.length a0_Thrust_c)), kc 1 5 (.v (.slice a0_Water_p a0.Water.length a0_Water_c)), kc 1 6 (.v (.slice a0_Ice_p a0.Ice.length a0_Ice_c)), kc 1 7 (.i a0.Slow), kc 1 8 (.i a0.Brash), kc 1 9 (.i a0.Ridge), kc 1 10 (.i a0.Press), kc 2 0 (.i a1.Class), kc 2 1 (.i a1.Power), kc 2 2 (.i a1.Draught), kc 2 3 (.i a1.Tonnes), kc 2 4 (.v (.slice a1_Thrust_p a1.Thrust.length a1_Thrust_c)), kc 2 5 (.v (.slice a1_Water_p a1.Water.length a1_Water_c)), kc 2 6 (.v (.slice a1_Ice_p a1.Ice.length a1_Ice_c)), kc 2 7 (.i a1.Slow), kc 2 8 (.i a1.Brash), kc 2 9 (.i a1.Ridge), kc 2 10 (.i a1.Press)]) ?_ (kp rfl) rfl
            exact fin_cut (x2 + 1) hm ⟨rfl, rfl, rfl, rfl, rfl, rfl, rfl, rfl, rfl, rfl, rfl, rfl, rfl, rfl, rfl, rfl, rfl, rfl, rfl, rfl, rfl, rfl, rfl, rfl, rfl, rfl, rfl, trivial⟩ rfl
        · have hm := brk_f hz3 hm
          refine aw_exit ?_
          refine fin_then_exit ?_
          refine fin_then_exit ?_
          refine fin_block_exit ?_
          exact fin_cut () hm trivial rfl
      · have _z := hm
        refine aw_seq ?_
        refine aw_text (rows := [_, _]) rfl (by kernel_rfl) ⟨
          ok_plain rfl rfl (op_assign (ltN rfl) rfl),
          ok_plain rfl rfl (op_assign (ltN rfl) rfl),
          trivial⟩ ?_
        refine fin_keep (s' := [kt 4 (.i 0), kt 5 (.i 4)]) ?_ (kp rfl) rfl
        refine fin_then ?_
        refine aw_ret ?_
        refine post_ret (x := .t [.i 0, .i 4]) rfl rfl (resOK_tmp rfl (resOK_tmp rfl resOK_nil)) rfl (fun mm aa ww hr => ?_)
        have hm := Option.some.inj hm
        subst hm
        exact ⟨rfl, hr.below⟩

def m51 (F : Nat) (a0 : Ship) (a1 : Ship) : Option (Int × Int) :=
  join (fun (_ : Unit) => join (fun (_ : Unit) => some (0, 4)) (fun k2 => loopC (fun (x3 : Int) n3 => brk (decide (x3 < 401)) (chk (check a0 = 0) (chk (goodIce ((⟨100, x3, 0, 0⟩ : Ice))) (chk (check a1 = 0) (brk (decide ((speed a0 ((⟨100, x3, 0, 0⟩ : Ice)) false) < (speed a1 ((⟨100, x3, 0, 0⟩ : Ice)) false))) (some (x3, 0)) (chk (InR (x3 + 1)) (n3 (x3 + 1))))))) (k2 ())) F 0)) (fun k1 => brk ((check a0) != 0) (some (0, check a0)) (brk ((check a1) != 0) (some (0, check a1)) (k1 ())))

theorem c51 (F : Nat) (a0 : Ship) (a0_Thrust_s : SlV) (a0_Water_s : SlV) (a0_Ice_s : SlV) (a1 : Ship) (a1_Thrust_s : SlV) (a1_Water_s : SlV) (a1_Ice_s : SlV) (w : World) (ha0_Thrust : SlIs encPt 2 w a0_Thrust_s a0.Thrust) (ha0_Water : SlIs encPt 2 w a0_Water_s a0.Water) (ha0_Ice : SlIs encPt 2 w a0_Ice_s a0.Ice) (ha1_Thrust : SlIs encPt 2 w a1_Thrust_s a1.Thrust) (ha1_Water : SlIs encPt 2 w a1_Water_s a1.Water) (ha1_Ice : SlIs encPt 2 w a1_Ice_s a1.Ice) (r : Int × Int) (hm : m51 F a0 a1 = some r) : Calls Tryd.prog 51 #[.agg #[.int .i64 a0.Class, .int .i64 a0.Power, .int .i64 a0.Draught, .int .i64 a0.Tonnes, .slice a0_Thrust_s.p a0_Thrust_s.n a0_Thrust_s.c, .slice a0_Water_s.p a0_Water_s.n a0_Water_s.c, .slice a0_Ice_s.p a0_Ice_s.n a0_Ice_s.c, .int .i64 a0.Slow, .int .i64 a0.Brash, .int .i64 a0.Ridge, .int .i64 a0.Press], .agg #[.int .i64 a1.Class, .int .i64 a1.Power, .int .i64 a1.Draught, .int .i64 a1.Tonnes, .slice a1_Thrust_s.p a1_Thrust_s.n a1_Thrust_s.c, .slice a1_Water_s.p a1_Water_s.n a1_Water_s.c, .slice a1_Ice_s.p a1_Ice_s.n a1_Ice_s.c, .int .i64 a1.Slow, .int .i64 a1.Brash, .int .i64 a1.Ridge, .int .i64 a1.Press]] w fun e w' => e = .returned (.tuple #[.int .i64 r.1, .int .i64 r.2]) ∧ Below w.heap.size w w' := by
  obtain ⟨a0_Thrust_p, a0_Thrust_n, a0_Thrust_c⟩ := a0_Thrust_s
  have ha0_Thrust_l : a0_Thrust_n = a0.Thrust.length := ha0_Thrust.1
  subst ha0_Thrust_l
  obtain ⟨a0_Thrust_b, a0_Thrust_o, ha0_Thrust_p, ha0_Thrust_L⟩ := SlAt.lies' ha0_Thrust
  obtain ⟨a0_Water_p, a0_Water_n, a0_Water_c⟩ := a0_Water_s
  have ha0_Water_l : a0_Water_n = a0.Water.length := ha0_Water.1
  subst ha0_Water_l
  obtain ⟨a0_Water_b, a0_Water_o, ha0_Water_p, ha0_Water_L⟩ := SlAt.lies' ha0_Water
  obtain ⟨a0_Ice_p, a0_Ice_n, a0_Ice_c⟩ := a0_Ice_s
  have ha0_Ice_l : a0_Ice_n = a0.Ice.length := ha0_Ice.1
  subst ha0_Ice_l
  obtain ⟨a0_Ice_b, a0_Ice_o, ha0_Ice_p, ha0_Ice_L⟩ := SlAt.lies' ha0_Ice
  obtain ⟨a1_Thrust_p, a1_Thrust_n, a1_Thrust_c⟩ := a1_Thrust_s
  have ha1_Thrust_l : a1_Thrust_n = a1.Thrust.length := ha1_Thrust.1
  subst ha1_Thrust_l
  obtain ⟨a1_Thrust_b, a1_Thrust_o, ha1_Thrust_p, ha1_Thrust_L⟩ := SlAt.lies' ha1_Thrust
  obtain ⟨a1_Water_p, a1_Water_n, a1_Water_c⟩ := a1_Water_s
  have ha1_Water_l : a1_Water_n = a1.Water.length := ha1_Water.1
  subst ha1_Water_l
  obtain ⟨a1_Water_b, a1_Water_o, ha1_Water_p, ha1_Water_L⟩ := SlAt.lies' ha1_Water
  obtain ⟨a1_Ice_p, a1_Ice_n, a1_Ice_c⟩ := a1_Ice_s
  have ha1_Ice_l : a1_Ice_n = a1.Ice.length := ha1_Ice.1
  subst ha1_Ice_l
  obtain ⟨a1_Ice_b, a1_Ice_o, ha1_Ice_p, ha1_Ice_L⟩ := SlAt.lies' ha1_Ice
  unfold m51 at hm
  refine enter (args := [.g [.i a0.Class, .i a0.Power, .i a0.Draught, .i a0.Tonnes, .v (.slice a0_Thrust_p a0.Thrust.length a0_Thrust_c), .v (.slice a0_Water_p a0.Water.length a0_Water_c), .v (.slice a0_Ice_p a0.Ice.length a0_Ice_c), .i a0.Slow, .i a0.Brash, .i a0.Ridge, .i a0.Press], .g [.i a1.Class, .i a1.Power, .i a1.Draught, .i a1.Tonnes, .v (.slice a1_Thrust_p a1.Thrust.length a1_Thrust_c), .v (.slice a1_Water_p a1.Water.length a1_Water_c), .v (.slice a1_Ice_p a1.Ice.length a1_Ice_c), .i a1.Slow, .i a1.Brash, .i a1.Ridge, .i a1.Press]]) Tryd.func51 rfl (N := 38) rfl (Nat.le_of_ble_eq_true rfl) ?_
  refine aw_seq ?_
  refine aw_text (rows := [_, _, _, _]) rfl (by kernel_rfl) ⟨
    ok_plain rfl rfl (op_boxN (L := 1) (ltN rfl) rfl rfl rfl),
    ok_plain rfl rfl (op_boxN (L := 2) (ltN rfl) rfl rfl rfl),
    ok_plain rfl rfl (op_assign (ltN rfl) rfl),
    ok_plain rfl rfl (op_assign (ltN rfl) rfl),
    trivial⟩ ?_
  refine fin_keep (s' := [kt 2 (.p 1 0), kt 3 (.p 2 0), kb 1 25 11, kb 2 25 11, kc 1 0 (.i a0.Class), kc 1 1 (.i a0.Power), kc 1 2 (.i a0.Draught), kc 1 3 (.i a0.Tonnes), kc 1 4 (.v (.slice a0_Thrust_p a0.Thrust.length a0_Thrust_c)), kc 1 5 (.v (.slice a0_Water_p a0.Water.length a0_Water_c)), kc 1 6 (.v (.slice a0_Ice_p a0.Ice.length a0_Ice_c)), kc 1 7 (.i a0.Slow), kc 1 8 (.i a0.Brash), kc 1 9 (.i a0.Ridge), kc 1 10 (.i a0.Press), kc 2 0 (.i a1.Class), kc 2 1 (.i a1.Power), kc 2 2 (.i a1.Draught), kc 2 3 (.i a1.Tonnes), kc 2 4 (.v (.slice a1_Thrust_p a1.Thrust.length a1_Thrust_c)), kc 2 5 (.v (.slice a1_Water_p a1.Water.length a1_Water_c)), kc 2 6 (.v (.slice a1_Ice_p a1.Ice.length a1_Ice_c)), kc 2 7 (.i a1.Slow), kc 2 8 (.i a1.Brash), kc 2 9 (.i a1.Ridge), kc 2 10 (.i a1.Press)]) ?_ (kp rfl) rfl
  refine fin_then ?_
  refine aw_cutM (ι := Unit) hm (fun x1 => [kt 2 (.p 1 0), kt 3 (.p 2 0), kb 1 25 11, kb 2 25 11, kc 1 0 (.i a0.Class), kc 1 1 (.i a0.Power), kc 1 2 (.i a0.Draught), kc 1 3 (.i a0.Tonnes), kc 1 4 (.v (.slice a0_Thrust_p a0.Thrust.length a0_Thrust_c)), kc 1 5 (.v (.slice a0_Water_p a0.Water.length a0_Water_c)), kc 1 6 (.v (.slice a0_Ice_p a0.Ice.length a0_Ice_c)), kc 1 7 (.i a0.Slow), kc 1 8 (.i a0.Brash), kc 1 9 (.i a0.Ridge), kc 1 10 (.i a0.Press), kc 2 0 (.i a1.Class), kc 2 1 (.i a1.Power), kc 2 2 (.i a1.Draught), kc 2 3 (.i a1.Tonnes), kc 2 4 (.v (.slice a1_Thrust_p a1.Thrust.length a1_Thrust_c)), kc 2 5 (.v (.slice a1_Water_p a1.Water.length a1_Water_c)), kc 2 6 (.v (.slice a1_Ice_p a1.Ice.length a1_Ice_c)), kc 2 7 (.i a1.Slow), kc 2 8 (.i a1.Brash), kc 2 9 (.i a1.Ridge), kc 2 10 (.i a1.Press)]) (fun hm => ?_) (fun x1 hm => ?_)
  · have _z := hm
    refine aw_seq ?_
    refine aw_text (rows := [_, _, _, _, _]) rfl (by kernel_rfl) ⟨
      ok_plain rfl rfl (op_loadN (ys := [.i a0.Class, .i a0.Power, .i a0.Draught, .i a0.Tonnes, .v (.slice a0_Thrust_p a0.Thrust.length a0_Thrust_c), .v (.slice a0_Water_p a0.Water.length a0_Water_c), .v (.slice a0_Ice_p a0.Ice.length a0_Ice_c), .i a0.Slow, .i a0.Brash, .i a0.Ridge, .i a0.Press]) (ltN rfl) sh_25 rfl rfl ⟨rfl, rfl, rfl, rfl, rfl, rfl, rfl, rfl, rfl, rfl, rfl, trivial⟩),
      ok_plain rfl rfl (op_loadN (ys := [.i a1.Class, .i a1.Power, .i a1.Draught, .i a1.Tonnes, .v (.slice a1_Thrust_p a1.Thrust.length a1_Thrust_c), .v (.slice a1_Water_p a1.Water.length a1_Water_c), .v (.slice a1_Ice_p a1.Ice.length a1_Ice_c), .i a1.Slow, .i a1.Brash, .i a1.Ridge, .i a1.Press]) (ltN rfl) sh_25 rfl rfl ⟨rfl, rfl, rfl, rfl, rfl, rfl, rfl, rfl, rfl, rfl, rfl, trivial⟩),
      ok_plain rfl rfl (op_buildSlice (L := 3) (ety := 25) (cs := [.i a0.Class, .i a0.Power, .i a0.Draught, .i a0.Tonnes, .v (.slice a0_Thrust_p a0.Thrust.length a0_Thrust_c), .v (.slice a0_Water_p a0.Water.length a0_Water_c), .v (.slice a0_Ice_p a0.Ice.length a0_Ice_c), .i a0.Slow, .i a0.Brash, .i a0.Ridge, .i a0.Press, .i a1.Class, .i a1.Power, .i a1.Draught, .i a1.Tonnes, .v (.slice a1_Thrust_p a1.Thrust.length a1_Thrust_c), .v (.slice a1_Water_p a1.Water.length a1_Water_c), .v (.slice a1_Ice_p a1.Ice.length a1_Ice_c), .i a1.Slow, .i a1.Brash, .i a1.Ridge, .i a1.Press]) (ltN rfl) (EvL.cons rfl (EvL.cons rfl EvL.nil)) rfl (fun m w => by kernel_rfl)),
      ok_plain rfl rfl (op_len (n := 2) (ltN rfl) (by rw [ss_176]; rfl) rfl rfl),
      ok_plain rfl rfl (op_move (ltN rfl) rfl),
      trivial⟩ ?_
    refine fin_keep (s' := [kt 2 (.p 1 0), kt 3 (.p 2 0), kt 12 (.s 3 0 2 2), kt 13 (.i 2), kt 14 (.i 0), kb 1 25 11, kb 2 25 11, kb 3 25 22, kc 1 0 (.i a0.Class), kc 1 1 (.i a0.Power), kc 1 2 (.i a0.Draught), kc 1 3 (.i a0.Tonnes), kc 1 4 (.v (.slice a0_Thrust_p a0.Thrust.length a0_Thrust_c)), kc 1 5 (.v (.slice a0_Water_p a0.Water.length a0_Water_c)), kc 1 6 (.v (.slice a0_Ice_p a0.Ice.length a0_Ice_c)), kc 1 7 (.i a0.Slow), kc 1 8 (.i a0.Brash), kc 1 9 (.i a0.Ridge), kc 1 10 (.i a0.Press), kc 2 0 (.i a1.Class), kc 2 1 (.i a1.Power), kc 2 2 (.i a1.Draught), kc 2 3 (.i a1.Tonnes), kc 2 4 (.v (.slice a1_Thrust_p a1.Thrust.length a1_Thrust_c)), kc 2 5 (.v (.slice a1_Water_p a1.Water.length a1_Water_c)), kc 2 6 (.v (.slice a1_Ice_p a1.Ice.length a1_Ice_c)), kc 2 7 (.i a1.Slow), kc 2 8 (.i a1.Brash), kc 2 9 (.i a1.Ridge), kc 2 10 (.i a1.Press), kc 3 0 (.i a0.Class), kc 3 1 (.i a0.Power), kc 3 2 (.i a0.Draught), kc 3 3 (.i a0.Tonnes), kc 3 4 (.v (.slice a0_Thrust_p a0.Thrust.length a0_Thrust_c)), kc 3 5 (.v (.slice a0_Water_p a0.Water.length a0_Water_c)), kc 3 6 (.v (.slice a0_Ice_p a0.Ice.length a0_Ice_c)), kc 3 7 (.i a0.Slow), kc 3 8 (.i a0.Brash), kc 3 9 (.i a0.Ridge), kc 3 10 (.i a0.Press), kc 3 11 (.i a1.Class), kc 3 12 (.i a1.Power), kc 3 13 (.i a1.Draught), kc 3 14 (.i a1.Tonnes), kc 3 15 (.v (.slice a1_Thrust_p a1.Thrust.length a1_Thrust_c)), kc 3 16 (.v (.slice a1_Water_p a1.Water.length a1_Water_c)), kc 3 17 (.v (.slice a1_Ice_p a1.Ice.length a1_Ice_c)), kc 3 18 (.i a1.Slow), kc 3 19 (.i a1.Brash), kc 3 20 (.i a1.Ridge), kc 3 21 (.i a1.Press)]) ?_ (kp rfl) rfl
    refine fin_then ?_
    refine aw_block ?_
    refine aw_rounds 3 ?_
    refine aw_seq ?_
    refine aw_text (rows := [_]) rfl (by kernel_rfl) ⟨
      ok_plain rfl rfl (op_bin (r := .bool true) (ltN rfl) rfl rfl rfl),
      trivial⟩ ?_
    refine fin_keep (s' := [kt 2 (.p 1 0), kt 3 (.p 2 0), kt 12 (.s 3 0 2 2), kt 13 (.i 2), kt 14 (.i 0), kt 15 (.B true), kb 1 25 11, kb 2 25 11, kb 3 25 22, kc 1 0 (.i a0.Class), kc 1 1 (.i a0.Power), kc 1 2 (.i a0.Draught), kc 1 3 (.i a0.Tonnes), kc 1 4 (.v (.slice a0_Thrust_p a0.Thrust.length a0_Thrust_c)), kc 1 5 (.v (.slice a0_Water_p a0.Water.length a0_Water_c)), kc 1 6 (.v (.slice a0_Ice_p a0.Ice.length a0_Ice_c)), kc 1 7 (.i a0.Slow), kc 1 8 (.i a0.Brash), kc 1 9 (.i a0.Ridge), kc 1 10 (.i a0.Press), kc 2 0 (.i a1.Class), kc 2 1 (.i a1.Power), kc 2 2 (.i a1.Draught), kc 2 3 (.i a1.Tonnes), kc 2 4 (.v (.slice a1_Thrust_p a1.Thrust.length a1_Thrust_c)), kc 2 5 (.v (.slice a1_Water_p a1.Water.length a1_Water_c)), kc 2 6 (.v (.slice a1_Ice_p a1.Ice.length a1_Ice_c)), kc 2 7 (.i a1.Slow), kc 2 8 (.i a1.Brash), kc 2 9 (.i a1.Ridge), kc 2 10 (.i a1.Press), kc 3 0 (.i a0.Class), kc 3 1 (.i a0.Power), kc 3 2 (.i a0.Draught), kc 3 3 (.i a0.Tonnes), kc 3 4 (.v (.slice a0_Thrust_p a0.Thrust.length a0_Thrust_c)), kc 3 5 (.v (.slice a0_Water_p a0.Water.length a0_Water_c)), kc 3 6 (.v (.slice a0_Ice_p a0.Ice.length a0_Ice_c)), kc 3 7 (.i a0.Slow), kc 3 8 (.i a0.Brash), kc 3 9 (.i a0.Ridge), kc 3 10 (.i a0.Press), kc 3 11 (.i a1.Class), kc 3 12 (.i a1.Power), kc 3 13 (.i a1.Draught), kc 3 14 (.i a1.Tonnes), kc 3 15 (.v (.slice a1_Thrust_p a1.Thrust.length a1_Thrust_c)), kc 3 16 (.v (.slice a1_Water_p a1.Water.length a1_Water_c)), kc 3 17 (.v (.slice a1_Ice_p a1.Ice.length a1_Ice_c)), kc 3 18 (.i a1.Slow), kc 3 19 (.i a1.Brash), kc 3 20 (.i a1.Ridge), kc 3 21 (.i a1.Press)]) ?_ (kp rfl) rfl
    refine fin_then ?_
    refine aw_seq ?_
    refine aw_cond rfl (fun hz1 => ?_) (fun hz1 => by cases hz1)
    refine aw_skip ?_
    refine fin_then ?_
    refine aw_seq ?_
    refine aw_block ?_
    refine aw_seq ?_
    refine aw_text (rows := [_, _, _, _]) rfl (by kernel_rfl) ⟨
      ok_plain rfl rfl (op_ix (ltN rfl) rfl rfl ss_176 (by decide) (by decide)),
      ok_plain rfl rfl (op_loadN (ys := [.i a0.Class, .i a0.Power, .i a0.Draught, .i a0.Tonnes, .v (.slice a0_Thrust_p a0.Thrust.length a0_Thrust_c), .v (.slice a0_Water_p a0.Water.length a0_Water_c), .v (.slice a0_Ice_p a0.Ice.length a0_Ice_c), .i a0.Slow, .i a0.Brash, .i a0.Ridge, .i a0.Press]) (ltN rfl) sh_25 rfl rfl ⟨rfl, rfl, rfl, rfl, rfl, rfl, rfl, rfl, rfl, rfl, rfl, trivial⟩),
      ok_plain rfl rfl (op_alloc (L := 4) (ltN rfl) zl_25),
      ok_plain rfl rfl (op_storeN sz_25 rfl rfl rfl rfl rfl (by decide)),
      trivial⟩ ?_
    refine fin_keep (s' := [kt 2 (.p 1 0), kt 3 (.p 2 0), kt 7 (.p 4 0), kt 12 (.s 3 0 2 2), kt 13 (.i 2), kt 14 (.i 0), kb 1 25 11, kb 2 25 11, kb 3 25 22, kb 4 25 11, kc 1 0 (.i a0.Class), kc 1 1 (.i a0.Power), kc 1 2 (.i a0.Draught), kc 1 3 (.i a0.Tonnes), kc 1 4 (.v (.slice a0_Thrust_p a0.Thrust.length a0_Thrust_c)), kc 1 5 (.v (.slice a0_Water_p a0.Water.length a0_Water_c)), kc 1 6 (.v (.slice a0_Ice_p a0.Ice.length a0_Ice_c)), kc 1 7 (.i a0.Slow), kc 1 8 (.i a0.Brash), kc 1 9 (.i a0.Ridge), kc 1 10 (.i a0.Press), kc 2 0 (.i a1.Class), kc 2 1 (.i a1.Power), kc 2 2 (.i a1.Draught), kc 2 3 (.i a1.Tonnes), kc 2 4 (.v (.slice a1_Thrust_p a1.Thrust.length a1_Thrust_c)), kc 2 5 (.v (.slice a1_Water_p a1.Water.length a1_Water_c)), kc 2 6 (.v (.slice a1_Ice_p a1.Ice.length a1_Ice_c)), kc 2 7 (.i a1.Slow), kc 2 8 (.i a1.Brash), kc 2 9 (.i a1.Ridge), kc 2 10 (.i a1.Press), kc 3 0 (.i a0.Class), kc 3 1 (.i a0.Power), kc 3 2 (.i a0.Draught), kc 3 3 (.i a0.Tonnes), kc 3 4 (.v (.slice a0_Thrust_p a0.Thrust.length a0_Thrust_c)), kc 3 5 (.v (.slice a0_Water_p a0.Water.length a0_Water_c)), kc 3 6 (.v (.slice a0_Ice_p a0.Ice.length a0_Ice_c)), kc 3 7 (.i a0.Slow), kc 3 8 (.i a0.Brash), kc 3 9 (.i a0.Ridge), kc 3 10 (.i a0.Press), kc 3 11 (.i a1.Class), kc 3 12 (.i a1.Power), kc 3 13 (.i a1.Draught), kc 3 14 (.i a1.Tonnes), kc 3 15 (.v (.slice a1_Thrust_p a1.Thrust.length a1_Thrust_c)), kc 3 16 (.v (.slice a1_Water_p a1.Water.length a1_Water_c)), kc 3 17 (.v (.slice a1_Ice_p a1.Ice.length a1_Ice_c)), kc 3 18 (.i a1.Slow), kc 3 19 (.i a1.Brash), kc 3 20 (.i a1.Ridge), kc 3 21 (.i a1.Press), kc 4 0 (.i a0.Class), kc 4 1 (.i a0.Power), kc 4 2 (.i a0.Draught), kc 4 3 (.i a0.Tonnes), kc 4 4 (.v (.slice a0_Thrust_p a0.Thrust.length a0_Thrust_c)), kc 4 5 (.v (.slice a0_Water_p a0.Water.length a0_Water_c)), kc 4 6 (.v (.slice a0_Ice_p a0.Ice.length a0_Ice_c)), kc 4 7 (.i a0.Slow), kc 4 8 (.i a0.Brash), kc 4 9 (.i a0.Ridge), kc 4 10 (.i a0.Press)]) ?_ (kp rfl) rfl
    refine fin_then ?_
    refine aw_seq ?_
    refine aw_text (rows := [_, _, _]) rfl (by kernel_rfl) ⟨
      ok_plain rfl rfl (op_loadN (ys := [.i a0.Class, .i a0.Power, .i a0.Draught, .i a0.Tonnes, .v (.slice a0_Thrust_p a0.Thrust.length a0_Thrust_c), .v (.slice a0_Water_p a0.Water.length a0_Water_c), .v (.slice a0_Ice_p a0.Ice.length a0_Ice_c), .i a0.Slow, .i a0.Brash, .i a0.Ridge, .i a0.Press]) (ltN rfl) sh_25 rfl rfl ⟨rfl, rfl, rfl, rfl, rfl, rfl, rfl, rfl, rfl, rfl, rfl, trivial⟩),
      ok_plain rfl rfl (op_call (x := .i (check a0)) (fs := []) (caps := []) (extra := []) (ltN rfl) en_46 rfl ⟨rfl, rfl, rfl⟩ (EvL.cons rfl EvL.nil) (fun mm aa ww gg hr hrel => (c46 a0 ⟨a0_Thrust_p, a0.Thrust.length, a0_Thrust_c⟩ ⟨a0_Water_p, a0.Water.length, a0_Water_c⟩ ⟨a0_Ice_p, a0.Ice.length, a0_Ice_c⟩ ww (SlIs.mono ha0_Thrust hrel.below) (SlIs.mono ha0_Water hrel.below) (SlIs.mono ha0_Ice hrel.below)))),
      ok_plain rfl rfl (op_assign (ltN rfl) rfl),
      trivial⟩ ?_
    refine fin_keep (s' := [kt 2 (.p 1 0), kt 3 (.p 2 0), kt 8 (.i (check a0)), kt 12 (.s 3 0 2 2), kt 13 (.i 2), kt 14 (.i 0), kb 1 25 11, kb 2 25 11, kb 3 25 22, kc 1 0 (.i a0.Class), kc 1 1 (.i a0.Power), kc 1 2 (.i a0.Draught), kc 1 3 (.i a0.Tonnes), kc 1 4 (.v (.slice a0_Thrust_p a0.Thrust.length a0_Thrust_c)), kc 1 5 (.v (.slice a0_Water_p a0.Water.length a0_Water_c)), kc 1 6 (.v (.slice a0_Ice_p a0.Ice.length a0_Ice_c)), kc 1 7 (.i a0.Slow), kc 1 8 (.i a0.Brash), kc 1 9 (.i a0.Ridge), kc 1 10 (.i a0.Press), kc 2 0 (.i a1.Class), kc 2 1 (.i a1.Power), kc 2 2 (.i a1.Draught), kc 2 3 (.i a1.Tonnes), kc 2 4 (.v (.slice a1_Thrust_p a1.Thrust.length a1_Thrust_c)), kc 2 5 (.v (.slice a1_Water_p a1.Water.length a1_Water_c)), kc 2 6 (.v (.slice a1_Ice_p a1.Ice.length a1_Ice_c)), kc 2 7 (.i a1.Slow), kc 2 8 (.i a1.Brash), kc 2 9 (.i a1.Ridge), kc 2 10 (.i a1.Press), kc 3 0 (.i a0.Class), kc 3 1 (.i a0.Power), kc 3 2 (.i a0.Draught), kc 3 3 (.i a0.Tonnes), kc 3 4 (.v (.slice a0_Thrust_p a0.Thrust.length a0_Thrust_c)), kc 3 5 (.v (.slice a0_Water_p a0.Water.length a0_Water_c)), kc 3 6 (.v (.slice a0_Ice_p a0.Ice.length a0_Ice_c)), kc 3 7 (.i a0.Slow), kc 3 8 (.i a0.Brash), kc 3 9 (.i a0.Ridge), kc 3 10 (.i a0.Press), kc 3 11 (.i a1.Class), kc 3 12 (.i a1.Power), kc 3 13 (.i a1.Draught), kc 3 14 (.i a1.Tonnes), kc 3 15 (.v (.slice a1_Thrust_p a1.Thrust.length a1_Thrust_c)), kc 3 16 (.v (.slice a1_Water_p a1.Water.length a1_Water_c)), kc 3 17 (.v (.slice a1_Ice_p a1.Ice.length a1_Ice_c)), kc 3 18 (.i a1.Slow), kc 3 19 (.i a1.Brash), kc 3 20 (.i a1.Ridge), kc 3 21 (.i a1.Press)]) ?_ (kp rfl) rfl
    refine fin_then ?_
    refine aw_seq ?_
    refine aw_text (rows := [_, _]) rfl (by kernel_rfl) ⟨
      ok_plain rfl rfl (op_move (ltN rfl) rfl),
      ok_plain rfl rfl (op_bin (ltN rfl) rfl rfl rfl),
      trivial⟩ ?_
    refine fin_keep (s' := [kt 2 (.p 1 0), kt 3 (.p 2 0), kt 8 (.i (check a0)), kt 12 (.s 3 0 2 2), kt 13 (.i 2), kt 14 (.i 0), kt 21 (.B ((check a0) != 0)), kb 1 25 11, kb 2 25 11, kb 3 25 22, kc 1 0 (.i a0.Class), kc 1 1 (.i a0.Power), kc 1 2 (.i a0.Draught), kc 1 3 (.i a0.Tonnes), kc 1 4 (.v (.slice a0_Thrust_p a0.Thrust.length a0_Thrust_c)), kc 1 5 (.v (.slice a0_Water_p a0.Water.length a0_Water_c)), kc 1 6 (.v (.slice a0_Ice_p a0.Ice.length a0_Ice_c)), kc 1 7 (.i a0.Slow), kc 1 8 (.i a0.Brash), kc 1 9 (.i a0.Ridge), kc 1 10 (.i a0.Press), kc 2 0 (.i a1.Class), kc 2 1 (.i a1.Power), kc 2 2 (.i a1.Draught), kc 2 3 (.i a1.Tonnes), kc 2 4 (.v (.slice a1_Thrust_p a1.Thrust.length a1_Thrust_c)), kc 2 5 (.v (.slice a1_Water_p a1.Water.length a1_Water_c)), kc 2 6 (.v (.slice a1_Ice_p a1.Ice.length a1_Ice_c)), kc 2 7 (.i a1.Slow), kc 2 8 (.i a1.Brash), kc 2 9 (.i a1.Ridge), kc 2 10 (.i a1.Press), kc 3 0 (.i a0.Class), kc 3 1 (.i a0.Power), kc 3 2 (.i a0.Draught), kc 3 3 (.i a0.Tonnes), kc 3 4 (.v (.slice a0_Thrust_p a0.Thrust.length a0_Thrust_c)), kc 3 5 (.v (.slice a0_Water_p a0.Water.length a0_Water_c)), kc 3 6 (.v (.slice a0_Ice_p a0.Ice.length a0_Ice_c)), kc 3 7 (.i a0.Slow), kc 3 8 (.i a0.Brash), kc 3 9 (.i a0.Ridge), kc 3 10 (.i a0.Press), kc 3 11 (.i a1.Class), kc 3 12 (.i a1.Power), kc 3 13 (.i a1.Draught), kc 3 14 (.i a1.Tonnes), kc 3 15 (.v (.slice a1_Thrust_p a1.Thrust.length a1_Thrust_c)), kc 3 16 (.v (.slice a1_Water_p a1.Water.length a1_Water_c)), kc 3 17 (.v (.slice a1_Ice_p a1.Ice.length a1_Ice_c)), kc 3 18 (.i a1.Slow), kc 3 19 (.i a1.Brash), kc 3 20 (.i a1.Ridge), kc 3 21 (.i a1.Press)]) ?_ (kp rfl) rfl
    refine fin_then ?_
    refine aw_cond rfl (fun hz2 => ?_) (fun hz2 => ?_)
    · have hm := brk_t hz2 hm
      refine aw_seq ?_
      refine aw_text (rows := [_, _, _]) rfl (by kernel_rfl) ⟨
        ok_plain rfl rfl (op_move (ltN rfl) rfl),
        ok_plain rfl rfl (op_assign (ltN rfl) rfl),
        ok_plain rfl rfl (op_assign (ltN rfl) rfl),
        trivial⟩ ?_
      refine fin_keep (s' := [kt 4 (.i 0), kt 5 (.i (check a0))]) ?_ (kp rfl) rfl
      refine fin_then ?_
      refine aw_ret ?_
      refine fin_block_ret ?_
      refine fin_then_ret ?_
      refine fin_then_ret ?_
      refine fin_block_ret ?_
      refine fin_then_ret ?_
      refine post_ret (x := .t [.i 0, .i (check a0)]) rfl rfl (resOK_tmp rfl (resOK_tmp rfl resOK_nil)) rfl (fun mm aa ww hr => ?_)
      have hm := Option.some.inj hm
      subst hm
      exact ⟨rfl, hr.below⟩
    · have hm := brk_f hz2 hm
      refine aw_skip ?_
      refine fin_block ?_
      refine fin_then ?_
      refine aw_text (rows := [_, _]) rfl (by kernel_rfl) ⟨
        ok_plain rfl rfl (op_bin (r := .int .i64 1) (ltN rfl) rfl rfl rfl),
        ok_plain rfl rfl (op_move (ltN rfl) rfl),
        trivial⟩ ?_
      refine fin_keep (s' := [kt 2 (.p 1 0), kt 3 (.p 2 0), kt 12 (.s 3 0 2 2), kt 13 (.i 2), kt 14 (.i 1), kb 1 25 11, kb 2 25 11, kb 3 25 22, kc 1 0 (.i a0.Class), kc 1 1 (.i a0.Power), kc 1 2 (.i a0.Draught), kc 1 3 (.i a0.Tonnes), kc 1 4 (.v (.slice a0_Thrust_p a0.Thrust.length a0_Thrust_c)), kc 1 5 (.v (.slice a0_Water_p a0.Water.length a0_Water_c)), kc 1 6 (.v (.slice a0_Ice_p a0.Ice.length a0_Ice_c)), kc 1 7 (.i a0.Slow), kc 1 8 (.i a0.Brash), kc 1 9 (.i a0.Ridge), kc 1 10 (.i a0.Press), kc 2 0 (.i a1.Class), kc 2 1 (.i a1.Power), kc 2 2 (.i a1.Draught), kc 2 3 (.i a1.Tonnes), kc 2 4 (.v (.slice a1_Thrust_p a1.Thrust.length a1_Thrust_c)), kc 2 5 (.v (.slice a1_Water_p a1.Water.length a1_Water_c)), kc 2 6 (.v (.slice a1_Ice_p a1.Ice.length a1_Ice_c)), kc 2 7 (.i a1.Slow), kc 2 8 (.i a1.Brash), kc 2 9 (.i a1.Ridge), kc 2 10 (.i a1.Press), kc 3 0 (.i a0.Class), kc 3 1 (.i a0.Power), kc 3 2 (.i a0.Draught), kc 3 3 (.i a0.Tonnes), kc 3 4 (.v (.slice a0_Thrust_p a0.Thrust.length a0_Thrust_c)), kc 3 5 (.v (.slice a0_Water_p a0.Water.length a0_Water_c)), kc 3 6 (.v (.slice a0_Ice_p a0.Ice.length a0_Ice_c)), kc 3 7 (.i a0.Slow), kc 3 8 (.i a0.Brash), kc 3 9 (.i a0.Ridge), kc 3 10 (.i a0.Press), kc 3 11 (.i a1.Class), kc 3 12 (.i a1.Power), kc 3 13 (.i a1.Draught), kc 3 14 (.i a1.Tonnes), kc 3 15 (.v (.slice a1_Thrust_p a1.Thrust.length a1_Thrust_c)), kc 3 16 (.v (.slice a1_Water_p a1.Water.length a1_Water_c)), kc 3 17 (.v (.slice a1_Ice_p a1.Ice.length a1_Ice_c)), kc 3 18 (.i a1.Slow), kc 3 19 (.i a1.Brash), kc 3 20 (.i a1.Ridge), kc 3 21 (.i a1.Press)]) ?_ (kp rfl) rfl
      refine fin_round ?_
      refine aw_seq ?_
      refine aw_text (rows := [_]) rfl (by kernel_rfl) ⟨
        ok_plain rfl rfl (op_bin (r := .bool true) (ltN rfl) rfl rfl rfl),
        trivial⟩ ?_
      refine fin_keep (s' := [kt 2 (.p 1 0), kt 3 (.p 2 0), kt 12 (.s 3 0 2 2), kt 13 (.i 2), kt 14 (.i 1), kt 15 (.B true), kb 1 25 11, kb 2 25 11, kb 3 25 22, kc 1 0 (.i a0.Class), kc 1 1 (.i a0.Power), kc 1 2 (.i a0.Draught), kc 1 3 (.i a0.Tonnes), kc 1 4 (.v (.slice a0_Thrust_p a0.Thrust.length a0_Thrust_c)), kc 1 5 (.v (.slice a0_Water_p a0.Water.length a0_Water_c)), kc 1 6 (.v (.slice a0_Ice_p a0.Ice.length a0_Ice_c)), kc 1 7 (.i a0.Slow), kc 1 8 (.i a0.Brash), kc 1 9 (.i a0.Ridge), kc 1 10 (.i a0.Press), kc 2 0 (.i a1.Class), kc 2 1 (.i a1.Power), kc 2 2 (.i a1.Draught), kc 2 3 (.i a1.Tonnes), kc 2 4 (.v (.slice a1_Thrust_p a1.Thrust.length a1_Thrust_c)), kc 2 5 (.v (.slice a1_Water_p a1.Water.length a1_Water_c)), kc 2 6 (.v (.slice a1_Ice_p a1.Ice.length a1_Ice_c)), kc 2 7 (.i a1.Slow), kc 2 8 (.i a1.Brash), kc 2 9 (.i a1.Ridge), kc 2 10 (.i a1.Press), kc 3 0 (.i a0.Class), kc 3 1 (.i a0.Power), kc 3 2 (.i a0.Draught), kc 3 3 (.i a0.Tonnes), kc 3 4 (.v (.slice a0_Thrust_p a0.Thrust.length a0_Thrust_c)), kc 3 5 (.v (.slice a0_Water_p a0.Water.length a0_Water_c)), kc 3 6 (.v (.slice a0_Ice_p a0.Ice.length a0_Ice_c)), kc 3 7 (.i a0.Slow), kc 3 8 (.i a0.Brash), kc 3 9 (.i a0.Ridge), kc 3 10 (.i a0.Press), kc 3 11 (.i a1.Class), kc 3 12 (.i a1.Power), kc 3 13 (.i a1.Draught), kc 3 14 (.i a1.Tonnes), kc 3 15 (.v (.slice a1_Thrust_p a1.Thrust.length a1_Thrust_c)), kc 3 16 (.v (.slice a1_Water_p a1.Water.length a1_Water_c)), kc 3 17 (.v (.slice a1_Ice_p a1.Ice.length a1_Ice_c)), kc 3 18 (.i a1.Slow), kc 3 19 (.i a1.Brash), kc 3 20 (.i a1.Ridge), kc 3 21 (.i a1.Press)]) ?_ (kp rfl) rfl
      refine fin_then ?_
      refine aw_seq ?_
      refine aw_cond rfl (fun hz3 => ?_) (fun hz3 => by cases hz3)
      refine aw_skip ?_
      refine fin_then ?_
      refine aw_seq ?_
      refine aw_block ?_
      refine aw_seq ?_
      refine aw_text (rows := [_, _, _, _]) rfl (by kernel_rfl) ⟨
        ok_plain rfl rfl (op_ix (ltN rfl) rfl rfl ss_176 (by decide) (by decide)),
        ok_plain rfl rfl (op_loadN (ys := [.i a1.Class, .i a1.Power, .i a1.Draught, .i a1.Tonnes, .v (.slice a1_Thrust_p a1.Thrust.length a1_Thrust_c), .v (.slice a1_Water_p a1.Water.length a1_Water_c), .v (.slice a1_Ice_p a1.Ice.length a1_Ice_c), .i a1.Slow, .i a1.Brash, .i a1.Ridge, .i a1.Press]) (ltN rfl) sh_25 rfl rfl ⟨rfl, rfl, rfl, rfl, rfl, rfl, rfl, rfl, rfl, rfl, rfl, trivial⟩),
        ok_plain rfl rfl (op_alloc (L := 5) (ltN rfl) zl_25),
        ok_plain rfl rfl (op_storeN sz_25 rfl rfl rfl rfl rfl (by decide)),
        trivial⟩ ?_
      refine fin_keep (s' := [kt 2 (.p 1 0), kt 3 (.p 2 0), kt 7 (.p 5 0), kt 12 (.s 3 0 2 2), kt 13 (.i 2), kt 14 (.i 1), kb 1 25 11, kb 2 25 11, kb 3 25 22, kb 5 25 11, kc 1 0 (.i a0.Class), kc 1 1 (.i a0.Power), kc 1 2 (.i a0.Draught), kc 1 3 (.i a0.Tonnes), kc 1 4 (.v (.slice a0_Thrust_p a0.Thrust.length a0_Thrust_c)), kc 1 5 (.v (.slice a0_Water_p a0.Water.length a0_Water_c)), kc 1 6 (.v (.slice a0_Ice_p a0.Ice.length a0_Ice_c)), kc 1 7 (.i a0.Slow), kc 1 8 (.i a0.Brash), kc 1 9 (.i a0.Ridge), kc 1 10 (.i a0.Press), kc 2 0 (.i a1.Class), kc 2 1 (.i a1.Power), kc 2 2 (.i a1.Draught), kc 2 3 (.i a1.Tonnes), kc 2 4 (.v (.slice a1_Thrust_p a1.Thrust.length a1_Thrust_c)), kc 2 5 (.v (.slice a1_Water_p a1.Water.length a1_Water_c)), kc 2 6 (.v (.slice a1_Ice_p a1.Ice.length a1_Ice_c)), kc 2 7 (.i a1.Slow), kc 2 8 (.i a1.Brash), kc 2 9 (.i a1.Ridge), kc 2 10 (.i a1.Press), kc 3 0 (.i a0.Class), kc 3 1 (.i a0.Power), kc 3 2 (.i a0.Draught), kc 3 3 (.i a0.Tonnes), kc 3 4 (.v (.slice a0_Thrust_p a0.Thrust.length a0_Thrust_c)), kc 3 5 (.v (.slice a0_Water_p a0.Water.length a0_Water_c)), kc 3 6 (.v (.slice a0_Ice_p a0.Ice.length a0_Ice_c)), kc 3 7 (.i a0.Slow), kc 3 8 (.i a0.Brash), kc 3 9 (.i a0.Ridge), kc 3 10 (.i a0.Press), kc 3 11 (.i a1.Class), kc 3 12 (.i a1.Power), kc 3 13 (.i a1.Draught), kc 3 14 (.i a1.Tonnes), kc 3 15 (.v (.slice a1_Thrust_p a1.Thrust.length a1_Thrust_c)), kc 3 16 (.v (.slice a1_Water_p a1.Water.length a1_Water_c)), kc 3 17 (.v (.slice a1_Ice_p a1.Ice.length a1_Ice_c)), kc 3 18 (.i a1.Slow), kc 3 19 (.i a1.Brash), kc 3 20 (.i a1.Ridge), kc 3 21 (.i a1.Press), kc 5 0 (.i a1.Class), kc 5 1 (.i a1.Power), kc 5 2 (.i a1.Draught), kc 5 3 (.i a1.Tonnes), kc 5 4 (.v (.slice a1_Thrust_p a1.Thrust.length a1_Thrust_c)), kc 5 5 (.v (.slice a1_Water_p a1.Water.length a1_Water_c)), kc 5 6 (.v (.slice a1_Ice_p a1.Ice.length a1_Ice_c)), kc 5 7 (.i a1.Slow), kc 5 8 (.i a1.Brash), kc 5 9 (.i a1.Ridge), kc 5 10 (.i a1.Press)]) ?_ (kp rfl) rfl
      refine fin_then ?_
      refine aw_seq ?_
      refine aw_text (rows := [_, _, _]) rfl (by kernel_rfl) ⟨
        ok_plain rfl rfl (op_loadN (ys := [.i a1.Class, .i a1.Power, .i a1.Draught, .i a1.Tonnes, .v (.slice a1_Thrust_p a1.Thrust.length a1_Thrust_c), .v (.slice a1_Water_p a1.Water.length a1_Water_c), .v (.slice a1_Ice_p a1.Ice.length a1_Ice_c), .i a1.Slow, .i a1.Brash, .i a1.Ridge, .i a1.Press]) (ltN rfl) sh_25 rfl rfl ⟨rfl, rfl, rfl, rfl, rfl, rfl, rfl, rfl, rfl, rfl, rfl, trivial⟩),
        ok_plain rfl rfl (op_call (x := .i (check a1)) (fs := []) (caps := []) (extra := []) (ltN rfl) en_46 rfl ⟨rfl, rfl, rfl⟩ (EvL.cons rfl EvL.nil) (fun mm aa ww gg hr hrel => (c46 a1 ⟨a1_Thrust_p, a1.Thrust.length, a1_Thrust_c⟩ ⟨a1_Water_p, a1.Water.length, a1_Water_c⟩ ⟨a1_Ice_p, a1.Ice.length, a1_Ice_c⟩ ww (SlIs.mono ha1_Thrust hrel.below) (SlIs.mono ha1_Water hrel.below) (SlIs.mono ha1_Ice hrel.below)))),
        ok_plain rfl rfl (op_assign (ltN rfl) rfl),
        trivial⟩ ?_
      refine fin_keep (s' := [kt 2 (.p 1 0), kt 3 (.p 2 0), kt 8 (.i (check a1)), kt 12 (.s 3 0 2 2), kt 13 (.i 2), kt 14 (.i 1), kb 1 25 11, kb 2 25 11, kb 3 25 22, kc 1 0 (.i a0.Class), kc 1 1 (.i a0.Power), kc 1 2 (.i a0.Draught), kc 1 3 (.i a0.Tonnes), kc 1 4 (.v (.slice a0_Thrust_p a0.Thrust.length a0_Thrust_c)), kc 1 5 (.v (.slice a0_Water_p a0.Water.length a0_Water_c)), kc 1 6 (.v (.slice a0_Ice_p a0.Ice.length a0_Ice_c)), kc 1 7 (.i a0.Slow), kc 1 8 (.i a0.Brash), kc 1 9 (.i a0.Ridge), kc 1 10 (.i a0.Press), kc 2 0 (.i a1.Class), kc 2 1 (.i a1.Power), kc 2 2 (.i a1.Draught), kc 2 3 (.i a1.Tonnes), kc 2 4 (.v (.slice a1_Thrust_p a1.Thrust.length a1_Thrust_c)), kc 2 5 (.v (.slice a1_Water_p a1.Water.length a1_Water_c)), kc 2 6 (.v (.slice a1_Ice_p a1.Ice.length a1_Ice_c)), kc 2 7 (.i a1.Slow), kc 2 8 (.i a1.Brash), kc 2 9 (.i a1.Ridge), kc 2 10 (.i a1.Press), kc 3 0 (.i a0.Class), kc 3 1 (.i a0.Power), kc 3 2 (.i a0.Draught), kc 3 3 (.i a0.Tonnes), kc 3 4 (.v (.slice a0_Thrust_p a0.Thrust.length a0_Thrust_c)), kc 3 5 (.v (.slice a0_Water_p a0.Water.length a0_Water_c)), kc 3 6 (.v (.slice a0_Ice_p a0.Ice.length a0_Ice_c)), kc 3 7 (.i a0.Slow), kc 3 8 (.i a0.Brash), kc 3 9 (.i a0.Ridge), kc 3 10 (.i a0.Press), kc 3 11 (.i a1.Class), kc 3 12 (.i a1.Power), kc 3 13 (.i a1.Draught), kc 3 14 (.i a1.Tonnes), kc 3 15 (.v (.slice a1_Thrust_p a1.Thrust.length a1_Thrust_c)), kc 3 16 (.v (.slice a1_Water_p a1.Water.length a1_Water_c)), kc 3 17 (.v (.slice a1_Ice_p a1.Ice.length a1_Ice_c)), kc 3 18 (.i a1.Slow), kc 3 19 (.i a1.Brash), kc 3 20 (.i a1.Ridge), kc 3 21 (.i a1.Press)]) ?_ (kp rfl) rfl
      refine fin_then ?_
      refine aw_seq ?_
      refine aw_text (rows := [_, _]) rfl (by kernel_rfl) ⟨
        ok_plain rfl rfl (op_move (ltN rfl) rfl),
        ok_plain rfl rfl (op_bin (ltN rfl) rfl rfl rfl),
        trivial⟩ ?_
      refine fin_keep (s' := [kt 2 (.p 1 0), kt 3 (.p 2 0), kt 8 (.i (check a1)), kt 12 (.s 3 0 2 2), kt 13 (.i 2), kt 14 (.i 1), kt 21 (.B ((check a1) != 0)), kb 1 25 11, kb 2 25 11, kb 3 25 22, kc 1 0 (.i a0.Class), kc 1 1 (.i a0.Power), kc 1 2 (.i a0.Draught), kc 1 3 (.i a0.Tonnes), kc 1 4 (.v (.slice a0_Thrust_p a0.Thrust.length a0_Thrust_c)), kc 1 5 (.v (.slice a0_Water_p a0.Water.length a0_Water_c)), kc 1 6 (.v (.slice a0_Ice_p a0.Ice.length a0_Ice_c)), kc 1 7 (.i a0.Slow), kc 1 8 (.i a0.Brash), kc 1 9 (.i a0.Ridge), kc 1 10 (.i a0.Press), kc 2 0 (.i a1.Class), kc 2 1 (.i a1.Power), kc 2 2 (.i a1.Draught), kc 2 3 (.i a1.Tonnes), kc 2 4 (.v (.slice a1_Thrust_p a1.Thrust.length a1_Thrust_c)), kc 2 5 (.v (.slice a1_Water_p a1.Water.length a1_Water_c)), kc 2 6 (.v (.slice a1_Ice_p a1.Ice.length a1_Ice_c)), kc 2 7 (.i a1.Slow), kc 2 8 (.i a1.Brash), kc 2 9 (.i a1.Ridge), kc 2 10 (.i a1.Press), kc 3 0 (.i a0.Class), kc 3 1 (.i a0.Power), kc 3 2 (.i a0.Draught), kc 3 3 (.i a0.Tonnes), kc 3 4 (.v (.slice a0_Thrust_p a0.Thrust.length a0_Thrust_c)), kc 3 5 (.v (.slice a0_Water_p a0.Water.length a0_Water_c)), kc 3 6 (.v (.slice a0_Ice_p a0.Ice.length a0_Ice_c)), kc 3 7 (.i a0.Slow), kc 3 8 (.i a0.Brash), kc 3 9 (.i a0.Ridge), kc 3 10 (.i a0.Press), kc 3 11 (.i a1.Class), kc 3 12 (.i a1.Power), kc 3 13 (.i a1.Draught), kc 3 14 (.i a1.Tonnes), kc 3 15 (.v (.slice a1_Thrust_p a1.Thrust.length a1_Thrust_c)), kc 3 16 (.v (.slice a1_Water_p a1.Water.length a1_Water_c)), kc 3 17 (.v (.slice a1_Ice_p a1.Ice.length a1_Ice_c)), kc 3 18 (.i a1.Slow), kc 3 19 (.i a1.Brash), kc 3 20 (.i a1.Ridge), kc 3 21 (.i a1.Press)]) ?_ (kp rfl) rfl
      refine fin_then ?_
      refine aw_cond rfl (fun hz4 => ?_) (fun hz4 => ?_)
      · have hm := brk_t hz4 hm
        refine aw_seq ?_
        refine aw_text (rows := [_, _, _]) rfl (by kernel_rfl) ⟨
          ok_plain rfl rfl (op_move (ltN rfl) rfl),
          ok_plain rfl rfl (op_assign (ltN rfl) rfl),
          ok_plain rfl rfl (op_assign (ltN rfl) rfl),
          trivial⟩ ?_
        refine fin_keep (s' := [kt 4 (.i 0), kt 5 (.i (check a1))]) ?_ (kp rfl) rfl
        refine fin_then ?_
        refine aw_ret ?_
        refine fin_block_ret ?_
        refine fin_then_ret ?_
        refine fin_then_ret ?_
        refine fin_block_ret ?_
        refine fin_then_ret ?_
        refine post_ret (x := .t [.i 0, .i (check a1)]) rfl rfl (resOK_tmp rfl (resOK_tmp rfl resOK_nil)) rfl (fun mm aa ww hr => ?_)
        have hm := Option.some.inj hm
        subst hm
        exact ⟨rfl, hr.below⟩
      · have hm := brk_f hz4 hm
        refine aw_skip ?_
        refine fin_block ?_
        refine fin_then ?_
        refine aw_text (rows := [_, _]) rfl (by kernel_rfl) ⟨
          ok_plain rfl rfl (op_bin (r := .int .i64 2) (ltN rfl) rfl rfl rfl),
          ok_plain rfl rfl (op_move (ltN rfl) rfl),
          trivial⟩ ?_
        refine fin_keep (s' := [kt 2 (.p 1 0), kt 3 (.p 2 0), kt 12 (.s 3 0 2 2), kt 13 (.i 2), kt 14 (.i 2), kb 1 25 11, kb 2 25 11, kb 3 25 22, kc 1 0 (.i a0.Class), kc 1 1 (.i a0.Power), kc 1 2 (.i a0.Draught), kc 1 3 (.i a0.Tonnes), kc 1 4 (.v (.slice a0_Thrust_p a0.Thrust.length a0_Thrust_c)), kc 1 5 (.v (.slice a0_Water_p a0.Water.length a0_Water_c)), kc 1 6 (.v (.slice a0_Ice_p a0.Ice.length a0_Ice_c)), kc 1 7 (.i a0.Slow), kc 1 8 (.i a0.Brash), kc 1 9 (.i a0.Ridge), kc 1 10 (.i a0.Press), kc 2 0 (.i a1.Class), kc 2 1 (.i a1.Power), kc 2 2 (.i a1.Draught), kc 2 3 (.i a1.Tonnes), kc 2 4 (.v (.slice a1_Thrust_p a1.Thrust.length a1_Thrust_c)), kc 2 5 (.v (.slice a1_Water_p a1.Water.length a1_Water_c)), kc 2 6 (.v (.slice a1_Ice_p a1.Ice.length a1_Ice_c)), kc 2 7 (.i a1.Slow), kc 2 8 (.i a1.Brash), kc 2 9 (.i a1.Ridge), kc 2 10 (.i a1.Press), kc 3 0 (.i a0.Class), kc 3 1 (.i a0.Power), kc 3 2 (.i a0.Draught), kc 3 3 (.i a0.Tonnes), kc 3 4 (.v (.slice a0_Thrust_p a0.Thrust.length a0_Thrust_c)), kc 3 5 (.v (.slice a0_Water_p a0.Water.length a0_Water_c)), kc 3 6 (.v (.slice a0_Ice_p a0.Ice.length a0_Ice_c)), kc 3 7 (.i a0.Slow), kc 3 8 (.i a0.Brash), kc 3 9 (.i a0.Ridge), kc 3 10 (.i a0.Press), kc 3 11 (.i a1.Class), kc 3 12 (.i a1.Power), kc 3 13 (.i a1.Draught), kc 3 14 (.i a1.Tonnes), kc 3 15 (.v (.slice a1_Thrust_p a1.Thrust.length a1_Thrust_c)), kc 3 16 (.v (.slice a1_Water_p a1.Water.length a1_Water_c)), kc 3 17 (.v (.slice a1_Ice_p a1.Ice.length a1_Ice_c)), kc 3 18 (.i a1.Slow), kc 3 19 (.i a1.Brash), kc 3 20 (.i a1.Ridge), kc 3 21 (.i a1.Press)]) ?_ (kp rfl) rfl
        refine fin_round ?_
        refine aw_seq ?_
        refine aw_text (rows := [_]) rfl (by kernel_rfl) ⟨
          ok_plain rfl rfl (op_bin (r := .bool false) (ltN rfl) rfl rfl rfl),
          trivial⟩ ?_
        refine fin_keep (s' := [kt 2 (.p 1 0), kt 3 (.p 2 0), kt 12 (.s 3 0 2 2), kt 13 (.i 2), kt 14 (.i 2), kt 15 (.B false), kb 1 25 11, kb 2 25 11, kb 3 25 22, kc 1 0 (.i a0.Class), kc 1 1 (.i a0.Power), kc 1 2 (.i a0.Draught), kc 1 3 (.i a0.Tonnes), kc 1 4 (.v (.slice a0_Thrust_p a0.Thrust.length a0_Thrust_c)), kc 1 5 (.v (.slice a0_Water_p a0.Water.length a0_Water_c)), kc 1 6 (.v (.slice a0_Ice_p a0.Ice.length a0_Ice_c)), kc 1 7 (.i a0.Slow), kc 1 8 (.i a0.Brash), kc 1 9 (.i a0.Ridge), kc 1 10 (.i a0.Press), kc 2 0 (.i a1.Class), kc 2 1 (.i a1.Power), kc 2 2 (.i a1.Draught), kc 2 3 (.i a1.Tonnes), kc 2 4 (.v (.slice a1_Thrust_p a1.Thrust.length a1_Thrust_c)), kc 2 5 (.v (.slice a1_Water_p a1.Water.length a1_Water_c)), kc 2 6 (.v (.slice a1_Ice_p a1.Ice.length a1_Ice_c)), kc 2 7 (.i a1.Slow), kc 2 8 (.i a1.Brash), kc 2 9 (.i a1.Ridge), kc 2 10 (.i a1.Press), kc 3 0 (.i a0.Class), kc 3 1 (.i a0.Power), kc 3 2 (.i a0.Draught), kc 3 3 (.i a0.Tonnes), kc 3 4 (.v (.slice a0_Thrust_p a0.Thrust.length a0_Thrust_c)), kc 3 5 (.v (.slice a0_Water_p a0.Water.length a0_Water_c)), kc 3 6 (.v (.slice a0_Ice_p a0.Ice.length a0_Ice_c)), kc 3 7 (.i a0.Slow), kc 3 8 (.i a0.Brash), kc 3 9 (.i a0.Ridge), kc 3 10 (.i a0.Press), kc 3 11 (.i a1.Class), kc 3 12 (.i a1.Power), kc 3 13 (.i a1.Draught), kc 3 14 (.i a1.Tonnes), kc 3 15 (.v (.slice a1_Thrust_p a1.Thrust.length a1_Thrust_c)), kc 3 16 (.v (.slice a1_Water_p a1.Water.length a1_Water_c)), kc 3 17 (.v (.slice a1_Ice_p a1.Ice.length a1_Ice_c)), kc 3 18 (.i a1.Slow), kc 3 19 (.i a1.Brash), kc 3 20 (.i a1.Ridge), kc 3 21 (.i a1.Press)]) ?_ (kp rfl) rfl
        refine fin_then ?_
        refine aw_seq ?_
        refine aw_cond rfl (fun hz5 => by cases hz5) (fun hz5 => ?_)
        refine aw_exit ?_
        refine fin_then_exit ?_
        refine fin_then_exit ?_
        refine fin_block_exit ?_
        exact fin_cut () hm ⟨rfl, rfl, rfl, rfl, rfl, rfl, rfl, rfl, rfl, rfl, rfl, rfl, rfl, rfl, rfl, rfl, rfl, rfl, rfl, rfl, rfl, rfl, rfl, rfl, rfl, rfl, trivial⟩ rfl
  · have _z := hm
    refine aw_cutM (ι := Unit) hm (fun x2 => []) (fun hm => ?_) (fun x2 hm => ?_)
    · have _z := hm
      refine aw_seq ?_
      refine aw_text (rows := [_]) rfl (by kernel_rfl) ⟨
        ok_plain rfl rfl (op_move (ltN rfl) rfl),
        trivial⟩ ?_
      refine fin_keep (s' := [kt 2 (.p 1 0), kt 3 (.p 2 0), kt 24 (.i 0), kb 1 25 11, kb 2 25 11, kc 1 0 (.i a0.Class), kc 1 1 (.i a0.Power), kc 1 2 (.i a0.Draught), kc 1 3 (.i a0.Tonnes), kc 1 4 (.v (.slice a0_Thrust_p a0.Thrust.length a0_Thrust_c)), kc 1 5 (.v (.slice a0_Water_p a0.Water.length a0_Water_c)), kc 1 6 (.v (.slice a0_Ice_p a0.Ice.length a0_Ice_c)), kc 1 7 (.i a0.Slow), kc 1 8 (.i a0.Brash), kc 1 9 (.i a0.Ridge), kc 1 10 (.i a0.Press), kc 2 0 (.i a1.Class), kc 2 1 (.i a1.Power), kc 2 2 (.i a1.Draught), kc 2 3 (.i a1.Tonnes), kc 2 4 (.v (.slice a1_Thrust_p a1.Thrust.length a1_Thrust_c)), kc 2 5 (.v (.slice a1_Water_p a1.Water.length a1_Water_c)), kc 2 6 (.v (.slice a1_Ice_p a1.Ice.length a1_Ice_c)), kc 2 7 (.i a1.Slow), kc 2 8 (.i a1.Brash), kc 2 9 (.i a1.Ridge), kc 2 10 (.i a1.Press)]) ?_ (kp rfl) rfl
      refine fin_then ?_
      refine aw_block ?_
      refine aw_loopC hm (fun x3 => [kt 2 (.p 1 0), kt 3 (.p 2 0), kt 24 (.i x3), kb 1 25 11, kb 2 25 11, kc 1 0 (.i a0.Class), kc 1 1 (.i a0.Power), kc 1 2 (.i a0.Draught), kc 1 3 (.i a0.Tonnes), kc 1 4 (.v (.slice a0_Thrust_p a0.Thrust.length a0_Thrust_c)), kc 1 5 (.v (.slice a0_Water_p a0.Water.length a0_Water_c)), kc 1 6 (.v (.slice a0_Ice_p a0.Ice.length a0_Ice_c)), kc 1 7 (.i a0.Slow), kc 1 8 (.i a0.Brash), kc 1 9 (.i a0.Ridge), kc 1 10 (.i a0.Press), kc 2 0 (.i a1.Class), kc 2 1 (.i a1.Power), kc 2 2 (.i a1.Draught), kc 2 3 (.i a1.Tonnes), kc 2 4 (.v (.slice a1_Thrust_p a1.Thrust.length a1_Thrust_c)), kc 2 5 (.v (.slice a1_Water_p a1.Water.length a1_Water_c)), kc 2 6 (.v (.slice a1_Ice_p a1.Ice.length a1_Ice_c)), kc 2 7 (.i a1.Slow), kc 2 8 (.i a1.Brash), kc 2 9 (.i a1.Ridge), kc 2 10 (.i a1.Press)]) ⟨rfl, rfl, rfl, rfl, rfl, rfl, rfl, rfl, rfl, rfl, rfl, rfl, rfl, rfl, rfl, rfl, rfl, rfl, rfl, rfl, rfl, rfl, rfl, rfl, rfl, rfl, rfl, trivial⟩ rfl (fun x3 n3 hm => ?_)
      refine aw_seq ?_
      refine aw_text (rows := [_]) rfl (by kernel_rfl) ⟨
        ok_plain rfl rfl (op_bin (ltN rfl) rfl rfl rfl),
        trivial⟩ ?_
      refine fin_keep (s' := [kt 2 (.p 1 0), kt 3 (.p 2 0), kt 24 (.i x3), kt 25 (.B (decide (x3 < 401))), kb 1 25 11, kb 2 25 11, kc 1 0 (.i a0.Class), kc 1 1 (.i a0.Power), kc 1 2 (.i a0.Draught), kc 1 3 (.i a0.Tonnes), kc 1 4 (.v (.slice a0_Thrust_p a0.Thrust.length a0_Thrust_c)), kc 1 5 (.v (.slice a0_Water_p a0.Water.length a0_Water_c)), kc 1 6 (.v (.slice a0_Ice_p a0.Ice.length a0_Ice_c)), kc 1 7 (.i a0.Slow), kc 1 8 (.i a0.Brash), kc 1 9 (.i a0.Ridge), kc 1 10 (.i a0.Press), kc 2 0 (.i a1.Class), kc 2 1 (.i a1.Power), kc 2 2 (.i a1.Draught), kc 2 3 (.i a1.Tonnes), kc 2 4 (.v (.slice a1_Thrust_p a1.Thrust.length a1_Thrust_c)), kc 2 5 (.v (.slice a1_Water_p a1.Water.length a1_Water_c)), kc 2 6 (.v (.slice a1_Ice_p a1.Ice.length a1_Ice_c)), kc 2 7 (.i a1.Slow), kc 2 8 (.i a1.Brash), kc 2 9 (.i a1.Ridge), kc 2 10 (.i a1.Press)]) ?_ (kp rfl) rfl
      refine fin_then ?_
      refine aw_seq ?_
      refine aw_cond rfl (fun hz6 => ?_) (fun hz6 => ?_)
      · have hm := brk_t hz6 hm
        refine aw_skip ?_
        refine fin_then ?_
        refine aw_seq ?_
        refine aw_block ?_
        refine aw_seq ?_
        refine aw_text (rows := [_, _]) rfl (by kernel_rfl) ⟨
          ok_plain rfl rfl (op_move (ltN rfl) rfl),
          ok_plain rfl rfl (op_assign (ltN rfl) rfl),
          trivial⟩ ?_
        refine fin_keep (s' := [kt 2 (.p 1 0), kt 3 (.p 2 0), kt 9 (.i x3), kt 24 (.i x3), kb 1 25 11, kb 2 25 11, kc 1 0 (.i a0.Class), kc 1 1 (.i a0.Power), kc 1 2 (.i a0.Draught), kc 1 3 (.i a0.Tonnes), kc 1 4 (.v (.slice a0_Thrust_p a0.Thrust.length a0_Thrust_c)), kc 1 5 (.v (.slice a0_Water_p a0.Water.length a0_Water_c)), kc 1 6 (.v (.slice a0_Ice_p a0.Ice.length a0_Ice_c)), kc 1 7 (.i a0.Slow), kc 1 8 (.i a0.Brash), kc 1 9 (.i a0.Ridge), kc 1 10 (.i a0.Press), kc 2 0 (.i a1.Class), kc 2 1 (.i a1.Power), kc 2 2 (.i a1.Draught), kc 2 3 (.i a1.Tonnes), kc 2 4 (.v (.slice a1_Thrust_p a1.Thrust.length a1_Thrust_c)), kc 2 5 (.v (.slice a1_Water_p a1.Water.length a1_Water_c)), kc 2 6 (.v (.slice a1_Ice_p a1.Ice.length a1_Ice_c)), kc 2 7 (.i a1.Slow), kc 2 8 (.i a1.Brash), kc 2 9 (.i a1.Ridge), kc 2 10 (.i a1.Press)]) ?_ (kp rfl) rfl
        refine fin_then ?_
        refine aw_seq ?_
        obtain ⟨hp7, hm⟩ := chk_some hm
        obtain ⟨hp8, hm⟩ := chk_some hm
        obtain ⟨hp9, hm⟩ := chk_some hm
        refine aw_text (rows := [_, _, _, _, _, _, _, _, _]) rfl (by kernel_rfl) ⟨
          ok_plain rfl rfl (op_move (ltN rfl) rfl),
          ok_plain rfl rfl (op_call (x := .g [.i 100, .i x3, .i 0, .i 0]) (fs := []) (caps := []) (extra := []) (ltN rfl) en_105 rfl ⟨rfl, rfl, rfl⟩ (EvL.cons rfl EvL.nil) (fun mm aa ww gg hr hrel => (c105 x3 ww))),
          ok_plain rfl rfl (op_build (x := .g [.p 1 0, .i 100, .i x3, .i 0, .i 0, .B false]) (ltN rfl) (EvL.cons rfl (EvL.cons rfl (EvL.cons rfl EvL.nil))) (fun m w => by kernel_rfl)),
          ok_plain rfl rfl (op_call (x := .i (speed a0 ((⟨100, x3, 0, 0⟩ : Ice)) false)) (fs := []) (caps := []) (extra := (kapp ((.b 1 :: cellKeys 1 0 11)) [])) (ltN rfl) en_76 rfl ⟨rfl, rfl, rfl⟩ (EvL.cons rfl EvL.nil) (fun mm aa ww gg hr hrel => (c76 a0 ⟨a0_Thrust_p, a0.Thrust.length, a0_Thrust_c⟩ ⟨a0_Water_p, a0.Water.length, a0_Water_c⟩ ⟨a0_Ice_p, a0.Ice.length, a0_Ice_c⟩ (mm 1) ((⟨100, x3, 0, 0⟩ : Ice)) false ww (SlIs.mono ha0_Thrust hrel.below) (SlIs.mono ha0_Water hrel.below) (SlIs.mono ha0_Ice hrel.below) (boxAt (L := 1) (vs := [(.int .i64 a0.Class), (.int .i64 a0.Power), (.int .i64 a0.Draught), (.int .i64 a0.Tonnes), (.slice a0_Thrust_p a0.Thrust.length a0_Thrust_c), (.slice a0_Water_p a0.Water.length a0_Water_c), (.slice a0_Ice_p a0.Ice.length a0_Ice_c), (.int .i64 a0.Slow), (.int .i64 a0.Brash), (.int .i64 a0.Ridge), (.int .i64 a0.Press)]) hrel (fun k hk => hr k (List.mem_append_left _ hk)) rfl ⟨rfl, rfl, rfl, rfl, rfl, rfl, rfl, rfl, rfl, rfl, rfl, trivial⟩) hp7 hp8))),
          ok_plain rfl rfl (op_move (ltN rfl) rfl),
          ok_plain rfl rfl (op_call (x := .g [.i 100, .i x3, .i 0, .i 0]) (fs := []) (caps := []) (extra := []) (ltN rfl) en_105 rfl ⟨rfl, rfl, rfl⟩ (EvL.cons rfl EvL.nil) (fun mm aa ww gg hr hrel => (c105 x3 ww))),
          ok_plain rfl rfl (op_build (x := .g [.p 2 0, .i 100, .i x3, .i 0, .i 0, .B false]) (ltN rfl) (EvL.cons rfl (EvL.cons rfl (EvL.cons rfl EvL.nil))) (fun m w => by kernel_rfl)),
          ok_plain rfl rfl (op_call (x := .i (speed a1 ((⟨100, x3, 0, 0⟩ : Ice)) false)) (fs := []) (caps := []) (extra := (kapp ((.b 2 :: cellKeys 2 0 11)) [])) (ltN rfl) en_76 rfl ⟨rfl, rfl, rfl⟩ (EvL.cons rfl EvL.nil) (fun mm aa ww gg hr hrel => (c76 a1 ⟨a1_Thrust_p, a1.Thrust.length, a1_Thrust_c⟩ ⟨a1_Water_p, a1.Water.length, a1_Water_c⟩ ⟨a1_Ice_p, a1.Ice.length, a1_Ice_c⟩ (mm 2) ((⟨100, x3, 0, 0⟩ : Ice)) false ww (SlIs.mono ha1_Thrust hrel.below) (SlIs.mono ha1_Water hrel.below) (SlIs.mono ha1_Ice hrel.below) (boxAt (L := 2) (vs := [(.int .i64 a1.Class), (.int .i64 a1.Power), (.int .i64 a1.Draught), (.int .i64 a1.Tonnes), (.slice a1_Thrust_p a1.Thrust.length a1_Thrust_c), (.slice a1_Water_p a1.Water.length a1_Water_c), (.slice a1_Ice_p a1.Ice.length a1_Ice_c), (.int .i64 a1.Slow), (.int .i64 a1.Brash), (.int .i64 a1.Ridge), (.int .i64 a1.Press)]) hrel (fun k hk => hr k (List.mem_append_left _ hk)) rfl ⟨rfl, rfl, rfl, rfl, rfl, rfl, rfl, rfl, rfl, rfl, rfl, trivial⟩) hp9 hp8))),
          ok_plain rfl rfl (op_bin (ltN rfl) rfl rfl rfl),
          trivial⟩ ?_
        refine fin_keep (s' := [kt 2 (.p 1 0), kt 3 (.p 2 0), kt 9 (.i x3), kt 24 (.i x3), kt 35 (.B (decide ((speed a0 ((⟨100, x3, 0, 0⟩ : Ice)) false) < (speed a1 ((⟨100, x3, 0, 0⟩ : Ice)) false)))), kb 1 25 11, kb 2 25 11, kc 1 0 (.i a0.Class), kc 1 1 (.i a0.Power), kc 1 2 (.i a0.Draught), kc 1 3 (.i a0.Tonnes), kc 1 4 (.v (.slice a0_Thrust_p a0.Thrust.length a0_Thrust_c)), kc 1 5 (.v (.slice a0_Water_p a0.Water.length a0_Water_c)), kc 1 6 (.v (.slice a0_Ice_p a0.Ice.length a0_Ice_c)), kc 1 7 (.i a0.Slow), kc 1 8 (.i a0.Brash), kc 1 9 (.i a0.Ridge), kc 1 10 (.i a0.Press), kc 2 0 (.i a1.Class), kc 2 1 (.i a1.Power), kc 2 2 (.i a1.Draught), kc 2 3 (.i a1.Tonnes), kc 2 4 (.v (.slice a1_Thrust_p a1.Thrust.length a1_Thrust_c)), kc 2 5 (.v (.slice a1_Water_p a1.Water.length a1_Water_c)), kc 2 6 (.v (.slice a1_Ice_p a1.Ice.length a1_Ice_c)), kc 2 7 (.i a1.Slow), kc 2 8 (.i a1.Brash), kc 2 9 (.i a1.Ridge), kc 2 10 (.i a1.Press)]) ?_ (kp rfl) rfl
        refine fin_then ?_
        refine aw_cond rfl (fun hz10 => ?_) (fun hz10 => ?_)
        · have hm := brk_t hz10 hm
          refine aw_seq ?_
          refine aw_text (rows := [_, _, _]) rfl (by kernel_rfl) ⟨
            ok_plain rfl rfl (op_move (ltN rfl) rfl),
            ok_plain rfl rfl (op_assign (ltN rfl) rfl),
            ok_plain rfl rfl (op_assign (ltN rfl) rfl),
            trivial⟩ ?_
          refine fin_keep (s' := [kt 4 (.i x3), kt 5 (.i 0)]) ?_ (kp rfl) rfl
          refine fin_then ?_
          refine aw_ret ?_
          refine fin_block_ret ?_
          refine fin_then_ret ?_
          refine fin_then_ret ?_
          refine fin_block_ret ?_
          refine fin_then_ret ?_
          refine post_ret (x := .t [.i x3, .i 0]) rfl rfl (resOK_tmp rfl (resOK_tmp rfl resOK_nil)) rfl (fun mm aa ww hr => ?_)
          have hm := Option.some.inj hm
          subst hm
          exact ⟨rfl, hr.below⟩
        · have hm := brk_f hz10 hm
          refine aw_skip ?_
          refine fin_block ?_
          refine fin_then ?_
          obtain ⟨hp11, hm⟩ := chk_some hm
          refine aw_text (rows := [_, _]) rfl (by kernel_rfl) ⟨
            ok_plain rfl rfl (op_bin (ltN rfl) rfl rfl (nw_add hp11)),
            ok_plain rfl rfl (op_move (ltN rfl) rfl),
            trivial⟩ ?_
          refine fin_keep (s' := [kt 2 (.p 1 0), kt 3 (.p 2 0), kt 24 (.i (x3 + 1)), kb 1 25 11, kb 2 25 11, kc 1 0 (.i a0.Class), kc 1 1 (.i a0.Power), kc 1 2 (.i a0.Draught), kc 1 3 (.i a0.Tonnes), kc 1 4 (.v (.slice a0_Thrust_p a0.Thrust.length a0_Thrust_c)), kc 1 5 (.v (.slice a0_Water_p a0.Water.length a0_Water_c)), kc 1 6 (.v (.slice a0_Ice_p a0.Ice.length a0_Ice_c)), kc 1 7 (.i a0.Slow), kc 1 8 (.i a0.Brash), kc 1 9 (.i a0.Ridge), kc 1 10 (.i a0.Press), kc 2 0 (.i a1.Class), kc 2 1 (.i a1.Power), kc 2 2 (.i a1.Draught), kc 2 3 (.i a1.Tonnes), kc 2 4 (.v (.slice a1_Thrust_p a1.Thrust.length a1_Thrust_c)), kc 2 5 (.v (.slice a1_Water_p a1.Water.length a1_Water_c)), kc 2 6 (.v (.slice a1_Ice_p a1.Ice.length a1_Ice_c)), kc 2 7 (.i a1.Slow), kc 2 8 (.i a1.Brash), kc 2 9 (.i a1.Ridge), kc 2 10 (.i a1.Press)]) ?_ (kp rfl) rfl
          exact fin_cut (x3 + 1) hm ⟨rfl, rfl, rfl, rfl, rfl, rfl, rfl, rfl, rfl, rfl, rfl, rfl, rfl, rfl, rfl, rfl, rfl, rfl, rfl, rfl, rfl, rfl, rfl, rfl, rfl, rfl, rfl, trivial⟩ rfl
      · have hm := brk_f hz6 hm
        refine aw_exit ?_
        refine fin_then_exit ?_
        refine fin_then_exit ?_
        refine fin_block_exit ?_
        exact fin_cut () hm trivial rfl
    · have _z := hm
      refine aw_seq ?_
      refine aw_text (rows := [_, _]) rfl (by kernel_rfl) ⟨
        ok_plain rfl rfl (op_assign (ltN rfl) rfl),
        ok_plain rfl rfl (op_assign (ltN rfl) rfl),
        trivial⟩ ?_
      refine fin_keep (s' := [kt 4 (.i 0), kt 5 (.i 4)]) ?_ (kp rfl) rfl
      refine fin_then ?_
      refine aw_ret ?_
      refine post_ret (x := .t [.i 0, .i 4]) rfl rfl (resOK_tmp rfl (resOK_tmp rfl resOK_nil)) rfl (fun mm aa ww hr => ?_)
      have hm := Option.some.inj hm
      subst hm
      exact ⟨rfl, hr.below⟩

end Go.Proofs.T

namespace Go.Proofs.T
open Go Go.AX Go.RowKit Hull
theorem en_27 : Proofs.Enters Tryd.prog 27 := Proofs.enters_of Tryd.func27 (by kernel_rfl) rfl
theorem en_21 : Proofs.Enters Tryd.prog 21 := Proofs.enters_of Tryd.func21 (by kernel_rfl) rfl
theorem en_28 : Proofs.Enters Tryd.prog 28 := Proofs.enters_of Tryd.func28 (by kernel_rfl) rfl
theorem en_32 : Proofs.Enters Tryd.prog 32 := Proofs.enters_of Tryd.func32 (by kernel_rfl) rfl
theorem en_39 : Proofs.Enters Tryd.prog 39 := Proofs.enters_of Tryd.func39 (by kernel_rfl) rfl
theorem en_40 : Proofs.Enters Tryd.prog 40 := Proofs.enters_of Tryd.func40 (by kernel_rfl) rfl
theorem en_53 : Proofs.Enters Tryd.prog 53 := Proofs.enters_of Tryd.func53 (by kernel_rfl) rfl
theorem en_51 : Proofs.Enters Tryd.prog 51 := Proofs.enters_of Tryd.func51 (by kernel_rfl) rfl
theorem en_54 : Proofs.Enters Tryd.prog 54 := Proofs.enters_of Tryd.func54 (by kernel_rfl) rfl

def m7 (F : Nat) (a0 : Ship) (a1 : List Pt) (a2 : Int) (a3 : Int) : Option (Bool) :=
  bnd (m27 F a0) (fun v1 => brk (v1 || (decide ((((a1.length : Nat) : Int)) > 20))) (some true) (bnd (m28 F a0) (fun v2 => chk (a1.length ≤ 1000000) (bnd (m45 F a1) (fun v3 => bnd (m44 F v3 a2) (fun v4 => brk (!decide ((⟨(at_ a1 a2).1.1, (at_ a1 a2).1.2⟩ : Ratio) = v4.1)) (some false) (brk (((at_ a1 a2).2) != v4.2) (some false) (bnd (m32 F a0) (fun v5 => bnd (m47 F v5) (fun v6 => brk ((check v2) != v6) (some false) (bnd (m48 F a1 a1) (fun v7 => brk (!v7) (some false) (bnd (m49 F v2 a3) (fun v8 => bnd (m32 F a0) (fun v9 => bnd (m50 F v9 a3) (fun v10 => bnd (brk (((v8.1 == v10.1) && (v8.2 == v10.2))) (m39 F a0 v2) (some default)) (fun v11 => some ((((v8.1 == v10.1) && (v8.2 == v10.2)) && v11) && true))))))))))))))))))

def m10 (F : Nat) (a0 : Ship) (a1 : Ship) (a2 : Int) (a3 : Bool) : Option (Bool) :=
  bnd (m27 F a0) (fun v1 => bnd (brk (v1) (some default) (m27 F a1)) (fun v2 => brk (v1 || v2) (some true) (bnd (m28 F a0) (fun v3 => bnd (m28 F a1) (fun v4 => bnd (m32 F a0) (fun v5 => bnd (m53 F v5 a2 a3) (fun v6 => brk ((((limitE v3 a2 a3).1) != v6.1) || (((limitE v3 a2 a3).2) != v6.2)) (some false) (bnd (m51 F v3 v4) (fun v7 => bnd (m32 F a0) (fun v8 => bnd (m32 F a1) (fun v9 => bnd (m54 F v8 v9) (fun v10 => bnd (brk (((v7.1 == v10.1) && (v7.2 == v10.2))) (m39 F a0 v3) (some default)) (fun v11 => bnd (brk ((((v7.1 == v10.1) && (v7.2 == v10.2)) && v11)) (m39 F a1 v4) (some default)) (fun v12 => some (((((v7.1 == v10.1) && (v7.2 == v10.2)) && v11) && v12) && true)))))))))))))))

set_option maxHeartbeats 4000000 in
set_option maxRecDepth 8000 in
theorem c10 (F : Nat) (a0 : Ship) (a0_Thrust_s : SlV) (a0_Water_s : SlV) (a0_Ice_s : SlV) (a1 : Ship) (a1_Thrust_s : SlV) (a1_Water_s : SlV) (a1_Ice_s : SlV) (a2 : Int) (a3 : Bool) (w : World) (ha0_Thrust : SlIs encPt 2 w a0_Thrust_s a0.Thrust) (ha0_Water : SlIs encPt 2 w a0_Water_s a0.Water) (ha0_Ice : SlIs encPt 2 w a0_Ice_s a0.Ice) (ha1_Thrust : SlIs encPt 2 w a1_Thrust_s a1.Thrust) (ha1_Water : SlIs encPt 2 w a1_Water_s a1.Water) (ha1_Ice : SlIs encPt 2 w a1_Ice_s a1.Ice) (hG : BoxAt w 0 (strengths.map (fun n => Value.int .i64 n))) (r : Bool) (hm : m10 F a0 a1 a2 a3 = some r) : Calls Tryd.prog 10 #[.agg #[.int .i64 a0.Class, .int .i64 a0.Power, .int .i64 a0.Draught, .int .i64 a0.Tonnes, .slice a0_Thrust_s.p a0_Thrust_s.n a0_Thrust_s.c, .slice a0_Water_s.p a0_Water_s.n a0_Water_s.c, .slice a0_Ice_s.p a0_Ice_s.n a0_Ice_s.c, .int .i64 a0.Slow, .int .i64 a0.Brash, .int .i64 a0.Ridge, .int .i64 a0.Press], .agg #[.int .i64 a1.Class, .int .i64 a1.Power, .int .i64 a1.Draught, .int .i64 a1.Tonnes, .slice a1_Thrust_s.p a1_Thrust_s.n a1_Thrust_s.c, .slice a1_Water_s.p a1_Water_s.n a1_Water_s.c, .slice a1_Ice_s.p a1_Ice_s.n a1_Ice_s.c, .int .i64 a1.Slow, .int .i64 a1.Brash, .int .i64 a1.Ridge, .int .i64 a1.Press], .int .i64 a2, .bool a3] w fun e w' => e = .returned (.bool r) ∧ Below w.heap.size w w' := by
  obtain ⟨a0_Thrust_p, a0_Thrust_n, a0_Thrust_c⟩ := a0_Thrust_s
  have ha0_Thrust_l : a0_Thrust_n = a0.Thrust.length := ha0_Thrust.1
  subst ha0_Thrust_l
  obtain ⟨a0_Thrust_b, a0_Thrust_o, ha0_Thrust_p, ha0_Thrust_L⟩ := SlAt.lies' ha0_Thrust
  obtain ⟨a0_Water_p, a0_Water_n, a0_Water_c⟩ := a0_Water_s
  have ha0_Water_l : a0_Water_n = a0.Water.length := ha0_Water.1
  subst ha0_Water_l
  obtain ⟨a0_Water_b, a0_Water_o, ha0_Water_p, ha0_Water_L⟩ := SlAt.lies' ha0_Water
  obtain ⟨a0_Ice_p, a0_Ice_n, a0_Ice_c⟩ := a0_Ice_s
  have ha0_Ice_l : a0_Ice_n = a0.Ice.length := ha0_Ice.1
  subst ha0_Ice_l
  obtain ⟨a0_Ice_b, a0_Ice_o, ha0_Ice_p, ha0_Ice_L⟩ := SlAt.lies' ha0_Ice
  obtain ⟨a1_Thrust_p, a1_Thrust_n, a1_Thrust_c⟩ := a1_Thrust_s
  have ha1_Thrust_l : a1_Thrust_n = a1.Thrust.length := ha1_Thrust.1
  subst ha1_Thrust_l
  obtain ⟨a1_Thrust_b, a1_Thrust_o, ha1_Thrust_p, ha1_Thrust_L⟩ := SlAt.lies' ha1_Thrust
  obtain ⟨a1_Water_p, a1_Water_n, a1_Water_c⟩ := a1_Water_s
  have ha1_Water_l : a1_Water_n = a1.Water.length := ha1_Water.1
  subst ha1_Water_l
  obtain ⟨a1_Water_b, a1_Water_o, ha1_Water_p, ha1_Water_L⟩ := SlAt.lies' ha1_Water
  obtain ⟨a1_Ice_p, a1_Ice_n, a1_Ice_c⟩ := a1_Ice_s
  have ha1_Ice_l : a1_Ice_n = a1.Ice.length := ha1_Ice.1
  subst ha1_Ice_l
  obtain ⟨a1_Ice_b, a1_Ice_o, ha1_Ice_p, ha1_Ice_L⟩ := SlAt.lies' ha1_Ice
  unfold m10 at hm
  refine enter (args := [.g [.i a0.Class, .i a0.Power, .i a0.Draught, .i a0.Tonnes, .v (.slice a0_Thrust_p a0.Thrust.length a0_Thrust_c), .v (.slice a0_Water_p a0.Water.length a0_Water_c), .v (.slice a0_Ice_p a0.Ice.length a0_Ice_c), .i a0.Slow, .i a0.Brash, .i a0.Ridge, .i a0.Press], .g [.i a1.Class, .i a1.Power, .i a1.Draught, .i a1.Tonnes, .v (.slice a1_Thrust_p a1.Thrust.length a1_Thrust_c), .v (.slice a1_Water_p a1.Water.length a1_Water_c), .v (.slice a1_Ice_p a1.Ice.length a1_Ice_c), .i a1.Slow, .i a1.Brash, .i a1.Ridge, .i a1.Press], .i a2, .B a3]) Tryd.func10 rfl (N := 84) rfl (Nat.le_of_ble_eq_true rfl) ?_
  refine aw_seq ?_
  refine aw_text (rows := [_, _, _]) rfl (by kernel_rfl) ⟨
    ok_plain rfl rfl (op_boxN (L := 1) (ltN rfl) rfl rfl rfl),
    ok_plain rfl rfl (op_boxN (L := 2) (ltN rfl) rfl rfl rfl),
    ok_plain rfl rfl (op_assign (ltN rfl) rfl),
    trivial⟩ ?_
  refine fin_keep (s' := [kt 2 (.i a2), kt 3 (.B a3), kt 4 (.p 1 0), kt 5 (.p 2 0), kb 1 25 11, kb 2 25 11, kc 1 0 (.i a0.Class), kc 1 1 (.i a0.Power), kc 1 2 (.i a0.Draught), kc 1 3 (.i a0.Tonnes), kc 1 4 (.v (.slice a0_Thrust_p a0.Thrust.length a0_Thrust_c)), kc 1 5 (.v (.slice a0_Water_p a0.Water.length a0_Water_c)), kc 1 6 (.v (.slice a0_Ice_p a0.Ice.length a0_Ice_c)), kc 1 7 (.i a0.Slow), kc 1 8 (.i a0.Brash), kc 1 9 (.i a0.Ridge), kc 1 10 (.i a0.Press), kc 2 0 (.i a1.Class), kc 2 1 (.i a1.Power), kc 2 2 (.i a1.Draught), kc 2 3 (.i a1.Tonnes), kc 2 4 (.v (.slice a1_Thrust_p a1.Thrust.length a1_Thrust_c)), kc 2 5 (.v (.slice a1_Water_p a1.Water.length a1_Water_c)), kc 2 6 (.v (.slice a1_Ice_p a1.Ice.length a1_Ice_c)), kc 2 7 (.i a1.Slow), kc 2 8 (.i a1.Brash), kc 2 9 (.i a1.Ridge), kc 2 10 (.i a1.Press)]) ?_ (kp rfl) rfl
  refine fin_then ?_
  refine aw_seq ?_
  refine aw_seq ?_
  obtain ⟨v1, hv1, hm⟩ := bnd_some hm
  obtain ⟨v2, hv2, hm⟩ := bnd_some hm
  refine aw_text (rows := [_, _, _, _, _, _]) rfl (by kernel_rfl) ⟨
    ok_plain rfl rfl (op_loadN (ys := [.i a0.Class, .i a0.Power, .i a0.Draught, .i a0.Tonnes, .v (.slice a0_Thrust_p a0.Thrust.length a0_Thrust_c), .v (.slice a0_Water_p a0.Water.length a0_Water_c), .v (.slice a0_Ice_p a0.Ice.length a0_Ice_c), .i a0.Slow, .i a0.Brash, .i a0.Ridge, .i a0.Press]) (ltN rfl) sh_25 rfl rfl ⟨rfl, rfl, rfl, rfl, rfl, rfl, rfl, rfl, rfl, rfl, rfl, trivial⟩),
    ok_plain rfl rfl (op_call (x := .B v1) (fs := []) (caps := []) (extra := []) (ltN rfl) en_27 rfl ⟨rfl, rfl, rfl⟩ (EvL.cons rfl EvL.nil) (fun mm aa ww gg hr hrel => (c27 F a0 ⟨a0_Thrust_p, a0.Thrust.length, a0_Thrust_c⟩ ⟨a0_Water_p, a0.Water.length, a0_Water_c⟩ ⟨a0_Ice_p, a0.Ice.length, a0_Ice_c⟩ ww (SlIs.mono ha0_Thrust hrel.below) (SlIs.mono ha0_Water hrel.below) (SlIs.mono ha0_Ice hrel.below) v1 hv1))),
    ok_plain rfl rfl (op_move (ltN rfl) rfl),
    ok_if (ltN rfl) rfl rfl rfl rfl rfl rfl (fun hg1 => op_loadN (ys := [.i a1.Class, .i a1.Power, .i a1.Draught, .i a1.Tonnes, .v (.slice a1_Thrust_p a1.Thrust.length a1_Thrust_c), .v (.slice a1_Water_p a1.Water.length a1_Water_c), .v (.slice a1_Ice_p a1.Ice.length a1_Ice_c), .i a1.Slow, .i a1.Brash, .i a1.Ridge, .i a1.Press]) (ltN rfl) sh_25 (force_x rfl) rfl ⟨rfl, rfl, rfl, rfl, rfl, rfl, rfl, rfl, rfl, rfl, rfl, trivial⟩),
    ok_if (ltN rfl) rfl rfl rfl rfl rfl rfl (fun hg2 => op_call (x := .B v2) (fs := []) (caps := []) (extra := []) (ltN rfl) en_27 rfl ⟨rfl, rfl, rfl⟩ (EvL.cons (force_eq (beq_iff_eq.2 hg2) rfl) EvL.nil) (fun mm aa ww gg hr hrel => (c27 F a1 ⟨a1_Thrust_p, a1.Thrust.length, a1_Thrust_c⟩ ⟨a1_Water_p, a1.Water.length, a1_Water_c⟩ ⟨a1_Ice_p, a1.Ice.length, a1_Ice_c⟩ ww (SlIs.mono ha1_Thrust hrel.below) (SlIs.mono ha1_Water hrel.below) (SlIs.mono ha1_Ice hrel.below) v2 (brk_f hg2 hv2)))),
    ok_plain rfl rfl (op_or (ltN rfl) rfl rfl),
    trivial⟩ ?_
  refine fin_keep (s' := [kt 2 (.i a2), kt 3 (.B a3), kt 4 (.p 1 0), kt 5 (.p 2 0), kt 20 (.B (v1 || v2)), kb 1 25 11, kb 2 25 11, kc 1 0 (.i a0.Class), kc 1 1 (.i a0.Power), kc 1 2 (.i a0.Draught), kc 1 3 (.i a0.Tonnes), kc 1 4 (.v (.slice a0_Thrust_p a0.Thrust.length a0_Thrust_c)), kc 1 5 (.v (.slice a0_Water_p a0.Water.length a0_Water_c)), kc 1 6 (.v (.slice a0_Ice_p a0.Ice.length a0_Ice_c)), kc 1 7 (.i a0.Slow), kc 1 8 (.i a0.Brash), kc 1 9 (.i a0.Ridge), kc 1 10 (.i a0.Press), kc 2 0 (.i a1.Class), kc 2 1 (.i a1.Power), kc 2 2 (.i a1.Draught), kc 2 3 (.i a1.Tonnes), kc 2 4 (.v (.slice a1_Thrust_p a1.Thrust.length a1_Thrust_c)), kc 2 5 (.v (.slice a1_Water_p a1.Water.length a1_Water_c)), kc 2 6 (.v (.slice a1_Ice_p a1.Ice.length a1_Ice_c)), kc 2 7 (.i a1.Slow), kc 2 8 (.i a1.Brash), kc 2 9 (.i a1.Ridge), kc 2 10 (.i a1.Press)]) ?_ (kp rfl) rfl
  refine fin_then ?_
  refine aw_cond rfl (fun hz3 => ?_) (fun hz3 => ?_)
  · have hm := brk_t hz3 hm
    refine aw_seq ?_
    refine aw_text (rows := [_, _]) rfl (by kernel_rfl) ⟨
      ok_plain rfl rfl (op_call (x := .B true) (fs := []) (caps := []) (extra := []) (ltN rfl) en_21 rfl ⟨rfl, rfl, rfl⟩ EvL.nil (fun mm aa ww gg hr hrel => (c21 ww (BoxAt.mono hG hrel.below)))),
      ok_plain rfl rfl (op_assign (ltN rfl) rfl),
      trivial⟩ ?_
    refine fin_keep (s' := [kt 8 (.B true)]) ?_ (kp rfl) rfl
    refine fin_then ?_
    refine aw_ret ?_
    refine fin_then_ret ?_
    refine post_ret (x := .B true) rfl rfl (resOK_tmp rfl resOK_nil) rfl (fun mm aa ww hr => ?_)
    have hm := Option.some.inj hm
    subst hm
    exact ⟨rfl, hr.below⟩
  · have hm := brk_f hz3 hm
    refine aw_skip ?_
    refine fin_then ?_
    refine aw_seq ?_
    obtain ⟨v3, hv3, hm⟩ := bnd_some hm
    obtain ⟨v4, hv4, hm⟩ := bnd_some hm
    refine aw_any (rows := [_, _, _, _, _, _, _, _]) (M := [0, 1, 0, 7, 0, 0, 63, 127]) Tryd_mixed (by kernel_rfl) rfl (by kernel_rfl) ⟨
      ok_plain rfl rfl (op_loadN (ys := [.i a0.Class, .i a0.Power, .i a0.Draught, .i a0.Tonnes, .v (.slice a0_Thrust_p a0.Thrust.length a0_Thrust_c), .v (.slice a0_Water_p a0.Water.length a0_Water_c), .v (.slice a0_Ice_p a0.Ice.length a0_Ice_c), .i a0.Slow, .i a0.Brash, .i a0.Ridge, .i a0.Press]) (ltN rfl) sh_25 rfl rfl ⟨rfl, rfl, rfl, rfl, rfl, rfl, rfl, rfl, rfl, rfl, rfl, trivial⟩),
      ok_plain rfl rfl (op_callRowsD (x := .g [.i v3.Class, .i v3.Power, .i v3.Draught, .i v3.Tonnes, .o 3 4 v3.Thrust.length, .o 5 6 v3.Water.length, .o 7 8 v3.Ice.length, .i v3.Slow, .i v3.Brash, .i v3.Ridge, .i v3.Press]) (R := (fun vs => .agg #[.int .i64 v3.Class, .int .i64 v3.Power, .int .i64 v3.Draught, .int .i64 v3.Tonnes, (vs.getD 0 (.bool false)), (vs.getD 1 (.bool false)), (vs.getD 2 (.bool false)), .int .i64 v3.Slow, .int .i64 v3.Brash, .int .i64 v3.Ridge, .int .i64 v3.Press])) (ls := [(3, 4), (5, 6), (7, 8)]) (ds := [(v3.Thrust.length, 84, 2, v3.Thrust.flatMap encPt), (v3.Water.length, 84, 2, v3.Water.flatMap encPt), (v3.Ice.length, 84, 2, v3.Ice.flatMap encPt)]) (fs := []) (caps := []) (extra := []) (ltN rfl) en_28 rfl ⟨rfl, rfl, rfl⟩ (EvL.cons rfl EvL.nil) rfl rfl (fun _ => rfl) (fun mm aa ww gg hr hrel => (c28 F a0 ⟨a0_Thrust_p, a0.Thrust.length, a0_Thrust_c⟩ ⟨a0_Water_p, a0.Water.length, a0_Water_c⟩ ⟨a0_Ice_p, a0.Ice.length, a0_Ice_c⟩ ww (SlIs.mono ha0_Thrust hrel.below) (SlIs.mono ha0_Water hrel.below) (SlIs.mono ha0_Ice hrel.below) v3 hv3))),
      ok_plain rfl rfl (op_loadN (ys := [.i a1.Class, .i a1.Power, .i a1.Draught, .i a1.Tonnes, .v (.slice a1_Thrust_p a1.Thrust.length a1_Thrust_c), .v (.slice a1_Water_p a1.Water.length a1_Water_c), .v (.slice a1_Ice_p a1.Ice.length a1_Ice_c), .i a1.Slow, .i a1.Brash, .i a1.Ridge, .i a1.Press]) (ltN rfl) sh_25 rfl rfl ⟨rfl, rfl, rfl, rfl, rfl, rfl, rfl, rfl, rfl, rfl, rfl, trivial⟩),
      ok_plain rfl rfl (op_callRowsD (x := .g [.i v4.Class, .i v4.Power, .i v4.Draught, .i v4.Tonnes, .o 9 10 v4.Thrust.length, .o 11 12 v4.Water.length, .o 13 14 v4.Ice.length, .i v4.Slow, .i v4.Brash, .i v4.Ridge, .i v4.Press]) (R := (fun vs => .agg #[.int .i64 v4.Class, .int .i64 v4.Power, .int .i64 v4.Draught, .int .i64 v4.Tonnes, (vs.getD 0 (.bool false)), (vs.getD 1 (.bool false)), (vs.getD 2 (.bool false)), .int .i64 v4.Slow, .int .i64 v4.Brash, .int .i64 v4.Ridge, .int .i64 v4.Press])) (ls := [(9, 10), (11, 12), (13, 14)]) (ds := [(v4.Thrust.length, 84, 2, v4.Thrust.flatMap encPt), (v4.Water.length, 84, 2, v4.Water.flatMap encPt), (v4.Ice.length, 84, 2, v4.Ice.flatMap encPt)]) (fs := []) (caps := []) (extra := []) (ltN rfl) en_28 rfl ⟨rfl, rfl, rfl⟩ (EvL.cons rfl EvL.nil) rfl rfl (fun _ => rfl) (fun mm aa ww gg hr hrel => (c28 F a1 ⟨a1_Thrust_p, a1.Thrust.length, a1_Thrust_c⟩ ⟨a1_Water_p, a1.Water.length, a1_Water_c⟩ ⟨a1_Ice_p, a1.Ice.length, a1_Ice_c⟩ ww (SlIs.mono ha1_Thrust hrel.below) (SlIs.mono ha1_Water hrel.below) (SlIs.mono ha1_Ice hrel.below) v4 hv4))),
      ok_plain rfl rfl (op_alloc (L := 15) (ltN rfl) zl_25),
      ok_plain rfl rfl (op_alloc (L := 16) (ltN rfl) zl_25),
      ok_plain rfl rfl (op_storeN sz_25 rfl rfl rfl rfl rfl (by decide)),
      ok_plain rfl rfl (op_storeN sz_25 rfl rfl rfl rfl rfl (by decide)),
      trivial⟩ ?_
    refine fin_keep (s' := [kt 2 (.i a2), kt 3 (.B a3), kt 4 (.p 1 0), kt 5 (.p 2 0), kt 9 (.p 15 0), kt 10 (.p 16 0), kb 1 25 11, kb 2 25 11, kb 15 25 11, kb 16 25 11, (.r 3, some (.vec true 4 84 2 (v3.Thrust.flatMap encPt))), (.r 5, some (.vec true 6 84 2 (v3.Water.flatMap encPt))), (.r 7, some (.vec true 8 84 2 (v3.Ice.flatMap encPt))), (.r 9, some (.vec true 10 84 2 (v4.Thrust.flatMap encPt))), (.r 11, some (.vec true 12 84 2 (v4.Water.flatMap encPt))), (.r 13, some (.vec true 14 84 2 (v4.Ice.flatMap encPt))), kc 1 0 (.i a0.Class), kc 1 1 (.i a0.Power), kc 1 2 (.i a0.Draught), kc 1 3 (.i a0.Tonnes), kc 1 4 (.v (.slice a0_Thrust_p a0.Thrust.length a0_Thrust_c)), kc 1 5 (.v (.slice a0_Water_p a0.Water.length a0_Water_c)), kc 1 6 (.v (.slice a0_Ice_p a0.Ice.length a0_Ice_c)), kc 1 7 (.i a0.Slow), kc 1 8 (.i a0.Brash), kc 1 9 (.i a0.Ridge), kc 1 10 (.i a0.Press), kc 2 0 (.i a1.Class), kc 2 1 (.i a1.Power), kc 2 2 (.i a1.Draught), kc 2 3 (.i a1.Tonnes), kc 2 4 (.v (.slice a1_Thrust_p a1.Thrust.length a1_Thrust_c)), kc 2 5 (.v (.slice a1_Water_p a1.Water.length a1_Water_c)), kc 2 6 (.v (.slice a1_Ice_p a1.Ice.length a1_Ice_c)), kc 2 7 (.i a1.Slow), kc 2 8 (.i a1.Brash), kc 2 9 (.i a1.Ridge), kc 2 10 (.i a1.Press), kc 15 0 (.i v3.Class), kc 15 1 (.i v3.Power), kc 15 2 (.i v3.Draught), kc 15 3 (.i v3.Tonnes), kc 15 4 (.o 3 4 v3.Thrust.length), kc 15 5 (.o 5 6 v3.Water.length), kc 15 6 (.o 7 8 v3.Ice.length), kc 15 7 (.i v3.Slow), kc 15 8 (.i v3.Brash), kc 15 9 (.i v3.Ridge), kc 15 10 (.i v3.Press), kc 16 0 (.i v4.Class), kc 16 1 (.i v4.Power), kc 16 2 (.i v4.Draught), kc 16 3 (.i v4.Tonnes), kc 16 4 (.o 9 10 v4.Thrust.length), kc 16 5 (.o 11 12 v4.Water.length), kc 16 6 (.o 13 14 v4.Ice.length), kc 16 7 (.i v4.Slow), kc 16 8 (.i v4.Brash), kc 16 9 (.i v4.Ridge), kc 16 10 (.i v4.Press)]) ?_ (kp rfl) rfl
    refine fin_then ?_
    refine aw_seq ?_
    refine aw_text (rows := [_, _, _, _, _, _, _, _, _]) rfl (by kernel_rfl) ⟨
      ok_plain rfl rfl (op_loadN (ys := [.i v3.Class, .i v3.Power, .i v3.Draught, .i v3.Tonnes, .o 3 4 v3.Thrust.length, .o 5 6 v3.Water.length, .o 7 8 v3.Ice.length, .i v3.Slow, .i v3.Brash, .i v3.Ridge, .i v3.Press]) (ltN rfl) sh_25 rfl rfl ⟨rfl, rfl, rfl, rfl, rfl, rfl, rfl, rfl, rfl, rfl, rfl, trivial⟩),
      ok_plain rfl rfl (op_move (ltN rfl) rfl),
      ok_plain rfl rfl (op_move (ltN rfl) rfl),
      ok_plain rfl rfl (op_call (x := .t [.i ((limitE v3 a2 a3).1), .i ((limitE v3 a2 a3).2)]) (fs := []) (caps := []) (extra := (kapp [.r 3] (kapp [.r 5] (kapp [.r 7] [])))) (ltN rfl) en_40 rfl ⟨rfl, rfl, rfl⟩ (EvL.cons rfl (EvL.cons rfl (EvL.cons rfl EvL.nil))) (fun mm aa ww gg hr hrel => (c40 v3 ⟨ptr0 (mm 3) (mm 4), v3.Thrust.length, mm 4⟩ ⟨ptr0 (mm 5) (mm 6), v3.Water.length, mm 6⟩ ⟨ptr0 (mm 7) (mm 8), v3.Ice.length, mm 8⟩ a2 a3 ww (slAt_row (enc := encPt) (l := v3.Thrust) (fun _ => rfl) (by decide) hrel ((hr _ (List.mem_append_left _ (by simp))).trans rfl)) (slAt_row (enc := encPt) (l := v3.Water) (fun _ => rfl) (by decide) hrel ((hr _ (List.mem_append_right _ (List.mem_append_left _ (by simp)))).trans rfl)) (slAt_row (enc := encPt) (l := v3.Ice) (fun _ => rfl) (by decide) hrel ((hr _ (List.mem_append_right _ (List.mem_append_right _ (List.mem_append_left _ (by simp))))).trans rfl))))),
      ok_plain rfl rfl (op_move (ltN rfl) rfl),
      ok_plain rfl rfl (op_extract (ltN rfl) rfl rfl),
      ok_plain rfl rfl (op_extract (ltN rfl) rfl rfl),
      ok_plain rfl rfl (op_assign (ltN rfl) rfl),
      ok_plain rfl rfl (op_assign (ltN rfl) rfl),
      trivial⟩ ?_
    refine fin_keep (s' := [kt 2 (.i a2), kt 3 (.B a3), kt 4 (.p 1 0), kt 5 (.p 2 0), kt 9 (.p 15 0), kt 10 (.p 16 0), kt 11 (.i ((limitE v3 a2 a3).1)), kt 12 (.i ((limitE v3 a2 a3).2)), kb 1 25 11, kb 2 25 11, kb 15 25 11, kb 16 25 11, (.r 3, some (.vec true 4 84 2 (v3.Thrust.flatMap encPt))), (.r 5, some (.vec true 6 84 2 (v3.Water.flatMap encPt))), (.r 7, some (.vec true 8 84 2 (v3.Ice.flatMap encPt))), (.r 9, some (.vec true 10 84 2 (v4.Thrust.flatMap encPt))), (.r 11, some (.vec true 12 84 2 (v4.Water.flatMap encPt))), (.r 13, some (.vec true 14 84 2 (v4.Ice.flatMap encPt))), kc 1 0 (.i a0.Class), kc 1 1 (.i a0.Power), kc 1 2 (.i a0.Draught), kc 1 3 (.i a0.Tonnes), kc 1 4 (.v (.slice a0_Thrust_p a0.Thrust.length a0_Thrust_c)), kc 1 5 (.v (.slice a0_Water_p a0.Water.length a0_Water_c)), kc 1 6 (.v (.slice a0_Ice_p a0.Ice.length a0_Ice_c)), kc 1 7 (.i a0.Slow), kc 1 8 (.i a0.Brash), kc 1 9 (.i a0.Ridge), kc 1 10 (.i a0.Press), kc 2 0 (.i a1.Class), kc 2 1 (.i a1.Power), kc 2 2 (.i a1.Draught), kc 2 3 (.i a1.Tonnes), kc 2 4 (.v (.slice a1_Thrust_p a1.Thrust.length a1_Thrust_c)), kc 2 5 (.v (.slice a1_Water_p a1.Water.length a1_Water_c)), kc 2 6 (.v (.slice a1_Ice_p a1.Ice.length a1_Ice_c)), kc 2 7 (.i a1.Slow), kc 2 8 (.i a1.Brash), kc 2 9 (.i a1.Ridge), kc 2 10 (.i a1.Press), kc 15 0 (.i v3.Class), kc 15 1 (.i v3.Power), kc 15 2 (.i v3.Draught), kc 15 3 (.i v3.Tonnes), kc 15 4 (.o 3 4 v3.Thrust.length), kc 15 5 (.o 5 6 v3.Water.length), kc 15 6 (.o 7 8 v3.Ice.length), kc 15 7 (.i v3.Slow), kc 15 8 (.i v3.Brash), kc 15 9 (.i v3.Ridge), kc 15 10 (.i v3.Press), kc 16 0 (.i v4.Class), kc 16 1 (.i v4.Power), kc 16 2 (.i v4.Draught), kc 16 3 (.i v4.Tonnes), kc 16 4 (.o 9 10 v4.Thrust.length), kc 16 5 (.o 11 12 v4.Water.length), kc 16 6 (.o 13 14 v4.Ice.length), kc 16 7 (.i v4.Slow), kc 16 8 (.i v4.Brash), kc 16 9 (.i v4.Ridge), kc 16 10 (.i v4.Press)]) ?_ (kp rfl) rfl
    refine fin_then ?_
    refine aw_seq ?_
    obtain ⟨v5, hv5, hm⟩ := bnd_some hm
    obtain ⟨v6, hv6, hm⟩ := bnd_some hm
    refine aw_text (rows := [_, _, _, _, _, _, _, _, _, _]) rfl (by kernel_rfl) ⟨
      ok_plain rfl rfl (op_loadN (ys := [.i a0.Class, .i a0.Power, .i a0.Draught, .i a0.Tonnes, .v (.slice a0_Thrust_p a0.Thrust.length a0_Thrust_c), .v (.slice a0_Water_p a0.Water.length a0_Water_c), .v (.slice a0_Ice_p a0.Ice.length a0_Ice_c), .i a0.Slow, .i a0.Brash, .i a0.Ridge, .i a0.Press]) (ltN rfl) sh_25 rfl rfl ⟨rfl, rfl, rfl, rfl, rfl, rfl, rfl, rfl, rfl, rfl, rfl, trivial⟩),
      ok_plain rfl rfl (op_callRowsD (x := .g [.i v5.Class, .i v5.Power, .i v5.Draught, .i v5.Tonnes, .o 17 18 v5.Thrust.length, .o 19 20 v5.Water.length, .o 21 22 v5.Ice.length, .i v5.Slow, .i v5.Brash, .i v5.Ridge, .i v5.Press]) (R := (fun vs => .agg #[.int .i64 v5.Class, .int .i64 v5.Power, .int .i64 v5.Draught, .int .i64 v5.Tonnes, (vs.getD 0 (.bool false)), (vs.getD 1 (.bool false)), (vs.getD 2 (.bool false)), .int .i64 v5.Slow, .int .i64 v5.Brash, .int .i64 v5.Ridge, .int .i64 v5.Press])) (ls := [(17, 18), (19, 20), (21, 22)]) (ds := [(v5.Thrust.length, 170, 2, v5.Thrust.flatMap encPt), (v5.Water.length, 170, 2, v5.Water.flatMap encPt), (v5.Ice.length, 170, 2, v5.Ice.flatMap encPt)]) (fs := []) (caps := []) (extra := []) (ltN rfl) en_32 rfl ⟨rfl, rfl, rfl⟩ (EvL.cons rfl EvL.nil) rfl rfl (fun _ => rfl) (fun mm aa ww gg hr hrel => (c32 F a0 ⟨a0_Thrust_p, a0.Thrust.length, a0_Thrust_c⟩ ⟨a0_Water_p, a0.Water.length, a0_Water_c⟩ ⟨a0_Ice_p, a0.Ice.length, a0_Ice_c⟩ ww (SlIs.mono ha0_Thrust hrel.below) (SlIs.mono ha0_Water hrel.below) (SlIs.mono ha0_Ice hrel.below) v5 hv5))),
      ok_plain rfl rfl (op_move (ltN rfl) rfl),
      ok_plain rfl rfl (op_move (ltN rfl) rfl),
      ok_plain rfl rfl (op_call (x := .t [.i v6.1, .i v6.2]) (fs := []) (caps := []) (extra := (kapp [.r 17] (kapp [.r 19] (kapp [.r 21] [])))) (ltN rfl) en_53 rfl ⟨rfl, rfl, rfl⟩ (EvL.cons rfl (EvL.cons rfl (EvL.cons rfl EvL.nil))) (fun mm aa ww gg hr hrel => (c53 F v5 ⟨ptr0 (mm 17) (mm 18), v5.Thrust.length, mm 18⟩ ⟨ptr0 (mm 19) (mm 20), v5.Water.length, mm 20⟩ ⟨ptr0 (mm 21) (mm 22), v5.Ice.length, mm 22⟩ a2 a3 ww (slAt_row (enc := encPt) (l := v5.Thrust) (fun _ => rfl) (by decide) hrel ((hr _ (List.mem_append_left _ (by simp))).trans rfl)) (slAt_row (enc := encPt) (l := v5.Water) (fun _ => rfl) (by decide) hrel ((hr _ (List.mem_append_right _ (List.mem_append_left _ (by simp)))).trans rfl)) (slAt_row (enc := encPt) (l := v5.Ice) (fun _ => rfl) (by decide) hrel ((hr _ (List.mem_append_right _ (List.mem_append_right _ (List.mem_append_left _ (by simp))))).trans rfl)) v6 hv6))),
      ok_plain rfl rfl (op_move (ltN rfl) rfl),
      ok_plain rfl rfl (op_extract (ltN rfl) rfl rfl),
      ok_plain rfl rfl (op_extract (ltN rfl) rfl rfl),
      ok_plain rfl rfl (op_assign (ltN rfl) rfl),
      ok_plain rfl rfl (op_assign (ltN rfl) rfl),
      trivial⟩ ?_
    refine fin_keep (s' := [kt 4 (.p 1 0), kt 5 (.p 2 0), kt 9 (.p 15 0), kt 10 (.p 16 0), kt 11 (.i ((limitE v3 a2 a3).1)), kt 12 (.i ((limitE v3 a2 a3).2)), kt 13 (.i v6.1), kt 14 (.i v6.2), kb 1 25 11, kb 2 25 11, kb 15 25 11, kb 16 25 11, (.r 3, some (.vec true 4 84 2 (v3.Thrust.flatMap encPt))), (.r 5, some (.vec true 6 84 2 (v3.Water.flatMap encPt))), (.r 7, some (.vec true 8 84 2 (v3.Ice.flatMap encPt))), (.r 9, some (.vec true 10 84 2 (v4.Thrust.flatMap encPt))), (.r 11, some (.vec true 12 84 2 (v4.Water.flatMap encPt))), (.r 13, some (.vec true 14 84 2 (v4.Ice.flatMap encPt))), kc 1 0 (.i a0.Class), kc 1 1 (.i a0.Power), kc 1 2 (.i a0.Draught), kc 1 3 (.i a0.Tonnes), kc 1 4 (.v (.slice a0_Thrust_p a0.Thrust.length a0_Thrust_c)), kc 1 5 (.v (.slice a0_Water_p a0.Water.length a0_Water_c)), kc 1 6 (.v (.slice a0_Ice_p a0.Ice.length a0_Ice_c)), kc 1 7 (.i a0.Slow), kc 1 8 (.i a0.Brash), kc 1 9 (.i a0.Ridge), kc 1 10 (.i a0.Press), kc 2 0 (.i a1.Class), kc 2 1 (.i a1.Power), kc 2 2 (.i a1.Draught), kc 2 3 (.i a1.Tonnes), kc 2 4 (.v (.slice a1_Thrust_p a1.Thrust.length a1_Thrust_c)), kc 2 5 (.v (.slice a1_Water_p a1.Water.length a1_Water_c)), kc 2 6 (.v (.slice a1_Ice_p a1.Ice.length a1_Ice_c)), kc 2 7 (.i a1.Slow), kc 2 8 (.i a1.Brash), kc 2 9 (.i a1.Ridge), kc 2 10 (.i a1.Press), kc 15 0 (.i v3.Class), kc 15 1 (.i v3.Power), kc 15 2 (.i v3.Draught), kc 15 3 (.i v3.Tonnes), kc 15 4 (.o 3 4 v3.Thrust.length), kc 15 5 (.o 5 6 v3.Water.length), kc 15 6 (.o 7 8 v3.Ice.length), kc 15 7 (.i v3.Slow), kc 15 8 (.i v3.Brash), kc 15 9 (.i v3.Ridge), kc 15 10 (.i v3.Press), kc 16 0 (.i v4.Class), kc 16 1 (.i v4.Power), kc 16 2 (.i v4.Draught), kc 16 3 (.i v4.Tonnes), kc 16 4 (.o 9 10 v4.Thrust.length), kc 16 5 (.o 11 12 v4.Water.length), kc 16 6 (.o 13 14 v4.Ice.length), kc 16 7 (.i v4.Slow), kc 16 8 (.i v4.Brash), kc 16 9 (.i v4.Ridge), kc 16 10 (.i v4.Press)]) ?_ (kp rfl) rfl
    refine fin_then ?_
    refine aw_seq ?_
    refine aw_seq ?_
    refine aw_text (rows := [_, _, _, _, _, _, _, _]) rfl (by kernel_rfl) ⟨
      ok_plain rfl rfl (op_move (ltN rfl) rfl),
      ok_plain rfl rfl (op_move (ltN rfl) rfl),
      ok_plain rfl rfl (op_bin (ltN rfl) rfl rfl rfl),
      ok_plain rfl rfl (op_move (ltN rfl) rfl),
      ok_if (ltN rfl) rfl rfl rfl rfl rfl rfl (fun hg4 => op_move (ltN rfl) (force_x rfl)),
      ok_if (ltN rfl) rfl rfl rfl rfl rfl rfl (fun hg5 => op_move (ltN rfl) (force_x rfl)),
      ok_if (ltN rfl) rfl rfl rfl rfl rfl rfl (fun hg6 => op_bin (ltN rfl) (force_eq (beq_iff_eq.2 hg6) rfl) (force_eq (beq_iff_eq.2 hg6) rfl) rfl),
      ok_plain rfl rfl (op_or (ltN rfl) rfl rfl),
      trivial⟩ ?_
    refine fin_keep (s' := [kt 4 (.p 1 0), kt 5 (.p 2 0), kt 9 (.p 15 0), kt 10 (.p 16 0), kt 48 (.B ((((limitE v3 a2 a3).1) != v6.1) || (((limitE v3 a2 a3).2) != v6.2))), kb 1 25 11, kb 2 25 11, kb 15 25 11, kb 16 25 11, (.r 3, some (.vec true 4 84 2 (v3.Thrust.flatMap encPt))), (.r 5, some (.vec true 6 84 2 (v3.Water.flatMap encPt))), (.r 7, some (.vec true 8 84 2 (v3.Ice.flatMap encPt))), (.r 9, some (.vec true 10 84 2 (v4.Thrust.flatMap encPt))), (.r 11, some (.vec true 12 84 2 (v4.Water.flatMap encPt))), (.r 13, some (.vec true 14 84 2 (v4.Ice.flatMap encPt))), kc 1 0 (.i a0.Class), kc 1 1 (.i a0.Power), kc 1 2 (.i a0.Draught), kc 1 3 (.i a0.Tonnes), kc 1 4 (.v (.slice a0_Thrust_p a0.Thrust.length a0_Thrust_c)), kc 1 5 (.v (.slice a0_Water_p a0.Water.length a0_Water_c)), kc 1 6 (.v (.slice a0_Ice_p a0.Ice.length a0_Ice_c)), kc 1 7 (.i a0.Slow), kc 1 8 (.i a0.Brash), kc 1 9 (.i a0.Ridge), kc 1 10 (.i a0.Press), kc 2 0 (.i a1.Class), kc 2 1 (.i a1.Power), kc 2 2 (.i a1.Draught), kc 2 3 (.i a1.Tonnes), kc 2 4 (.v (.slice a1_Thrust_p a1.Thrust.length a1_Thrust_c)), kc 2 5 (.v (.slice a1_Water_p a1.Water.length a1_Water_c)), kc 2 6 (.v (.slice a1_Ice_p a1.Ice.length a1_Ice_c)), kc 2 7 (.i a1.Slow), kc 2 8 (.i a1.Brash), kc 2 9 (.i a1.Ridge), kc 2 10 (.i a1.Press), kc 15 0 (.i v3.Class), kc 15 1 (.i v3.Power), kc 15 2 (.i v3.Draught), kc 15 3 (.i v3.Tonnes), kc 15 4 (.o 3 4 v3.Thrust.length), kc 15 5 (.o 5 6 v3.Water.length), kc 15 6 (.o 7 8 v3.Ice.length), kc 15 7 (.i v3.Slow), kc 15 8 (.i v3.Brash), kc 15 9 (.i v3.Ridge), kc 15 10 (.i v3.Press), kc 16 0 (.i v4.Class), kc 16 1 (.i v4.Power), kc 16 2 (.i v4.Draught), kc 16 3 (.i v4.Tonnes), kc 16 4 (.o 9 10 v4.Thrust.length), kc 16 5 (.o 11 12 v4.Water.length), kc 16 6 (.o 13 14 v4.Ice.length), kc 16 7 (.i v4.Slow), kc 16 8 (.i v4.Brash), kc 16 9 (.i v4.Ridge), kc 16 10 (.i v4.Press)]) ?_ (kp rfl) rfl
    refine fin_then ?_
    refine aw_cond rfl (fun hz7 => ?_) (fun hz7 => ?_)
    · have hm := brk_t hz7 hm
      refine aw_seq ?_
      refine aw_text (rows := [_]) rfl (by kernel_rfl) ⟨
        ok_plain rfl rfl (op_assign (ltN rfl) rfl),
        trivial⟩ ?_
      refine fin_keep (s' := [kt 8 (.B false)]) ?_ (kp rfl) rfl
      refine fin_then ?_
      refine aw_ret ?_
      refine fin_then_ret ?_
      refine post_ret (x := .B false) rfl rfl (resOK_tmp rfl resOK_nil) rfl (fun mm aa ww hr => ?_)
      have hm := Option.some.inj hm
      subst hm
      exact ⟨rfl, hr.below⟩
    · have hm := brk_f hz7 hm
      refine aw_skip ?_
      refine fin_then ?_
      refine aw_seq ?_
      obtain ⟨v7, hv7, hm⟩ := bnd_some hm
      refine aw_text (rows := [_, _, _, _, _, _, _, _]) rfl (by kernel_rfl) ⟨
        ok_plain rfl rfl (op_loadN (ys := [.i v3.Class, .i v3.Power, .i v3.Draught, .i v3.Tonnes, .o 3 4 v3.Thrust.length, .o 5 6 v3.Water.length, .o 7 8 v3.Ice.length, .i v3.Slow, .i v3.Brash, .i v3.Ridge, .i v3.Press]) (ltN rfl) sh_25 rfl rfl ⟨rfl, rfl, rfl, rfl, rfl, rfl, rfl, rfl, rfl, rfl, rfl, trivial⟩),
        ok_plain rfl rfl (op_loadN (ys := [.i v4.Class, .i v4.Power, .i v4.Draught, .i v4.Tonnes, .o 9 10 v4.Thrust.length, .o 11 12 v4.Water.length, .o 13 14 v4.Ice.length, .i v4.Slow, .i v4.Brash, .i v4.Ridge, .i v4.Press]) (ltN rfl) sh_25 rfl rfl ⟨rfl, rfl, rfl, rfl, rfl, rfl, rfl, rfl, rfl, rfl, rfl, trivial⟩),
        ok_plain rfl rfl (op_call (x := .t [.i v7.1, .i v7.2]) (fs := []) (caps := []) (extra := (kapp [.r 3] (kapp [.r 5] (kapp [.r 7] (kapp [.r 9] (kapp [.r 11] (kapp [.r 13] []))))))) (ltN rfl) en_51 rfl ⟨rfl, rfl, rfl⟩ (EvL.cons rfl (EvL.cons rfl EvL.nil)) (fun mm aa ww gg hr hrel => (c51 F v3 ⟨ptr0 (mm 3) (mm 4), v3.Thrust.length, mm 4⟩ ⟨ptr0 (mm 5) (mm 6), v3.Water.length, mm 6⟩ ⟨ptr0 (mm 7) (mm 8), v3.Ice.length, mm 8⟩ v4 ⟨ptr0 (mm 9) (mm 10), v4.Thrust.length, mm 10⟩ ⟨ptr0 (mm 11) (mm 12), v4.Water.length, mm 12⟩ ⟨ptr0 (mm 13) (mm 14), v4.Ice.length, mm 14⟩ ww (slAt_row (enc := encPt) (l := v3.Thrust) (fun _ => rfl) (by decide) hrel ((hr _ (List.mem_append_left _ (by simp))).trans rfl)) (slAt_row (enc := encPt) (l := v3.Water) (fun _ => rfl) (by decide) hrel ((hr _ (List.mem_append_right _ (List.mem_append_left _ (by simp)))).trans rfl)) (slAt_row (enc := encPt) (l := v3.Ice) (fun _ => rfl) (by decide) hrel ((hr _ (List.mem_append_right _ (List.mem_append_right _ (List.mem_append_left _ (by simp))))).trans rfl)) (slAt_row (enc := encPt) (l := v4.Thrust) (fun _ => rfl) (by decide) hrel ((hr _ (List.mem_append_right _ (List.mem_append_right _ (List.mem_append_right _ (List.mem_append_left _ (by simp)))))).trans rfl)) (slAt_row (enc := encPt) (l := v4.Water) (fun _ => rfl) (by decide) hrel ((hr _ (List.mem_append_right _ (List.mem_append_right _ (List.mem_append_right _ (List.mem_append_right _ (List.mem_append_left _ (by simp))))))).trans rfl)) (slAt_row (enc := encPt) (l := v4.Ice) (fun _ => rfl) (by decide) hrel ((hr _ (List.mem_append_right _ (List.mem_append_right _ (List.mem_append_right _ (List.mem_append_right _ (List.mem_append_right _ (List.mem_append_left _ (by simp)))))))).trans rfl)) v7 hv7))),
        ok_plain rfl rfl (op_move (ltN rfl) rfl),
        ok_plain rfl rfl (op_extract (ltN rfl) rfl rfl),
        ok_plain rfl rfl (op_extract (ltN rfl) rfl rfl),
        ok_plain rfl rfl (op_assign (ltN rfl) rfl),
        ok_plain rfl rfl (op_assign (ltN rfl) rfl),
        trivial⟩ ?_
      refine fin_keep (s' := [kt 4 (.p 1 0), kt 5 (.p 2 0), kt 9 (.p 15 0), kt 10 (.p 16 0), kt 11 (.i v7.1), kt 12 (.i v7.2), kb 1 25 11, kb 2 25 11, kb 15 25 11, kb 16 25 11, (.r 3, some (.vec true 4 84 2 (v3.Thrust.flatMap encPt))), (.r 5, some (.vec true 6 84 2 (v3.Water.flatMap encPt))), (.r 7, some (.vec true 8 84 2 (v3.Ice.flatMap encPt))), (.r 9, some (.vec true 10 84 2 (v4.Thrust.flatMap encPt))), (.r 11, some (.vec true 12 84 2 (v4.Water.flatMap encPt))), (.r 13, some (.vec true 14 84 2 (v4.Ice.flatMap encPt))), kc 1 0 (.i a0.Class), kc 1 1 (.i a0.Power), kc 1 2 (.i a0.Draught), kc 1 3 (.i a0.Tonnes), kc 1 4 (.v (.slice a0_Thrust_p a0.Thrust.length a0_Thrust_c)), kc 1 5 (.v (.slice a0_Water_p a0.Water.length a0_Water_c)), kc 1 6 (.v (.slice a0_Ice_p a0.Ice.length a0_Ice_c)), kc 1 7 (.i a0.Slow), kc 1 8 (.i a0.Brash), kc 1 9 (.i a0.Ridge), kc 1 10 (.i a0.Press), kc 2 0 (.i a1.Class), kc 2 1 (.i a1.Power), kc 2 2 (.i a1.Draught), kc 2 3 (.i a1.Tonnes), kc 2 4 (.v (.slice a1_Thrust_p a1.Thrust.length a1_Thrust_c)), kc 2 5 (.v (.slice a1_Water_p a1.Water.length a1_Water_c)), kc 2 6 (.v (.slice a1_Ice_p a1.Ice.length a1_Ice_c)), kc 2 7 (.i a1.Slow), kc 2 8 (.i a1.Brash), kc 2 9 (.i a1.Ridge), kc 2 10 (.i a1.Press), kc 15 0 (.i v3.Class), kc 15 1 (.i v3.Power), kc 15 2 (.i v3.Draught), kc 15 3 (.i v3.Tonnes), kc 15 4 (.o 3 4 v3.Thrust.length), kc 15 5 (.o 5 6 v3.Water.length), kc 15 6 (.o 7 8 v3.Ice.length), kc 15 7 (.i v3.Slow), kc 15 8 (.i v3.Brash), kc 15 9 (.i v3.Ridge), kc 15 10 (.i v3.Press), kc 16 0 (.i v4.Class), kc 16 1 (.i v4.Power), kc 16 2 (.i v4.Draught), kc 16 3 (.i v4.Tonnes), kc 16 4 (.o 9 10 v4.Thrust.length), kc 16 5 (.o 11 12 v4.Water.length), kc 16 6 (.o 13 14 v4.Ice.length), kc 16 7 (.i v4.Slow), kc 16 8 (.i v4.Brash), kc 16 9 (.i v4.Ridge), kc 16 10 (.i v4.Press)]) ?_ (kp rfl) rfl
      refine fin_then ?_
      refine aw_seq ?_
      obtain ⟨v8, hv8, hm⟩ := bnd_some hm
      obtain ⟨v9, hv9, hm⟩ := bnd_some hm
      obtain ⟨v10, hv10, hm⟩ := bnd_some hm
      refine aw_any (rows := [_, _, _, _, _, _, _, _, _, _]) (M := [0, 1, 0, 7, 15, 31, 63, 63, 127, 511]) Tryd_mixed (by kernel_rfl) rfl (by kernel_rfl) ⟨
        ok_plain rfl rfl (op_loadN (ys := [.i a0.Class, .i a0.Power, .i a0.Draught, .i a0.Tonnes, .v (.slice a0_Thrust_p a0.Thrust.length a0_Thrust_c), .v (.slice a0_Water_p a0.Water.length a0_Water_c), .v (.slice a0_Ice_p a0.Ice.length a0_Ice_c), .i a0.Slow, .i a0.Brash, .i a0.Ridge, .i a0.Press]) (ltN rfl) sh_25 rfl rfl ⟨rfl, rfl, rfl, rfl, rfl, rfl, rfl, rfl, rfl, rfl, rfl, trivial⟩),
        ok_plain rfl rfl (op_callRowsD (x := .g [.i v8.Class, .i v8.Power, .i v8.Draught, .i v8.Tonnes, .o 23 24 v8.Thrust.length, .o 25 26 v8.Water.length, .o 27 28 v8.Ice.length, .i v8.Slow, .i v8.Brash, .i v8.Ridge, .i v8.Press]) (R := (fun vs => .agg #[.int .i64 v8.Class, .int .i64 v8.Power, .int .i64 v8.Draught, .int .i64 v8.Tonnes, (vs.getD 0 (.bool false)), (vs.getD 1 (.bool false)), (vs.getD 2 (.bool false)), .int .i64 v8.Slow, .int .i64 v8.Brash, .int .i64 v8.Ridge, .int .i64 v8.Press])) (ls := [(23, 24), (25, 26), (27, 28)]) (ds := [(v8.Thrust.length, 170, 2, v8.Thrust.flatMap encPt), (v8.Water.length, 170, 2, v8.Water.flatMap encPt), (v8.Ice.length, 170, 2, v8.Ice.flatMap encPt)]) (fs := []) (caps := []) (extra := []) (ltN rfl) en_32 rfl ⟨rfl, rfl, rfl⟩ (EvL.cons rfl EvL.nil) rfl rfl (fun _ => rfl) (fun mm aa ww gg hr hrel => (c32 F a0 ⟨a0_Thrust_p, a0.Thrust.length, a0_Thrust_c⟩ ⟨a0_Water_p, a0.Water.length, a0_Water_c⟩ ⟨a0_Ice_p, a0.Ice.length, a0_Ice_c⟩ ww (SlIs.mono ha0_Thrust hrel.below) (SlIs.mono ha0_Water hrel.below) (SlIs.mono ha0_Ice hrel.below) v8 hv8))),
        ok_plain rfl rfl (op_loadN (ys := [.i a1.Class, .i a1.Power, .i a1.Draught, .i a1.Tonnes, .v (.slice a1_Thrust_p a1.Thrust.length a1_Thrust_c), .v (.slice a1_Water_p a1.Water.length a1_Water_c), .v (.slice a1_Ice_p a1.Ice.length a1_Ice_c), .i a1.Slow, .i a1.Brash, .i a1.Ridge, .i a1.Press]) (ltN rfl) sh_25 rfl rfl ⟨rfl, rfl, rfl, rfl, rfl, rfl, rfl, rfl, rfl, rfl, rfl, trivial⟩),
        ok_plain rfl rfl (op_callRowsD (x := .g [.i v9.Class, .i v9.Power, .i v9.Draught, .i v9.Tonnes, .o 29 30 v9.Thrust.length, .o 31 32 v9.Water.length, .o 33 34 v9.Ice.length, .i v9.Slow, .i v9.Brash, .i v9.Ridge, .i v9.Press]) (R := (fun vs => .agg #[.int .i64 v9.Class, .int .i64 v9.Power, .int .i64 v9.Draught, .int .i64 v9.Tonnes, (vs.getD 0 (.bool false)), (vs.getD 1 (.bool false)), (vs.getD 2 (.bool false)), .int .i64 v9.Slow, .int .i64 v9.Brash, .int .i64 v9.Ridge, .int .i64 v9.Press])) (ls := [(29, 30), (31, 32), (33, 34)]) (ds := [(v9.Thrust.length, 170, 2, v9.Thrust.flatMap encPt), (v9.Water.length, 170, 2, v9.Water.flatMap encPt), (v9.Ice.length, 170, 2, v9.Ice.flatMap encPt)]) (fs := []) (caps := []) (extra := []) (ltN rfl) en_32 rfl ⟨rfl, rfl, rfl⟩ (EvL.cons rfl EvL.nil) rfl rfl (fun _ => rfl) (fun mm aa ww gg hr hrel => (c32 F a1 ⟨a1_Thrust_p, a1.Thrust.length, a1_Thrust_c⟩ ⟨a1_Water_p, a1.Water.length, a1_Water_c⟩ ⟨a1_Ice_p, a1.Ice.length, a1_Ice_c⟩ ww (SlIs.mono ha1_Thrust hrel.below) (SlIs.mono ha1_Water hrel.below) (SlIs.mono ha1_Ice hrel.below) v9 hv9))),
        ok_plain rfl rfl (op_call (x := .t [.i v10.1, .i v10.2]) (fs := []) (caps := []) (extra := (kapp [.r 23] (kapp [.r 25] (kapp [.r 27] (kapp [.r 29] (kapp [.r 31] (kapp [.r 33] []))))))) (ltN rfl) en_54 rfl ⟨rfl, rfl, rfl⟩ (EvL.cons rfl (EvL.cons rfl EvL.nil)) (fun mm aa ww gg hr hrel => (c54 F v8 ⟨ptr0 (mm 23) (mm 24), v8.Thrust.length, mm 24⟩ ⟨ptr0 (mm 25) (mm 26), v8.Water.length, mm 26⟩ ⟨ptr0 (mm 27) (mm 28), v8.Ice.length, mm 28⟩ v9 ⟨ptr0 (mm 29) (mm 30), v9.Thrust.length, mm 30⟩ ⟨ptr0 (mm 31) (mm 32), v9.Water.length, mm 32⟩ ⟨ptr0 (mm 33) (mm 34), v9.Ice.length, mm 34⟩ ww (slAt_row (enc := encPt) (l := v8.Thrust) (fun _ => rfl) (by decide) hrel ((hr _ (List.mem_append_left _ (by simp))).trans rfl)) (slAt_row (enc := encPt) (l := v8.Water) (fun _ => rfl) (by decide) hrel ((hr _ (List.mem_append_right _ (List.mem_append_left _ (by simp)))).trans rfl)) (slAt_row (enc := encPt) (l := v8.Ice) (fun _ => rfl) (by decide) hrel ((hr _ (List.mem_append_right _ (List.mem_append_right _ (List.mem_append_left _ (by simp))))).trans rfl)) (slAt_row (enc := encPt) (l := v9.Thrust) (fun _ => rfl) (by decide) hrel ((hr _ (List.mem_append_right _ (List.mem_append_right _ (List.mem_append_right _ (List.mem_append_left _ (by simp)))))).trans rfl)) (slAt_row (enc := encPt) (l := v9.Water) (fun _ => rfl) (by decide) hrel ((hr _ (List.mem_append_right _ (List.mem_append_right _ (List.mem_append_right _ (List.mem_append_right _ (List.mem_append_left _ (by simp))))))).trans rfl)) (slAt_row (enc := encPt) (l := v9.Ice) (fun _ => rfl) (by decide) hrel ((hr _ (List.mem_append_right _ (List.mem_append_right _ (List.mem_append_right _ (List.mem_append_right _ (List.mem_append_right _ (List.mem_append_left _ (by simp)))))))).trans rfl)) v10 hv10))),
        ok_plain rfl rfl (op_move (ltN rfl) rfl),
        ok_plain rfl rfl (op_extract (ltN rfl) rfl rfl),
        ok_plain rfl rfl (op_extract (ltN rfl) rfl rfl),
        ok_plain rfl rfl (op_assign (ltN rfl) rfl),
        ok_plain rfl rfl (op_assign (ltN rfl) rfl),
        trivial⟩ ?_
      refine fin_keep (s' := [kt 4 (.p 1 0), kt 5 (.p 2 0), kt 9 (.p 15 0), kt 10 (.p 16 0), kt 11 (.i v7.1), kt 12 (.i v7.2), kt 13 (.i v10.1), kt 14 (.i v10.2), kb 1 25 11, kb 2 25 11, kb 15 25 11, kb 16 25 11, (.r 3, some (.vec true 4 84 2 (v3.Thrust.flatMap encPt))), (.r 5, some (.vec true 6 84 2 (v3.Water.flatMap encPt))), (.r 7, some (.vec true 8 84 2 (v3.Ice.flatMap encPt))), (.r 9, some (.vec true 10 84 2 (v4.Thrust.flatMap encPt))), (.r 11, some (.vec true 12 84 2 (v4.Water.flatMap encPt))), (.r 13, some (.vec true 14 84 2 (v4.Ice.flatMap encPt))), kc 1 0 (.i a0.Class), kc 1 1 (.i a0.Power), kc 1 2 (.i a0.Draught), kc 1 3 (.i a0.Tonnes), kc 1 4 (.v (.slice a0_Thrust_p a0.Thrust.length a0_Thrust_c)), kc 1 5 (.v (.slice a0_Water_p a0.Water.length a0_Water_c)), kc 1 6 (.v (.slice a0_Ice_p a0.Ice.length a0_Ice_c)), kc 1 7 (.i a0.Slow), kc 1 8 (.i a0.Brash), kc 1 9 (.i a0.Ridge), kc 1 10 (.i a0.Press), kc 2 0 (.i a1.Class), kc 2 1 (.i a1.Power), kc 2 2 (.i a1.Draught), kc 2 3 (.i a1.Tonnes), kc 2 4 (.v (.slice a1_Thrust_p a1.Thrust.length a1_Thrust_c)), kc 2 5 (.v (.slice a1_Water_p a1.Water.length a1_Water_c)), kc 2 6 (.v (.slice a1_Ice_p a1.Ice.length a1_Ice_c)), kc 2 7 (.i a1.Slow), kc 2 8 (.i a1.Brash), kc 2 9 (.i a1.Ridge), kc 2 10 (.i a1.Press), kc 15 0 (.i v3.Class), kc 15 1 (.i v3.Power), kc 15 2 (.i v3.Draught), kc 15 3 (.i v3.Tonnes), kc 15 4 (.o 3 4 v3.Thrust.length), kc 15 5 (.o 5 6 v3.Water.length), kc 15 6 (.o 7 8 v3.Ice.length), kc 15 7 (.i v3.Slow), kc 15 8 (.i v3.Brash), kc 15 9 (.i v3.Ridge), kc 15 10 (.i v3.Press), kc 16 0 (.i v4.Class), kc 16 1 (.i v4.Power), kc 16 2 (.i v4.Draught), kc 16 3 (.i v4.Tonnes), kc 16 4 (.o 9 10 v4.Thrust.length), kc 16 5 (.o 11 12 v4.Water.length), kc 16 6 (.o 13 14 v4.Ice.length), kc 16 7 (.i v4.Slow), kc 16 8 (.i v4.Brash), kc 16 9 (.i v4.Ridge), kc 16 10 (.i v4.Press)]) ?_ (kp rfl) rfl
      refine fin_then ?_
      refine aw_seq ?_
      obtain ⟨v11, hv11, hm⟩ := bnd_some hm
      obtain ⟨v12, hv12, hm⟩ := bnd_some hm
      refine aw_text (rows := [_, _, _, _, _, _, _, _, _, _, _, _, _, _, _, _, _, _, _, _, _, _]) rfl (by kernel_rfl) ⟨
        ok_plain rfl rfl (op_move (ltN rfl) rfl),
        ok_plain rfl rfl (op_move (ltN rfl) rfl),
        ok_plain rfl rfl (op_bin (ltN rfl) rfl rfl rfl),
        ok_plain rfl rfl (op_move (ltN rfl) rfl),
        ok_if (ltN rfl) rfl rfl rfl rfl rfl rfl (fun hg8 => op_move (ltN rfl) (force_x rfl)),
        ok_if (ltN rfl) rfl rfl rfl rfl rfl rfl (fun hg9 => op_move (ltN rfl) (force_x rfl)),
        ok_if (ltN rfl) rfl rfl rfl rfl rfl rfl (fun hg10 => op_bin (ltN rfl) (force_eq (beq_iff_eq.2 hg10) rfl) (force_eq (beq_iff_eq.2 hg10) rfl) rfl),
        ok_plain rfl rfl (op_and (ltN rfl) rfl rfl),
        ok_plain rfl rfl (op_move (ltN rfl) rfl),
        ok_if (ltN rfl) rfl rfl rfl rfl rfl rfl (fun hg11 => op_loadN (ys := [.i a0.Class, .i a0.Power, .i a0.Draught, .i a0.Tonnes, .v (.slice a0_Thrust_p a0.Thrust.length a0_Thrust_c), .v (.slice a0_Water_p a0.Water.length a0_Water_c), .v (.slice a0_Ice_p a0.Ice.length a0_Ice_c), .i a0.Slow, .i a0.Brash, .i a0.Ridge, .i a0.Press]) (ltN rfl) sh_25 (force_x rfl) rfl ⟨rfl, rfl, rfl, rfl, rfl, rfl, rfl, rfl, rfl, rfl, rfl, trivial⟩),
        ok_if (ltN rfl) rfl rfl rfl rfl rfl rfl (fun hg12 => op_loadN (ys := [.i v3.Class, .i v3.Power, .i v3.Draught, .i v3.Tonnes, .o 3 4 v3.Thrust.length, .o 5 6 v3.Water.length, .o 7 8 v3.Ice.length, .i v3.Slow, .i v3.Brash, .i v3.Ridge, .i v3.Press]) (ltN rfl) sh_25 (force_x rfl) rfl ⟨rfl, rfl, rfl, rfl, rfl, rfl, rfl, rfl, rfl, rfl, rfl, trivial⟩),
        ok_if (ltN rfl) rfl rfl rfl rfl rfl rfl (fun hg13 => op_call (x := .B v11) (fs := []) (caps := []) (extra := (kapp [.r 3] (kapp [.r 5] (kapp [.r 7] [])))) (ltN rfl) en_39 rfl ⟨rfl, rfl, rfl⟩ (EvL.cons (force_eq (beq_iff_eq.2 hg13) rfl) (EvL.cons (force_eq (beq_iff_eq.2 hg13) rfl) EvL.nil)) (fun mm aa ww gg hr hrel => (c39 F a0 ⟨a0_Thrust_p, a0.Thrust.length, a0_Thrust_c⟩ ⟨a0_Water_p, a0.Water.length, a0_Water_c⟩ ⟨a0_Ice_p, a0.Ice.length, a0_Ice_c⟩ v3 ⟨ptr0 (mm 3) (mm 4), v3.Thrust.length, mm 4⟩ ⟨ptr0 (mm 5) (mm 6), v3.Water.length, mm 6⟩ ⟨ptr0 (mm 7) (mm 8), v3.Ice.length, mm 8⟩ ww (SlIs.mono ha0_Thrust hrel.below) (SlIs.mono ha0_Water hrel.below) (SlIs.mono ha0_Ice hrel.below) (slAt_row (enc := encPt) (l := v3.Thrust) (fun _ => rfl) (by decide) hrel ((hr _ (List.mem_append_left _ (by simp))).trans rfl)) (slAt_row (enc := encPt) (l := v3.Water) (fun _ => rfl) (by decide) hrel ((hr _ (List.mem_append_right _ (List.mem_append_left _ (by simp)))).trans rfl)) (slAt_row (enc := encPt) (l := v3.Ice) (fun _ => rfl) (by decide) hrel ((hr _ (List.mem_append_right _ (List.mem_append_right _ (List.mem_append_left _ (by simp))))).trans rfl)) v11 (brk_t hg13 hv11)))),
        ok_plain rfl rfl (op_and (ltN rfl) rfl rfl),
        ok_plain rfl rfl (op_move (ltN rfl) rfl),
        ok_if (ltN rfl) rfl rfl rfl rfl rfl rfl (fun hg14 => op_loadN (ys := [.i a1.Class, .i a1.Power, .i a1.Draught, .i a1.Tonnes, .v (.slice a1_Thrust_p a1.Thrust.length a1_Thrust_c), .v (.slice a1_Water_p a1.Water.length a1_Water_c), .v (.slice a1_Ice_p a1.Ice.length a1_Ice_c), .i a1.Slow, .i a1.Brash, .i a1.Ridge, .i a1.Press]) (ltN rfl) sh_25 (force_x rfl) rfl ⟨rfl, rfl, rfl, rfl, rfl, rfl, rfl, rfl, rfl, rfl, rfl, trivial⟩),
        ok_if (ltN rfl) rfl rfl rfl rfl rfl rfl (fun hg15 => op_loadN (ys := [.i v4.Class, .i v4.Power, .i v4.Draught, .i v4.Tonnes, .o 9 10 v4.Thrust.length, .o 11 12 v4.Water.length, .o 13 14 v4.Ice.length, .i v4.Slow, .i v4.Brash, .i v4.Ridge, .i v4.Press]) (ltN rfl) sh_25 (force_x rfl) rfl ⟨rfl, rfl, rfl, rfl, rfl, rfl, rfl, rfl, rfl, rfl, rfl, trivial⟩),
        ok_if (ltN rfl) rfl rfl rfl rfl rfl rfl (fun hg16 => op_call (x := .B v12) (fs := []) (caps := []) (extra := (kapp [.r 9] (kapp [.r 11] (kapp [.r 13] [])))) (ltN rfl) en_39 rfl ⟨rfl, rfl, rfl⟩ (EvL.cons (force_eq (beq_iff_eq.2 hg16) rfl) (EvL.cons (force_eq (beq_iff_eq.2 hg16) rfl) EvL.nil)) (fun mm aa ww gg hr hrel => (c39 F a1 ⟨a1_Thrust_p, a1.Thrust.length, a1_Thrust_c⟩ ⟨a1_Water_p, a1.Water.length, a1_Water_c⟩ ⟨a1_Ice_p, a1.Ice.length, a1_Ice_c⟩ v4 ⟨ptr0 (mm 9) (mm 10), v4.Thrust.length, mm 10⟩ ⟨ptr0 (mm 11) (mm 12), v4.Water.length, mm 12⟩ ⟨ptr0 (mm 13) (mm 14), v4.Ice.length, mm 14⟩ ww (SlIs.mono ha1_Thrust hrel.below) (SlIs.mono ha1_Water hrel.below) (SlIs.mono ha1_Ice hrel.below) (slAt_row (enc := encPt) (l := v4.Thrust) (fun _ => rfl) (by decide) hrel ((hr _ (List.mem_append_left _ (by simp))).trans rfl)) (slAt_row (enc := encPt) (l := v4.Water) (fun _ => rfl) (by decide) hrel ((hr _ (List.mem_append_right _ (List.mem_append_left _ (by simp)))).trans rfl)) (slAt_row (enc := encPt) (l := v4.Ice) (fun _ => rfl) (by decide) hrel ((hr _ (List.mem_append_right _ (List.mem_append_right _ (List.mem_append_left _ (by simp))))).trans rfl)) v12 (brk_t hg16 hv12)))),
        ok_plain rfl rfl (op_and (ltN rfl) rfl rfl),
        ok_plain rfl rfl (op_move (ltN rfl) rfl),
        ok_if (ltN rfl) rfl rfl rfl rfl rfl rfl (fun hg17 => op_call (x := .B true) (fs := []) (caps := []) (extra := []) (ltN rfl) en_21 rfl ⟨rfl, rfl, rfl⟩ EvL.nil (fun mm aa ww gg hr hrel => (c21 ww (BoxAt.mono hG hrel.below)))),
        ok_plain rfl rfl (op_and (ltN rfl) rfl rfl),
        ok_plain rfl rfl (op_assign (ltN rfl) rfl),
        trivial⟩ ?_
      refine fin_keep (s' := [kt 8 (.B (((((v7.1 == v10.1) && (v7.2 == v10.2)) && v11) && v12) && true))]) ?_ (kp rfl) rfl
      refine fin_then ?_
      refine aw_ret ?_
      refine post_ret (x := .B (((((v7.1 == v10.1) && (v7.2 == v10.2)) && v11) && v12) && true)) rfl rfl (resOK_tmp rfl resOK_nil) rfl (fun mm aa ww hr => ?_)
      have hm := Option.some.inj hm
      subst hm
      exact ⟨rfl, hr.below⟩

end Go.Proofs.T
