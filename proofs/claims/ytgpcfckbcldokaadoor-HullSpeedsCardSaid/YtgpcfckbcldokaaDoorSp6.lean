/-
  This file has contracts of functions of the program: where the mirror gives a value, the call returns it. Conditions: those that each theorem names.
-/
import Derived.Test.YtgpcfckbcldokaaDoorSp5
set_option linter.unusedVariables false
namespace Go.Proofs.T
open Go Go.AX Go.RowKit Hull
theorem zl_72 : zeroL Tryd.prog 72 = some [(.int .i64 0), (.int .i64 0), (.int .i64 0), (.int .i64 0), (.int .i64 0), (.int .i64 0), (.int .i64 0), (.int .i64 0)] := by kernel_rfl
theorem sz_72 : sizeIn Tryd.prog 72 = some 8 := by kernel_rfl
theorem en_19 : Proofs.Enters Tryd.prog 19 := Proofs.enters_of Tryd.func19 (by kernel_rfl) rfl
theorem en_57 : Proofs.Enters Tryd.prog 57 := Proofs.enters_of Tryd.func57 (by kernel_rfl) rfl
theorem en_58 : Proofs.Enters Tryd.prog 58 := Proofs.enters_of Tryd.func58 (by kernel_rfl) rfl
theorem en_59 : Proofs.Enters Tryd.prog 59 := Proofs.enters_of Tryd.func59 (by kernel_rfl) rfl
theorem en_60 : Proofs.Enters Tryd.prog 60 := Proofs.enters_of Tryd.func60 (by kernel_rfl) rfl
theorem en_61 : Proofs.Enters Tryd.prog 61 := Proofs.enters_of Tryd.func61 (by kernel_rfl) rfl
theorem en_62 : Proofs.Enters Tryd.prog 62 := Proofs.enters_of Tryd.func62 (by kernel_rfl) rfl
theorem en_65 : Proofs.Enters Tryd.prog 65 := Proofs.enters_of Tryd.func65 (by kernel_rfl) rfl
theorem en_66 : Proofs.Enters Tryd.prog 66 := Proofs.enters_of Tryd.func66 (by kernel_rfl) rfl

def m57 (F : Nat) (a0 : Ship) (a1 : Ice) (a2 : Int) (a3 : Bool) : Option (Int × Int) :=
 bnd (m116 F a0 a1 a2) (fun v1 => brk (v1 != 0) (some (0, v1)) (bnd (m120 F a0 a1 a2 a3) (fun v2 => some (v2, 0))))

theorem c57 (F : Nat) (a0 : Ship) (a0_Thrust_s : SlV) (a0_Water_s : SlV) (a0_Ice_s : SlV) (a1 : Ice) (a2 : Int) (a3 : Bool) (w : World) (ha0_Thrust : SlIs encPt 2 w a0_Thrust_s a0.Thrust) (ha0_Water : SlIs encPt 2 w a0_Water_s a0.Water) (ha0_Ice : SlIs encPt 2 w a0_Ice_s a0.Ice) (r : Int × Int) (hm : m57 F a0 a1 a2 a3 = some r) : Calls Tryd.prog 57 #[.agg #[.int .i64 a0.Class, .int .i64 a0.Power, .int .i64 a0.Draught, .int .i64 a0.Tonnes, .slice a0_Thrust_s.p a0_Thrust_s.n a0_Thrust_s.c, .slice a0_Water_s.p a0_Water_s.n a0_Water_s.c, .slice a0_Ice_s.p a0_Ice_s.n a0_Ice_s.c, .int .i64 a0.Slow, .int .i64 a0.Brash, .int .i64 a0.Ridge, .int .i64 a0.Press], .agg #[.int .i64 a1.Conc, .int .i64 a1.Thick, .int .i64 a1.Ridge, .int .i64 a1.Press], .int .i64 a2, .bool a3] w fun e w' => e = .returned (.tuple #[.int .i64 r.1, .int .i64 r.2]) ∧ Below w.heap.size w w' := by
 obtain ⟨a0Tp, a0Tn, a0Tc⟩ := a0_Thrust_s
 have ha0_Thrust_l : a0Tn = a0.Thrust.length := ha0_Thrust.1
 subst ha0_Thrust_l
 obtain ⟨a0_Thrust_b, a0To, ha0_Thrust_p, ha0_Thrust_L⟩ := SlAt.lies' ha0_Thrust
 obtain ⟨a0Wp, a0Wn, a0Wc⟩ := a0_Water_s
 have ha0_Water_l : a0Wn = a0.Water.length := ha0_Water.1
 subst ha0_Water_l
 obtain ⟨a0_Water_b, a0Wo, ha0_Water_p, ha0_Water_L⟩ := SlAt.lies' ha0_Water
 obtain ⟨a0Ip, a0In, a0Ic⟩ := a0_Ice_s
 have ha0_Ice_l : a0In = a0.Ice.length := ha0_Ice.1
 subst ha0_Ice_l
 obtain ⟨a0_Ice_b, a0Io, ha0_Ice_p, ha0_Ice_L⟩ := SlAt.lies' ha0_Ice
 unfold m57 at hm
 refine enter (args := [.g [.i a0.Class, .i a0.Power, .i a0.Draught, .i a0.Tonnes, .v (.slice a0Tp a0.Thrust.length a0Tc), .v (.slice a0Wp a0.Water.length a0Wc), .v (.slice a0Ip a0.Ice.length a0Ic), .i a0.Slow, .i a0.Brash, .i a0.Ridge, .i a0.Press], .g [.i a1.Conc, .i a1.Thick, .i a1.Ridge, .i a1.Press], .i a2, .B a3]) Tryd.func57 rfl (N := 23) rfl (Nat.le_of_ble_eq_true rfl) ?_
 refine aqS ?_
 refine aqT (rows := [_, _, _, _]) rfl (by kernel_rfl) ⟨
  okp rfl rfl (op_boxN (L := 1) (lN rfl) rfl rfl rfl),
  okp rfl rfl (op_boxN (L := 2) (lN rfl) rfl rfl rfl),
  okp rfl rfl (oqA (lN rfl) rfl),
  okp rfl rfl (oqA (lN rfl) rfl),
  trivial⟩ ?_
 refine fqK (s' := (kt 2 (.i a2) :: kt 3 (.B a3) :: kt 4 (.p 1 0) :: kt 5 (.p 2 0) :: kb 1 64 11 :: kb 2 108 4 :: sK 1 a0 (.v (.slice a0Tp a0.Thrust.length a0Tc)) (.v (.slice a0Wp a0.Water.length a0Wc)) (.v (.slice a0Ip a0.Ice.length a0Ic)) [kc 2 0 (.i a1.Conc), kc 2 1 (.i a1.Thick), kc 2 2 (.i a1.Ridge), kc 2 3 (.i a1.Press)])) ?_ (kp rfl) rfl
 refine fqT ?_
 refine aqS ?_
 refine aqS ?_
 obtain ⟨v1, hv1, hm⟩ := bnd_some hm
 refine aqT (rows := [_, _, _, _, _]) rfl (by kernel_rfl) ⟨
  okp rfl rfl (oqL (ys := [.i a0.Class, .i a0.Power, .i a0.Draught, .i a0.Tonnes, .v (.slice a0Tp a0.Thrust.length a0Tc), .v (.slice a0Wp a0.Water.length a0Wc), .v (.slice a0Ip a0.Ice.length a0Ic), .i a0.Slow, .i a0.Brash, .i a0.Ridge, .i a0.Press]) (lN rfl) sh_64 rfl rfl ⟨rfl, rfl, rfl, rfl, rfl, rfl, rfl, rfl, rfl, rfl, rfl, trivial⟩),
  okp rfl rfl (oqL (ys := [.i a1.Conc, .i a1.Thick, .i a1.Ridge, .i a1.Press]) (lN rfl) sh_108 rfl rfl ⟨rfl, rfl, rfl, rfl, trivial⟩),
  okp rfl rfl (oqM (lN rfl) rfl),
  okp rfl rfl (oqC (x := .i v1) (fs := []) (caps := []) (extra := []) (lN rfl) en_116 rfl ⟨rfl, rfl, rfl⟩ (EvL.cons rfl (EvL.cons rfl (EvL.cons rfl EvL.nil))) (fun mm aa ww gg hr hrel => (c116 F a0 ⟨a0Tp, a0.Thrust.length, a0Tc⟩ ⟨a0Wp, a0.Water.length, a0Wc⟩ ⟨a0Ip, a0.Ice.length, a0Ic⟩ a1 a2 ww (SlIs.mono ha0_Thrust hrel.below) (SlIs.mono ha0_Water hrel.below) (SlIs.mono ha0_Ice hrel.below) v1 hv1))),
  okp rfl rfl (oqA (lN rfl) rfl),
  trivial⟩ ?_
 refine fqK (s' := (kt 2 (.i a2) :: kt 3 (.B a3) :: kt 4 (.p 1 0) :: kt 5 (.p 2 0) :: kt 10 (.i v1) :: kb 1 64 11 :: kb 2 108 4 :: sK 1 a0 (.v (.slice a0Tp a0.Thrust.length a0Tc)) (.v (.slice a0Wp a0.Water.length a0Wc)) (.v (.slice a0Ip a0.Ice.length a0Ic)) [kc 2 0 (.i a1.Conc), kc 2 1 (.i a1.Thick), kc 2 2 (.i a1.Ridge), kc 2 3 (.i a1.Press)])) ?_ (kp rfl) rfl
 refine fqT ?_
 refine aqS ?_
 refine aqT (rows := [_, _]) rfl (by kernel_rfl) ⟨
  okp rfl rfl (oqM (lN rfl) rfl),
  okp rfl rfl (oqB (lN rfl) rfl rfl rfl),
  trivial⟩ ?_
 refine fqK (s' := (kt 2 (.i a2) :: kt 3 (.B a3) :: kt 4 (.p 1 0) :: kt 5 (.p 2 0) :: kt 10 (.i v1) :: kt 16 (.B (v1 != 0)) :: kb 1 64 11 :: kb 2 108 4 :: sK 1 a0 (.v (.slice a0Tp a0.Thrust.length a0Tc)) (.v (.slice a0Wp a0.Water.length a0Wc)) (.v (.slice a0Ip a0.Ice.length a0Ic)) [kc 2 0 (.i a1.Conc), kc 2 1 (.i a1.Thick), kc 2 2 (.i a1.Ridge), kc 2 3 (.i a1.Press)])) ?_ (kp rfl) rfl
 refine fqT ?_
 refine aw_cond rfl (fun hz1 => ?_) (fun hz1 => ?_)
 ·have hm := brk_t hz1 hm
  refine aqS ?_
  refine aqT (rows := [_, _, _]) rfl (by kernel_rfl) ⟨
   okp rfl rfl (oqM (lN rfl) rfl),
   okp rfl rfl (oqA (lN rfl) rfl),
   okp rfl rfl (oqA (lN rfl) rfl),
   trivial⟩ ?_
  refine fqK (s' := [kt 8 (.i 0), kt 9 (.i v1)]) ?_ (kp rfl) rfl
  refine fqT ?_
  refine aw_ret ?_
  refine fin_then_ret ?_
  refine post_ret (x := .t [.i 0, .i v1]) rfl rfl (rqT rfl (rqT rfl resOK_nil)) rfl (fun mm aa ww hr => ?_)
  have hm := Option.some.inj hm
  subst hm
  exact ⟨rfl, hr.below⟩
 ·have hm := brk_f hz1 hm
  refine aw_skip ?_
  refine fqT ?_
  refine aqS ?_
  obtain ⟨v2, hv2, hm⟩ := bnd_some hm
  refine aqT (rows := [_, _, _, _, _, _, _]) rfl (by kernel_rfl) ⟨
   okp rfl rfl (oqL (ys := [.i a0.Class, .i a0.Power, .i a0.Draught, .i a0.Tonnes, .v (.slice a0Tp a0.Thrust.length a0Tc), .v (.slice a0Wp a0.Water.length a0Wc), .v (.slice a0Ip a0.Ice.length a0Ic), .i a0.Slow, .i a0.Brash, .i a0.Ridge, .i a0.Press]) (lN rfl) sh_64 rfl rfl ⟨rfl, rfl, rfl, rfl, rfl, rfl, rfl, rfl, rfl, rfl, rfl, trivial⟩),
   okp rfl rfl (oqL (ys := [.i a1.Conc, .i a1.Thick, .i a1.Ridge, .i a1.Press]) (lN rfl) sh_108 rfl rfl ⟨rfl, rfl, rfl, rfl, trivial⟩),
   okp rfl rfl (oqM (lN rfl) rfl),
   okp rfl rfl (oqM (lN rfl) rfl),
   okp rfl rfl (oqC (x := .i v2) (fs := []) (caps := []) (extra := []) (lN rfl) en_120 rfl ⟨rfl, rfl, rfl⟩ (EvL.cons rfl (EvL.cons rfl (EvL.cons rfl (EvL.cons rfl EvL.nil)))) (fun mm aa ww gg hr hrel => (c120 F a0 ⟨a0Tp, a0.Thrust.length, a0Tc⟩ ⟨a0Wp, a0.Water.length, a0Wc⟩ ⟨a0Ip, a0.Ice.length, a0Ic⟩ a1 a2 a3 ww (SlIs.mono ha0_Thrust hrel.below) (SlIs.mono ha0_Water hrel.below) (SlIs.mono ha0_Ice hrel.below) v2 hv2))),
   okp rfl rfl (oqA (lN rfl) rfl),
   okp rfl rfl (oqA (lN rfl) rfl),
   trivial⟩ ?_
  refine fqK (s' := [kt 8 (.i v2), kt 9 (.i 0)]) ?_ (kp rfl) rfl
  refine fqT ?_
  refine aw_ret ?_
  refine post_ret (x := .t [.i v2, .i 0]) rfl rfl (rqT rfl (rqT rfl resOK_nil)) rfl (fun mm aa ww hr => ?_)
  have hm := Option.some.inj hm
  subst hm
  exact ⟨rfl, hr.below⟩

def m58 (F : Nat) (a0 : Ship) (a1 : Ice) (a2 : Int) (a3 : Bool) : Option (Bool × Int) :=
 bnd (m116 F a0 a1 a2) (fun v1 => brk (v1 != 0) (some (false, v1)) (bnd (m96 F a0 a1 a2 a3) (fun v2 => some (v2, 0))))

theorem c58 (F : Nat) (a0 : Ship) (a0_Thrust_s : SlV) (a0_Water_s : SlV) (a0_Ice_s : SlV) (a1 : Ice) (a2 : Int) (a3 : Bool) (w : World) (ha0_Thrust : SlIs encPt 2 w a0_Thrust_s a0.Thrust) (ha0_Water : SlIs encPt 2 w a0_Water_s a0.Water) (ha0_Ice : SlIs encPt 2 w a0_Ice_s a0.Ice) (r : Bool × Int) (hm : m58 F a0 a1 a2 a3 = some r) : Calls Tryd.prog 58 #[.agg #[.int .i64 a0.Class, .int .i64 a0.Power, .int .i64 a0.Draught, .int .i64 a0.Tonnes, .slice a0_Thrust_s.p a0_Thrust_s.n a0_Thrust_s.c, .slice a0_Water_s.p a0_Water_s.n a0_Water_s.c, .slice a0_Ice_s.p a0_Ice_s.n a0_Ice_s.c, .int .i64 a0.Slow, .int .i64 a0.Brash, .int .i64 a0.Ridge, .int .i64 a0.Press], .agg #[.int .i64 a1.Conc, .int .i64 a1.Thick, .int .i64 a1.Ridge, .int .i64 a1.Press], .int .i64 a2, .bool a3] w fun e w' => e = .returned (.tuple #[.bool r.1, .int .i64 r.2]) ∧ Below w.heap.size w w' := by
 obtain ⟨a0Tp, a0Tn, a0Tc⟩ := a0_Thrust_s
 have ha0_Thrust_l : a0Tn = a0.Thrust.length := ha0_Thrust.1
 subst ha0_Thrust_l
 obtain ⟨a0_Thrust_b, a0To, ha0_Thrust_p, ha0_Thrust_L⟩ := SlAt.lies' ha0_Thrust
 obtain ⟨a0Wp, a0Wn, a0Wc⟩ := a0_Water_s
 have ha0_Water_l : a0Wn = a0.Water.length := ha0_Water.1
 subst ha0_Water_l
 obtain ⟨a0_Water_b, a0Wo, ha0_Water_p, ha0_Water_L⟩ := SlAt.lies' ha0_Water
 obtain ⟨a0Ip, a0In, a0Ic⟩ := a0_Ice_s
 have ha0_Ice_l : a0In = a0.Ice.length := ha0_Ice.1
 subst ha0_Ice_l
 obtain ⟨a0_Ice_b, a0Io, ha0_Ice_p, ha0_Ice_L⟩ := SlAt.lies' ha0_Ice
 unfold m58 at hm
 refine enter (args := [.g [.i a0.Class, .i a0.Power, .i a0.Draught, .i a0.Tonnes, .v (.slice a0Tp a0.Thrust.length a0Tc), .v (.slice a0Wp a0.Water.length a0Wc), .v (.slice a0Ip a0.Ice.length a0Ic), .i a0.Slow, .i a0.Brash, .i a0.Ridge, .i a0.Press], .g [.i a1.Conc, .i a1.Thick, .i a1.Ridge, .i a1.Press], .i a2, .B a3]) Tryd.func58 rfl (N := 23) rfl (Nat.le_of_ble_eq_true rfl) ?_
 refine aqS ?_
 refine aqT (rows := [_, _, _, _]) rfl (by kernel_rfl) ⟨
  okp rfl rfl (op_boxN (L := 1) (lN rfl) rfl rfl rfl),
  okp rfl rfl (op_boxN (L := 2) (lN rfl) rfl rfl rfl),
  okp rfl rfl (oqA (lN rfl) rfl),
  okp rfl rfl (oqA (lN rfl) rfl),
  trivial⟩ ?_
 refine fqK (s' := (kt 2 (.i a2) :: kt 3 (.B a3) :: kt 4 (.p 1 0) :: kt 5 (.p 2 0) :: kb 1 64 11 :: kb 2 108 4 :: sK 1 a0 (.v (.slice a0Tp a0.Thrust.length a0Tc)) (.v (.slice a0Wp a0.Water.length a0Wc)) (.v (.slice a0Ip a0.Ice.length a0Ic)) [kc 2 0 (.i a1.Conc), kc 2 1 (.i a1.Thick), kc 2 2 (.i a1.Ridge), kc 2 3 (.i a1.Press)])) ?_ (kp rfl) rfl
 refine fqT ?_
 refine aqS ?_
 refine aqS ?_
 obtain ⟨v1, hv1, hm⟩ := bnd_some hm
 refine aqT (rows := [_, _, _, _, _]) rfl (by kernel_rfl) ⟨
  okp rfl rfl (oqL (ys := [.i a0.Class, .i a0.Power, .i a0.Draught, .i a0.Tonnes, .v (.slice a0Tp a0.Thrust.length a0Tc), .v (.slice a0Wp a0.Water.length a0Wc), .v (.slice a0Ip a0.Ice.length a0Ic), .i a0.Slow, .i a0.Brash, .i a0.Ridge, .i a0.Press]) (lN rfl) sh_64 rfl rfl ⟨rfl, rfl, rfl, rfl, rfl, rfl, rfl, rfl, rfl, rfl, rfl, trivial⟩),
  okp rfl rfl (oqL (ys := [.i a1.Conc, .i a1.Thick, .i a1.Ridge, .i a1.Press]) (lN rfl) sh_108 rfl rfl ⟨rfl, rfl, rfl, rfl, trivial⟩),
  okp rfl rfl (oqM (lN rfl) rfl),
  okp rfl rfl (oqC (x := .i v1) (fs := []) (caps := []) (extra := []) (lN rfl) en_116 rfl ⟨rfl, rfl, rfl⟩ (EvL.cons rfl (EvL.cons rfl (EvL.cons rfl EvL.nil))) (fun mm aa ww gg hr hrel => (c116 F a0 ⟨a0Tp, a0.Thrust.length, a0Tc⟩ ⟨a0Wp, a0.Water.length, a0Wc⟩ ⟨a0Ip, a0.Ice.length, a0Ic⟩ a1 a2 ww (SlIs.mono ha0_Thrust hrel.below) (SlIs.mono ha0_Water hrel.below) (SlIs.mono ha0_Ice hrel.below) v1 hv1))),
  okp rfl rfl (oqA (lN rfl) rfl),
  trivial⟩ ?_
 refine fqK (s' := (kt 2 (.i a2) :: kt 3 (.B a3) :: kt 4 (.p 1 0) :: kt 5 (.p 2 0) :: kt 10 (.i v1) :: kb 1 64 11 :: kb 2 108 4 :: sK 1 a0 (.v (.slice a0Tp a0.Thrust.length a0Tc)) (.v (.slice a0Wp a0.Water.length a0Wc)) (.v (.slice a0Ip a0.Ice.length a0Ic)) [kc 2 0 (.i a1.Conc), kc 2 1 (.i a1.Thick), kc 2 2 (.i a1.Ridge), kc 2 3 (.i a1.Press)])) ?_ (kp rfl) rfl
 refine fqT ?_
 refine aqS ?_
 refine aqT (rows := [_, _]) rfl (by kernel_rfl) ⟨
  okp rfl rfl (oqM (lN rfl) rfl),
  okp rfl rfl (oqB (lN rfl) rfl rfl rfl),
  trivial⟩ ?_
 refine fqK (s' := (kt 2 (.i a2) :: kt 3 (.B a3) :: kt 4 (.p 1 0) :: kt 5 (.p 2 0) :: kt 10 (.i v1) :: kt 16 (.B (v1 != 0)) :: kb 1 64 11 :: kb 2 108 4 :: sK 1 a0 (.v (.slice a0Tp a0.Thrust.length a0Tc)) (.v (.slice a0Wp a0.Water.length a0Wc)) (.v (.slice a0Ip a0.Ice.length a0Ic)) [kc 2 0 (.i a1.Conc), kc 2 1 (.i a1.Thick), kc 2 2 (.i a1.Ridge), kc 2 3 (.i a1.Press)])) ?_ (kp rfl) rfl
 refine fqT ?_
 refine aw_cond rfl (fun hz1 => ?_) (fun hz1 => ?_)
 ·have hm := brk_t hz1 hm
  refine aqS ?_
  refine aqT (rows := [_, _, _]) rfl (by kernel_rfl) ⟨
   okp rfl rfl (oqM (lN rfl) rfl),
   okp rfl rfl (oqA (lN rfl) rfl),
   okp rfl rfl (oqA (lN rfl) rfl),
   trivial⟩ ?_
  refine fqK (s' := [kt 8 (.B false), kt 9 (.i v1)]) ?_ (kp rfl) rfl
  refine fqT ?_
  refine aw_ret ?_
  refine fin_then_ret ?_
  refine post_ret (x := .t [.B false, .i v1]) rfl rfl (rqT rfl (rqT rfl resOK_nil)) rfl (fun mm aa ww hr => ?_)
  have hm := Option.some.inj hm
  subst hm
  exact ⟨rfl, hr.below⟩
 ·have hm := brk_f hz1 hm
  refine aw_skip ?_
  refine fqT ?_
  refine aqS ?_
  obtain ⟨v2, hv2, hm⟩ := bnd_some hm
  refine aqT (rows := [_, _, _, _, _, _, _]) rfl (by kernel_rfl) ⟨
   okp rfl rfl (oqL (ys := [.i a0.Class, .i a0.Power, .i a0.Draught, .i a0.Tonnes, .v (.slice a0Tp a0.Thrust.length a0Tc), .v (.slice a0Wp a0.Water.length a0Wc), .v (.slice a0Ip a0.Ice.length a0Ic), .i a0.Slow, .i a0.Brash, .i a0.Ridge, .i a0.Press]) (lN rfl) sh_64 rfl rfl ⟨rfl, rfl, rfl, rfl, rfl, rfl, rfl, rfl, rfl, rfl, rfl, trivial⟩),
   okp rfl rfl (oqL (ys := [.i a1.Conc, .i a1.Thick, .i a1.Ridge, .i a1.Press]) (lN rfl) sh_108 rfl rfl ⟨rfl, rfl, rfl, rfl, trivial⟩),
   okp rfl rfl (oqM (lN rfl) rfl),
   okp rfl rfl (oqM (lN rfl) rfl),
   okp rfl rfl (oqC (x := .B v2) (fs := []) (caps := []) (extra := []) (lN rfl) en_96 rfl ⟨rfl, rfl, rfl⟩ (EvL.cons rfl (EvL.cons rfl (EvL.cons rfl (EvL.cons rfl EvL.nil)))) (fun mm aa ww gg hr hrel => (c96 F a0 ⟨a0Tp, a0.Thrust.length, a0Tc⟩ ⟨a0Wp, a0.Water.length, a0Wc⟩ ⟨a0Ip, a0.Ice.length, a0Ic⟩ a1 a2 a3 ww (SlIs.mono ha0_Thrust hrel.below) (SlIs.mono ha0_Water hrel.below) (SlIs.mono ha0_Ice hrel.below) v2 hv2))),
   okp rfl rfl (oqA (lN rfl) rfl),
   okp rfl rfl (oqA (lN rfl) rfl),
   trivial⟩ ?_
  refine fqK (s' := [kt 8 (.B v2), kt 9 (.i 0)]) ?_ (kp rfl) rfl
  refine fqT ?_
  refine aw_ret ?_
  refine post_ret (x := .t [.B v2, .i 0]) rfl rfl (rqT rfl (rqT rfl resOK_nil)) rfl (fun mm aa ww hr => ?_)
  have hm := Option.some.inj hm
  subst hm
  exact ⟨rfl, hr.below⟩

def m59 (F : Nat) (a0 : Ship) (a1 : Ice) (a2 : Bool) : Option (Int × Int) :=
 bnd (m116 F a0 a1 0) (fun v1 => brk (v1 != 0) (some (0, v1)) (bnd (m117 F a0 a1 a2) (fun v2 => some (v2, 0))))

theorem c59 (F : Nat) (a0 : Ship) (a0_Thrust_s : SlV) (a0_Water_s : SlV) (a0_Ice_s : SlV) (a1 : Ice) (a2 : Bool) (w : World) (ha0_Thrust : SlIs encPt 2 w a0_Thrust_s a0.Thrust) (ha0_Water : SlIs encPt 2 w a0_Water_s a0.Water) (ha0_Ice : SlIs encPt 2 w a0_Ice_s a0.Ice) (r : Int × Int) (hm : m59 F a0 a1 a2 = some r) : Calls Tryd.prog 59 #[.agg #[.int .i64 a0.Class, .int .i64 a0.Power, .int .i64 a0.Draught, .int .i64 a0.Tonnes, .slice a0_Thrust_s.p a0_Thrust_s.n a0_Thrust_s.c, .slice a0_Water_s.p a0_Water_s.n a0_Water_s.c, .slice a0_Ice_s.p a0_Ice_s.n a0_Ice_s.c, .int .i64 a0.Slow, .int .i64 a0.Brash, .int .i64 a0.Ridge, .int .i64 a0.Press], .agg #[.int .i64 a1.Conc, .int .i64 a1.Thick, .int .i64 a1.Ridge, .int .i64 a1.Press], .bool a2] w fun e w' => e = .returned (.tuple #[.int .i64 r.1, .int .i64 r.2]) ∧ Below w.heap.size w w' := by
 obtain ⟨a0Tp, a0Tn, a0Tc⟩ := a0_Thrust_s
 have ha0_Thrust_l : a0Tn = a0.Thrust.length := ha0_Thrust.1
 subst ha0_Thrust_l
 obtain ⟨a0_Thrust_b, a0To, ha0_Thrust_p, ha0_Thrust_L⟩ := SlAt.lies' ha0_Thrust
 obtain ⟨a0Wp, a0Wn, a0Wc⟩ := a0_Water_s
 have ha0_Water_l : a0Wn = a0.Water.length := ha0_Water.1
 subst ha0_Water_l
 obtain ⟨a0_Water_b, a0Wo, ha0_Water_p, ha0_Water_L⟩ := SlAt.lies' ha0_Water
 obtain ⟨a0Ip, a0In, a0Ic⟩ := a0_Ice_s
 have ha0_Ice_l : a0In = a0.Ice.length := ha0_Ice.1
 subst ha0_Ice_l
 obtain ⟨a0_Ice_b, a0Io, ha0_Ice_p, ha0_Ice_L⟩ := SlAt.lies' ha0_Ice
 unfold m59 at hm
 refine enter (args := [.g [.i a0.Class, .i a0.Power, .i a0.Draught, .i a0.Tonnes, .v (.slice a0Tp a0.Thrust.length a0Tc), .v (.slice a0Wp a0.Water.length a0Wc), .v (.slice a0Ip a0.Ice.length a0Ic), .i a0.Slow, .i a0.Brash, .i a0.Ridge, .i a0.Press], .g [.i a1.Conc, .i a1.Thick, .i a1.Ridge, .i a1.Press], .B a2]) Tryd.func59 rfl (N := 19) rfl (Nat.le_of_ble_eq_true rfl) ?_
 refine aqS ?_
 refine aqT (rows := [_, _, _, _]) rfl (by kernel_rfl) ⟨
  okp rfl rfl (op_boxN (L := 1) (lN rfl) rfl rfl rfl),
  okp rfl rfl (op_boxN (L := 2) (lN rfl) rfl rfl rfl),
  okp rfl rfl (oqA (lN rfl) rfl),
  okp rfl rfl (oqA (lN rfl) rfl),
  trivial⟩ ?_
 refine fqK (s' := (kt 2 (.B a2) :: kt 3 (.p 1 0) :: kt 4 (.p 2 0) :: kb 1 64 11 :: kb 2 108 4 :: sK 1 a0 (.v (.slice a0Tp a0.Thrust.length a0Tc)) (.v (.slice a0Wp a0.Water.length a0Wc)) (.v (.slice a0Ip a0.Ice.length a0Ic)) [kc 2 0 (.i a1.Conc), kc 2 1 (.i a1.Thick), kc 2 2 (.i a1.Ridge), kc 2 3 (.i a1.Press)])) ?_ (kp rfl) rfl
 refine fqT ?_
 refine aqS ?_
 refine aqS ?_
 obtain ⟨v1, hv1, hm⟩ := bnd_some hm
 refine aqT (rows := [_, _, _, _]) rfl (by kernel_rfl) ⟨
  okp rfl rfl (oqL (ys := [.i a0.Class, .i a0.Power, .i a0.Draught, .i a0.Tonnes, .v (.slice a0Tp a0.Thrust.length a0Tc), .v (.slice a0Wp a0.Water.length a0Wc), .v (.slice a0Ip a0.Ice.length a0Ic), .i a0.Slow, .i a0.Brash, .i a0.Ridge, .i a0.Press]) (lN rfl) sh_64 rfl rfl ⟨rfl, rfl, rfl, rfl, rfl, rfl, rfl, rfl, rfl, rfl, rfl, trivial⟩),
  okp rfl rfl (oqL (ys := [.i a1.Conc, .i a1.Thick, .i a1.Ridge, .i a1.Press]) (lN rfl) sh_108 rfl rfl ⟨rfl, rfl, rfl, rfl, trivial⟩),
  okp rfl rfl (oqC (x := .i v1) (fs := []) (caps := []) (extra := []) (lN rfl) en_116 rfl ⟨rfl, rfl, rfl⟩ (EvL.cons rfl (EvL.cons rfl (EvL.cons rfl EvL.nil))) (fun mm aa ww gg hr hrel => (c116 F a0 ⟨a0Tp, a0.Thrust.length, a0Tc⟩ ⟨a0Wp, a0.Water.length, a0Wc⟩ ⟨a0Ip, a0.Ice.length, a0Ic⟩ a1 0 ww (SlIs.mono ha0_Thrust hrel.below) (SlIs.mono ha0_Water hrel.below) (SlIs.mono ha0_Ice hrel.below) v1 hv1))),
  okp rfl rfl (oqA (lN rfl) rfl),
  trivial⟩ ?_
 refine fqK (s' := (kt 2 (.B a2) :: kt 3 (.p 1 0) :: kt 4 (.p 2 0) :: kt 8 (.i v1) :: kb 1 64 11 :: kb 2 108 4 :: sK 1 a0 (.v (.slice a0Tp a0.Thrust.length a0Tc)) (.v (.slice a0Wp a0.Water.length a0Wc)) (.v (.slice a0Ip a0.Ice.length a0Ic)) [kc 2 0 (.i a1.Conc), kc 2 1 (.i a1.Thick), kc 2 2 (.i a1.Ridge), kc 2 3 (.i a1.Press)])) ?_ (kp rfl) rfl
 refine fqT ?_
 refine aqS ?_
 refine aqT (rows := [_, _]) rfl (by kernel_rfl) ⟨
  okp rfl rfl (oqM (lN rfl) rfl),
  okp rfl rfl (oqB (lN rfl) rfl rfl rfl),
  trivial⟩ ?_
 refine fqK (s' := (kt 2 (.B a2) :: kt 3 (.p 1 0) :: kt 4 (.p 2 0) :: kt 8 (.i v1) :: kt 13 (.B (v1 != 0)) :: kb 1 64 11 :: kb 2 108 4 :: sK 1 a0 (.v (.slice a0Tp a0.Thrust.length a0Tc)) (.v (.slice a0Wp a0.Water.length a0Wc)) (.v (.slice a0Ip a0.Ice.length a0Ic)) [kc 2 0 (.i a1.Conc), kc 2 1 (.i a1.Thick), kc 2 2 (.i a1.Ridge), kc 2 3 (.i a1.Press)])) ?_ (kp rfl) rfl
 refine fqT ?_
 refine aw_cond rfl (fun hz1 => ?_) (fun hz1 => ?_)
 ·have hm := brk_t hz1 hm
  refine aqS ?_
  refine aqT (rows := [_, _, _]) rfl (by kernel_rfl) ⟨
   okp rfl rfl (oqM (lN rfl) rfl),
   okp rfl rfl (oqA (lN rfl) rfl),
   okp rfl rfl (oqA (lN rfl) rfl),
   trivial⟩ ?_
  refine fqK (s' := [kt 6 (.i 0), kt 7 (.i v1)]) ?_ (kp rfl) rfl
  refine fqT ?_
  refine aw_ret ?_
  refine fin_then_ret ?_
  refine post_ret (x := .t [.i 0, .i v1]) rfl rfl (rqT rfl (rqT rfl resOK_nil)) rfl (fun mm aa ww hr => ?_)
  have hm := Option.some.inj hm
  subst hm
  exact ⟨rfl, hr.below⟩
 ·have hm := brk_f hz1 hm
  refine aw_skip ?_
  refine fqT ?_
  refine aqS ?_
  obtain ⟨v2, hv2, hm⟩ := bnd_some hm
  refine aqT (rows := [_, _, _, _, _, _]) rfl (by kernel_rfl) ⟨
   okp rfl rfl (oqL (ys := [.i a0.Class, .i a0.Power, .i a0.Draught, .i a0.Tonnes, .v (.slice a0Tp a0.Thrust.length a0Tc), .v (.slice a0Wp a0.Water.length a0Wc), .v (.slice a0Ip a0.Ice.length a0Ic), .i a0.Slow, .i a0.Brash, .i a0.Ridge, .i a0.Press]) (lN rfl) sh_64 rfl rfl ⟨rfl, rfl, rfl, rfl, rfl, rfl, rfl, rfl, rfl, rfl, rfl, trivial⟩),
   okp rfl rfl (oqL (ys := [.i a1.Conc, .i a1.Thick, .i a1.Ridge, .i a1.Press]) (lN rfl) sh_108 rfl rfl ⟨rfl, rfl, rfl, rfl, trivial⟩),
   okp rfl rfl (oqM (lN rfl) rfl),
   okp rfl rfl (oqC (x := .i v2) (fs := []) (caps := []) (extra := []) (lN rfl) en_117 rfl ⟨rfl, rfl, rfl⟩ (EvL.cons rfl (EvL.cons rfl (EvL.cons rfl EvL.nil))) (fun mm aa ww gg hr hrel => (c117 F a0 ⟨a0Tp, a0.Thrust.length, a0Tc⟩ ⟨a0Wp, a0.Water.length, a0Wc⟩ ⟨a0Ip, a0.Ice.length, a0Ic⟩ a1 a2 ww (SlIs.mono ha0_Thrust hrel.below) (SlIs.mono ha0_Water hrel.below) (SlIs.mono ha0_Ice hrel.below) v2 hv2))),
   okp rfl rfl (oqA (lN rfl) rfl),
   okp rfl rfl (oqA (lN rfl) rfl),
   trivial⟩ ?_
  refine fqK (s' := [kt 6 (.i v2), kt 7 (.i 0)]) ?_ (kp rfl) rfl
  refine fqT ?_
  refine aw_ret ?_
  refine post_ret (x := .t [.i v2, .i 0]) rfl rfl (rqT rfl (rqT rfl resOK_nil)) rfl (fun mm aa ww hr => ?_)
  have hm := Option.some.inj hm
  subst hm
  exact ⟨rfl, hr.below⟩

def m60 (F : Nat) (a0 : Ice) (a1 : Int) (a2 : Bool) : Option (Int × Int) :=
 bnd (m121 F a0) (fun v1 => brk (!v1) (some (0, 20)) (bnd (m92 F a1 0 250) (fun v2 => brk (!v2) (some (0, 6)) (bnd (m97 F a0 a1 a2) (fun v3 => some (v3, 0))))))

theorem c60 (F : Nat) (a0 : Ice) (a1 : Int) (a2 : Bool) (w : World)  (r : Int × Int) (hm : m60 F a0 a1 a2 = some r) : Calls Tryd.prog 60 #[.agg #[.int .i64 a0.Conc, .int .i64 a0.Thick, .int .i64 a0.Ridge, .int .i64 a0.Press], .int .i64 a1, .bool a2] w fun e w' => e = .returned (.tuple #[.int .i64 r.1, .int .i64 r.2]) ∧ Below w.heap.size w w' := by
 unfold m60 at hm
 refine enter (args := [.g [.i a0.Conc, .i a0.Thick, .i a0.Ridge, .i a0.Press], .i a1, .B a2]) Tryd.func60 rfl (N := 18) rfl (Nat.le_of_ble_eq_true rfl) ?_
 refine aqS ?_
 refine aqT (rows := [_, _, _]) rfl (by kernel_rfl) ⟨
  okp rfl rfl (op_boxN (L := 1) (lN rfl) rfl rfl rfl),
  okp rfl rfl (oqA (lN rfl) rfl),
  okp rfl rfl (oqA (lN rfl) rfl),
  trivial⟩ ?_
 refine fqK (s' := [kt 1 (.i a1), kt 2 (.B a2), kt 3 (.p 1 0), kb 1 108 4, kc 1 0 (.i a0.Conc), kc 1 1 (.i a0.Thick), kc 1 2 (.i a0.Ridge), kc 1 3 (.i a0.Press)]) ?_ (kp rfl) rfl
 refine fqT ?_
 refine aqS ?_
 refine aqS ?_
 obtain ⟨v1, hv1, hm⟩ := bnd_some hm
 refine aqT (rows := [_, _, _]) rfl (by kernel_rfl) ⟨
  okp rfl rfl (oqL (ys := [.i a0.Conc, .i a0.Thick, .i a0.Ridge, .i a0.Press]) (lN rfl) sh_108 rfl rfl ⟨rfl, rfl, rfl, rfl, trivial⟩),
  okp rfl rfl (oqC (x := .B v1) (fs := []) (caps := []) (extra := []) (lN rfl) en_121 rfl ⟨rfl, rfl, rfl⟩ (EvL.cons rfl EvL.nil) (fun mm aa ww gg hr hrel => (c121 F a0 ww v1 hv1))),
  okp rfl rfl (op_not (lN rfl) rfl),
  trivial⟩ ?_
 refine fqK (s' := [kt 1 (.i a1), kt 2 (.B a2), kt 3 (.p 1 0), kt 10 (.B (!v1)), kb 1 108 4, kc 1 0 (.i a0.Conc), kc 1 1 (.i a0.Thick), kc 1 2 (.i a0.Ridge), kc 1 3 (.i a0.Press)]) ?_ (kp rfl) rfl
 refine fqT ?_
 refine aw_cond rfl (fun hz1 => ?_) (fun hz1 => ?_)
 ·have hm := brk_t hz1 hm
  refine aqS ?_
  refine aqT (rows := [_, _]) rfl (by kernel_rfl) ⟨
   okp rfl rfl (oqA (lN rfl) rfl),
   okp rfl rfl (oqA (lN rfl) rfl),
   trivial⟩ ?_
  refine fqK (s' := [kt 6 (.i 0), kt 7 (.i 20)]) ?_ (kp rfl) rfl
  refine fqT ?_
  refine aw_ret ?_
  refine fin_then_ret ?_
  refine post_ret (x := .t [.i 0, .i 20]) rfl rfl (rqT rfl (rqT rfl resOK_nil)) rfl (fun mm aa ww hr => ?_)
  have hm := Option.some.inj hm
  subst hm
  exact ⟨rfl, hr.below⟩
 ·have hm := brk_f hz1 hm
  refine aw_skip ?_
  refine fqT ?_
  refine aqS ?_
  refine aqS ?_
  obtain ⟨v2, hv2, hm⟩ := bnd_some hm
  refine aqT (rows := [_, _, _]) rfl (by kernel_rfl) ⟨
   okp rfl rfl (oqM (lN rfl) rfl),
   okp rfl rfl (oqC (x := .B v2) (fs := []) (caps := []) (extra := []) (lN rfl) en_92 rfl ⟨rfl, rfl, rfl⟩ (EvL.cons rfl (EvL.cons rfl (EvL.cons rfl EvL.nil))) (fun mm aa ww gg hr hrel => (c92 F a1 0 250 ww v2 hv2))),
   okp rfl rfl (op_not (lN rfl) rfl),
   trivial⟩ ?_
  refine fqK (s' := [kt 1 (.i a1), kt 2 (.B a2), kt 3 (.p 1 0), kt 13 (.B (!v2)), kb 1 108 4, kc 1 0 (.i a0.Conc), kc 1 1 (.i a0.Thick), kc 1 2 (.i a0.Ridge), kc 1 3 (.i a0.Press)]) ?_ (kp rfl) rfl
  refine fqT ?_
  refine aw_cond rfl (fun hz2 => ?_) (fun hz2 => ?_)
  ·have hm := brk_t hz2 hm
   refine aqS ?_
   refine aqT (rows := [_, _]) rfl (by kernel_rfl) ⟨
    okp rfl rfl (oqA (lN rfl) rfl),
    okp rfl rfl (oqA (lN rfl) rfl),
    trivial⟩ ?_
   refine fqK (s' := [kt 6 (.i 0), kt 7 (.i 6)]) ?_ (kp rfl) rfl
   refine fqT ?_
   refine aw_ret ?_
   refine fin_then_ret ?_
   refine post_ret (x := .t [.i 0, .i 6]) rfl rfl (rqT rfl (rqT rfl resOK_nil)) rfl (fun mm aa ww hr => ?_)
   have hm := Option.some.inj hm
   subst hm
   exact ⟨rfl, hr.below⟩
  ·have hm := brk_f hz2 hm
   refine aw_skip ?_
   refine fqT ?_
   refine aqS ?_
   obtain ⟨v3, hv3, hm⟩ := bnd_some hm
   refine aqT (rows := [_, _, _, _, _, _]) rfl (by kernel_rfl) ⟨
    okp rfl rfl (oqL (ys := [.i a0.Conc, .i a0.Thick, .i a0.Ridge, .i a0.Press]) (lN rfl) sh_108 rfl rfl ⟨rfl, rfl, rfl, rfl, trivial⟩),
    okp rfl rfl (oqM (lN rfl) rfl),
    okp rfl rfl (oqM (lN rfl) rfl),
    okp rfl rfl (oqC (x := .i v3) (fs := []) (caps := []) (extra := []) (lN rfl) en_97 rfl ⟨rfl, rfl, rfl⟩ (EvL.cons rfl (EvL.cons rfl (EvL.cons rfl EvL.nil))) (fun mm aa ww gg hr hrel => (c97 F a0 a1 a2 ww v3 hv3))),
    okp rfl rfl (oqA (lN rfl) rfl),
    okp rfl rfl (oqA (lN rfl) rfl),
    trivial⟩ ?_
   refine fqK (s' := [kt 6 (.i v3), kt 7 (.i 0)]) ?_ (kp rfl) rfl
   refine fqT ?_
   refine aw_ret ?_
   refine post_ret (x := .t [.i v3, .i 0]) rfl rfl (rqT rfl (rqT rfl resOK_nil)) rfl (fun mm aa ww hr => ?_)
   have hm := Option.some.inj hm
   subst hm
   exact ⟨rfl, hr.below⟩

def m62 (F : Nat) (a0 : Ship) (a1 : Ice) (a2 : Int) (a3 : Bool) : Option (Int × Int) :=
 bnd (m116 F a0 a1 a2) (fun v1 => brk (v1 != 0) (some (0, v1)) (bnd (m96 F a0 a1 a2 a3) (fun v2 => brk (!v2) (some (0, 4)) (bnd (m120 F a0 a1 a2 a3) (fun v3 => chk (InR (v3 * a2)) (chk (0 ≤ a0.Power ∧ a0.Power ≤ 9223372036854775807) (chk (0 ≤ (v3 * a2) ∧ (v3 * a2) ≤ 9223372036854775807) (chk (InR ((a0.Power / 10) + ((v3 * a2) / 50))) (join (fun (x1 : Int) => some (x1, 0)) (fun k1 => brk (decide (((v3 * a2) % 50) > 0)) (chk (InR (((a0.Power / 10) + ((v3 * a2) / 50)) + 1)) (k1 (((a0.Power / 10) + ((v3 * a2) / 50)) + 1))) (k1 ((a0.Power / 10) + ((v3 * a2) / 50)))))))))))))

theorem c62 (F : Nat) (a0 : Ship) (a0_Thrust_s : SlV) (a0_Water_s : SlV) (a0_Ice_s : SlV) (a1 : Ice) (a2 : Int) (a3 : Bool) (w : World) (ha0_Thrust : SlIs encPt 2 w a0_Thrust_s a0.Thrust) (ha0_Water : SlIs encPt 2 w a0_Water_s a0.Water) (ha0_Ice : SlIs encPt 2 w a0_Ice_s a0.Ice) (r : Int × Int) (hm : m62 F a0 a1 a2 a3 = some r) : Calls Tryd.prog 62 #[.agg #[.int .i64 a0.Class, .int .i64 a0.Power, .int .i64 a0.Draught, .int .i64 a0.Tonnes, .slice a0_Thrust_s.p a0_Thrust_s.n a0_Thrust_s.c, .slice a0_Water_s.p a0_Water_s.n a0_Water_s.c, .slice a0_Ice_s.p a0_Ice_s.n a0_Ice_s.c, .int .i64 a0.Slow, .int .i64 a0.Brash, .int .i64 a0.Ridge, .int .i64 a0.Press], .agg #[.int .i64 a1.Conc, .int .i64 a1.Thick, .int .i64 a1.Ridge, .int .i64 a1.Press], .int .i64 a2, .bool a3] w fun e w' => e = .returned (.tuple #[.int .i64 r.1, .int .i64 r.2]) ∧ Below w.heap.size w w' := by
 obtain ⟨a0Tp, a0Tn, a0Tc⟩ := a0_Thrust_s
 have ha0_Thrust_l : a0Tn = a0.Thrust.length := ha0_Thrust.1
 subst ha0_Thrust_l
 obtain ⟨a0_Thrust_b, a0To, ha0_Thrust_p, ha0_Thrust_L⟩ := SlAt.lies' ha0_Thrust
 obtain ⟨a0Wp, a0Wn, a0Wc⟩ := a0_Water_s
 have ha0_Water_l : a0Wn = a0.Water.length := ha0_Water.1
 subst ha0_Water_l
 obtain ⟨a0_Water_b, a0Wo, ha0_Water_p, ha0_Water_L⟩ := SlAt.lies' ha0_Water
 obtain ⟨a0Ip, a0In, a0Ic⟩ := a0_Ice_s
 have ha0_Ice_l : a0In = a0.Ice.length := ha0_Ice.1
 subst ha0_Ice_l
 obtain ⟨a0_Ice_b, a0Io, ha0_Ice_p, ha0_Ice_L⟩ := SlAt.lies' ha0_Ice
 unfold m62 at hm
 refine enter (args := [.g [.i a0.Class, .i a0.Power, .i a0.Draught, .i a0.Tonnes, .v (.slice a0Tp a0.Thrust.length a0Tc), .v (.slice a0Wp a0.Water.length a0Wc), .v (.slice a0Ip a0.Ice.length a0Ic), .i a0.Slow, .i a0.Brash, .i a0.Ridge, .i a0.Press], .g [.i a1.Conc, .i a1.Thick, .i a1.Ridge, .i a1.Press], .i a2, .B a3]) Tryd.func62 rfl (N := 45) rfl (Nat.le_of_ble_eq_true rfl) ?_
 refine aqS ?_
 refine aqT (rows := [_, _, _, _]) rfl (by kernel_rfl) ⟨
  okp rfl rfl (op_boxN (L := 1) (lN rfl) rfl rfl rfl),
  okp rfl rfl (op_boxN (L := 2) (lN rfl) rfl rfl rfl),
  okp rfl rfl (oqA (lN rfl) rfl),
  okp rfl rfl (oqA (lN rfl) rfl),
  trivial⟩ ?_
 refine fqK (s' := (kt 2 (.i a2) :: kt 3 (.B a3) :: kt 4 (.p 1 0) :: kt 5 (.p 2 0) :: kb 1 64 11 :: kb 2 108 4 :: sK 1 a0 (.v (.slice a0Tp a0.Thrust.length a0Tc)) (.v (.slice a0Wp a0.Water.length a0Wc)) (.v (.slice a0Ip a0.Ice.length a0Ic)) [kc 2 0 (.i a1.Conc), kc 2 1 (.i a1.Thick), kc 2 2 (.i a1.Ridge), kc 2 3 (.i a1.Press)])) ?_ (kp rfl) rfl
 refine fqT ?_
 refine aqS ?_
 refine aqS ?_
 obtain ⟨v1, hv1, hm⟩ := bnd_some hm
 refine aqT (rows := [_, _, _, _, _]) rfl (by kernel_rfl) ⟨
  okp rfl rfl (oqL (ys := [.i a0.Class, .i a0.Power, .i a0.Draught, .i a0.Tonnes, .v (.slice a0Tp a0.Thrust.length a0Tc), .v (.slice a0Wp a0.Water.length a0Wc), .v (.slice a0Ip a0.Ice.length a0Ic), .i a0.Slow, .i a0.Brash, .i a0.Ridge, .i a0.Press]) (lN rfl) sh_64 rfl rfl ⟨rfl, rfl, rfl, rfl, rfl, rfl, rfl, rfl, rfl, rfl, rfl, trivial⟩),
  okp rfl rfl (oqL (ys := [.i a1.Conc, .i a1.Thick, .i a1.Ridge, .i a1.Press]) (lN rfl) sh_108 rfl rfl ⟨rfl, rfl, rfl, rfl, trivial⟩),
  okp rfl rfl (oqM (lN rfl) rfl),
  okp rfl rfl (oqC (x := .i v1) (fs := []) (caps := []) (extra := []) (lN rfl) en_116 rfl ⟨rfl, rfl, rfl⟩ (EvL.cons rfl (EvL.cons rfl (EvL.cons rfl EvL.nil))) (fun mm aa ww gg hr hrel => (c116 F a0 ⟨a0Tp, a0.Thrust.length, a0Tc⟩ ⟨a0Wp, a0.Water.length, a0Wc⟩ ⟨a0Ip, a0.Ice.length, a0Ic⟩ a1 a2 ww (SlIs.mono ha0_Thrust hrel.below) (SlIs.mono ha0_Water hrel.below) (SlIs.mono ha0_Ice hrel.below) v1 hv1))),
  okp rfl rfl (oqA (lN rfl) rfl),
  trivial⟩ ?_
 refine fqK (s' := (kt 2 (.i a2) :: kt 3 (.B a3) :: kt 4 (.p 1 0) :: kt 5 (.p 2 0) :: kt 10 (.i v1) :: kb 1 64 11 :: kb 2 108 4 :: sK 1 a0 (.v (.slice a0Tp a0.Thrust.length a0Tc)) (.v (.slice a0Wp a0.Water.length a0Wc)) (.v (.slice a0Ip a0.Ice.length a0Ic)) [kc 2 0 (.i a1.Conc), kc 2 1 (.i a1.Thick), kc 2 2 (.i a1.Ridge), kc 2 3 (.i a1.Press)])) ?_ (kp rfl) rfl
 refine fqT ?_
 refine aqS ?_
 refine aqT (rows := [_, _]) rfl (by kernel_rfl) ⟨
  okp rfl rfl (oqM (lN rfl) rfl),
  okp rfl rfl (oqB (lN rfl) rfl rfl rfl),
  trivial⟩ ?_
 refine fqK (s' := (kt 2 (.i a2) :: kt 3 (.B a3) :: kt 4 (.p 1 0) :: kt 5 (.p 2 0) :: kt 10 (.i v1) :: kt 18 (.B (v1 != 0)) :: kb 1 64 11 :: kb 2 108 4 :: sK 1 a0 (.v (.slice a0Tp a0.Thrust.length a0Tc)) (.v (.slice a0Wp a0.Water.length a0Wc)) (.v (.slice a0Ip a0.Ice.length a0Ic)) [kc 2 0 (.i a1.Conc), kc 2 1 (.i a1.Thick), kc 2 2 (.i a1.Ridge), kc 2 3 (.i a1.Press)])) ?_ (kp rfl) rfl
 refine fqT ?_
 refine aw_cond rfl (fun hz1 => ?_) (fun hz1 => ?_)
 ·have hm := brk_t hz1 hm
  refine aqS ?_
  refine aqT (rows := [_, _, _]) rfl (by kernel_rfl) ⟨
   okp rfl rfl (oqM (lN rfl) rfl),
   okp rfl rfl (oqA (lN rfl) rfl),
   okp rfl rfl (oqA (lN rfl) rfl),
   trivial⟩ ?_
  refine fqK (s' := [kt 8 (.i 0), kt 9 (.i v1)]) ?_ (kp rfl) rfl
  refine fqT ?_
  refine aw_ret ?_
  refine fin_then_ret ?_
  refine post_ret (x := .t [.i 0, .i v1]) rfl rfl (rqT rfl (rqT rfl resOK_nil)) rfl (fun mm aa ww hr => ?_)
  have hm := Option.some.inj hm
  subst hm
  exact ⟨rfl, hr.below⟩
 ·have hm := brk_f hz1 hm
  refine aw_skip ?_
  refine fqT ?_
  refine aqS ?_
  refine aqS ?_
  obtain ⟨v2, hv2, hm⟩ := bnd_some hm
  refine aqT (rows := [_, _, _, _, _, _]) rfl (by kernel_rfl) ⟨
   okp rfl rfl (oqL (ys := [.i a0.Class, .i a0.Power, .i a0.Draught, .i a0.Tonnes, .v (.slice a0Tp a0.Thrust.length a0Tc), .v (.slice a0Wp a0.Water.length a0Wc), .v (.slice a0Ip a0.Ice.length a0Ic), .i a0.Slow, .i a0.Brash, .i a0.Ridge, .i a0.Press]) (lN rfl) sh_64 rfl rfl ⟨rfl, rfl, rfl, rfl, rfl, rfl, rfl, rfl, rfl, rfl, rfl, trivial⟩),
   okp rfl rfl (oqL (ys := [.i a1.Conc, .i a1.Thick, .i a1.Ridge, .i a1.Press]) (lN rfl) sh_108 rfl rfl ⟨rfl, rfl, rfl, rfl, trivial⟩),
   okp rfl rfl (oqM (lN rfl) rfl),
   okp rfl rfl (oqM (lN rfl) rfl),
   okp rfl rfl (oqC (x := .B v2) (fs := []) (caps := []) (extra := []) (lN rfl) en_96 rfl ⟨rfl, rfl, rfl⟩ (EvL.cons rfl (EvL.cons rfl (EvL.cons rfl (EvL.cons rfl EvL.nil)))) (fun mm aa ww gg hr hrel => (c96 F a0 ⟨a0Tp, a0.Thrust.length, a0Tc⟩ ⟨a0Wp, a0.Water.length, a0Wc⟩ ⟨a0Ip, a0.Ice.length, a0Ic⟩ a1 a2 a3 ww (SlIs.mono ha0_Thrust hrel.below) (SlIs.mono ha0_Water hrel.below) (SlIs.mono ha0_Ice hrel.below) v2 hv2))),
   okp rfl rfl (op_not (lN rfl) rfl),
   trivial⟩ ?_
  refine fqK (s' := (kt 2 (.i a2) :: kt 3 (.B a3) :: kt 4 (.p 1 0) :: kt 5 (.p 2 0) :: kt 25 (.B (!v2)) :: kb 1 64 11 :: kb 2 108 4 :: sK 1 a0 (.v (.slice a0Tp a0.Thrust.length a0Tc)) (.v (.slice a0Wp a0.Water.length a0Wc)) (.v (.slice a0Ip a0.Ice.length a0Ic)) [kc 2 0 (.i a1.Conc), kc 2 1 (.i a1.Thick), kc 2 2 (.i a1.Ridge), kc 2 3 (.i a1.Press)])) ?_ (kp rfl) rfl
  refine fqT ?_
  refine aw_cond rfl (fun hz2 => ?_) (fun hz2 => ?_)
  ·have hm := brk_t hz2 hm
   refine aqS ?_
   refine aqT (rows := [_, _]) rfl (by kernel_rfl) ⟨
    okp rfl rfl (oqA (lN rfl) rfl),
    okp rfl rfl (oqA (lN rfl) rfl),
    trivial⟩ ?_
   refine fqK (s' := [kt 8 (.i 0), kt 9 (.i 4)]) ?_ (kp rfl) rfl
   refine fqT ?_
   refine aw_ret ?_
   refine fin_then_ret ?_
   refine post_ret (x := .t [.i 0, .i 4]) rfl rfl (rqT rfl (rqT rfl resOK_nil)) rfl (fun mm aa ww hr => ?_)
   have hm := Option.some.inj hm
   subst hm
   exact ⟨rfl, hr.below⟩
  ·have hm := brk_f hz2 hm
   refine aw_skip ?_
   refine fqT ?_
   refine aqS ?_
   obtain ⟨v3, hv3, hm⟩ := bnd_some hm
   obtain ⟨hp3, hm⟩ := chk_some hm
   refine aqT (rows := [_, _, _, _, _, _, _, _]) rfl (by kernel_rfl) ⟨
    okp rfl rfl (oqL (ys := [.i a0.Class, .i a0.Power, .i a0.Draught, .i a0.Tonnes, .v (.slice a0Tp a0.Thrust.length a0Tc), .v (.slice a0Wp a0.Water.length a0Wc), .v (.slice a0Ip a0.Ice.length a0Ic), .i a0.Slow, .i a0.Brash, .i a0.Ridge, .i a0.Press]) (lN rfl) sh_64 rfl rfl ⟨rfl, rfl, rfl, rfl, rfl, rfl, rfl, rfl, rfl, rfl, rfl, trivial⟩),
    okp rfl rfl (oqL (ys := [.i a1.Conc, .i a1.Thick, .i a1.Ridge, .i a1.Press]) (lN rfl) sh_108 rfl rfl ⟨rfl, rfl, rfl, rfl, trivial⟩),
    okp rfl rfl (oqM (lN rfl) rfl),
    okp rfl rfl (oqM (lN rfl) rfl),
    okp rfl rfl (oqC (x := .i v3) (fs := []) (caps := []) (extra := []) (lN rfl) en_120 rfl ⟨rfl, rfl, rfl⟩ (EvL.cons rfl (EvL.cons rfl (EvL.cons rfl (EvL.cons rfl EvL.nil)))) (fun mm aa ww gg hr hrel => (c120 F a0 ⟨a0Tp, a0.Thrust.length, a0Tc⟩ ⟨a0Wp, a0.Water.length, a0Wc⟩ ⟨a0Ip, a0.Ice.length, a0Ic⟩ a1 a2 a3 ww (SlIs.mono ha0_Thrust hrel.below) (SlIs.mono ha0_Water hrel.below) (SlIs.mono ha0_Ice hrel.below) v3 hv3))),
    okp rfl rfl (oqM (lN rfl) rfl),
    okp rfl rfl (oqB (lN rfl) rfl rfl (nw_mul hp3)),
    okp rfl rfl (oqA (lN rfl) rfl),
    trivial⟩ ?_
   refine fqK (s' := (kt 4 (.p 1 0) :: kt 11 (.i (v3 * a2)) :: kb 1 64 11 :: sK 1 a0 (.v (.slice a0Tp a0.Thrust.length a0Tc)) (.v (.slice a0Wp a0.Water.length a0Wc)) (.v (.slice a0Ip a0.Ice.length a0Ic)) [])) ?_ (kp rfl) rfl
   refine fqT ?_
   refine aqS ?_
   obtain ⟨hp4, hm⟩ := chk_some hm
   obtain ⟨hp5, hm⟩ := chk_some hm
   obtain ⟨hp6, hm⟩ := chk_some hm
   refine aqT (rows := [_, _, _, _, _, _, _]) rfl (by kernel_rfl) ⟨
    okp rfl rfl (oqF (lN rfl) rfl fo_64_1),
    okp rfl rfl (oq1 (lN rfl) sh_3 rfl rfl),
    okp rfl rfl (op_quo (lN rfl) rfl rfl (by decide) (quo_nn hp4.1 (by decide) hp4.2)),
    okp rfl rfl (oqM (lN rfl) rfl),
    okp rfl rfl (op_quo (lN rfl) rfl rfl (by decide) (quo_nn hp5.1 (by decide) hp5.2)),
    okp rfl rfl (oqB (lN rfl) rfl rfl (nw_add hp6)),
    okp rfl rfl (oqA (lN rfl) rfl),
    trivial⟩ ?_
   refine fqK (s' := [kt 11 (.i (v3 * a2)), kt 12 (.i ((a0.Power / 10) + ((v3 * a2) / 50)))]) ?_ (kp rfl) rfl
   refine fqT ?_
   refine aw_cutM (ι := Int) hm (fun x1 => [kt 12 (.i x1)]) (fun hm => ?_) (fun x1 hm => ?_)
   ·have _z := hm
    refine aqS ?_
    refine aqT (rows := [_, _, _]) rfl (by kernel_rfl) ⟨
     okp rfl rfl (oqM (lN rfl) rfl),
     okp rfl rfl (op_rem (lN rfl) rfl rfl (by decide) (rem_nn hp5.1 (by decide) hp5.2)),
     okp rfl rfl (oqB (lN rfl) rfl rfl rfl),
     trivial⟩ ?_
    refine fqK (s' := [kt 12 (.i ((a0.Power / 10) + ((v3 * a2) / 50))), kt 41 (.B (decide (((v3 * a2) % 50) > 0)))]) ?_ (kp rfl) rfl
    refine fqT ?_
    refine aw_cond rfl (fun hz7 => ?_) (fun hz7 => ?_)
    ·have hm := brk_t hz7 hm
     obtain ⟨hp8, hm⟩ := chk_some hm
     refine aqT (rows := [_, _, _]) rfl (by kernel_rfl) ⟨
      okp rfl rfl (oqM (lN rfl) rfl),
      okp rfl rfl (oqB (lN rfl) rfl rfl (nw_add hp8)),
      okp rfl rfl (oqA (lN rfl) rfl),
      trivial⟩ ?_
     refine fqK (s' := [kt 12 (.i (((a0.Power / 10) + ((v3 * a2) / 50)) + 1))]) ?_ (kp rfl) rfl
     exact fin_cut (((a0.Power / 10) + ((v3 * a2) / 50)) + 1) hm ⟨rfl, trivial⟩ rfl
    ·have hm := brk_f hz7 hm
     refine aw_skip ?_
     exact fin_cut ((a0.Power / 10) + ((v3 * a2) / 50)) hm ⟨rfl, trivial⟩ rfl
   ·have _z := hm
    refine aqS ?_
    refine aqT (rows := [_, _, _]) rfl (by kernel_rfl) ⟨
     okp rfl rfl (oqM (lN rfl) rfl),
     okp rfl rfl (oqA (lN rfl) rfl),
     okp rfl rfl (oqA (lN rfl) rfl),
     trivial⟩ ?_
    refine fqK (s' := [kt 8 (.i x1), kt 9 (.i 0)]) ?_ (kp rfl) rfl
    refine fqT ?_
    refine aw_ret ?_
    refine post_ret (x := .t [.i x1, .i 0]) rfl rfl (rqT rfl (rqT rfl resOK_nil)) rfl (fun mm aa ww hr => ?_)
    have hm := Option.some.inj hm
    subst hm
    exact ⟨rfl, hr.below⟩

def m12 (F : Nat) (a0 : Ship) (a1 : Ice) (a2 : Cell) (a3 : Int) (a4 : Bool) : Option (Bool) :=
 bnd (m27 F a0) (fun v1 => brk (v1) (some true) (bnd (m28 F a0) (fun v2 => bnd (m32 F a0) (fun v3 => bnd (m57 F v3 a1 a3 a4) (fun v4 => brk ((((resistanceE v2 a1 a3 a4).1) != v4.1) || (((resistanceE v2 a1 a3 a4).2) != v4.2)) (some false) (bnd (m58 F v3 a1 a3 a4) (fun v5 => brk ((!(((makesE v2 a1 a3 a4).1) == (v5.1))) || (((makesE v2 a1 a3 a4).2) != v5.2)) (some false) (bnd (m59 F v3 a1 a4) (fun v6 => brk ((((speedE v2 a1 a4).1) != v6.1) || (((speedE v2 a1 a4).2) != v6.2)) (some false) (bnd (m60 F a1 a3 a4) (fun v7 => brk ((((loadE a1 a3 a4).1) != v7.1) || (((loadE a1 a3 a4).2) != v7.2)) (some false) (bnd (m61 F v2 a1 a3 a4) (fun v8 => bnd (m62 F v3 a1 a3 a4) (fun v9 => brk ((v8.1 != v9.1) || (v8.2 != v9.2)) (some false) (bnd (m55 F v2 a2 a4) (fun v10 => bnd (m63 F v3 a2 a4) (fun v11 => brk ((!decide (v10.1 = v11.1)) || (v10.2 != v11.2)) (some false) (bnd (m52 F v2 a2 a4) (fun v12 => bnd (m64 F v3 a2 a4) (fun v13 => brk (((!((v12.1) == (v13.1))) || (!((v12.2.1) == (v13.2.1)))) || (v12.2.2 != v13.2.2)) (some false) (bnd (m56 F v2 a2 a3 a4) (fun v14 => bnd (m65 F v3 a2 a3 a4) (fun v15 => brk (((!((v14.1) == (v15.1))) || (!((v14.2.1) == (v15.2.1)))) || (v14.2.2 != v15.2.2)) (some false) (bnd (m66 F v3 a2 a4) (fun v16 => bnd (brk (((((safeE v2 a2 a4).1) == v16.1) && (((safeE v2 a2 a4).2) == v16.2))) (m39 F a0 v2) (some default)) (fun v17 => some ((((((safeE v2 a2 a4).1) == v16.1) && (((safeE v2 a2 a4).2) == v16.2)) && v17) && true)))))))))))))))))))))))))))

set_option maxHeartbeats 8000000 in
set_option maxRecDepth 8000 in
theorem c12 (F : Nat) (a0 : Ship) (a0_Thrust_s : SlV) (a0_Water_s : SlV) (a0_Ice_s : SlV) (a1 : Ice) (a2 : Cell) (a3 : Int) (a4 : Bool) (w : World) (ha0_Thrust : SlIs encPt 2 w a0_Thrust_s a0.Thrust) (ha0_Water : SlIs encPt 2 w a0_Water_s a0.Water) (ha0_Ice : SlIs encPt 2 w a0_Ice_s a0.Ice) (hG : BoxAt w 0 (strengths.map (fun n => Value.int .i64 n))) (r : Bool) (hm : m12 F a0 a1 a2 a3 a4 = some r) : Calls Tryd.prog 12 #[.agg #[.int .i64 a0.Class, .int .i64 a0.Power, .int .i64 a0.Draught, .int .i64 a0.Tonnes, .slice a0_Thrust_s.p a0_Thrust_s.n a0_Thrust_s.c, .slice a0_Water_s.p a0_Water_s.n a0_Water_s.c, .slice a0_Ice_s.p a0_Ice_s.n a0_Ice_s.c, .int .i64 a0.Slow, .int .i64 a0.Brash, .int .i64 a0.Ridge, .int .i64 a0.Press], .agg #[.int .i64 a1.Conc, .int .i64 a1.Thick, .int .i64 a1.Ridge, .int .i64 a1.Press], .agg #[.int .i64 a2.Conc.Lo, .int .i64 a2.Conc.Hi, .int .i64 a2.Thick.Lo, .int .i64 a2.Thick.Hi, .int .i64 a2.Ridge.Lo, .int .i64 a2.Ridge.Hi, .int .i64 a2.Press.Lo, .int .i64 a2.Press.Hi], .int .i64 a3, .bool a4] w fun e w' => e = .returned (.bool r) ∧ Below w.heap.size w w' := by
 obtain ⟨a0Tp, a0Tn, a0Tc⟩ := a0_Thrust_s
 have ha0_Thrust_l : a0Tn = a0.Thrust.length := ha0_Thrust.1
 subst ha0_Thrust_l
 obtain ⟨a0_Thrust_b, a0To, ha0_Thrust_p, ha0_Thrust_L⟩ := SlAt.lies' ha0_Thrust
 obtain ⟨a0Wp, a0Wn, a0Wc⟩ := a0_Water_s
 have ha0_Water_l : a0Wn = a0.Water.length := ha0_Water.1
 subst ha0_Water_l
 obtain ⟨a0_Water_b, a0Wo, ha0_Water_p, ha0_Water_L⟩ := SlAt.lies' ha0_Water
 obtain ⟨a0Ip, a0In, a0Ic⟩ := a0_Ice_s
 have ha0_Ice_l : a0In = a0.Ice.length := ha0_Ice.1
 subst ha0_Ice_l
 obtain ⟨a0_Ice_b, a0Io, ha0_Ice_p, ha0_Ice_L⟩ := SlAt.lies' ha0_Ice
 unfold m12 at hm
 refine enter (args := [.g [.i a0.Class, .i a0.Power, .i a0.Draught, .i a0.Tonnes, .v (.slice a0Tp a0.Thrust.length a0Tc), .v (.slice a0Wp a0.Water.length a0Wc), .v (.slice a0Ip a0.Ice.length a0Ic), .i a0.Slow, .i a0.Brash, .i a0.Ridge, .i a0.Press], .g [.i a1.Conc, .i a1.Thick, .i a1.Ridge, .i a1.Press], .g [.i a2.Conc.Lo, .i a2.Conc.Hi, .i a2.Thick.Lo, .i a2.Thick.Hi, .i a2.Ridge.Lo, .i a2.Ridge.Hi, .i a2.Press.Lo, .i a2.Press.Hi], .i a3, .B a4]) Tryd.func12 rfl (N := 264) rfl (Nat.le_of_ble_eq_true rfl) ?_
 refine aqS ?_
 refine aqT (rows := [_, _, _, _]) rfl (by kernel_rfl) ⟨
  okp rfl rfl (op_boxN (L := 1) (lN rfl) rfl rfl rfl),
  okp rfl rfl (op_boxN (L := 2) (lN rfl) rfl rfl rfl),
  okp rfl rfl (op_boxN (L := 3) (lN rfl) rfl rfl rfl),
  okp rfl rfl (oqA (lN rfl) rfl),
  trivial⟩ ?_
 refine fqK (s' := (kt 3 (.i a3) :: kt 4 (.B a4) :: kt 5 (.p 1 0) :: kt 6 (.p 2 0) :: kt 7 (.p 3 0) :: kb 1 25 11 :: kb 2 28 4 :: kb 3 34 8 :: sK 1 a0 (.v (.slice a0Tp a0.Thrust.length a0Tc)) (.v (.slice a0Wp a0.Water.length a0Wc)) (.v (.slice a0Ip a0.Ice.length a0Ic)) [kc 2 0 (.i a1.Conc), kc 2 1 (.i a1.Thick), kc 2 2 (.i a1.Ridge), kc 2 3 (.i a1.Press), kc 3 0 (.i a2.Conc.Lo), kc 3 1 (.i a2.Conc.Hi), kc 3 2 (.i a2.Thick.Lo), kc 3 3 (.i a2.Thick.Hi), kc 3 4 (.i a2.Ridge.Lo), kc 3 5 (.i a2.Ridge.Hi), kc 3 6 (.i a2.Press.Lo), kc 3 7 (.i a2.Press.Hi)])) ?_ (kp rfl) rfl
 refine fqT ?_
 refine aqS ?_
 refine aqS ?_
 obtain ⟨v1, hv1, hm⟩ := bnd_some hm
 refine aqT (rows := [_, _]) rfl (by kernel_rfl) ⟨
  okp rfl rfl (oqL (ys := [.i a0.Class, .i a0.Power, .i a0.Draught, .i a0.Tonnes, .v (.slice a0Tp a0.Thrust.length a0Tc), .v (.slice a0Wp a0.Water.length a0Wc), .v (.slice a0Ip a0.Ice.length a0Ic), .i a0.Slow, .i a0.Brash, .i a0.Ridge, .i a0.Press]) (lN rfl) sh_25 rfl rfl ⟨rfl, rfl, rfl, rfl, rfl, rfl, rfl, rfl, rfl, rfl, rfl, trivial⟩),
  okp rfl rfl (oqC (x := .B v1) (fs := []) (caps := []) (extra := []) (lN rfl) en_27 rfl ⟨rfl, rfl, rfl⟩ (EvL.cons rfl EvL.nil) (fun mm aa ww gg hr hrel => (c27 F a0 ⟨a0Tp, a0.Thrust.length, a0Tc⟩ ⟨a0Wp, a0.Water.length, a0Wc⟩ ⟨a0Ip, a0.Ice.length, a0Ic⟩ ww (SlIs.mono ha0_Thrust hrel.below) (SlIs.mono ha0_Water hrel.below) (SlIs.mono ha0_Ice hrel.below) v1 hv1))),
  trivial⟩ ?_
 refine fqK (s' := (kt 3 (.i a3) :: kt 4 (.B a4) :: kt 5 (.p 1 0) :: kt 6 (.p 2 0) :: kt 7 (.p 3 0) :: kt 28 (.B v1) :: kb 1 25 11 :: kb 2 28 4 :: kb 3 34 8 :: sK 1 a0 (.v (.slice a0Tp a0.Thrust.length a0Tc)) (.v (.slice a0Wp a0.Water.length a0Wc)) (.v (.slice a0Ip a0.Ice.length a0Ic)) [kc 2 0 (.i a1.Conc), kc 2 1 (.i a1.Thick), kc 2 2 (.i a1.Ridge), kc 2 3 (.i a1.Press), kc 3 0 (.i a2.Conc.Lo), kc 3 1 (.i a2.Conc.Hi), kc 3 2 (.i a2.Thick.Lo), kc 3 3 (.i a2.Thick.Hi), kc 3 4 (.i a2.Ridge.Lo), kc 3 5 (.i a2.Ridge.Hi), kc 3 6 (.i a2.Press.Lo), kc 3 7 (.i a2.Press.Hi)])) ?_ (kp rfl) rfl
 refine fqT ?_
 refine aw_cond rfl (fun hz1 => ?_) (fun hz1 => ?_)
 ·have hm := brk_t hz1 hm
  refine aqS ?_
  refine aqT (rows := [_, _]) rfl (by kernel_rfl) ⟨
   okp rfl rfl (oqC (x := .B true) (fs := []) (caps := []) (extra := []) (lN rfl) en_21 rfl ⟨rfl, rfl, rfl⟩ EvL.nil (fun mm aa ww gg hr hrel => (c21 ww (BoxAt.mono hG hrel.below)))),
   okp rfl rfl (oqA (lN rfl) rfl),
   trivial⟩ ?_
  refine fqK (s' := [kt 10 (.B true)]) ?_ (kp rfl) rfl
  refine fqT ?_
  refine aw_ret ?_
  refine fin_then_ret ?_
  refine post_ret (x := .B true) rfl rfl (rqT rfl resOK_nil) rfl (fun mm aa ww hr => ?_)
  have hm := Option.some.inj hm
  subst hm
  exact ⟨rfl, hr.below⟩
 ·have hm := brk_f hz1 hm
  refine aw_skip ?_
  refine fqT ?_
  refine aqS ?_
  obtain ⟨v2, hv2, hm⟩ := bnd_some hm
  obtain ⟨v3, hv3, hm⟩ := bnd_some hm
  refine aw_any (rows := [_, _, _, _, _, _, _, _, _, _, _, _, _, _]) (M := [0, 1, 0, 7, 0, 0, 0, 0, 0, 0, 975, 1999, 4063, 8191]) Tryd_mixed (by kernel_rfl) rfl (by kernel_rfl) ⟨
   okp rfl rfl (oqL (ys := [.i a0.Class, .i a0.Power, .i a0.Draught, .i a0.Tonnes, .v (.slice a0Tp a0.Thrust.length a0Tc), .v (.slice a0Wp a0.Water.length a0Wc), .v (.slice a0Ip a0.Ice.length a0Ic), .i a0.Slow, .i a0.Brash, .i a0.Ridge, .i a0.Press]) (lN rfl) sh_25 rfl rfl ⟨rfl, rfl, rfl, rfl, rfl, rfl, rfl, rfl, rfl, rfl, rfl, trivial⟩),
   okp rfl rfl (op_callRowsD (x := .g [.i v2.Class, .i v2.Power, .i v2.Draught, .i v2.Tonnes, .o 4 5 v2.Thrust.length, .o 6 7 v2.Water.length, .o 8 9 v2.Ice.length, .i v2.Slow, .i v2.Brash, .i v2.Ridge, .i v2.Press]) (R := (fun vs => .agg #[.int .i64 v2.Class, .int .i64 v2.Power, .int .i64 v2.Draught, .int .i64 v2.Tonnes, (vs.getD 0 (.bool false)), (vs.getD 1 (.bool false)), (vs.getD 2 (.bool false)), .int .i64 v2.Slow, .int .i64 v2.Brash, .int .i64 v2.Ridge, .int .i64 v2.Press])) (ls := [(4, 5), (6, 7), (8, 9)]) (ds := [(v2.Thrust.length, 84, 2, v2.Thrust.flatMap encPt), (v2.Water.length, 84, 2, v2.Water.flatMap encPt), (v2.Ice.length, 84, 2, v2.Ice.flatMap encPt)]) (fs := []) (caps := []) (extra := []) (lN rfl) en_28 rfl ⟨rfl, rfl, rfl⟩ (EvL.cons rfl EvL.nil) rfl rfl (fun _ => rfl) (fun mm aa ww gg hr hrel => (c28 F a0 ⟨a0Tp, a0.Thrust.length, a0Tc⟩ ⟨a0Wp, a0.Water.length, a0Wc⟩ ⟨a0Ip, a0.Ice.length, a0Ic⟩ ww (SlIs.mono ha0_Thrust hrel.below) (SlIs.mono ha0_Water hrel.below) (SlIs.mono ha0_Ice hrel.below) v2 hv2))),
   okp rfl rfl (oqL (ys := [.i a0.Class, .i a0.Power, .i a0.Draught, .i a0.Tonnes, .v (.slice a0Tp a0.Thrust.length a0Tc), .v (.slice a0Wp a0.Water.length a0Wc), .v (.slice a0Ip a0.Ice.length a0Ic), .i a0.Slow, .i a0.Brash, .i a0.Ridge, .i a0.Press]) (lN rfl) sh_25 rfl rfl ⟨rfl, rfl, rfl, rfl, rfl, rfl, rfl, rfl, rfl, rfl, rfl, trivial⟩),
   okp rfl rfl (op_callRowsD (x := .g [.i v3.Class, .i v3.Power, .i v3.Draught, .i v3.Tonnes, .o 10 11 v3.Thrust.length, .o 12 13 v3.Water.length, .o 14 15 v3.Ice.length, .i v3.Slow, .i v3.Brash, .i v3.Ridge, .i v3.Press]) (R := (fun vs => .agg #[.int .i64 v3.Class, .int .i64 v3.Power, .int .i64 v3.Draught, .int .i64 v3.Tonnes, (vs.getD 0 (.bool false)), (vs.getD 1 (.bool false)), (vs.getD 2 (.bool false)), .int .i64 v3.Slow, .int .i64 v3.Brash, .int .i64 v3.Ridge, .int .i64 v3.Press])) (ls := [(10, 11), (12, 13), (14, 15)]) (ds := [(v3.Thrust.length, 170, 2, v3.Thrust.flatMap encPt), (v3.Water.length, 170, 2, v3.Water.flatMap encPt), (v3.Ice.length, 170, 2, v3.Ice.flatMap encPt)]) (fs := []) (caps := []) (extra := []) (lN rfl) en_32 rfl ⟨rfl, rfl, rfl⟩ (EvL.cons rfl EvL.nil) rfl rfl (fun _ => rfl) (fun mm aa ww gg hr hrel => (c32 F a0 ⟨a0Tp, a0.Thrust.length, a0Tc⟩ ⟨a0Wp, a0.Water.length, a0Wc⟩ ⟨a0Ip, a0.Ice.length, a0Ic⟩ ww (SlIs.mono ha0_Thrust hrel.below) (SlIs.mono ha0_Water hrel.below) (SlIs.mono ha0_Ice hrel.below) v3 hv3))),
   okp rfl rfl (oqL (ys := [.i a1.Conc, .i a1.Thick, .i a1.Ridge, .i a1.Press]) (lN rfl) sh_28 rfl rfl ⟨rfl, rfl, rfl, rfl, trivial⟩),
   okp rfl rfl (oqL (ys := [.i a2.Conc.Lo, .i a2.Conc.Hi, .i a2.Thick.Lo, .i a2.Thick.Hi, .i a2.Ridge.Lo, .i a2.Ridge.Hi, .i a2.Press.Lo, .i a2.Press.Hi]) (lN rfl) sh_34 rfl rfl ⟨rfl, rfl, rfl, rfl, rfl, rfl, rfl, rfl, trivial⟩),
   okp rfl rfl (op_alloc (L := 16) (lN rfl) zl_25),
   okp rfl rfl (op_alloc (L := 17) (lN rfl) zl_64),
   okp rfl rfl (op_alloc (L := 18) (lN rfl) zl_108),
   okp rfl rfl (op_alloc (L := 19) (lN rfl) zl_72),
   okp rfl rfl (op_storeN sz_25 rfl rfl rfl rfl rfl (by decide)),
   okp rfl rfl (op_storeN sz_64 rfl rfl rfl rfl rfl (by decide)),
   okp rfl rfl (op_storeN sz_108 rfl rfl rfl rfl rfl (by decide)),
   okp rfl rfl (op_storeN sz_72 rfl rfl rfl rfl rfl (by decide)),
   trivial⟩ ?_
  refine fqK (s' := (kt 3 (.i a3) :: kt 4 (.B a4) :: kt 5 (.p 1 0) :: kt 6 (.p 2 0) :: kt 7 (.p 3 0) :: kt 11 (.p 16 0) :: kt 12 (.p 17 0) :: kt 13 (.p 18 0) :: kt 14 (.p 19 0) :: kb 1 25 11 :: kb 2 28 4 :: kb 3 34 8 :: kb 16 25 11 :: kb 17 64 11 :: kb 18 108 4 :: kb 19 72 8 :: (.r 4, some (.vec true 5 84 2 (v2.Thrust.flatMap encPt))) :: (.r 6, some (.vec true 7 84 2 (v2.Water.flatMap encPt))) :: (.r 8, some (.vec true 9 84 2 (v2.Ice.flatMap encPt))) :: (.r 10, some (.vec true 11 170 2 (v3.Thrust.flatMap encPt))) :: (.r 12, some (.vec true 13 170 2 (v3.Water.flatMap encPt))) :: (.r 14, some (.vec true 15 170 2 (v3.Ice.flatMap encPt))) :: sK 1 a0 (.v (.slice a0Tp a0.Thrust.length a0Tc)) (.v (.slice a0Wp a0.Water.length a0Wc)) (.v (.slice a0Ip a0.Ice.length a0Ic)) (kc 2 0 (.i a1.Conc) :: kc 2 1 (.i a1.Thick) :: kc 2 2 (.i a1.Ridge) :: kc 2 3 (.i a1.Press) :: kc 3 0 (.i a2.Conc.Lo) :: kc 3 1 (.i a2.Conc.Hi) :: kc 3 2 (.i a2.Thick.Lo) :: kc 3 3 (.i a2.Thick.Hi) :: kc 3 4 (.i a2.Ridge.Lo) :: kc 3 5 (.i a2.Ridge.Hi) :: kc 3 6 (.i a2.Press.Lo) :: kc 3 7 (.i a2.Press.Hi) :: sK 16 v2 (.o 4 5 v2.Thrust.length) (.o 6 7 v2.Water.length) (.o 8 9 v2.Ice.length) (sK 17 v3 (.o 10 11 v3.Thrust.length) (.o 12 13 v3.Water.length) (.o 14 15 v3.Ice.length) [kc 18 0 (.i a1.Conc), kc 18 1 (.i a1.Thick), kc 18 2 (.i a1.Ridge), kc 18 3 (.i a1.Press), kc 19 0 (.i a2.Conc.Lo), kc 19 1 (.i a2.Conc.Hi), kc 19 2 (.i a2.Thick.Lo), kc 19 3 (.i a2.Thick.Hi), kc 19 4 (.i a2.Ridge.Lo), kc 19 5 (.i a2.Ridge.Hi), kc 19 6 (.i a2.Press.Lo), kc 19 7 (.i a2.Press.Hi)])))) ?_ (kp rfl) rfl
  refine fqT ?_
  refine aqS ?_
  refine aqT (rows := [_, _, _, _, _, _, _, _, _, _]) rfl (by kernel_rfl) ⟨
   okp rfl rfl (oqL (ys := [.i v2.Class, .i v2.Power, .i v2.Draught, .i v2.Tonnes, .o 4 5 v2.Thrust.length, .o 6 7 v2.Water.length, .o 8 9 v2.Ice.length, .i v2.Slow, .i v2.Brash, .i v2.Ridge, .i v2.Press]) (lN rfl) sh_25 rfl rfl ⟨rfl, rfl, rfl, rfl, rfl, rfl, rfl, rfl, rfl, rfl, rfl, trivial⟩),
   okp rfl rfl (oqL (ys := [.i a1.Conc, .i a1.Thick, .i a1.Ridge, .i a1.Press]) (lN rfl) sh_28 rfl rfl ⟨rfl, rfl, rfl, rfl, trivial⟩),
   okp rfl rfl (oqM (lN rfl) rfl),
   okp rfl rfl (oqM (lN rfl) rfl),
   okp rfl rfl (oqC (x := .t [.i ((resistanceE v2 a1 a3 a4).1), .i ((resistanceE v2 a1 a3 a4).2)]) (fs := []) (caps := []) (extra := (kapp [.r 4] (kapp [.r 6] (kapp [.r 8] [])))) (lN rfl) en_19 rfl ⟨rfl, rfl, rfl⟩ (EvL.cons rfl (EvL.cons rfl (EvL.cons rfl (EvL.cons rfl EvL.nil)))) (fun mm aa ww gg hr hrel => (c19 v2 ⟨ptr0 (mm 4) (mm 5), v2.Thrust.length, mm 5⟩ ⟨ptr0 (mm 6) (mm 7), v2.Water.length, mm 7⟩ ⟨ptr0 (mm 8) (mm 9), v2.Ice.length, mm 9⟩ a1 a3 a4 ww (slAt_row (enc := encPt) (l := v2.Thrust) (fun _ => rfl) (by decide) hrel ((hr _ (List.mem_append_left _ (by simp))).trans rfl)) (slAt_row (enc := encPt) (l := v2.Water) (fun _ => rfl) (by decide) hrel ((hr _ (List.mem_append_right _ (List.mem_append_left _ (by simp)))).trans rfl)) (slAt_row (enc := encPt) (l := v2.Ice) (fun _ => rfl) (by decide) hrel ((hr _ (List.mem_append_right _ (List.mem_append_right _ (List.mem_append_left _ (by simp))))).trans rfl))))),
   okp rfl rfl (oqM (lN rfl) rfl),
   okp rfl rfl (op_extract (lN rfl) rfl rfl),
   okp rfl rfl (op_extract (lN rfl) rfl rfl),
   okp rfl rfl (oqA (lN rfl) rfl),
   okp rfl rfl (oqA (lN rfl) rfl),
   trivial⟩ ?_
  refine fqK (s' := (kt 3 (.i a3) :: kt 4 (.B a4) :: kt 5 (.p 1 0) :: kt 6 (.p 2 0) :: kt 7 (.p 3 0) :: kt 11 (.p 16 0) :: kt 12 (.p 17 0) :: kt 13 (.p 18 0) :: kt 14 (.p 19 0) :: kt 15 (.i ((resistanceE v2 a1 a3 a4).1)) :: kt 16 (.i ((resistanceE v2 a1 a3 a4).2)) :: kb 1 25 11 :: kb 2 28 4 :: kb 3 34 8 :: kb 16 25 11 :: kb 17 64 11 :: kb 18 108 4 :: kb 19 72 8 :: (.r 4, some (.vec true 5 84 2 (v2.Thrust.flatMap encPt))) :: (.r 6, some (.vec true 7 84 2 (v2.Water.flatMap encPt))) :: (.r 8, some (.vec true 9 84 2 (v2.Ice.flatMap encPt))) :: (.r 10, some (.vec true 11 170 2 (v3.Thrust.flatMap encPt))) :: (.r 12, some (.vec true 13 170 2 (v3.Water.flatMap encPt))) :: (.r 14, some (.vec true 15 170 2 (v3.Ice.flatMap encPt))) :: sK 1 a0 (.v (.slice a0Tp a0.Thrust.length a0Tc)) (.v (.slice a0Wp a0.Water.length a0Wc)) (.v (.slice a0Ip a0.Ice.length a0Ic)) (kc 2 0 (.i a1.Conc) :: kc 2 1 (.i a1.Thick) :: kc 2 2 (.i a1.Ridge) :: kc 2 3 (.i a1.Press) :: kc 3 0 (.i a2.Conc.Lo) :: kc 3 1 (.i a2.Conc.Hi) :: kc 3 2 (.i a2.Thick.Lo) :: kc 3 3 (.i a2.Thick.Hi) :: kc 3 4 (.i a2.Ridge.Lo) :: kc 3 5 (.i a2.Ridge.Hi) :: kc 3 6 (.i a2.Press.Lo) :: kc 3 7 (.i a2.Press.Hi) :: sK 16 v2 (.o 4 5 v2.Thrust.length) (.o 6 7 v2.Water.length) (.o 8 9 v2.Ice.length) (sK 17 v3 (.o 10 11 v3.Thrust.length) (.o 12 13 v3.Water.length) (.o 14 15 v3.Ice.length) [kc 18 0 (.i a1.Conc), kc 18 1 (.i a1.Thick), kc 18 2 (.i a1.Ridge), kc 18 3 (.i a1.Press), kc 19 0 (.i a2.Conc.Lo), kc 19 1 (.i a2.Conc.Hi), kc 19 2 (.i a2.Thick.Lo), kc 19 3 (.i a2.Thick.Hi), kc 19 4 (.i a2.Ridge.Lo), kc 19 5 (.i a2.Ridge.Hi), kc 19 6 (.i a2.Press.Lo), kc 19 7 (.i a2.Press.Hi)])))) ?_ (kp rfl) rfl
  refine fqT ?_
  refine aqS ?_
  obtain ⟨v4, hv4, hm⟩ := bnd_some hm
  refine aqT (rows := [_, _, _, _, _, _, _, _, _, _]) rfl (by kernel_rfl) ⟨
   okp rfl rfl (oqL (ys := [.i v3.Class, .i v3.Power, .i v3.Draught, .i v3.Tonnes, .o 10 11 v3.Thrust.length, .o 12 13 v3.Water.length, .o 14 15 v3.Ice.length, .i v3.Slow, .i v3.Brash, .i v3.Ridge, .i v3.Press]) (lN rfl) sh_64 rfl rfl ⟨rfl, rfl, rfl, rfl, rfl, rfl, rfl, rfl, rfl, rfl, rfl, trivial⟩),
   okp rfl rfl (oqL (ys := [.i a1.Conc, .i a1.Thick, .i a1.Ridge, .i a1.Press]) (lN rfl) sh_108 rfl rfl ⟨rfl, rfl, rfl, rfl, trivial⟩),
   okp rfl rfl (oqM (lN rfl) rfl),
   okp rfl rfl (oqM (lN rfl) rfl),
   okp rfl rfl (oqC (x := .t [.i v4.1, .i v4.2]) (fs := []) (caps := []) (extra := (kapp [.r 10] (kapp [.r 12] (kapp [.r 14] [])))) (lN rfl) en_57 rfl ⟨rfl, rfl, rfl⟩ (EvL.cons rfl (EvL.cons rfl (EvL.cons rfl (EvL.cons rfl EvL.nil)))) (fun mm aa ww gg hr hrel => (c57 F v3 ⟨ptr0 (mm 10) (mm 11), v3.Thrust.length, mm 11⟩ ⟨ptr0 (mm 12) (mm 13), v3.Water.length, mm 13⟩ ⟨ptr0 (mm 14) (mm 15), v3.Ice.length, mm 15⟩ a1 a3 a4 ww (slAt_row (enc := encPt) (l := v3.Thrust) (fun _ => rfl) (by decide) hrel ((hr _ (List.mem_append_left _ (by simp))).trans rfl)) (slAt_row (enc := encPt) (l := v3.Water) (fun _ => rfl) (by decide) hrel ((hr _ (List.mem_append_right _ (List.mem_append_left _ (by simp)))).trans rfl)) (slAt_row (enc := encPt) (l := v3.Ice) (fun _ => rfl) (by decide) hrel ((hr _ (List.mem_append_right _ (List.mem_append_right _ (List.mem_append_left _ (by simp))))).trans rfl)) v4 hv4))),
   okp rfl rfl (oqM (lN rfl) rfl),
   okp rfl rfl (op_extract (lN rfl) rfl rfl),
   okp rfl rfl (op_extract (lN rfl) rfl rfl),
   okp rfl rfl (oqA (lN rfl) rfl),
   okp rfl rfl (oqA (lN rfl) rfl),
   trivial⟩ ?_
  refine fqK (s' := (kt 3 (.i a3) :: kt 4 (.B a4) :: kt 5 (.p 1 0) :: kt 6 (.p 2 0) :: kt 7 (.p 3 0) :: kt 11 (.p 16 0) :: kt 12 (.p 17 0) :: kt 13 (.p 18 0) :: kt 14 (.p 19 0) :: kt 15 (.i ((resistanceE v2 a1 a3 a4).1)) :: kt 16 (.i ((resistanceE v2 a1 a3 a4).2)) :: kt 17 (.i v4.1) :: kt 18 (.i v4.2) :: kb 1 25 11 :: kb 2 28 4 :: kb 3 34 8 :: kb 16 25 11 :: kb 17 64 11 :: kb 18 108 4 :: kb 19 72 8 :: (.r 4, some (.vec true 5 84 2 (v2.Thrust.flatMap encPt))) :: (.r 6, some (.vec true 7 84 2 (v2.Water.flatMap encPt))) :: (.r 8, some (.vec true 9 84 2 (v2.Ice.flatMap encPt))) :: (.r 10, some (.vec true 11 170 2 (v3.Thrust.flatMap encPt))) :: (.r 12, some (.vec true 13 170 2 (v3.Water.flatMap encPt))) :: (.r 14, some (.vec true 15 170 2 (v3.Ice.flatMap encPt))) :: sK 1 a0 (.v (.slice a0Tp a0.Thrust.length a0Tc)) (.v (.slice a0Wp a0.Water.length a0Wc)) (.v (.slice a0Ip a0.Ice.length a0Ic)) (kc 2 0 (.i a1.Conc) :: kc 2 1 (.i a1.Thick) :: kc 2 2 (.i a1.Ridge) :: kc 2 3 (.i a1.Press) :: kc 3 0 (.i a2.Conc.Lo) :: kc 3 1 (.i a2.Conc.Hi) :: kc 3 2 (.i a2.Thick.Lo) :: kc 3 3 (.i a2.Thick.Hi) :: kc 3 4 (.i a2.Ridge.Lo) :: kc 3 5 (.i a2.Ridge.Hi) :: kc 3 6 (.i a2.Press.Lo) :: kc 3 7 (.i a2.Press.Hi) :: sK 16 v2 (.o 4 5 v2.Thrust.length) (.o 6 7 v2.Water.length) (.o 8 9 v2.Ice.length) (sK 17 v3 (.o 10 11 v3.Thrust.length) (.o 12 13 v3.Water.length) (.o 14 15 v3.Ice.length) [kc 18 0 (.i a1.Conc), kc 18 1 (.i a1.Thick), kc 18 2 (.i a1.Ridge), kc 18 3 (.i a1.Press), kc 19 0 (.i a2.Conc.Lo), kc 19 1 (.i a2.Conc.Hi), kc 19 2 (.i a2.Thick.Lo), kc 19 3 (.i a2.Thick.Hi), kc 19 4 (.i a2.Ridge.Lo), kc 19 5 (.i a2.Ridge.Hi), kc 19 6 (.i a2.Press.Lo), kc 19 7 (.i a2.Press.Hi)])))) ?_ (kp rfl) rfl
  refine fqT ?_
  refine aqS ?_
  refine aqS ?_
  refine aqT (rows := [_, _, _, _, _, _, _, _]) rfl (by kernel_rfl) ⟨
   okp rfl rfl (oqM (lN rfl) rfl),
   okp rfl rfl (oqM (lN rfl) rfl),
   okp rfl rfl (oqB (lN rfl) rfl rfl rfl),
   okp rfl rfl (oqM (lN rfl) rfl),
   ok_if (lN rfl) rfl rfl rfl rfl rfl rfl (fun hg2 => oqM (lN rfl) (force_x rfl)),
   ok_if (lN rfl) rfl rfl rfl rfl rfl rfl (fun hg3 => oqM (lN rfl) (force_x rfl)),
   ok_if (lN rfl) rfl rfl rfl rfl rfl rfl (fun hg4 => oqB (lN rfl) (force_eq (beq_iff_eq.2 hg4) rfl) (force_eq (beq_iff_eq.2 hg4) rfl) rfl),
   okp rfl rfl (op_or (lN rfl) rfl rfl),
   trivial⟩ ?_
  refine fqK (s' := (kt 3 (.i a3) :: kt 4 (.B a4) :: kt 5 (.p 1 0) :: kt 6 (.p 2 0) :: kt 7 (.p 3 0) :: kt 11 (.p 16 0) :: kt 12 (.p 17 0) :: kt 13 (.p 18 0) :: kt 14 (.p 19 0) :: kt 59 (.B ((((resistanceE v2 a1 a3 a4).1) != v4.1) || (((resistanceE v2 a1 a3 a4).2) != v4.2))) :: kb 1 25 11 :: kb 2 28 4 :: kb 3 34 8 :: kb 16 25 11 :: kb 17 64 11 :: kb 18 108 4 :: kb 19 72 8 :: (.r 4, some (.vec true 5 84 2 (v2.Thrust.flatMap encPt))) :: (.r 6, some (.vec true 7 84 2 (v2.Water.flatMap encPt))) :: (.r 8, some (.vec true 9 84 2 (v2.Ice.flatMap encPt))) :: (.r 10, some (.vec true 11 170 2 (v3.Thrust.flatMap encPt))) :: (.r 12, some (.vec true 13 170 2 (v3.Water.flatMap encPt))) :: (.r 14, some (.vec true 15 170 2 (v3.Ice.flatMap encPt))) :: sK 1 a0 (.v (.slice a0Tp a0.Thrust.length a0Tc)) (.v (.slice a0Wp a0.Water.length a0Wc)) (.v (.slice a0Ip a0.Ice.length a0Ic)) (kc 2 0 (.i a1.Conc) :: kc 2 1 (.i a1.Thick) :: kc 2 2 (.i a1.Ridge) :: kc 2 3 (.i a1.Press) :: kc 3 0 (.i a2.Conc.Lo) :: kc 3 1 (.i a2.Conc.Hi) :: kc 3 2 (.i a2.Thick.Lo) :: kc 3 3 (.i a2.Thick.Hi) :: kc 3 4 (.i a2.Ridge.Lo) :: kc 3 5 (.i a2.Ridge.Hi) :: kc 3 6 (.i a2.Press.Lo) :: kc 3 7 (.i a2.Press.Hi) :: sK 16 v2 (.o 4 5 v2.Thrust.length) (.o 6 7 v2.Water.length) (.o 8 9 v2.Ice.length) (sK 17 v3 (.o 10 11 v3.Thrust.length) (.o 12 13 v3.Water.length) (.o 14 15 v3.Ice.length) [kc 18 0 (.i a1.Conc), kc 18 1 (.i a1.Thick), kc 18 2 (.i a1.Ridge), kc 18 3 (.i a1.Press), kc 19 0 (.i a2.Conc.Lo), kc 19 1 (.i a2.Conc.Hi), kc 19 2 (.i a2.Thick.Lo), kc 19 3 (.i a2.Thick.Hi), kc 19 4 (.i a2.Ridge.Lo), kc 19 5 (.i a2.Ridge.Hi), kc 19 6 (.i a2.Press.Lo), kc 19 7 (.i a2.Press.Hi)])))) ?_ (kp rfl) rfl
  refine fqT ?_
  refine aw_cond rfl (fun hz5 => ?_) (fun hz5 => ?_)
  ·have hm := brk_t hz5 hm
   refine aqS ?_
   refine aqT (rows := [_]) rfl (by kernel_rfl) ⟨
    okp rfl rfl (oqA (lN rfl) rfl),
    trivial⟩ ?_
   refine fqK (s' := [kt 10 (.B false)]) ?_ (kp rfl) rfl
   refine fqT ?_
   refine aw_ret ?_
   refine fin_then_ret ?_
   refine post_ret (x := .B false) rfl rfl (rqT rfl resOK_nil) rfl (fun mm aa ww hr => ?_)
   have hm := Option.some.inj hm
   subst hm
   exact ⟨rfl, hr.below⟩
  ·have hm := brk_f hz5 hm
   refine aw_skip ?_
   refine fqT ?_
   refine aqS ?_
   refine aqT (rows := [_, _, _, _, _, _, _, _, _, _]) rfl (by kernel_rfl) ⟨
    okp rfl rfl (oqL (ys := [.i v2.Class, .i v2.Power, .i v2.Draught, .i v2.Tonnes, .o 4 5 v2.Thrust.length, .o 6 7 v2.Water.length, .o 8 9 v2.Ice.length, .i v2.Slow, .i v2.Brash, .i v2.Ridge, .i v2.Press]) (lN rfl) sh_25 rfl rfl ⟨rfl, rfl, rfl, rfl, rfl, rfl, rfl, rfl, rfl, rfl, rfl, trivial⟩),
    okp rfl rfl (oqL (ys := [.i a1.Conc, .i a1.Thick, .i a1.Ridge, .i a1.Press]) (lN rfl) sh_28 rfl rfl ⟨rfl, rfl, rfl, rfl, trivial⟩),
    okp rfl rfl (oqM (lN rfl) rfl),
    okp rfl rfl (oqM (lN rfl) rfl),
    okp rfl rfl (oqC (x := .t [.B ((makesE v2 a1 a3 a4).1), .i ((makesE v2 a1 a3 a4).2)]) (fs := []) (caps := []) (extra := (kapp [.r 4] (kapp [.r 6] (kapp [.r 8] [])))) (lN rfl) en_41 rfl ⟨rfl, rfl, rfl⟩ (EvL.cons rfl (EvL.cons rfl (EvL.cons rfl (EvL.cons rfl EvL.nil)))) (fun mm aa ww gg hr hrel => (c41 v2 ⟨ptr0 (mm 4) (mm 5), v2.Thrust.length, mm 5⟩ ⟨ptr0 (mm 6) (mm 7), v2.Water.length, mm 7⟩ ⟨ptr0 (mm 8) (mm 9), v2.Ice.length, mm 9⟩ a1 a3 a4 ww (slAt_row (enc := encPt) (l := v2.Thrust) (fun _ => rfl) (by decide) hrel ((hr _ (List.mem_append_left _ (by simp))).trans rfl)) (slAt_row (enc := encPt) (l := v2.Water) (fun _ => rfl) (by decide) hrel ((hr _ (List.mem_append_right _ (List.mem_append_left _ (by simp)))).trans rfl)) (slAt_row (enc := encPt) (l := v2.Ice) (fun _ => rfl) (by decide) hrel ((hr _ (List.mem_append_right _ (List.mem_append_right _ (List.mem_append_left _ (by simp))))).trans rfl))))),
    okp rfl rfl (oqM (lN rfl) rfl),
    okp rfl rfl (op_extract (lN rfl) rfl rfl),
    okp rfl rfl (op_extract (lN rfl) rfl rfl),
    okp rfl rfl (oqA (lN rfl) rfl),
    okp rfl rfl (oqA (lN rfl) rfl),
    trivial⟩ ?_
   refine fqK (s' := (kt 3 (.i a3) :: kt 4 (.B a4) :: kt 5 (.p 1 0) :: kt 6 (.p 2 0) :: kt 7 (.p 3 0) :: kt 11 (.p 16 0) :: kt 12 (.p 17 0) :: kt 13 (.p 18 0) :: kt 14 (.p 19 0) :: kt 16 (.i ((makesE v2 a1 a3 a4).2)) :: kt 19 (.B ((makesE v2 a1 a3 a4).1)) :: kb 1 25 11 :: kb 2 28 4 :: kb 3 34 8 :: kb 16 25 11 :: kb 17 64 11 :: kb 18 108 4 :: kb 19 72 8 :: (.r 4, some (.vec true 5 84 2 (v2.Thrust.flatMap encPt))) :: (.r 6, some (.vec true 7 84 2 (v2.Water.flatMap encPt))) :: (.r 8, some (.vec true 9 84 2 (v2.Ice.flatMap encPt))) :: (.r 10, some (.vec true 11 170 2 (v3.Thrust.flatMap encPt))) :: (.r 12, some (.vec true 13 170 2 (v3.Water.flatMap encPt))) :: (.r 14, some (.vec true 15 170 2 (v3.Ice.flatMap encPt))) :: sK 1 a0 (.v (.slice a0Tp a0.Thrust.length a0Tc)) (.v (.slice a0Wp a0.Water.length a0Wc)) (.v (.slice a0Ip a0.Ice.length a0Ic)) (kc 2 0 (.i a1.Conc) :: kc 2 1 (.i a1.Thick) :: kc 2 2 (.i a1.Ridge) :: kc 2 3 (.i a1.Press) :: kc 3 0 (.i a2.Conc.Lo) :: kc 3 1 (.i a2.Conc.Hi) :: kc 3 2 (.i a2.Thick.Lo) :: kc 3 3 (.i a2.Thick.Hi) :: kc 3 4 (.i a2.Ridge.Lo) :: kc 3 5 (.i a2.Ridge.Hi) :: kc 3 6 (.i a2.Press.Lo) :: kc 3 7 (.i a2.Press.Hi) :: sK 16 v2 (.o 4 5 v2.Thrust.length) (.o 6 7 v2.Water.length) (.o 8 9 v2.Ice.length) (sK 17 v3 (.o 10 11 v3.Thrust.length) (.o 12 13 v3.Water.length) (.o 14 15 v3.Ice.length) [kc 18 0 (.i a1.Conc), kc 18 1 (.i a1.Thick), kc 18 2 (.i a1.Ridge), kc 18 3 (.i a1.Press), kc 19 0 (.i a2.Conc.Lo), kc 19 1 (.i a2.Conc.Hi), kc 19 2 (.i a2.Thick.Lo), kc 19 3 (.i a2.Thick.Hi), kc 19 4 (.i a2.Ridge.Lo), kc 19 5 (.i a2.Ridge.Hi), kc 19 6 (.i a2.Press.Lo), kc 19 7 (.i a2.Press.Hi)])))) ?_ (kp rfl) rfl
   refine fqT ?_
   refine aqS ?_
   obtain ⟨v5, hv5, hm⟩ := bnd_some hm
   refine aqT (rows := [_, _, _, _, _, _, _, _, _, _]) rfl (by kernel_rfl) ⟨
    okp rfl rfl (oqL (ys := [.i v3.Class, .i v3.Power, .i v3.Draught, .i v3.Tonnes, .o 10 11 v3.Thrust.length, .o 12 13 v3.Water.length, .o 14 15 v3.Ice.length, .i v3.Slow, .i v3.Brash, .i v3.Ridge, .i v3.Press]) (lN rfl) sh_64 rfl rfl ⟨rfl, rfl, rfl, rfl, rfl, rfl, rfl, rfl, rfl, rfl, rfl, trivial⟩),
    okp rfl rfl (oqL (ys := [.i a1.Conc, .i a1.Thick, .i a1.Ridge, .i a1.Press]) (lN rfl) sh_108 rfl rfl ⟨rfl, rfl, rfl, rfl, trivial⟩),
    okp rfl rfl (oqM (lN rfl) rfl),
    okp rfl rfl (oqM (lN rfl) rfl),
    okp rfl rfl (oqC (x := .t [.B v5.1, .i v5.2]) (fs := []) (caps := []) (extra := (kapp [.r 10] (kapp [.r 12] (kapp [.r 14] [])))) (lN rfl) en_58 rfl ⟨rfl, rfl, rfl⟩ (EvL.cons rfl (EvL.cons rfl (EvL.cons rfl (EvL.cons rfl EvL.nil)))) (fun mm aa ww gg hr hrel => (c58 F v3 ⟨ptr0 (mm 10) (mm 11), v3.Thrust.length, mm 11⟩ ⟨ptr0 (mm 12) (mm 13), v3.Water.length, mm 13⟩ ⟨ptr0 (mm 14) (mm 15), v3.Ice.length, mm 15⟩ a1 a3 a4 ww (slAt_row (enc := encPt) (l := v3.Thrust) (fun _ => rfl) (by decide) hrel ((hr _ (List.mem_append_left _ (by simp))).trans rfl)) (slAt_row (enc := encPt) (l := v3.Water) (fun _ => rfl) (by decide) hrel ((hr _ (List.mem_append_right _ (List.mem_append_left _ (by simp)))).trans rfl)) (slAt_row (enc := encPt) (l := v3.Ice) (fun _ => rfl) (by decide) hrel ((hr _ (List.mem_append_right _ (List.mem_append_right _ (List.mem_append_left _ (by simp))))).trans rfl)) v5 hv5))),
    okp rfl rfl (oqM (lN rfl) rfl),
    okp rfl rfl (op_extract (lN rfl) rfl rfl),
    okp rfl rfl (op_extract (lN rfl) rfl rfl),
    okp rfl rfl (oqA (lN rfl) rfl),
    okp rfl rfl (oqA (lN rfl) rfl),
    trivial⟩ ?_
   refine fqK (s' := (kt 3 (.i a3) :: kt 4 (.B a4) :: kt 5 (.p 1 0) :: kt 6 (.p 2 0) :: kt 7 (.p 3 0) :: kt 11 (.p 16 0) :: kt 12 (.p 17 0) :: kt 13 (.p 18 0) :: kt 14 (.p 19 0) :: kt 16 (.i ((makesE v2 a1 a3 a4).2)) :: kt 18 (.i v5.2) :: kt 19 (.B ((makesE v2 a1 a3 a4).1)) :: kt 20 (.B v5.1) :: kb 1 25 11 :: kb 2 28 4 :: kb 3 34 8 :: kb 16 25 11 :: kb 17 64 11 :: kb 18 108 4 :: kb 19 72 8 :: (.r 4, some (.vec true 5 84 2 (v2.Thrust.flatMap encPt))) :: (.r 6, some (.vec true 7 84 2 (v2.Water.flatMap encPt))) :: (.r 8, some (.vec true 9 84 2 (v2.Ice.flatMap encPt))) :: (.r 10, some (.vec true 11 170 2 (v3.Thrust.flatMap encPt))) :: (.r 12, some (.vec true 13 170 2 (v3.Water.flatMap encPt))) :: (.r 14, some (.vec true 15 170 2 (v3.Ice.flatMap encPt))) :: sK 1 a0 (.v (.slice a0Tp a0.Thrust.length a0Tc)) (.v (.slice a0Wp a0.Water.length a0Wc)) (.v (.slice a0Ip a0.Ice.length a0Ic)) (kc 2 0 (.i a1.Conc) :: kc 2 1 (.i a1.Thick) :: kc 2 2 (.i a1.Ridge) :: kc 2 3 (.i a1.Press) :: kc 3 0 (.i a2.Conc.Lo) :: kc 3 1 (.i a2.Conc.Hi) :: kc 3 2 (.i a2.Thick.Lo) :: kc 3 3 (.i a2.Thick.Hi) :: kc 3 4 (.i a2.Ridge.Lo) :: kc 3 5 (.i a2.Ridge.Hi) :: kc 3 6 (.i a2.Press.Lo) :: kc 3 7 (.i a2.Press.Hi) :: sK 16 v2 (.o 4 5 v2.Thrust.length) (.o 6 7 v2.Water.length) (.o 8 9 v2.Ice.length) (sK 17 v3 (.o 10 11 v3.Thrust.length) (.o 12 13 v3.Water.length) (.o 14 15 v3.Ice.length) [kc 18 0 (.i a1.Conc), kc 18 1 (.i a1.Thick), kc 18 2 (.i a1.Ridge), kc 18 3 (.i a1.Press), kc 19 0 (.i a2.Conc.Lo), kc 19 1 (.i a2.Conc.Hi), kc 19 2 (.i a2.Thick.Lo), kc 19 3 (.i a2.Thick.Hi), kc 19 4 (.i a2.Ridge.Lo), kc 19 5 (.i a2.Ridge.Hi), kc 19 6 (.i a2.Press.Lo), kc 19 7 (.i a2.Press.Hi)])))) ?_ (kp rfl) rfl
   refine fqT ?_
   refine aqS ?_
   refine aqS ?_
   refine aqT (rows := [_, _, _, _, _, _, _, _]) rfl (by kernel_rfl) ⟨
    okp rfl rfl (oqM (lN rfl) rfl),
    okp rfl rfl (oqM (lN rfl) rfl),
    okp rfl rfl (op_neb (lN rfl) rfl rfl un_4),
    okp rfl rfl (oqM (lN rfl) rfl),
    ok_if (lN rfl) rfl rfl rfl rfl rfl rfl (fun hg6 => oqM (lN rfl) (force_x rfl)),
    ok_if (lN rfl) rfl rfl rfl rfl rfl rfl (fun hg7 => oqM (lN rfl) (force_x rfl)),
    ok_if (lN rfl) rfl rfl rfl rfl rfl rfl (fun hg8 => oqB (lN rfl) (force_eq (beq_iff_eq.2 hg8) rfl) (force_eq (beq_iff_eq.2 hg8) rfl) rfl),
    okp rfl rfl (op_or (lN rfl) rfl rfl),
    trivial⟩ ?_
   refine fqK (s' := (kt 3 (.i a3) :: kt 4 (.B a4) :: kt 5 (.p 1 0) :: kt 6 (.p 2 0) :: kt 7 (.p 3 0) :: kt 11 (.p 16 0) :: kt 12 (.p 17 0) :: kt 13 (.p 18 0) :: kt 14 (.p 19 0) :: kt 83 (.B ((!(((makesE v2 a1 a3 a4).1) == (v5.1))) || (((makesE v2 a1 a3 a4).2) != v5.2))) :: kb 1 25 11 :: kb 2 28 4 :: kb 3 34 8 :: kb 16 25 11 :: kb 17 64 11 :: kb 18 108 4 :: kb 19 72 8 :: (.r 4, some (.vec true 5 84 2 (v2.Thrust.flatMap encPt))) :: (.r 6, some (.vec true 7 84 2 (v2.Water.flatMap encPt))) :: (.r 8, some (.vec true 9 84 2 (v2.Ice.flatMap encPt))) :: (.r 10, some (.vec true 11 170 2 (v3.Thrust.flatMap encPt))) :: (.r 12, some (.vec true 13 170 2 (v3.Water.flatMap encPt))) :: (.r 14, some (.vec true 15 170 2 (v3.Ice.flatMap encPt))) :: sK 1 a0 (.v (.slice a0Tp a0.Thrust.length a0Tc)) (.v (.slice a0Wp a0.Water.length a0Wc)) (.v (.slice a0Ip a0.Ice.length a0Ic)) (kc 2 0 (.i a1.Conc) :: kc 2 1 (.i a1.Thick) :: kc 2 2 (.i a1.Ridge) :: kc 2 3 (.i a1.Press) :: kc 3 0 (.i a2.Conc.Lo) :: kc 3 1 (.i a2.Conc.Hi) :: kc 3 2 (.i a2.Thick.Lo) :: kc 3 3 (.i a2.Thick.Hi) :: kc 3 4 (.i a2.Ridge.Lo) :: kc 3 5 (.i a2.Ridge.Hi) :: kc 3 6 (.i a2.Press.Lo) :: kc 3 7 (.i a2.Press.Hi) :: sK 16 v2 (.o 4 5 v2.Thrust.length) (.o 6 7 v2.Water.length) (.o 8 9 v2.Ice.length) (sK 17 v3 (.o 10 11 v3.Thrust.length) (.o 12 13 v3.Water.length) (.o 14 15 v3.Ice.length) [kc 18 0 (.i a1.Conc), kc 18 1 (.i a1.Thick), kc 18 2 (.i a1.Ridge), kc 18 3 (.i a1.Press), kc 19 0 (.i a2.Conc.Lo), kc 19 1 (.i a2.Conc.Hi), kc 19 2 (.i a2.Thick.Lo), kc 19 3 (.i a2.Thick.Hi), kc 19 4 (.i a2.Ridge.Lo), kc 19 5 (.i a2.Ridge.Hi), kc 19 6 (.i a2.Press.Lo), kc 19 7 (.i a2.Press.Hi)])))) ?_ (kp rfl) rfl
   refine fqT ?_
   refine aw_cond rfl (fun hz9 => ?_) (fun hz9 => ?_)
   ·have hm := brk_t hz9 hm
    refine aqS ?_
    refine aqT (rows := [_]) rfl (by kernel_rfl) ⟨
     okp rfl rfl (oqA (lN rfl) rfl),
     trivial⟩ ?_
    refine fqK (s' := [kt 10 (.B false)]) ?_ (kp rfl) rfl
    refine fqT ?_
    refine aw_ret ?_
    refine fin_then_ret ?_
    refine post_ret (x := .B false) rfl rfl (rqT rfl resOK_nil) rfl (fun mm aa ww hr => ?_)
    have hm := Option.some.inj hm
    subst hm
    exact ⟨rfl, hr.below⟩
   ·have hm := brk_f hz9 hm
    refine aw_skip ?_
    refine fqT ?_
    refine aqS ?_
    refine aqT (rows := [_, _, _, _, _, _, _, _, _]) rfl (by kernel_rfl) ⟨
     okp rfl rfl (oqL (ys := [.i v2.Class, .i v2.Power, .i v2.Draught, .i v2.Tonnes, .o 4 5 v2.Thrust.length, .o 6 7 v2.Water.length, .o 8 9 v2.Ice.length, .i v2.Slow, .i v2.Brash, .i v2.Ridge, .i v2.Press]) (lN rfl) sh_25 rfl rfl ⟨rfl, rfl, rfl, rfl, rfl, rfl, rfl, rfl, rfl, rfl, rfl, trivial⟩),
     okp rfl rfl (oqL (ys := [.i a1.Conc, .i a1.Thick, .i a1.Ridge, .i a1.Press]) (lN rfl) sh_28 rfl rfl ⟨rfl, rfl, rfl, rfl, trivial⟩),
     okp rfl rfl (oqM (lN rfl) rfl),
     okp rfl rfl (oqC (x := .t [.i ((speedE v2 a1 a4).1), .i ((speedE v2 a1 a4).2)]) (fs := []) (caps := []) (extra := (kapp [.r 4] (kapp [.r 6] (kapp [.r 8] [])))) (lN rfl) en_18 rfl ⟨rfl, rfl, rfl⟩ (EvL.cons rfl (EvL.cons rfl (EvL.cons rfl EvL.nil))) (fun mm aa ww gg hr hrel => (c18 v2 ⟨ptr0 (mm 4) (mm 5), v2.Thrust.length, mm 5⟩ ⟨ptr0 (mm 6) (mm 7), v2.Water.length, mm 7⟩ ⟨ptr0 (mm 8) (mm 9), v2.Ice.length, mm 9⟩ a1 a4 ww (slAt_row (enc := encPt) (l := v2.Thrust) (fun _ => rfl) (by decide) hrel ((hr _ (List.mem_append_left _ (by simp))).trans rfl)) (slAt_row (enc := encPt) (l := v2.Water) (fun _ => rfl) (by decide) hrel ((hr _ (List.mem_append_right _ (List.mem_append_left _ (by simp)))).trans rfl)) (slAt_row (enc := encPt) (l := v2.Ice) (fun _ => rfl) (by decide) hrel ((hr _ (List.mem_append_right _ (List.mem_append_right _ (List.mem_append_left _ (by simp))))).trans rfl))))),
     okp rfl rfl (oqM (lN rfl) rfl),
     okp rfl rfl (op_extract (lN rfl) rfl rfl),
     okp rfl rfl (op_extract (lN rfl) rfl rfl),
     okp rfl rfl (oqA (lN rfl) rfl),
     okp rfl rfl (oqA (lN rfl) rfl),
     trivial⟩ ?_
    refine fqK (s' := (kt 3 (.i a3) :: kt 4 (.B a4) :: kt 5 (.p 1 0) :: kt 6 (.p 2 0) :: kt 7 (.p 3 0) :: kt 11 (.p 16 0) :: kt 12 (.p 17 0) :: kt 13 (.p 18 0) :: kt 14 (.p 19 0) :: kt 15 (.i ((speedE v2 a1 a4).1)) :: kt 16 (.i ((speedE v2 a1 a4).2)) :: kb 1 25 11 :: kb 2 28 4 :: kb 3 34 8 :: kb 16 25 11 :: kb 17 64 11 :: kb 18 108 4 :: kb 19 72 8 :: (.r 4, some (.vec true 5 84 2 (v2.Thrust.flatMap encPt))) :: (.r 6, some (.vec true 7 84 2 (v2.Water.flatMap encPt))) :: (.r 8, some (.vec true 9 84 2 (v2.Ice.flatMap encPt))) :: (.r 10, some (.vec true 11 170 2 (v3.Thrust.flatMap encPt))) :: (.r 12, some (.vec true 13 170 2 (v3.Water.flatMap encPt))) :: (.r 14, some (.vec true 15 170 2 (v3.Ice.flatMap encPt))) :: sK 1 a0 (.v (.slice a0Tp a0.Thrust.length a0Tc)) (.v (.slice a0Wp a0.Water.length a0Wc)) (.v (.slice a0Ip a0.Ice.length a0Ic)) (kc 2 0 (.i a1.Conc) :: kc 2 1 (.i a1.Thick) :: kc 2 2 (.i a1.Ridge) :: kc 2 3 (.i a1.Press) :: kc 3 0 (.i a2.Conc.Lo) :: kc 3 1 (.i a2.Conc.Hi) :: kc 3 2 (.i a2.Thick.Lo) :: kc 3 3 (.i a2.Thick.Hi) :: kc 3 4 (.i a2.Ridge.Lo) :: kc 3 5 (.i a2.Ridge.Hi) :: kc 3 6 (.i a2.Press.Lo) :: kc 3 7 (.i a2.Press.Hi) :: sK 16 v2 (.o 4 5 v2.Thrust.length) (.o 6 7 v2.Water.length) (.o 8 9 v2.Ice.length) (sK 17 v3 (.o 10 11 v3.Thrust.length) (.o 12 13 v3.Water.length) (.o 14 15 v3.Ice.length) [kc 18 0 (.i a1.Conc), kc 18 1 (.i a1.Thick), kc 18 2 (.i a1.Ridge), kc 18 3 (.i a1.Press), kc 19 0 (.i a2.Conc.Lo), kc 19 1 (.i a2.Conc.Hi), kc 19 2 (.i a2.Thick.Lo), kc 19 3 (.i a2.Thick.Hi), kc 19 4 (.i a2.Ridge.Lo), kc 19 5 (.i a2.Ridge.Hi), kc 19 6 (.i a2.Press.Lo), kc 19 7 (.i a2.Press.Hi)])))) ?_ (kp rfl) rfl
    refine fqT ?_
    refine aqS ?_
    obtain ⟨v6, hv6, hm⟩ := bnd_some hm
    refine aqT (rows := [_, _, _, _, _, _, _, _, _]) rfl (by kernel_rfl) ⟨
     okp rfl rfl (oqL (ys := [.i v3.Class, .i v3.Power, .i v3.Draught, .i v3.Tonnes, .o 10 11 v3.Thrust.length, .o 12 13 v3.Water.length, .o 14 15 v3.Ice.length, .i v3.Slow, .i v3.Brash, .i v3.Ridge, .i v3.Press]) (lN rfl) sh_64 rfl rfl ⟨rfl, rfl, rfl, rfl, rfl, rfl, rfl, rfl, rfl, rfl, rfl, trivial⟩),
     okp rfl rfl (oqL (ys := [.i a1.Conc, .i a1.Thick, .i a1.Ridge, .i a1.Press]) (lN rfl) sh_108 rfl rfl ⟨rfl, rfl, rfl, rfl, trivial⟩),
     okp rfl rfl (oqM (lN rfl) rfl),
     okp rfl rfl (oqC (x := .t [.i v6.1, .i v6.2]) (fs := []) (caps := []) (extra := (kapp [.r 10] (kapp [.r 12] (kapp [.r 14] [])))) (lN rfl) en_59 rfl ⟨rfl, rfl, rfl⟩ (EvL.cons rfl (EvL.cons rfl (EvL.cons rfl EvL.nil))) (fun mm aa ww gg hr hrel => (c59 F v3 ⟨ptr0 (mm 10) (mm 11), v3.Thrust.length, mm 11⟩ ⟨ptr0 (mm 12) (mm 13), v3.Water.length, mm 13⟩ ⟨ptr0 (mm 14) (mm 15), v3.Ice.length, mm 15⟩ a1 a4 ww (slAt_row (enc := encPt) (l := v3.Thrust) (fun _ => rfl) (by decide) hrel ((hr _ (List.mem_append_left _ (by simp))).trans rfl)) (slAt_row (enc := encPt) (l := v3.Water) (fun _ => rfl) (by decide) hrel ((hr _ (List.mem_append_right _ (List.mem_append_left _ (by simp)))).trans rfl)) (slAt_row (enc := encPt) (l := v3.Ice) (fun _ => rfl) (by decide) hrel ((hr _ (List.mem_append_right _ (List.mem_append_right _ (List.mem_append_left _ (by simp))))).trans rfl)) v6 hv6))),
     okp rfl rfl (oqM (lN rfl) rfl),
     okp rfl rfl (op_extract (lN rfl) rfl rfl),
     okp rfl rfl (op_extract (lN rfl) rfl rfl),
     okp rfl rfl (oqA (lN rfl) rfl),
     okp rfl rfl (oqA (lN rfl) rfl),
     trivial⟩ ?_
    refine fqK (s' := (kt 3 (.i a3) :: kt 4 (.B a4) :: kt 5 (.p 1 0) :: kt 6 (.p 2 0) :: kt 7 (.p 3 0) :: kt 11 (.p 16 0) :: kt 12 (.p 17 0) :: kt 13 (.p 18 0) :: kt 14 (.p 19 0) :: kt 15 (.i ((speedE v2 a1 a4).1)) :: kt 16 (.i ((speedE v2 a1 a4).2)) :: kt 17 (.i v6.1) :: kt 18 (.i v6.2) :: kb 1 25 11 :: kb 2 28 4 :: kb 3 34 8 :: kb 16 25 11 :: kb 17 64 11 :: kb 18 108 4 :: kb 19 72 8 :: (.r 4, some (.vec true 5 84 2 (v2.Thrust.flatMap encPt))) :: (.r 6, some (.vec true 7 84 2 (v2.Water.flatMap encPt))) :: (.r 8, some (.vec true 9 84 2 (v2.Ice.flatMap encPt))) :: (.r 10, some (.vec true 11 170 2 (v3.Thrust.flatMap encPt))) :: (.r 12, some (.vec true 13 170 2 (v3.Water.flatMap encPt))) :: (.r 14, some (.vec true 15 170 2 (v3.Ice.flatMap encPt))) :: sK 1 a0 (.v (.slice a0Tp a0.Thrust.length a0Tc)) (.v (.slice a0Wp a0.Water.length a0Wc)) (.v (.slice a0Ip a0.Ice.length a0Ic)) (kc 2 0 (.i a1.Conc) :: kc 2 1 (.i a1.Thick) :: kc 2 2 (.i a1.Ridge) :: kc 2 3 (.i a1.Press) :: kc 3 0 (.i a2.Conc.Lo) :: kc 3 1 (.i a2.Conc.Hi) :: kc 3 2 (.i a2.Thick.Lo) :: kc 3 3 (.i a2.Thick.Hi) :: kc 3 4 (.i a2.Ridge.Lo) :: kc 3 5 (.i a2.Ridge.Hi) :: kc 3 6 (.i a2.Press.Lo) :: kc 3 7 (.i a2.Press.Hi) :: sK 16 v2 (.o 4 5 v2.Thrust.length) (.o 6 7 v2.Water.length) (.o 8 9 v2.Ice.length) (sK 17 v3 (.o 10 11 v3.Thrust.length) (.o 12 13 v3.Water.length) (.o 14 15 v3.Ice.length) [kc 18 0 (.i a1.Conc), kc 18 1 (.i a1.Thick), kc 18 2 (.i a1.Ridge), kc 18 3 (.i a1.Press), kc 19 0 (.i a2.Conc.Lo), kc 19 1 (.i a2.Conc.Hi), kc 19 2 (.i a2.Thick.Lo), kc 19 3 (.i a2.Thick.Hi), kc 19 4 (.i a2.Ridge.Lo), kc 19 5 (.i a2.Ridge.Hi), kc 19 6 (.i a2.Press.Lo), kc 19 7 (.i a2.Press.Hi)])))) ?_ (kp rfl) rfl
    refine fqT ?_
    refine aqS ?_
    refine aqS ?_
    refine aqT (rows := [_, _, _, _, _, _, _, _]) rfl (by kernel_rfl) ⟨
     okp rfl rfl (oqM (lN rfl) rfl),
     okp rfl rfl (oqM (lN rfl) rfl),
     okp rfl rfl (oqB (lN rfl) rfl rfl rfl),
     okp rfl rfl (oqM (lN rfl) rfl),
     ok_if (lN rfl) rfl rfl rfl rfl rfl rfl (fun hg10 => oqM (lN rfl) (force_x rfl)),
     ok_if (lN rfl) rfl rfl rfl rfl rfl rfl (fun hg11 => oqM (lN rfl) (force_x rfl)),
     ok_if (lN rfl) rfl rfl rfl rfl rfl rfl (fun hg12 => oqB (lN rfl) (force_eq (beq_iff_eq.2 hg12) rfl) (force_eq (beq_iff_eq.2 hg12) rfl) rfl),
     okp rfl rfl (op_or (lN rfl) rfl rfl),
     trivial⟩ ?_
    refine fqK (s' := (kt 3 (.i a3) :: kt 4 (.B a4) :: kt 5 (.p 1 0) :: kt 6 (.p 2 0) :: kt 7 (.p 3 0) :: kt 11 (.p 16 0) :: kt 12 (.p 17 0) :: kt 13 (.p 18 0) :: kt 14 (.p 19 0) :: kt 105 (.B ((((speedE v2 a1 a4).1) != v6.1) || (((speedE v2 a1 a4).2) != v6.2))) :: kb 1 25 11 :: kb 2 28 4 :: kb 3 34 8 :: kb 16 25 11 :: kb 17 64 11 :: kb 18 108 4 :: kb 19 72 8 :: (.r 4, some (.vec true 5 84 2 (v2.Thrust.flatMap encPt))) :: (.r 6, some (.vec true 7 84 2 (v2.Water.flatMap encPt))) :: (.r 8, some (.vec true 9 84 2 (v2.Ice.flatMap encPt))) :: (.r 10, some (.vec true 11 170 2 (v3.Thrust.flatMap encPt))) :: (.r 12, some (.vec true 13 170 2 (v3.Water.flatMap encPt))) :: (.r 14, some (.vec true 15 170 2 (v3.Ice.flatMap encPt))) :: sK 1 a0 (.v (.slice a0Tp a0.Thrust.length a0Tc)) (.v (.slice a0Wp a0.Water.length a0Wc)) (.v (.slice a0Ip a0.Ice.length a0Ic)) (kc 2 0 (.i a1.Conc) :: kc 2 1 (.i a1.Thick) :: kc 2 2 (.i a1.Ridge) :: kc 2 3 (.i a1.Press) :: kc 3 0 (.i a2.Conc.Lo) :: kc 3 1 (.i a2.Conc.Hi) :: kc 3 2 (.i a2.Thick.Lo) :: kc 3 3 (.i a2.Thick.Hi) :: kc 3 4 (.i a2.Ridge.Lo) :: kc 3 5 (.i a2.Ridge.Hi) :: kc 3 6 (.i a2.Press.Lo) :: kc 3 7 (.i a2.Press.Hi) :: sK 16 v2 (.o 4 5 v2.Thrust.length) (.o 6 7 v2.Water.length) (.o 8 9 v2.Ice.length) (sK 17 v3 (.o 10 11 v3.Thrust.length) (.o 12 13 v3.Water.length) (.o 14 15 v3.Ice.length) [kc 18 0 (.i a1.Conc), kc 18 1 (.i a1.Thick), kc 18 2 (.i a1.Ridge), kc 18 3 (.i a1.Press), kc 19 0 (.i a2.Conc.Lo), kc 19 1 (.i a2.Conc.Hi), kc 19 2 (.i a2.Thick.Lo), kc 19 3 (.i a2.Thick.Hi), kc 19 4 (.i a2.Ridge.Lo), kc 19 5 (.i a2.Ridge.Hi), kc 19 6 (.i a2.Press.Lo), kc 19 7 (.i a2.Press.Hi)])))) ?_ (kp rfl) rfl
    refine fqT ?_
    refine aw_cond rfl (fun hz13 => ?_) (fun hz13 => ?_)
    ·have hm := brk_t hz13 hm
     refine aqS ?_
     refine aqT (rows := [_]) rfl (by kernel_rfl) ⟨
      okp rfl rfl (oqA (lN rfl) rfl),
      trivial⟩ ?_
     refine fqK (s' := [kt 10 (.B false)]) ?_ (kp rfl) rfl
     refine fqT ?_
     refine aw_ret ?_
     refine fin_then_ret ?_
     refine post_ret (x := .B false) rfl rfl (rqT rfl resOK_nil) rfl (fun mm aa ww hr => ?_)
     have hm := Option.some.inj hm
     subst hm
     exact ⟨rfl, hr.below⟩
    ·have hm := brk_f hz13 hm
     refine aw_skip ?_
     refine fqT ?_
     refine aqS ?_
     refine aqT (rows := [_, _, _, _, _, _, _, _, _]) rfl (by kernel_rfl) ⟨
      okp rfl rfl (oqL (ys := [.i a1.Conc, .i a1.Thick, .i a1.Ridge, .i a1.Press]) (lN rfl) sh_28 rfl rfl ⟨rfl, rfl, rfl, rfl, trivial⟩),
      okp rfl rfl (oqM (lN rfl) rfl),
      okp rfl rfl (oqM (lN rfl) rfl),
      okp rfl rfl (oqC (x := .t [.i ((loadE a1 a3 a4).1), .i ((loadE a1 a3 a4).2)]) (fs := []) (caps := []) (extra := []) (lN rfl) en_20 rfl ⟨rfl, rfl, rfl⟩ (EvL.cons rfl (EvL.cons rfl (EvL.cons rfl EvL.nil))) (fun mm aa ww gg hr hrel => (c20 a1 a3 a4 ww))),
      okp rfl rfl (oqM (lN rfl) rfl),
      okp rfl rfl (op_extract (lN rfl) rfl rfl),
      okp rfl rfl (op_extract (lN rfl) rfl rfl),
      okp rfl rfl (oqA (lN rfl) rfl),
      okp rfl rfl (oqA (lN rfl) rfl),
      trivial⟩ ?_
     refine fqK (s' := (kt 3 (.i a3) :: kt 4 (.B a4) :: kt 5 (.p 1 0) :: kt 6 (.p 2 0) :: kt 7 (.p 3 0) :: kt 11 (.p 16 0) :: kt 12 (.p 17 0) :: kt 13 (.p 18 0) :: kt 14 (.p 19 0) :: kt 15 (.i ((loadE a1 a3 a4).1)) :: kt 16 (.i ((loadE a1 a3 a4).2)) :: kb 1 25 11 :: kb 2 28 4 :: kb 3 34 8 :: kb 16 25 11 :: kb 17 64 11 :: kb 18 108 4 :: kb 19 72 8 :: (.r 4, some (.vec true 5 84 2 (v2.Thrust.flatMap encPt))) :: (.r 6, some (.vec true 7 84 2 (v2.Water.flatMap encPt))) :: (.r 8, some (.vec true 9 84 2 (v2.Ice.flatMap encPt))) :: (.r 10, some (.vec true 11 170 2 (v3.Thrust.flatMap encPt))) :: (.r 12, some (.vec true 13 170 2 (v3.Water.flatMap encPt))) :: (.r 14, some (.vec true 15 170 2 (v3.Ice.flatMap encPt))) :: sK 1 a0 (.v (.slice a0Tp a0.Thrust.length a0Tc)) (.v (.slice a0Wp a0.Water.length a0Wc)) (.v (.slice a0Ip a0.Ice.length a0Ic)) (kc 2 0 (.i a1.Conc) :: kc 2 1 (.i a1.Thick) :: kc 2 2 (.i a1.Ridge) :: kc 2 3 (.i a1.Press) :: kc 3 0 (.i a2.Conc.Lo) :: kc 3 1 (.i a2.Conc.Hi) :: kc 3 2 (.i a2.Thick.Lo) :: kc 3 3 (.i a2.Thick.Hi) :: kc 3 4 (.i a2.Ridge.Lo) :: kc 3 5 (.i a2.Ridge.Hi) :: kc 3 6 (.i a2.Press.Lo) :: kc 3 7 (.i a2.Press.Hi) :: sK 16 v2 (.o 4 5 v2.Thrust.length) (.o 6 7 v2.Water.length) (.o 8 9 v2.Ice.length) (sK 17 v3 (.o 10 11 v3.Thrust.length) (.o 12 13 v3.Water.length) (.o 14 15 v3.Ice.length) [kc 18 0 (.i a1.Conc), kc 18 1 (.i a1.Thick), kc 18 2 (.i a1.Ridge), kc 18 3 (.i a1.Press), kc 19 0 (.i a2.Conc.Lo), kc 19 1 (.i a2.Conc.Hi), kc 19 2 (.i a2.Thick.Lo), kc 19 3 (.i a2.Thick.Hi), kc 19 4 (.i a2.Ridge.Lo), kc 19 5 (.i a2.Ridge.Hi), kc 19 6 (.i a2.Press.Lo), kc 19 7 (.i a2.Press.Hi)])))) ?_ (kp rfl) rfl
     refine fqT ?_
     refine aqS ?_
     obtain ⟨v7, hv7, hm⟩ := bnd_some hm
     refine aqT (rows := [_, _, _, _, _, _, _, _, _]) rfl (by kernel_rfl) ⟨
      okp rfl rfl (oqL (ys := [.i a1.Conc, .i a1.Thick, .i a1.Ridge, .i a1.Press]) (lN rfl) sh_108 rfl rfl ⟨rfl, rfl, rfl, rfl, trivial⟩),
      okp rfl rfl (oqM (lN rfl) rfl),
      okp rfl rfl (oqM (lN rfl) rfl),
      okp rfl rfl (oqC (x := .t [.i v7.1, .i v7.2]) (fs := []) (caps := []) (extra := []) (lN rfl) en_60 rfl ⟨rfl, rfl, rfl⟩ (EvL.cons rfl (EvL.cons rfl (EvL.cons rfl EvL.nil))) (fun mm aa ww gg hr hrel => (c60 F a1 a3 a4 ww v7 hv7))),
      okp rfl rfl (oqM (lN rfl) rfl),
      okp rfl rfl (op_extract (lN rfl) rfl rfl),
      okp rfl rfl (op_extract (lN rfl) rfl rfl),
      okp rfl rfl (oqA (lN rfl) rfl),
      okp rfl rfl (oqA (lN rfl) rfl),
      trivial⟩ ?_
     refine fqK (s' := (kt 3 (.i a3) :: kt 4 (.B a4) :: kt 5 (.p 1 0) :: kt 6 (.p 2 0) :: kt 7 (.p 3 0) :: kt 11 (.p 16 0) :: kt 12 (.p 17 0) :: kt 13 (.p 18 0) :: kt 14 (.p 19 0) :: kt 15 (.i ((loadE a1 a3 a4).1)) :: kt 16 (.i ((loadE a1 a3 a4).2)) :: kt 17 (.i v7.1) :: kt 18 (.i v7.2) :: kb 1 25 11 :: kb 2 28 4 :: kb 3 34 8 :: kb 16 25 11 :: kb 17 64 11 :: kb 18 108 4 :: kb 19 72 8 :: (.r 4, some (.vec true 5 84 2 (v2.Thrust.flatMap encPt))) :: (.r 6, some (.vec true 7 84 2 (v2.Water.flatMap encPt))) :: (.r 8, some (.vec true 9 84 2 (v2.Ice.flatMap encPt))) :: (.r 10, some (.vec true 11 170 2 (v3.Thrust.flatMap encPt))) :: (.r 12, some (.vec true 13 170 2 (v3.Water.flatMap encPt))) :: (.r 14, some (.vec true 15 170 2 (v3.Ice.flatMap encPt))) :: sK 1 a0 (.v (.slice a0Tp a0.Thrust.length a0Tc)) (.v (.slice a0Wp a0.Water.length a0Wc)) (.v (.slice a0Ip a0.Ice.length a0Ic)) (kc 2 0 (.i a1.Conc) :: kc 2 1 (.i a1.Thick) :: kc 2 2 (.i a1.Ridge) :: kc 2 3 (.i a1.Press) :: kc 3 0 (.i a2.Conc.Lo) :: kc 3 1 (.i a2.Conc.Hi) :: kc 3 2 (.i a2.Thick.Lo) :: kc 3 3 (.i a2.Thick.Hi) :: kc 3 4 (.i a2.Ridge.Lo) :: kc 3 5 (.i a2.Ridge.Hi) :: kc 3 6 (.i a2.Press.Lo) :: kc 3 7 (.i a2.Press.Hi) :: sK 16 v2 (.o 4 5 v2.Thrust.length) (.o 6 7 v2.Water.length) (.o 8 9 v2.Ice.length) (sK 17 v3 (.o 10 11 v3.Thrust.length) (.o 12 13 v3.Water.length) (.o 14 15 v3.Ice.length) [kc 18 0 (.i a1.Conc), kc 18 1 (.i a1.Thick), kc 18 2 (.i a1.Ridge), kc 18 3 (.i a1.Press), kc 19 0 (.i a2.Conc.Lo), kc 19 1 (.i a2.Conc.Hi), kc 19 2 (.i a2.Thick.Lo), kc 19 3 (.i a2.Thick.Hi), kc 19 4 (.i a2.Ridge.Lo), kc 19 5 (.i a2.Ridge.Hi), kc 19 6 (.i a2.Press.Lo), kc 19 7 (.i a2.Press.Hi)])))) ?_ (kp rfl) rfl
     refine fqT ?_
     refine aqS ?_
     refine aqS ?_
     refine aqT (rows := [_, _, _, _, _, _, _, _]) rfl (by kernel_rfl) ⟨
      okp rfl rfl (oqM (lN rfl) rfl),
      okp rfl rfl (oqM (lN rfl) rfl),
      okp rfl rfl (oqB (lN rfl) rfl rfl rfl),
      okp rfl rfl (oqM (lN rfl) rfl),
      ok_if (lN rfl) rfl rfl rfl rfl rfl rfl (fun hg14 => oqM (lN rfl) (force_x rfl)),
      ok_if (lN rfl) rfl rfl rfl rfl rfl rfl (fun hg15 => oqM (lN rfl) (force_x rfl)),
      ok_if (lN rfl) rfl rfl rfl rfl rfl rfl (fun hg16 => oqB (lN rfl) (force_eq (beq_iff_eq.2 hg16) rfl) (force_eq (beq_iff_eq.2 hg16) rfl) rfl),
      okp rfl rfl (op_or (lN rfl) rfl rfl),
      trivial⟩ ?_
     refine fqK (s' := (kt 3 (.i a3) :: kt 4 (.B a4) :: kt 5 (.p 1 0) :: kt 6 (.p 2 0) :: kt 7 (.p 3 0) :: kt 11 (.p 16 0) :: kt 12 (.p 17 0) :: kt 13 (.p 18 0) :: kt 14 (.p 19 0) :: kt 127 (.B ((((loadE a1 a3 a4).1) != v7.1) || (((loadE a1 a3 a4).2) != v7.2))) :: kb 1 25 11 :: kb 2 28 4 :: kb 3 34 8 :: kb 16 25 11 :: kb 17 64 11 :: kb 18 108 4 :: kb 19 72 8 :: (.r 4, some (.vec true 5 84 2 (v2.Thrust.flatMap encPt))) :: (.r 6, some (.vec true 7 84 2 (v2.Water.flatMap encPt))) :: (.r 8, some (.vec true 9 84 2 (v2.Ice.flatMap encPt))) :: (.r 10, some (.vec true 11 170 2 (v3.Thrust.flatMap encPt))) :: (.r 12, some (.vec true 13 170 2 (v3.Water.flatMap encPt))) :: (.r 14, some (.vec true 15 170 2 (v3.Ice.flatMap encPt))) :: sK 1 a0 (.v (.slice a0Tp a0.Thrust.length a0Tc)) (.v (.slice a0Wp a0.Water.length a0Wc)) (.v (.slice a0Ip a0.Ice.length a0Ic)) (kc 2 0 (.i a1.Conc) :: kc 2 1 (.i a1.Thick) :: kc 2 2 (.i a1.Ridge) :: kc 2 3 (.i a1.Press) :: kc 3 0 (.i a2.Conc.Lo) :: kc 3 1 (.i a2.Conc.Hi) :: kc 3 2 (.i a2.Thick.Lo) :: kc 3 3 (.i a2.Thick.Hi) :: kc 3 4 (.i a2.Ridge.Lo) :: kc 3 5 (.i a2.Ridge.Hi) :: kc 3 6 (.i a2.Press.Lo) :: kc 3 7 (.i a2.Press.Hi) :: sK 16 v2 (.o 4 5 v2.Thrust.length) (.o 6 7 v2.Water.length) (.o 8 9 v2.Ice.length) (sK 17 v3 (.o 10 11 v3.Thrust.length) (.o 12 13 v3.Water.length) (.o 14 15 v3.Ice.length) [kc 18 0 (.i a1.Conc), kc 18 1 (.i a1.Thick), kc 18 2 (.i a1.Ridge), kc 18 3 (.i a1.Press), kc 19 0 (.i a2.Conc.Lo), kc 19 1 (.i a2.Conc.Hi), kc 19 2 (.i a2.Thick.Lo), kc 19 3 (.i a2.Thick.Hi), kc 19 4 (.i a2.Ridge.Lo), kc 19 5 (.i a2.Ridge.Hi), kc 19 6 (.i a2.Press.Lo), kc 19 7 (.i a2.Press.Hi)])))) ?_ (kp rfl) rfl
     refine fqT ?_
     refine aw_cond rfl (fun hz17 => ?_) (fun hz17 => ?_)
     ·have hm := brk_t hz17 hm
      refine aqS ?_
      refine aqT (rows := [_]) rfl (by kernel_rfl) ⟨
       okp rfl rfl (oqA (lN rfl) rfl),
       trivial⟩ ?_
      refine fqK (s' := [kt 10 (.B false)]) ?_ (kp rfl) rfl
      refine fqT ?_
      refine aw_ret ?_
      refine fin_then_ret ?_
      refine post_ret (x := .B false) rfl rfl (rqT rfl resOK_nil) rfl (fun mm aa ww hr => ?_)
      have hm := Option.some.inj hm
      subst hm
      exact ⟨rfl, hr.below⟩
     ·have hm := brk_f hz17 hm
      refine aw_skip ?_
      refine fqT ?_
      refine aqS ?_
      obtain ⟨v8, hv8, hm⟩ := bnd_some hm
      refine aqT (rows := [_, _, _, _, _, _, _, _, _, _]) rfl (by kernel_rfl) ⟨
       okp rfl rfl (oqL (ys := [.i v2.Class, .i v2.Power, .i v2.Draught, .i v2.Tonnes, .o 4 5 v2.Thrust.length, .o 6 7 v2.Water.length, .o 8 9 v2.Ice.length, .i v2.Slow, .i v2.Brash, .i v2.Ridge, .i v2.Press]) (lN rfl) sh_25 rfl rfl ⟨rfl, rfl, rfl, rfl, rfl, rfl, rfl, rfl, rfl, rfl, rfl, trivial⟩),
       okp rfl rfl (oqL (ys := [.i a1.Conc, .i a1.Thick, .i a1.Ridge, .i a1.Press]) (lN rfl) sh_28 rfl rfl ⟨rfl, rfl, rfl, rfl, trivial⟩),
       okp rfl rfl (oqM (lN rfl) rfl),
       okp rfl rfl (oqM (lN rfl) rfl),
       okp rfl rfl (oqC (x := .t [.i v8.1, .i v8.2]) (fs := []) (caps := []) (extra := (kapp [.r 4] (kapp [.r 6] (kapp [.r 8] [])))) (lN rfl) en_61 rfl ⟨rfl, rfl, rfl⟩ (EvL.cons rfl (EvL.cons rfl (EvL.cons rfl (EvL.cons rfl EvL.nil)))) (fun mm aa ww gg hr hrel => (c61 F v2 ⟨ptr0 (mm 4) (mm 5), v2.Thrust.length, mm 5⟩ ⟨ptr0 (mm 6) (mm 7), v2.Water.length, mm 7⟩ ⟨ptr0 (mm 8) (mm 9), v2.Ice.length, mm 9⟩ a1 a3 a4 ww (slAt_row (enc := encPt) (l := v2.Thrust) (fun _ => rfl) (by decide) hrel ((hr _ (List.mem_append_left _ (by simp))).trans rfl)) (slAt_row (enc := encPt) (l := v2.Water) (fun _ => rfl) (by decide) hrel ((hr _ (List.mem_append_right _ (List.mem_append_left _ (by simp)))).trans rfl)) (slAt_row (enc := encPt) (l := v2.Ice) (fun _ => rfl) (by decide) hrel ((hr _ (List.mem_append_right _ (List.mem_append_right _ (List.mem_append_left _ (by simp))))).trans rfl)) v8 hv8))),
       okp rfl rfl (oqM (lN rfl) rfl),
       okp rfl rfl (op_extract (lN rfl) rfl rfl),
       okp rfl rfl (op_extract (lN rfl) rfl rfl),
       okp rfl rfl (oqA (lN rfl) rfl),
       okp rfl rfl (oqA (lN rfl) rfl),
       trivial⟩ ?_
      refine fqK (s' := (kt 3 (.i a3) :: kt 4 (.B a4) :: kt 5 (.p 1 0) :: kt 7 (.p 3 0) :: kt 11 (.p 16 0) :: kt 12 (.p 17 0) :: kt 13 (.p 18 0) :: kt 14 (.p 19 0) :: kt 15 (.i v8.1) :: kt 16 (.i v8.2) :: kb 1 25 11 :: kb 3 34 8 :: kb 16 25 11 :: kb 17 64 11 :: kb 18 108 4 :: kb 19 72 8 :: (.r 4, some (.vec true 5 84 2 (v2.Thrust.flatMap encPt))) :: (.r 6, some (.vec true 7 84 2 (v2.Water.flatMap encPt))) :: (.r 8, some (.vec true 9 84 2 (v2.Ice.flatMap encPt))) :: (.r 10, some (.vec true 11 170 2 (v3.Thrust.flatMap encPt))) :: (.r 12, some (.vec true 13 170 2 (v3.Water.flatMap encPt))) :: (.r 14, some (.vec true 15 170 2 (v3.Ice.flatMap encPt))) :: sK 1 a0 (.v (.slice a0Tp a0.Thrust.length a0Tc)) (.v (.slice a0Wp a0.Water.length a0Wc)) (.v (.slice a0Ip a0.Ice.length a0Ic)) (kc 3 0 (.i a2.Conc.Lo) :: kc 3 1 (.i a2.Conc.Hi) :: kc 3 2 (.i a2.Thick.Lo) :: kc 3 3 (.i a2.Thick.Hi) :: kc 3 4 (.i a2.Ridge.Lo) :: kc 3 5 (.i a2.Ridge.Hi) :: kc 3 6 (.i a2.Press.Lo) :: kc 3 7 (.i a2.Press.Hi) :: sK 16 v2 (.o 4 5 v2.Thrust.length) (.o 6 7 v2.Water.length) (.o 8 9 v2.Ice.length) (sK 17 v3 (.o 10 11 v3.Thrust.length) (.o 12 13 v3.Water.length) (.o 14 15 v3.Ice.length) [kc 18 0 (.i a1.Conc), kc 18 1 (.i a1.Thick), kc 18 2 (.i a1.Ridge), kc 18 3 (.i a1.Press), kc 19 0 (.i a2.Conc.Lo), kc 19 1 (.i a2.Conc.Hi), kc 19 2 (.i a2.Thick.Lo), kc 19 3 (.i a2.Thick.Hi), kc 19 4 (.i a2.Ridge.Lo), kc 19 5 (.i a2.Ridge.Hi), kc 19 6 (.i a2.Press.Lo), kc 19 7 (.i a2.Press.Hi)])))) ?_ (kp rfl) rfl
      refine fqT ?_
      refine aqS ?_
      obtain ⟨v9, hv9, hm⟩ := bnd_some hm
      refine aqT (rows := [_, _, _, _, _, _, _, _, _, _]) rfl (by kernel_rfl) ⟨
       okp rfl rfl (oqL (ys := [.i v3.Class, .i v3.Power, .i v3.Draught, .i v3.Tonnes, .o 10 11 v3.Thrust.length, .o 12 13 v3.Water.length, .o 14 15 v3.Ice.length, .i v3.Slow, .i v3.Brash, .i v3.Ridge, .i v3.Press]) (lN rfl) sh_64 rfl rfl ⟨rfl, rfl, rfl, rfl, rfl, rfl, rfl, rfl, rfl, rfl, rfl, trivial⟩),
       okp rfl rfl (oqL (ys := [.i a1.Conc, .i a1.Thick, .i a1.Ridge, .i a1.Press]) (lN rfl) sh_108 rfl rfl ⟨rfl, rfl, rfl, rfl, trivial⟩),
       okp rfl rfl (oqM (lN rfl) rfl),
       okp rfl rfl (oqM (lN rfl) rfl),
       okp rfl rfl (oqC (x := .t [.i v9.1, .i v9.2]) (fs := []) (caps := []) (extra := (kapp [.r 10] (kapp [.r 12] (kapp [.r 14] [])))) (lN rfl) en_62 rfl ⟨rfl, rfl, rfl⟩ (EvL.cons rfl (EvL.cons rfl (EvL.cons rfl (EvL.cons rfl EvL.nil)))) (fun mm aa ww gg hr hrel => (c62 F v3 ⟨ptr0 (mm 10) (mm 11), v3.Thrust.length, mm 11⟩ ⟨ptr0 (mm 12) (mm 13), v3.Water.length, mm 13⟩ ⟨ptr0 (mm 14) (mm 15), v3.Ice.length, mm 15⟩ a1 a3 a4 ww (slAt_row (enc := encPt) (l := v3.Thrust) (fun _ => rfl) (by decide) hrel ((hr _ (List.mem_append_left _ (by simp))).trans rfl)) (slAt_row (enc := encPt) (l := v3.Water) (fun _ => rfl) (by decide) hrel ((hr _ (List.mem_append_right _ (List.mem_append_left _ (by simp)))).trans rfl)) (slAt_row (enc := encPt) (l := v3.Ice) (fun _ => rfl) (by decide) hrel ((hr _ (List.mem_append_right _ (List.mem_append_right _ (List.mem_append_left _ (by simp))))).trans rfl)) v9 hv9))),
       okp rfl rfl (oqM (lN rfl) rfl),
       okp rfl rfl (op_extract (lN rfl) rfl rfl),
       okp rfl rfl (op_extract (lN rfl) rfl rfl),
       okp rfl rfl (oqA (lN rfl) rfl),
       okp rfl rfl (oqA (lN rfl) rfl),
       trivial⟩ ?_
      refine fqK (s' := (kt 3 (.i a3) :: kt 4 (.B a4) :: kt 5 (.p 1 0) :: kt 7 (.p 3 0) :: kt 11 (.p 16 0) :: kt 12 (.p 17 0) :: kt 14 (.p 19 0) :: kt 15 (.i v8.1) :: kt 16 (.i v8.2) :: kt 17 (.i v9.1) :: kt 18 (.i v9.2) :: kb 1 25 11 :: kb 3 34 8 :: kb 16 25 11 :: kb 17 64 11 :: kb 19 72 8 :: (.r 4, some (.vec true 5 84 2 (v2.Thrust.flatMap encPt))) :: (.r 6, some (.vec true 7 84 2 (v2.Water.flatMap encPt))) :: (.r 8, some (.vec true 9 84 2 (v2.Ice.flatMap encPt))) :: (.r 10, some (.vec true 11 170 2 (v3.Thrust.flatMap encPt))) :: (.r 12, some (.vec true 13 170 2 (v3.Water.flatMap encPt))) :: (.r 14, some (.vec true 15 170 2 (v3.Ice.flatMap encPt))) :: sK 1 a0 (.v (.slice a0Tp a0.Thrust.length a0Tc)) (.v (.slice a0Wp a0.Water.length a0Wc)) (.v (.slice a0Ip a0.Ice.length a0Ic)) (kc 3 0 (.i a2.Conc.Lo) :: kc 3 1 (.i a2.Conc.Hi) :: kc 3 2 (.i a2.Thick.Lo) :: kc 3 3 (.i a2.Thick.Hi) :: kc 3 4 (.i a2.Ridge.Lo) :: kc 3 5 (.i a2.Ridge.Hi) :: kc 3 6 (.i a2.Press.Lo) :: kc 3 7 (.i a2.Press.Hi) :: sK 16 v2 (.o 4 5 v2.Thrust.length) (.o 6 7 v2.Water.length) (.o 8 9 v2.Ice.length) (sK 17 v3 (.o 10 11 v3.Thrust.length) (.o 12 13 v3.Water.length) (.o 14 15 v3.Ice.length) [kc 19 0 (.i a2.Conc.Lo), kc 19 1 (.i a2.Conc.Hi), kc 19 2 (.i a2.Thick.Lo), kc 19 3 (.i a2.Thick.Hi), kc 19 4 (.i a2.Ridge.Lo), kc 19 5 (.i a2.Ridge.Hi), kc 19 6 (.i a2.Press.Lo), kc 19 7 (.i a2.Press.Hi)])))) ?_ (kp rfl) rfl
      refine fqT ?_
      refine aqS ?_
      refine aqS ?_
      refine aqT (rows := [_, _, _, _, _, _, _, _]) rfl (by kernel_rfl) ⟨
       okp rfl rfl (oqM (lN rfl) rfl),
       okp rfl rfl (oqM (lN rfl) rfl),
       okp rfl rfl (oqB (lN rfl) rfl rfl rfl),
       okp rfl rfl (oqM (lN rfl) rfl),
       ok_if (lN rfl) rfl rfl rfl rfl rfl rfl (fun hg18 => oqM (lN rfl) (force_x rfl)),
       ok_if (lN rfl) rfl rfl rfl rfl rfl rfl (fun hg19 => oqM (lN rfl) (force_x rfl)),
       ok_if (lN rfl) rfl rfl rfl rfl rfl rfl (fun hg20 => oqB (lN rfl) (force_eq (beq_iff_eq.2 hg20) rfl) (force_eq (beq_iff_eq.2 hg20) rfl) rfl),
       okp rfl rfl (op_or (lN rfl) rfl rfl),
       trivial⟩ ?_
      refine fqK (s' := (kt 3 (.i a3) :: kt 4 (.B a4) :: kt 5 (.p 1 0) :: kt 7 (.p 3 0) :: kt 11 (.p 16 0) :: kt 12 (.p 17 0) :: kt 14 (.p 19 0) :: kt 151 (.B ((v8.1 != v9.1) || (v8.2 != v9.2))) :: kb 1 25 11 :: kb 3 34 8 :: kb 16 25 11 :: kb 17 64 11 :: kb 19 72 8 :: (.r 4, some (.vec true 5 84 2 (v2.Thrust.flatMap encPt))) :: (.r 6, some (.vec true 7 84 2 (v2.Water.flatMap encPt))) :: (.r 8, some (.vec true 9 84 2 (v2.Ice.flatMap encPt))) :: (.r 10, some (.vec true 11 170 2 (v3.Thrust.flatMap encPt))) :: (.r 12, some (.vec true 13 170 2 (v3.Water.flatMap encPt))) :: (.r 14, some (.vec true 15 170 2 (v3.Ice.flatMap encPt))) :: sK 1 a0 (.v (.slice a0Tp a0.Thrust.length a0Tc)) (.v (.slice a0Wp a0.Water.length a0Wc)) (.v (.slice a0Ip a0.Ice.length a0Ic)) (kc 3 0 (.i a2.Conc.Lo) :: kc 3 1 (.i a2.Conc.Hi) :: kc 3 2 (.i a2.Thick.Lo) :: kc 3 3 (.i a2.Thick.Hi) :: kc 3 4 (.i a2.Ridge.Lo) :: kc 3 5 (.i a2.Ridge.Hi) :: kc 3 6 (.i a2.Press.Lo) :: kc 3 7 (.i a2.Press.Hi) :: sK 16 v2 (.o 4 5 v2.Thrust.length) (.o 6 7 v2.Water.length) (.o 8 9 v2.Ice.length) (sK 17 v3 (.o 10 11 v3.Thrust.length) (.o 12 13 v3.Water.length) (.o 14 15 v3.Ice.length) [kc 19 0 (.i a2.Conc.Lo), kc 19 1 (.i a2.Conc.Hi), kc 19 2 (.i a2.Thick.Lo), kc 19 3 (.i a2.Thick.Hi), kc 19 4 (.i a2.Ridge.Lo), kc 19 5 (.i a2.Ridge.Hi), kc 19 6 (.i a2.Press.Lo), kc 19 7 (.i a2.Press.Hi)])))) ?_ (kp rfl) rfl
      refine fqT ?_
      refine aw_cond rfl (fun hz21 => ?_) (fun hz21 => ?_)
      ·have hm := brk_t hz21 hm
       refine aqS ?_
       refine aqT (rows := [_]) rfl (by kernel_rfl) ⟨
        okp rfl rfl (oqA (lN rfl) rfl),
        trivial⟩ ?_
       refine fqK (s' := [kt 10 (.B false)]) ?_ (kp rfl) rfl
       refine fqT ?_
       refine aw_ret ?_
       refine fin_then_ret ?_
       refine post_ret (x := .B false) rfl rfl (rqT rfl resOK_nil) rfl (fun mm aa ww hr => ?_)
       have hm := Option.some.inj hm
       subst hm
       exact ⟨rfl, hr.below⟩
      ·have hm := brk_f hz21 hm
       refine aw_skip ?_
       refine fqT ?_
       refine aqS ?_
       obtain ⟨v10, hv10, hm⟩ := bnd_some hm
       refine aqT (rows := [_, _, _, _, _, _, _, _, _, _]) rfl (by kernel_rfl) ⟨
        okp rfl rfl (oqL (ys := [.i v2.Class, .i v2.Power, .i v2.Draught, .i v2.Tonnes, .o 4 5 v2.Thrust.length, .o 6 7 v2.Water.length, .o 8 9 v2.Ice.length, .i v2.Slow, .i v2.Brash, .i v2.Ridge, .i v2.Press]) (lN rfl) sh_25 rfl rfl ⟨rfl, rfl, rfl, rfl, rfl, rfl, rfl, rfl, rfl, rfl, rfl, trivial⟩),
        okp rfl rfl (oqL (ys := [.i a2.Conc.Lo, .i a2.Conc.Hi, .i a2.Thick.Lo, .i a2.Thick.Hi, .i a2.Ridge.Lo, .i a2.Ridge.Hi, .i a2.Press.Lo, .i a2.Press.Hi]) (lN rfl) sh_34 rfl rfl ⟨rfl, rfl, rfl, rfl, rfl, rfl, rfl, rfl, trivial⟩),
        okp rfl rfl (oqM (lN rfl) rfl),
        okp rfl rfl (oqC (x := .t [.g [.i v10.1.Lo, .i v10.1.Hi], .i v10.2]) (fs := []) (caps := []) (extra := (kapp [.r 4] (kapp [.r 6] (kapp [.r 8] [])))) (lN rfl) en_55 rfl ⟨rfl, rfl, rfl⟩ (EvL.cons rfl (EvL.cons rfl (EvL.cons rfl EvL.nil))) (fun mm aa ww gg hr hrel => (c55 F v2 ⟨ptr0 (mm 4) (mm 5), v2.Thrust.length, mm 5⟩ ⟨ptr0 (mm 6) (mm 7), v2.Water.length, mm 7⟩ ⟨ptr0 (mm 8) (mm 9), v2.Ice.length, mm 9⟩ a2 a4 ww (slAt_row (enc := encPt) (l := v2.Thrust) (fun _ => rfl) (by decide) hrel ((hr _ (List.mem_append_left _ (by simp))).trans rfl)) (slAt_row (enc := encPt) (l := v2.Water) (fun _ => rfl) (by decide) hrel ((hr _ (List.mem_append_right _ (List.mem_append_left _ (by simp)))).trans rfl)) (slAt_row (enc := encPt) (l := v2.Ice) (fun _ => rfl) (by decide) hrel ((hr _ (List.mem_append_right _ (List.mem_append_right _ (List.mem_append_left _ (by simp))))).trans rfl)) (BoxAt.mono hG hrel.below) v10 hv10))),
        okp rfl rfl (oqM (lN rfl) rfl),
        okp rfl rfl (op_extract (lN rfl) rfl rfl),
        okp rfl rfl (op_extract (lN rfl) rfl rfl),
        okp rfl rfl (op_alloc (L := 20) (lN rfl) zl_32),
        okp rfl rfl (op_storeN sz_32 rfl rfl rfl rfl rfl (by decide)),
        okp rfl rfl (oqA (lN rfl) rfl),
        trivial⟩ ?_
       refine fqK (s' := (kt 3 (.i a3) :: kt 4 (.B a4) :: kt 5 (.p 1 0) :: kt 7 (.p 3 0) :: kt 11 (.p 16 0) :: kt 12 (.p 17 0) :: kt 14 (.p 19 0) :: kt 16 (.i v10.2) :: kt 21 (.p 20 0) :: kb 1 25 11 :: kb 3 34 8 :: kb 16 25 11 :: kb 17 64 11 :: kb 19 72 8 :: kb 20 32 2 :: (.r 4, some (.vec true 5 84 2 (v2.Thrust.flatMap encPt))) :: (.r 6, some (.vec true 7 84 2 (v2.Water.flatMap encPt))) :: (.r 8, some (.vec true 9 84 2 (v2.Ice.flatMap encPt))) :: (.r 10, some (.vec true 11 170 2 (v3.Thrust.flatMap encPt))) :: (.r 12, some (.vec true 13 170 2 (v3.Water.flatMap encPt))) :: (.r 14, some (.vec true 15 170 2 (v3.Ice.flatMap encPt))) :: sK 1 a0 (.v (.slice a0Tp a0.Thrust.length a0Tc)) (.v (.slice a0Wp a0.Water.length a0Wc)) (.v (.slice a0Ip a0.Ice.length a0Ic)) (kc 3 0 (.i a2.Conc.Lo) :: kc 3 1 (.i a2.Conc.Hi) :: kc 3 2 (.i a2.Thick.Lo) :: kc 3 3 (.i a2.Thick.Hi) :: kc 3 4 (.i a2.Ridge.Lo) :: kc 3 5 (.i a2.Ridge.Hi) :: kc 3 6 (.i a2.Press.Lo) :: kc 3 7 (.i a2.Press.Hi) :: sK 16 v2 (.o 4 5 v2.Thrust.length) (.o 6 7 v2.Water.length) (.o 8 9 v2.Ice.length) (sK 17 v3 (.o 10 11 v3.Thrust.length) (.o 12 13 v3.Water.length) (.o 14 15 v3.Ice.length) [kc 19 0 (.i a2.Conc.Lo), kc 19 1 (.i a2.Conc.Hi), kc 19 2 (.i a2.Thick.Lo), kc 19 3 (.i a2.Thick.Hi), kc 19 4 (.i a2.Ridge.Lo), kc 19 5 (.i a2.Ridge.Hi), kc 19 6 (.i a2.Press.Lo), kc 19 7 (.i a2.Press.Hi), kc 20 0 (.i v10.1.Lo), kc 20 1 (.i v10.1.Hi)])))) ?_ (kp rfl) rfl
       refine fqT ?_
       refine aqS ?_
       obtain ⟨v11, hv11, hm⟩ := bnd_some hm
       refine aqT (rows := [_, _, _, _, _, _, _, _, _, _]) rfl (by kernel_rfl) ⟨
        okp rfl rfl (oqL (ys := [.i v3.Class, .i v3.Power, .i v3.Draught, .i v3.Tonnes, .o 10 11 v3.Thrust.length, .o 12 13 v3.Water.length, .o 14 15 v3.Ice.length, .i v3.Slow, .i v3.Brash, .i v3.Ridge, .i v3.Press]) (lN rfl) sh_64 rfl rfl ⟨rfl, rfl, rfl, rfl, rfl, rfl, rfl, rfl, rfl, rfl, rfl, trivial⟩),
        okp rfl rfl (oqL (ys := [.i a2.Conc.Lo, .i a2.Conc.Hi, .i a2.Thick.Lo, .i a2.Thick.Hi, .i a2.Ridge.Lo, .i a2.Ridge.Hi, .i a2.Press.Lo, .i a2.Press.Hi]) (lN rfl) sh_72 rfl rfl ⟨rfl, rfl, rfl, rfl, rfl, rfl, rfl, rfl, trivial⟩),
        okp rfl rfl (oqM (lN rfl) rfl),
        okp rfl rfl (oqC (x := .t [.g [.i v11.1.Lo, .i v11.1.Hi], .i v11.2]) (fs := []) (caps := []) (extra := (kapp [.r 10] (kapp [.r 12] (kapp [.r 14] [])))) (lN rfl) en_63 rfl ⟨rfl, rfl, rfl⟩ (EvL.cons rfl (EvL.cons rfl (EvL.cons rfl EvL.nil))) (fun mm aa ww gg hr hrel => (c63 F v3 ⟨ptr0 (mm 10) (mm 11), v3.Thrust.length, mm 11⟩ ⟨ptr0 (mm 12) (mm 13), v3.Water.length, mm 13⟩ ⟨ptr0 (mm 14) (mm 15), v3.Ice.length, mm 15⟩ a2 a4 ww (slAt_row (enc := encPt) (l := v3.Thrust) (fun _ => rfl) (by decide) hrel ((hr _ (List.mem_append_left _ (by simp))).trans rfl)) (slAt_row (enc := encPt) (l := v3.Water) (fun _ => rfl) (by decide) hrel ((hr _ (List.mem_append_right _ (List.mem_append_left _ (by simp)))).trans rfl)) (slAt_row (enc := encPt) (l := v3.Ice) (fun _ => rfl) (by decide) hrel ((hr _ (List.mem_append_right _ (List.mem_append_right _ (List.mem_append_left _ (by simp))))).trans rfl)) v11 hv11))),
        okp rfl rfl (oqM (lN rfl) rfl),
        okp rfl rfl (op_extract (lN rfl) rfl rfl),
        okp rfl rfl (op_extract (lN rfl) rfl rfl),
        okp rfl rfl (op_alloc (L := 21) (lN rfl) zl_32),
        okp rfl rfl (op_storeN sz_32 rfl rfl rfl rfl rfl (by decide)),
        okp rfl rfl (oqA (lN rfl) rfl),
        trivial⟩ ?_
       refine fqK (s' := (kt 3 (.i a3) :: kt 4 (.B a4) :: kt 5 (.p 1 0) :: kt 7 (.p 3 0) :: kt 11 (.p 16 0) :: kt 12 (.p 17 0) :: kt 14 (.p 19 0) :: kt 16 (.i v10.2) :: kt 18 (.i v11.2) :: kt 21 (.p 20 0) :: kt 22 (.p 21 0) :: kb 1 25 11 :: kb 3 34 8 :: kb 16 25 11 :: kb 17 64 11 :: kb 19 72 8 :: kb 20 32 2 :: kb 21 32 2 :: (.r 4, some (.vec true 5 84 2 (v2.Thrust.flatMap encPt))) :: (.r 6, some (.vec true 7 84 2 (v2.Water.flatMap encPt))) :: (.r 8, some (.vec true 9 84 2 (v2.Ice.flatMap encPt))) :: (.r 10, some (.vec true 11 170 2 (v3.Thrust.flatMap encPt))) :: (.r 12, some (.vec true 13 170 2 (v3.Water.flatMap encPt))) :: (.r 14, some (.vec true 15 170 2 (v3.Ice.flatMap encPt))) :: sK 1 a0 (.v (.slice a0Tp a0.Thrust.length a0Tc)) (.v (.slice a0Wp a0.Water.length a0Wc)) (.v (.slice a0Ip a0.Ice.length a0Ic)) (kc 3 0 (.i a2.Conc.Lo) :: kc 3 1 (.i a2.Conc.Hi) :: kc 3 2 (.i a2.Thick.Lo) :: kc 3 3 (.i a2.Thick.Hi) :: kc 3 4 (.i a2.Ridge.Lo) :: kc 3 5 (.i a2.Ridge.Hi) :: kc 3 6 (.i a2.Press.Lo) :: kc 3 7 (.i a2.Press.Hi) :: sK 16 v2 (.o 4 5 v2.Thrust.length) (.o 6 7 v2.Water.length) (.o 8 9 v2.Ice.length) (sK 17 v3 (.o 10 11 v3.Thrust.length) (.o 12 13 v3.Water.length) (.o 14 15 v3.Ice.length) [kc 19 0 (.i a2.Conc.Lo), kc 19 1 (.i a2.Conc.Hi), kc 19 2 (.i a2.Thick.Lo), kc 19 3 (.i a2.Thick.Hi), kc 19 4 (.i a2.Ridge.Lo), kc 19 5 (.i a2.Ridge.Hi), kc 19 6 (.i a2.Press.Lo), kc 19 7 (.i a2.Press.Hi), kc 20 0 (.i v10.1.Lo), kc 20 1 (.i v10.1.Hi), kc 21 0 (.i v11.1.Lo), kc 21 1 (.i v11.1.Hi)])))) ?_ (kp rfl) rfl
       refine fqT ?_
       refine aqS ?_
       refine aqS ?_
       refine aqT (rows := [_, _, _, _, _, _, _, _]) rfl (by kernel_rfl) ⟨
        okp rfl rfl (oqL (ys := [.i v10.1.Lo, .i v10.1.Hi]) (lN rfl) sh_32 rfl rfl ⟨rfl, rfl, trivial⟩),
        okp rfl rfl (oqL (ys := [.i v11.1.Lo, .i v11.1.Hi]) (lN rfl) sh_32 rfl rfl ⟨rfl, rfl, trivial⟩),
        okp rfl rfl (op_neS (r := decide (v10.1 = v11.1)) (lN rfl) rfl rfl eqg_32 (fun _ => Eq.trans (by kernel_rfl) (congrArg some (Span_eqd v10.1 v11.1)))),
        okp rfl rfl (oqM (lN rfl) rfl),
        ok_if (lN rfl) rfl rfl rfl rfl rfl rfl (fun hg22 => oqM (lN rfl) (force_x rfl)),
        ok_if (lN rfl) rfl rfl rfl rfl rfl rfl (fun hg23 => oqM (lN rfl) (force_x rfl)),
        ok_if (lN rfl) rfl rfl rfl rfl rfl rfl (fun hg24 => oqB (lN rfl) (force_eq (beq_iff_eq.2 hg24) rfl) (force_eq (beq_iff_eq.2 hg24) rfl) rfl),
        okp rfl rfl (op_or (lN rfl) rfl rfl),
        trivial⟩ ?_
       refine fqK (s' := (kt 3 (.i a3) :: kt 4 (.B a4) :: kt 5 (.p 1 0) :: kt 7 (.p 3 0) :: kt 11 (.p 16 0) :: kt 12 (.p 17 0) :: kt 14 (.p 19 0) :: kt 173 (.B ((!decide (v10.1 = v11.1)) || (v10.2 != v11.2))) :: kb 1 25 11 :: kb 3 34 8 :: kb 16 25 11 :: kb 17 64 11 :: kb 19 72 8 :: (.r 4, some (.vec true 5 84 2 (v2.Thrust.flatMap encPt))) :: (.r 6, some (.vec true 7 84 2 (v2.Water.flatMap encPt))) :: (.r 8, some (.vec true 9 84 2 (v2.Ice.flatMap encPt))) :: (.r 10, some (.vec true 11 170 2 (v3.Thrust.flatMap encPt))) :: (.r 12, some (.vec true 13 170 2 (v3.Water.flatMap encPt))) :: (.r 14, some (.vec true 15 170 2 (v3.Ice.flatMap encPt))) :: sK 1 a0 (.v (.slice a0Tp a0.Thrust.length a0Tc)) (.v (.slice a0Wp a0.Water.length a0Wc)) (.v (.slice a0Ip a0.Ice.length a0Ic)) (kc 3 0 (.i a2.Conc.Lo) :: kc 3 1 (.i a2.Conc.Hi) :: kc 3 2 (.i a2.Thick.Lo) :: kc 3 3 (.i a2.Thick.Hi) :: kc 3 4 (.i a2.Ridge.Lo) :: kc 3 5 (.i a2.Ridge.Hi) :: kc 3 6 (.i a2.Press.Lo) :: kc 3 7 (.i a2.Press.Hi) :: sK 16 v2 (.o 4 5 v2.Thrust.length) (.o 6 7 v2.Water.length) (.o 8 9 v2.Ice.length) (sK 17 v3 (.o 10 11 v3.Thrust.length) (.o 12 13 v3.Water.length) (.o 14 15 v3.Ice.length) [kc 19 0 (.i a2.Conc.Lo), kc 19 1 (.i a2.Conc.Hi), kc 19 2 (.i a2.Thick.Lo), kc 19 3 (.i a2.Thick.Hi), kc 19 4 (.i a2.Ridge.Lo), kc 19 5 (.i a2.Ridge.Hi), kc 19 6 (.i a2.Press.Lo), kc 19 7 (.i a2.Press.Hi)])))) ?_ (kp rfl) rfl
       refine fqT ?_
       refine aw_cond rfl (fun hz25 => ?_) (fun hz25 => ?_)
       ·have hm := brk_t hz25 hm
        refine aqS ?_
        refine aqT (rows := [_]) rfl (by kernel_rfl) ⟨
         okp rfl rfl (oqA (lN rfl) rfl),
         trivial⟩ ?_
        refine fqK (s' := [kt 10 (.B false)]) ?_ (kp rfl) rfl
        refine fqT ?_
        refine aw_ret ?_
        refine fin_then_ret ?_
        refine post_ret (x := .B false) rfl rfl (rqT rfl resOK_nil) rfl (fun mm aa ww hr => ?_)
        have hm := Option.some.inj hm
        subst hm
        exact ⟨rfl, hr.below⟩
       ·have hm := brk_f hz25 hm
        refine aw_skip ?_
        refine fqT ?_
        refine aqS ?_
        obtain ⟨v12, hv12, hm⟩ := bnd_some hm
        refine aqT (rows := [_, _, _, _, _, _, _, _, _, _, _]) rfl (by kernel_rfl) ⟨
         okp rfl rfl (oqL (ys := [.i v2.Class, .i v2.Power, .i v2.Draught, .i v2.Tonnes, .o 4 5 v2.Thrust.length, .o 6 7 v2.Water.length, .o 8 9 v2.Ice.length, .i v2.Slow, .i v2.Brash, .i v2.Ridge, .i v2.Press]) (lN rfl) sh_25 rfl rfl ⟨rfl, rfl, rfl, rfl, rfl, rfl, rfl, rfl, rfl, rfl, rfl, trivial⟩),
         okp rfl rfl (oqL (ys := [.i a2.Conc.Lo, .i a2.Conc.Hi, .i a2.Thick.Lo, .i a2.Thick.Hi, .i a2.Ridge.Lo, .i a2.Ridge.Hi, .i a2.Press.Lo, .i a2.Press.Hi]) (lN rfl) sh_34 rfl rfl ⟨rfl, rfl, rfl, rfl, rfl, rfl, rfl, rfl, trivial⟩),
         okp rfl rfl (oqM (lN rfl) rfl),
         okp rfl rfl (oqC (x := .t [.B v12.1, .B v12.2.1, .i v12.2.2]) (fs := []) (caps := []) (extra := (kapp [.r 4] (kapp [.r 6] (kapp [.r 8] [])))) (lN rfl) en_52 rfl ⟨rfl, rfl, rfl⟩ (EvL.cons rfl (EvL.cons rfl (EvL.cons rfl EvL.nil))) (fun mm aa ww gg hr hrel => (c52 F v2 ⟨ptr0 (mm 4) (mm 5), v2.Thrust.length, mm 5⟩ ⟨ptr0 (mm 6) (mm 7), v2.Water.length, mm 7⟩ ⟨ptr0 (mm 8) (mm 9), v2.Ice.length, mm 9⟩ a2 a4 ww (slAt_row (enc := encPt) (l := v2.Thrust) (fun _ => rfl) (by decide) hrel ((hr _ (List.mem_append_left _ (by simp))).trans rfl)) (slAt_row (enc := encPt) (l := v2.Water) (fun _ => rfl) (by decide) hrel ((hr _ (List.mem_append_right _ (List.mem_append_left _ (by simp)))).trans rfl)) (slAt_row (enc := encPt) (l := v2.Ice) (fun _ => rfl) (by decide) hrel ((hr _ (List.mem_append_right _ (List.mem_append_right _ (List.mem_append_left _ (by simp))))).trans rfl)) (BoxAt.mono hG hrel.below) v12 hv12))),
         okp rfl rfl (oqM (lN rfl) rfl),
         okp rfl rfl (op_extract (lN rfl) rfl rfl),
         okp rfl rfl (op_extract (lN rfl) rfl rfl),
         okp rfl rfl (op_extract (lN rfl) rfl rfl),
         okp rfl rfl (oqA (lN rfl) rfl),
         okp rfl rfl (oqA (lN rfl) rfl),
         okp rfl rfl (oqA (lN rfl) rfl),
         trivial⟩ ?_
        refine fqK (s' := (kt 3 (.i a3) :: kt 4 (.B a4) :: kt 5 (.p 1 0) :: kt 7 (.p 3 0) :: kt 11 (.p 16 0) :: kt 12 (.p 17 0) :: kt 14 (.p 19 0) :: kt 16 (.i v12.2.2) :: kt 23 (.B v12.1) :: kt 24 (.B v12.2.1) :: kb 1 25 11 :: kb 3 34 8 :: kb 16 25 11 :: kb 17 64 11 :: kb 19 72 8 :: (.r 4, some (.vec true 5 84 2 (v2.Thrust.flatMap encPt))) :: (.r 6, some (.vec true 7 84 2 (v2.Water.flatMap encPt))) :: (.r 8, some (.vec true 9 84 2 (v2.Ice.flatMap encPt))) :: (.r 10, some (.vec true 11 170 2 (v3.Thrust.flatMap encPt))) :: (.r 12, some (.vec true 13 170 2 (v3.Water.flatMap encPt))) :: (.r 14, some (.vec true 15 170 2 (v3.Ice.flatMap encPt))) :: sK 1 a0 (.v (.slice a0Tp a0.Thrust.length a0Tc)) (.v (.slice a0Wp a0.Water.length a0Wc)) (.v (.slice a0Ip a0.Ice.length a0Ic)) (kc 3 0 (.i a2.Conc.Lo) :: kc 3 1 (.i a2.Conc.Hi) :: kc 3 2 (.i a2.Thick.Lo) :: kc 3 3 (.i a2.Thick.Hi) :: kc 3 4 (.i a2.Ridge.Lo) :: kc 3 5 (.i a2.Ridge.Hi) :: kc 3 6 (.i a2.Press.Lo) :: kc 3 7 (.i a2.Press.Hi) :: sK 16 v2 (.o 4 5 v2.Thrust.length) (.o 6 7 v2.Water.length) (.o 8 9 v2.Ice.length) (sK 17 v3 (.o 10 11 v3.Thrust.length) (.o 12 13 v3.Water.length) (.o 14 15 v3.Ice.length) [kc 19 0 (.i a2.Conc.Lo), kc 19 1 (.i a2.Conc.Hi), kc 19 2 (.i a2.Thick.Lo), kc 19 3 (.i a2.Thick.Hi), kc 19 4 (.i a2.Ridge.Lo), kc 19 5 (.i a2.Ridge.Hi), kc 19 6 (.i a2.Press.Lo), kc 19 7 (.i a2.Press.Hi)])))) ?_ (kp rfl) rfl
        refine fqT ?_
        refine aqS ?_
        obtain ⟨v13, hv13, hm⟩ := bnd_some hm
        refine aqT (rows := [_, _, _, _, _, _, _, _, _, _, _]) rfl (by kernel_rfl) ⟨
         okp rfl rfl (oqL (ys := [.i v3.Class, .i v3.Power, .i v3.Draught, .i v3.Tonnes, .o 10 11 v3.Thrust.length, .o 12 13 v3.Water.length, .o 14 15 v3.Ice.length, .i v3.Slow, .i v3.Brash, .i v3.Ridge, .i v3.Press]) (lN rfl) sh_64 rfl rfl ⟨rfl, rfl, rfl, rfl, rfl, rfl, rfl, rfl, rfl, rfl, rfl, trivial⟩),
         okp rfl rfl (oqL (ys := [.i a2.Conc.Lo, .i a2.Conc.Hi, .i a2.Thick.Lo, .i a2.Thick.Hi, .i a2.Ridge.Lo, .i a2.Ridge.Hi, .i a2.Press.Lo, .i a2.Press.Hi]) (lN rfl) sh_72 rfl rfl ⟨rfl, rfl, rfl, rfl, rfl, rfl, rfl, rfl, trivial⟩),
         okp rfl rfl (oqM (lN rfl) rfl),
         okp rfl rfl (oqC (x := .t [.B v13.1, .B v13.2.1, .i v13.2.2]) (fs := []) (caps := []) (extra := (kapp [.r 10] (kapp [.r 12] (kapp [.r 14] [])))) (lN rfl) en_64 rfl ⟨rfl, rfl, rfl⟩ (EvL.cons rfl (EvL.cons rfl (EvL.cons rfl EvL.nil))) (fun mm aa ww gg hr hrel => (c64 F v3 ⟨ptr0 (mm 10) (mm 11), v3.Thrust.length, mm 11⟩ ⟨ptr0 (mm 12) (mm 13), v3.Water.length, mm 13⟩ ⟨ptr0 (mm 14) (mm 15), v3.Ice.length, mm 15⟩ a2 a4 ww (slAt_row (enc := encPt) (l := v3.Thrust) (fun _ => rfl) (by decide) hrel ((hr _ (List.mem_append_left _ (by simp))).trans rfl)) (slAt_row (enc := encPt) (l := v3.Water) (fun _ => rfl) (by decide) hrel ((hr _ (List.mem_append_right _ (List.mem_append_left _ (by simp)))).trans rfl)) (slAt_row (enc := encPt) (l := v3.Ice) (fun _ => rfl) (by decide) hrel ((hr _ (List.mem_append_right _ (List.mem_append_right _ (List.mem_append_left _ (by simp))))).trans rfl)) v13 hv13))),
         okp rfl rfl (oqM (lN rfl) rfl),
         okp rfl rfl (op_extract (lN rfl) rfl rfl),
         okp rfl rfl (op_extract (lN rfl) rfl rfl),
         okp rfl rfl (op_extract (lN rfl) rfl rfl),
         okp rfl rfl (oqA (lN rfl) rfl),
         okp rfl rfl (oqA (lN rfl) rfl),
         okp rfl rfl (oqA (lN rfl) rfl),
         trivial⟩ ?_
        refine fqK (s' := (kt 3 (.i a3) :: kt 4 (.B a4) :: kt 5 (.p 1 0) :: kt 7 (.p 3 0) :: kt 11 (.p 16 0) :: kt 12 (.p 17 0) :: kt 14 (.p 19 0) :: kt 16 (.i v12.2.2) :: kt 18 (.i v13.2.2) :: kt 23 (.B v12.1) :: kt 24 (.B v12.2.1) :: kt 25 (.B v13.1) :: kt 26 (.B v13.2.1) :: kb 1 25 11 :: kb 3 34 8 :: kb 16 25 11 :: kb 17 64 11 :: kb 19 72 8 :: (.r 4, some (.vec true 5 84 2 (v2.Thrust.flatMap encPt))) :: (.r 6, some (.vec true 7 84 2 (v2.Water.flatMap encPt))) :: (.r 8, some (.vec true 9 84 2 (v2.Ice.flatMap encPt))) :: (.r 10, some (.vec true 11 170 2 (v3.Thrust.flatMap encPt))) :: (.r 12, some (.vec true 13 170 2 (v3.Water.flatMap encPt))) :: (.r 14, some (.vec true 15 170 2 (v3.Ice.flatMap encPt))) :: sK 1 a0 (.v (.slice a0Tp a0.Thrust.length a0Tc)) (.v (.slice a0Wp a0.Water.length a0Wc)) (.v (.slice a0Ip a0.Ice.length a0Ic)) (kc 3 0 (.i a2.Conc.Lo) :: kc 3 1 (.i a2.Conc.Hi) :: kc 3 2 (.i a2.Thick.Lo) :: kc 3 3 (.i a2.Thick.Hi) :: kc 3 4 (.i a2.Ridge.Lo) :: kc 3 5 (.i a2.Ridge.Hi) :: kc 3 6 (.i a2.Press.Lo) :: kc 3 7 (.i a2.Press.Hi) :: sK 16 v2 (.o 4 5 v2.Thrust.length) (.o 6 7 v2.Water.length) (.o 8 9 v2.Ice.length) (sK 17 v3 (.o 10 11 v3.Thrust.length) (.o 12 13 v3.Water.length) (.o 14 15 v3.Ice.length) [kc 19 0 (.i a2.Conc.Lo), kc 19 1 (.i a2.Conc.Hi), kc 19 2 (.i a2.Thick.Lo), kc 19 3 (.i a2.Thick.Hi), kc 19 4 (.i a2.Ridge.Lo), kc 19 5 (.i a2.Ridge.Hi), kc 19 6 (.i a2.Press.Lo), kc 19 7 (.i a2.Press.Hi)])))) ?_ (kp rfl) rfl
        refine fqT ?_
        refine aqS ?_
        refine aqS ?_
        refine aqT (rows := [_, _, _, _, _, _, _, _, _, _, _, _, _]) rfl (by kernel_rfl) ⟨
         okp rfl rfl (oqM (lN rfl) rfl),
         okp rfl rfl (oqM (lN rfl) rfl),
         okp rfl rfl (op_neb (lN rfl) rfl rfl un_4),
         okp rfl rfl (oqM (lN rfl) rfl),
         ok_if (lN rfl) rfl rfl rfl rfl rfl rfl (fun hg26 => oqM (lN rfl) (force_x rfl)),
         ok_if (lN rfl) rfl rfl rfl rfl rfl rfl (fun hg27 => oqM (lN rfl) (force_x rfl)),
         ok_if (lN rfl) rfl rfl rfl rfl rfl rfl (fun hg28 => op_neb (lN rfl) (force_eq (beq_iff_eq.2 hg28) rfl) (force_eq (beq_iff_eq.2 hg28) rfl) un_4),
         okp rfl rfl (op_or (lN rfl) rfl rfl),
         okp rfl rfl (oqM (lN rfl) rfl),
         ok_if (lN rfl) rfl rfl rfl rfl rfl rfl (fun hg29 => oqM (lN rfl) (force_x rfl)),
         ok_if (lN rfl) rfl rfl rfl rfl rfl rfl (fun hg30 => oqM (lN rfl) (force_x rfl)),
         ok_if (lN rfl) rfl rfl rfl rfl rfl rfl (fun hg31 => oqB (lN rfl) (force_eq (beq_iff_eq.2 hg31) rfl) (force_eq (beq_iff_eq.2 hg31) rfl) rfl),
         okp rfl rfl (op_or (lN rfl) rfl rfl),
         trivial⟩ ?_
        refine fqK (s' := (kt 3 (.i a3) :: kt 4 (.B a4) :: kt 5 (.p 1 0) :: kt 7 (.p 3 0) :: kt 11 (.p 16 0) :: kt 12 (.p 17 0) :: kt 14 (.p 19 0) :: kt 202 (.B (((!((v12.1) == (v13.1))) || (!((v12.2.1) == (v13.2.1)))) || (v12.2.2 != v13.2.2))) :: kb 1 25 11 :: kb 3 34 8 :: kb 16 25 11 :: kb 17 64 11 :: kb 19 72 8 :: (.r 4, some (.vec true 5 84 2 (v2.Thrust.flatMap encPt))) :: (.r 6, some (.vec true 7 84 2 (v2.Water.flatMap encPt))) :: (.r 8, some (.vec true 9 84 2 (v2.Ice.flatMap encPt))) :: (.r 10, some (.vec true 11 170 2 (v3.Thrust.flatMap encPt))) :: (.r 12, some (.vec true 13 170 2 (v3.Water.flatMap encPt))) :: (.r 14, some (.vec true 15 170 2 (v3.Ice.flatMap encPt))) :: sK 1 a0 (.v (.slice a0Tp a0.Thrust.length a0Tc)) (.v (.slice a0Wp a0.Water.length a0Wc)) (.v (.slice a0Ip a0.Ice.length a0Ic)) (kc 3 0 (.i a2.Conc.Lo) :: kc 3 1 (.i a2.Conc.Hi) :: kc 3 2 (.i a2.Thick.Lo) :: kc 3 3 (.i a2.Thick.Hi) :: kc 3 4 (.i a2.Ridge.Lo) :: kc 3 5 (.i a2.Ridge.Hi) :: kc 3 6 (.i a2.Press.Lo) :: kc 3 7 (.i a2.Press.Hi) :: sK 16 v2 (.o 4 5 v2.Thrust.length) (.o 6 7 v2.Water.length) (.o 8 9 v2.Ice.length) (sK 17 v3 (.o 10 11 v3.Thrust.length) (.o 12 13 v3.Water.length) (.o 14 15 v3.Ice.length) [kc 19 0 (.i a2.Conc.Lo), kc 19 1 (.i a2.Conc.Hi), kc 19 2 (.i a2.Thick.Lo), kc 19 3 (.i a2.Thick.Hi), kc 19 4 (.i a2.Ridge.Lo), kc 19 5 (.i a2.Ridge.Hi), kc 19 6 (.i a2.Press.Lo), kc 19 7 (.i a2.Press.Hi)])))) ?_ (kp rfl) rfl
        refine fqT ?_
        refine aw_cond rfl (fun hz32 => ?_) (fun hz32 => ?_)
        ·have hm := brk_t hz32 hm
         refine aqS ?_
         refine aqT (rows := [_]) rfl (by kernel_rfl) ⟨
          okp rfl rfl (oqA (lN rfl) rfl),
          trivial⟩ ?_
         refine fqK (s' := [kt 10 (.B false)]) ?_ (kp rfl) rfl
         refine fqT ?_
         refine aw_ret ?_
         refine fin_then_ret ?_
         refine post_ret (x := .B false) rfl rfl (rqT rfl resOK_nil) rfl (fun mm aa ww hr => ?_)
         have hm := Option.some.inj hm
         subst hm
         exact ⟨rfl, hr.below⟩
        ·have hm := brk_f hz32 hm
         refine aw_skip ?_
         refine fqT ?_
         refine aqS ?_
         obtain ⟨v14, hv14, hm⟩ := bnd_some hm
         refine aqT (rows := [_, _, _, _, _, _, _, _, _, _, _, _]) rfl (by kernel_rfl) ⟨
          okp rfl rfl (oqL (ys := [.i v2.Class, .i v2.Power, .i v2.Draught, .i v2.Tonnes, .o 4 5 v2.Thrust.length, .o 6 7 v2.Water.length, .o 8 9 v2.Ice.length, .i v2.Slow, .i v2.Brash, .i v2.Ridge, .i v2.Press]) (lN rfl) sh_25 rfl rfl ⟨rfl, rfl, rfl, rfl, rfl, rfl, rfl, rfl, rfl, rfl, rfl, trivial⟩),
          okp rfl rfl (oqL (ys := [.i a2.Conc.Lo, .i a2.Conc.Hi, .i a2.Thick.Lo, .i a2.Thick.Hi, .i a2.Ridge.Lo, .i a2.Ridge.Hi, .i a2.Press.Lo, .i a2.Press.Hi]) (lN rfl) sh_34 rfl rfl ⟨rfl, rfl, rfl, rfl, rfl, rfl, rfl, rfl, trivial⟩),
          okp rfl rfl (oqM (lN rfl) rfl),
          okp rfl rfl (oqM (lN rfl) rfl),
          okp rfl rfl (oqC (x := .t [.B v14.1, .B v14.2.1, .i v14.2.2]) (fs := []) (caps := []) (extra := (kapp [.r 4] (kapp [.r 6] (kapp [.r 8] [])))) (lN rfl) en_56 rfl ⟨rfl, rfl, rfl⟩ (EvL.cons rfl (EvL.cons rfl (EvL.cons rfl (EvL.cons rfl EvL.nil)))) (fun mm aa ww gg hr hrel => (c56 F v2 ⟨ptr0 (mm 4) (mm 5), v2.Thrust.length, mm 5⟩ ⟨ptr0 (mm 6) (mm 7), v2.Water.length, mm 7⟩ ⟨ptr0 (mm 8) (mm 9), v2.Ice.length, mm 9⟩ a2 a3 a4 ww (slAt_row (enc := encPt) (l := v2.Thrust) (fun _ => rfl) (by decide) hrel ((hr _ (List.mem_append_left _ (by simp))).trans rfl)) (slAt_row (enc := encPt) (l := v2.Water) (fun _ => rfl) (by decide) hrel ((hr _ (List.mem_append_right _ (List.mem_append_left _ (by simp)))).trans rfl)) (slAt_row (enc := encPt) (l := v2.Ice) (fun _ => rfl) (by decide) hrel ((hr _ (List.mem_append_right _ (List.mem_append_right _ (List.mem_append_left _ (by simp))))).trans rfl)) (BoxAt.mono hG hrel.below) v14 hv14))),
          okp rfl rfl (oqM (lN rfl) rfl),
          okp rfl rfl (op_extract (lN rfl) rfl rfl),
          okp rfl rfl (op_extract (lN rfl) rfl rfl),
          okp rfl rfl (op_extract (lN rfl) rfl rfl),
          okp rfl rfl (oqA (lN rfl) rfl),
          okp rfl rfl (oqA (lN rfl) rfl),
          okp rfl rfl (oqA (lN rfl) rfl),
          trivial⟩ ?_
         refine fqK (s' := (kt 3 (.i a3) :: kt 4 (.B a4) :: kt 5 (.p 1 0) :: kt 7 (.p 3 0) :: kt 11 (.p 16 0) :: kt 12 (.p 17 0) :: kt 14 (.p 19 0) :: kt 16 (.i v14.2.2) :: kt 23 (.B v14.1) :: kt 24 (.B v14.2.1) :: kb 1 25 11 :: kb 3 34 8 :: kb 16 25 11 :: kb 17 64 11 :: kb 19 72 8 :: (.r 4, some (.vec true 5 84 2 (v2.Thrust.flatMap encPt))) :: (.r 6, some (.vec true 7 84 2 (v2.Water.flatMap encPt))) :: (.r 8, some (.vec true 9 84 2 (v2.Ice.flatMap encPt))) :: (.r 10, some (.vec true 11 170 2 (v3.Thrust.flatMap encPt))) :: (.r 12, some (.vec true 13 170 2 (v3.Water.flatMap encPt))) :: (.r 14, some (.vec true 15 170 2 (v3.Ice.flatMap encPt))) :: sK 1 a0 (.v (.slice a0Tp a0.Thrust.length a0Tc)) (.v (.slice a0Wp a0.Water.length a0Wc)) (.v (.slice a0Ip a0.Ice.length a0Ic)) (kc 3 0 (.i a2.Conc.Lo) :: kc 3 1 (.i a2.Conc.Hi) :: kc 3 2 (.i a2.Thick.Lo) :: kc 3 3 (.i a2.Thick.Hi) :: kc 3 4 (.i a2.Ridge.Lo) :: kc 3 5 (.i a2.Ridge.Hi) :: kc 3 6 (.i a2.Press.Lo) :: kc 3 7 (.i a2.Press.Hi) :: sK 16 v2 (.o 4 5 v2.Thrust.length) (.o 6 7 v2.Water.length) (.o 8 9 v2.Ice.length) (sK 17 v3 (.o 10 11 v3.Thrust.length) (.o 12 13 v3.Water.length) (.o 14 15 v3.Ice.length) [kc 19 0 (.i a2.Conc.Lo), kc 19 1 (.i a2.Conc.Hi), kc 19 2 (.i a2.Thick.Lo), kc 19 3 (.i a2.Thick.Hi), kc 19 4 (.i a2.Ridge.Lo), kc 19 5 (.i a2.Ridge.Hi), kc 19 6 (.i a2.Press.Lo), kc 19 7 (.i a2.Press.Hi)])))) ?_ (kp rfl) rfl
         refine fqT ?_
         refine aqS ?_
         obtain ⟨v15, hv15, hm⟩ := bnd_some hm
         refine aqT (rows := [_, _, _, _, _, _, _, _, _, _, _, _]) rfl (by kernel_rfl) ⟨
          okp rfl rfl (oqL (ys := [.i v3.Class, .i v3.Power, .i v3.Draught, .i v3.Tonnes, .o 10 11 v3.Thrust.length, .o 12 13 v3.Water.length, .o 14 15 v3.Ice.length, .i v3.Slow, .i v3.Brash, .i v3.Ridge, .i v3.Press]) (lN rfl) sh_64 rfl rfl ⟨rfl, rfl, rfl, rfl, rfl, rfl, rfl, rfl, rfl, rfl, rfl, trivial⟩),
          okp rfl rfl (oqL (ys := [.i a2.Conc.Lo, .i a2.Conc.Hi, .i a2.Thick.Lo, .i a2.Thick.Hi, .i a2.Ridge.Lo, .i a2.Ridge.Hi, .i a2.Press.Lo, .i a2.Press.Hi]) (lN rfl) sh_72 rfl rfl ⟨rfl, rfl, rfl, rfl, rfl, rfl, rfl, rfl, trivial⟩),
          okp rfl rfl (oqM (lN rfl) rfl),
          okp rfl rfl (oqM (lN rfl) rfl),
          okp rfl rfl (oqC (x := .t [.B v15.1, .B v15.2.1, .i v15.2.2]) (fs := []) (caps := []) (extra := (kapp [.r 10] (kapp [.r 12] (kapp [.r 14] [])))) (lN rfl) en_65 rfl ⟨rfl, rfl, rfl⟩ (EvL.cons rfl (EvL.cons rfl (EvL.cons rfl (EvL.cons rfl EvL.nil)))) (fun mm aa ww gg hr hrel => (c65 F v3 ⟨ptr0 (mm 10) (mm 11), v3.Thrust.length, mm 11⟩ ⟨ptr0 (mm 12) (mm 13), v3.Water.length, mm 13⟩ ⟨ptr0 (mm 14) (mm 15), v3.Ice.length, mm 15⟩ a2 a3 a4 ww (slAt_row (enc := encPt) (l := v3.Thrust) (fun _ => rfl) (by decide) hrel ((hr _ (List.mem_append_left _ (by simp))).trans rfl)) (slAt_row (enc := encPt) (l := v3.Water) (fun _ => rfl) (by decide) hrel ((hr _ (List.mem_append_right _ (List.mem_append_left _ (by simp)))).trans rfl)) (slAt_row (enc := encPt) (l := v3.Ice) (fun _ => rfl) (by decide) hrel ((hr _ (List.mem_append_right _ (List.mem_append_right _ (List.mem_append_left _ (by simp))))).trans rfl)) v15 hv15))),
          okp rfl rfl (oqM (lN rfl) rfl),
          okp rfl rfl (op_extract (lN rfl) rfl rfl),
          okp rfl rfl (op_extract (lN rfl) rfl rfl),
          okp rfl rfl (op_extract (lN rfl) rfl rfl),
          okp rfl rfl (oqA (lN rfl) rfl),
          okp rfl rfl (oqA (lN rfl) rfl),
          okp rfl rfl (oqA (lN rfl) rfl),
          trivial⟩ ?_
         refine fqK (s' := (kt 4 (.B a4) :: kt 5 (.p 1 0) :: kt 7 (.p 3 0) :: kt 11 (.p 16 0) :: kt 12 (.p 17 0) :: kt 14 (.p 19 0) :: kt 16 (.i v14.2.2) :: kt 18 (.i v15.2.2) :: kt 23 (.B v14.1) :: kt 24 (.B v14.2.1) :: kt 25 (.B v15.1) :: kt 26 (.B v15.2.1) :: kb 1 25 11 :: kb 3 34 8 :: kb 16 25 11 :: kb 17 64 11 :: kb 19 72 8 :: (.r 4, some (.vec true 5 84 2 (v2.Thrust.flatMap encPt))) :: (.r 6, some (.vec true 7 84 2 (v2.Water.flatMap encPt))) :: (.r 8, some (.vec true 9 84 2 (v2.Ice.flatMap encPt))) :: (.r 10, some (.vec true 11 170 2 (v3.Thrust.flatMap encPt))) :: (.r 12, some (.vec true 13 170 2 (v3.Water.flatMap encPt))) :: (.r 14, some (.vec true 15 170 2 (v3.Ice.flatMap encPt))) :: sK 1 a0 (.v (.slice a0Tp a0.Thrust.length a0Tc)) (.v (.slice a0Wp a0.Water.length a0Wc)) (.v (.slice a0Ip a0.Ice.length a0Ic)) (kc 3 0 (.i a2.Conc.Lo) :: kc 3 1 (.i a2.Conc.Hi) :: kc 3 2 (.i a2.Thick.Lo) :: kc 3 3 (.i a2.Thick.Hi) :: kc 3 4 (.i a2.Ridge.Lo) :: kc 3 5 (.i a2.Ridge.Hi) :: kc 3 6 (.i a2.Press.Lo) :: kc 3 7 (.i a2.Press.Hi) :: sK 16 v2 (.o 4 5 v2.Thrust.length) (.o 6 7 v2.Water.length) (.o 8 9 v2.Ice.length) (sK 17 v3 (.o 10 11 v3.Thrust.length) (.o 12 13 v3.Water.length) (.o 14 15 v3.Ice.length) [kc 19 0 (.i a2.Conc.Lo), kc 19 1 (.i a2.Conc.Hi), kc 19 2 (.i a2.Thick.Lo), kc 19 3 (.i a2.Thick.Hi), kc 19 4 (.i a2.Ridge.Lo), kc 19 5 (.i a2.Ridge.Hi), kc 19 6 (.i a2.Press.Lo), kc 19 7 (.i a2.Press.Hi)])))) ?_ (kp rfl) rfl
         refine fqT ?_
         refine aqS ?_
         refine aqS ?_
         refine aqT (rows := [_, _, _, _, _, _, _, _, _, _, _, _, _]) rfl (by kernel_rfl) ⟨
          okp rfl rfl (oqM (lN rfl) rfl),
          okp rfl rfl (oqM (lN rfl) rfl),
          okp rfl rfl (op_neb (lN rfl) rfl rfl un_4),
          okp rfl rfl (oqM (lN rfl) rfl),
          ok_if (lN rfl) rfl rfl rfl rfl rfl rfl (fun hg33 => oqM (lN rfl) (force_x rfl)),
          ok_if (lN rfl) rfl rfl rfl rfl rfl rfl (fun hg34 => oqM (lN rfl) (force_x rfl)),
          ok_if (lN rfl) rfl rfl rfl rfl rfl rfl (fun hg35 => op_neb (lN rfl) (force_eq (beq_iff_eq.2 hg35) rfl) (force_eq (beq_iff_eq.2 hg35) rfl) un_4),
          okp rfl rfl (op_or (lN rfl) rfl rfl),
          okp rfl rfl (oqM (lN rfl) rfl),
          ok_if (lN rfl) rfl rfl rfl rfl rfl rfl (fun hg36 => oqM (lN rfl) (force_x rfl)),
          ok_if (lN rfl) rfl rfl rfl rfl rfl rfl (fun hg37 => oqM (lN rfl) (force_x rfl)),
          ok_if (lN rfl) rfl rfl rfl rfl rfl rfl (fun hg38 => oqB (lN rfl) (force_eq (beq_iff_eq.2 hg38) rfl) (force_eq (beq_iff_eq.2 hg38) rfl) rfl),
          okp rfl rfl (op_or (lN rfl) rfl rfl),
          trivial⟩ ?_
         refine fqK (s' := (kt 4 (.B a4) :: kt 5 (.p 1 0) :: kt 7 (.p 3 0) :: kt 11 (.p 16 0) :: kt 12 (.p 17 0) :: kt 14 (.p 19 0) :: kt 233 (.B (((!((v14.1) == (v15.1))) || (!((v14.2.1) == (v15.2.1)))) || (v14.2.2 != v15.2.2))) :: kb 1 25 11 :: kb 3 34 8 :: kb 16 25 11 :: kb 17 64 11 :: kb 19 72 8 :: (.r 4, some (.vec true 5 84 2 (v2.Thrust.flatMap encPt))) :: (.r 6, some (.vec true 7 84 2 (v2.Water.flatMap encPt))) :: (.r 8, some (.vec true 9 84 2 (v2.Ice.flatMap encPt))) :: (.r 10, some (.vec true 11 170 2 (v3.Thrust.flatMap encPt))) :: (.r 12, some (.vec true 13 170 2 (v3.Water.flatMap encPt))) :: (.r 14, some (.vec true 15 170 2 (v3.Ice.flatMap encPt))) :: sK 1 a0 (.v (.slice a0Tp a0.Thrust.length a0Tc)) (.v (.slice a0Wp a0.Water.length a0Wc)) (.v (.slice a0Ip a0.Ice.length a0Ic)) (kc 3 0 (.i a2.Conc.Lo) :: kc 3 1 (.i a2.Conc.Hi) :: kc 3 2 (.i a2.Thick.Lo) :: kc 3 3 (.i a2.Thick.Hi) :: kc 3 4 (.i a2.Ridge.Lo) :: kc 3 5 (.i a2.Ridge.Hi) :: kc 3 6 (.i a2.Press.Lo) :: kc 3 7 (.i a2.Press.Hi) :: sK 16 v2 (.o 4 5 v2.Thrust.length) (.o 6 7 v2.Water.length) (.o 8 9 v2.Ice.length) (sK 17 v3 (.o 10 11 v3.Thrust.length) (.o 12 13 v3.Water.length) (.o 14 15 v3.Ice.length) [kc 19 0 (.i a2.Conc.Lo), kc 19 1 (.i a2.Conc.Hi), kc 19 2 (.i a2.Thick.Lo), kc 19 3 (.i a2.Thick.Hi), kc 19 4 (.i a2.Ridge.Lo), kc 19 5 (.i a2.Ridge.Hi), kc 19 6 (.i a2.Press.Lo), kc 19 7 (.i a2.Press.Hi)])))) ?_ (kp rfl) rfl
         refine fqT ?_
         refine aw_cond rfl (fun hz39 => ?_) (fun hz39 => ?_)
         ·have hm := brk_t hz39 hm
          refine aqS ?_
          refine aqT (rows := [_]) rfl (by kernel_rfl) ⟨
           okp rfl rfl (oqA (lN rfl) rfl),
           trivial⟩ ?_
          refine fqK (s' := [kt 10 (.B false)]) ?_ (kp rfl) rfl
          refine fqT ?_
          refine aw_ret ?_
          refine fin_then_ret ?_
          refine post_ret (x := .B false) rfl rfl (rqT rfl resOK_nil) rfl (fun mm aa ww hr => ?_)
          have hm := Option.some.inj hm
          subst hm
          exact ⟨rfl, hr.below⟩
         ·have hm := brk_f hz39 hm
          refine aw_skip ?_
          refine fqT ?_
          refine aqS ?_
          refine aqT (rows := [_, _, _, _, _, _, _, _, _]) rfl (by kernel_rfl) ⟨
           okp rfl rfl (oqL (ys := [.i v2.Class, .i v2.Power, .i v2.Draught, .i v2.Tonnes, .o 4 5 v2.Thrust.length, .o 6 7 v2.Water.length, .o 8 9 v2.Ice.length, .i v2.Slow, .i v2.Brash, .i v2.Ridge, .i v2.Press]) (lN rfl) sh_25 rfl rfl ⟨rfl, rfl, rfl, rfl, rfl, rfl, rfl, rfl, rfl, rfl, rfl, trivial⟩),
           okp rfl rfl (oqL (ys := [.i a2.Conc.Lo, .i a2.Conc.Hi, .i a2.Thick.Lo, .i a2.Thick.Hi, .i a2.Ridge.Lo, .i a2.Ridge.Hi, .i a2.Press.Lo, .i a2.Press.Hi]) (lN rfl) sh_34 rfl rfl ⟨rfl, rfl, rfl, rfl, rfl, rfl, rfl, rfl, trivial⟩),
           okp rfl rfl (oqM (lN rfl) rfl),
           okp rfl rfl (oqC (x := .t [.i ((safeE v2 a2 a4).1), .i ((safeE v2 a2 a4).2)]) (fs := []) (caps := []) (extra := (kapp [.r 4] (kapp [.r 6] (kapp [.r 8] [])))) (lN rfl) en_24 rfl ⟨rfl, rfl, rfl⟩ (EvL.cons rfl (EvL.cons rfl (EvL.cons rfl EvL.nil))) (fun mm aa ww gg hr hrel => (c24 v2 ⟨ptr0 (mm 4) (mm 5), v2.Thrust.length, mm 5⟩ ⟨ptr0 (mm 6) (mm 7), v2.Water.length, mm 7⟩ ⟨ptr0 (mm 8) (mm 9), v2.Ice.length, mm 9⟩ a2 a4 ww (slAt_row (enc := encPt) (l := v2.Thrust) (fun _ => rfl) (by decide) hrel ((hr _ (List.mem_append_left _ (by simp))).trans rfl)) (slAt_row (enc := encPt) (l := v2.Water) (fun _ => rfl) (by decide) hrel ((hr _ (List.mem_append_right _ (List.mem_append_left _ (by simp)))).trans rfl)) (slAt_row (enc := encPt) (l := v2.Ice) (fun _ => rfl) (by decide) hrel ((hr _ (List.mem_append_right _ (List.mem_append_right _ (List.mem_append_left _ (by simp))))).trans rfl)) (BoxAt.mono hG hrel.below)))),
           okp rfl rfl (oqM (lN rfl) rfl),
           okp rfl rfl (op_extract (lN rfl) rfl rfl),
           okp rfl rfl (op_extract (lN rfl) rfl rfl),
           okp rfl rfl (oqA (lN rfl) rfl),
           okp rfl rfl (oqA (lN rfl) rfl),
           trivial⟩ ?_
          refine fqK (s' := (kt 4 (.B a4) :: kt 5 (.p 1 0) :: kt 11 (.p 16 0) :: kt 12 (.p 17 0) :: kt 14 (.p 19 0) :: kt 15 (.i ((safeE v2 a2 a4).1)) :: kt 16 (.i ((safeE v2 a2 a4).2)) :: kb 1 25 11 :: kb 16 25 11 :: kb 17 64 11 :: kb 19 72 8 :: (.r 4, some (.vec true 5 84 2 (v2.Thrust.flatMap encPt))) :: (.r 6, some (.vec true 7 84 2 (v2.Water.flatMap encPt))) :: (.r 8, some (.vec true 9 84 2 (v2.Ice.flatMap encPt))) :: (.r 10, some (.vec true 11 170 2 (v3.Thrust.flatMap encPt))) :: (.r 12, some (.vec true 13 170 2 (v3.Water.flatMap encPt))) :: (.r 14, some (.vec true 15 170 2 (v3.Ice.flatMap encPt))) :: sK 1 a0 (.v (.slice a0Tp a0.Thrust.length a0Tc)) (.v (.slice a0Wp a0.Water.length a0Wc)) (.v (.slice a0Ip a0.Ice.length a0Ic)) (sK 16 v2 (.o 4 5 v2.Thrust.length) (.o 6 7 v2.Water.length) (.o 8 9 v2.Ice.length) (sK 17 v3 (.o 10 11 v3.Thrust.length) (.o 12 13 v3.Water.length) (.o 14 15 v3.Ice.length) [kc 19 0 (.i a2.Conc.Lo), kc 19 1 (.i a2.Conc.Hi), kc 19 2 (.i a2.Thick.Lo), kc 19 3 (.i a2.Thick.Hi), kc 19 4 (.i a2.Ridge.Lo), kc 19 5 (.i a2.Ridge.Hi), kc 19 6 (.i a2.Press.Lo), kc 19 7 (.i a2.Press.Hi)])))) ?_ (kp rfl) rfl
          refine fqT ?_
          refine aqS ?_
          obtain ⟨v16, hv16, hm⟩ := bnd_some hm
          refine aqT (rows := [_, _, _, _, _, _, _, _, _]) rfl (by kernel_rfl) ⟨
           okp rfl rfl (oqL (ys := [.i v3.Class, .i v3.Power, .i v3.Draught, .i v3.Tonnes, .o 10 11 v3.Thrust.length, .o 12 13 v3.Water.length, .o 14 15 v3.Ice.length, .i v3.Slow, .i v3.Brash, .i v3.Ridge, .i v3.Press]) (lN rfl) sh_64 rfl rfl ⟨rfl, rfl, rfl, rfl, rfl, rfl, rfl, rfl, rfl, rfl, rfl, trivial⟩),
           okp rfl rfl (oqL (ys := [.i a2.Conc.Lo, .i a2.Conc.Hi, .i a2.Thick.Lo, .i a2.Thick.Hi, .i a2.Ridge.Lo, .i a2.Ridge.Hi, .i a2.Press.Lo, .i a2.Press.Hi]) (lN rfl) sh_72 rfl rfl ⟨rfl, rfl, rfl, rfl, rfl, rfl, rfl, rfl, trivial⟩),
           okp rfl rfl (oqM (lN rfl) rfl),
           okp rfl rfl (oqC (x := .t [.i v16.1, .i v16.2]) (fs := []) (caps := []) (extra := (kapp [.r 10] (kapp [.r 12] (kapp [.r 14] [])))) (lN rfl) en_66 rfl ⟨rfl, rfl, rfl⟩ (EvL.cons rfl (EvL.cons rfl (EvL.cons rfl EvL.nil))) (fun mm aa ww gg hr hrel => (c66 F v3 ⟨ptr0 (mm 10) (mm 11), v3.Thrust.length, mm 11⟩ ⟨ptr0 (mm 12) (mm 13), v3.Water.length, mm 13⟩ ⟨ptr0 (mm 14) (mm 15), v3.Ice.length, mm 15⟩ a2 a4 ww (slAt_row (enc := encPt) (l := v3.Thrust) (fun _ => rfl) (by decide) hrel ((hr _ (List.mem_append_left _ (by simp))).trans rfl)) (slAt_row (enc := encPt) (l := v3.Water) (fun _ => rfl) (by decide) hrel ((hr _ (List.mem_append_right _ (List.mem_append_left _ (by simp)))).trans rfl)) (slAt_row (enc := encPt) (l := v3.Ice) (fun _ => rfl) (by decide) hrel ((hr _ (List.mem_append_right _ (List.mem_append_right _ (List.mem_append_left _ (by simp))))).trans rfl)) v16 hv16))),
           okp rfl rfl (oqM (lN rfl) rfl),
           okp rfl rfl (op_extract (lN rfl) rfl rfl),
           okp rfl rfl (op_extract (lN rfl) rfl rfl),
           okp rfl rfl (oqA (lN rfl) rfl),
           okp rfl rfl (oqA (lN rfl) rfl),
           trivial⟩ ?_
          refine fqK (s' := (kt 5 (.p 1 0) :: kt 11 (.p 16 0) :: kt 15 (.i ((safeE v2 a2 a4).1)) :: kt 16 (.i ((safeE v2 a2 a4).2)) :: kt 17 (.i v16.1) :: kt 18 (.i v16.2) :: kb 1 25 11 :: kb 16 25 11 :: (.r 4, some (.vec true 5 84 2 (v2.Thrust.flatMap encPt))) :: (.r 6, some (.vec true 7 84 2 (v2.Water.flatMap encPt))) :: (.r 8, some (.vec true 9 84 2 (v2.Ice.flatMap encPt))) :: sK 1 a0 (.v (.slice a0Tp a0.Thrust.length a0Tc)) (.v (.slice a0Wp a0.Water.length a0Wc)) (.v (.slice a0Ip a0.Ice.length a0Ic)) (sK 16 v2 (.o 4 5 v2.Thrust.length) (.o 6 7 v2.Water.length) (.o 8 9 v2.Ice.length) []))) ?_ (kp rfl) rfl
          refine fqT ?_
          refine aqS ?_
          obtain ⟨v17, hv17, hm⟩ := bnd_some hm
          refine aqT (rows := [_, _, _, _, _, _, _, _, _, _, _, _, _, _, _, _, _]) rfl (by kernel_rfl) ⟨
           okp rfl rfl (oqM (lN rfl) rfl),
           okp rfl rfl (oqM (lN rfl) rfl),
           okp rfl rfl (oqB (lN rfl) rfl rfl rfl),
           okp rfl rfl (oqM (lN rfl) rfl),
           ok_if (lN rfl) rfl rfl rfl rfl rfl rfl (fun hg40 => oqM (lN rfl) (force_x rfl)),
           ok_if (lN rfl) rfl rfl rfl rfl rfl rfl (fun hg41 => oqM (lN rfl) (force_x rfl)),
           ok_if (lN rfl) rfl rfl rfl rfl rfl rfl (fun hg42 => oqB (lN rfl) (force_eq (beq_iff_eq.2 hg42) rfl) (force_eq (beq_iff_eq.2 hg42) rfl) rfl),
           okp rfl rfl (op_and (lN rfl) rfl rfl),
           okp rfl rfl (oqM (lN rfl) rfl),
           ok_if (lN rfl) rfl rfl rfl rfl rfl rfl (fun hg43 => oqL (ys := [.i a0.Class, .i a0.Power, .i a0.Draught, .i a0.Tonnes, .v (.slice a0Tp a0.Thrust.length a0Tc), .v (.slice a0Wp a0.Water.length a0Wc), .v (.slice a0Ip a0.Ice.length a0Ic), .i a0.Slow, .i a0.Brash, .i a0.Ridge, .i a0.Press]) (lN rfl) sh_25 (force_x rfl) rfl ⟨rfl, rfl, rfl, rfl, rfl, rfl, rfl, rfl, rfl, rfl, rfl, trivial⟩),
           ok_if (lN rfl) rfl rfl rfl rfl rfl rfl (fun hg44 => oqL (ys := [.i v2.Class, .i v2.Power, .i v2.Draught, .i v2.Tonnes, .o 4 5 v2.Thrust.length, .o 6 7 v2.Water.length, .o 8 9 v2.Ice.length, .i v2.Slow, .i v2.Brash, .i v2.Ridge, .i v2.Press]) (lN rfl) sh_25 (force_x rfl) rfl ⟨rfl, rfl, rfl, rfl, rfl, rfl, rfl, rfl, rfl, rfl, rfl, trivial⟩),
           ok_if (lN rfl) rfl rfl rfl rfl rfl rfl (fun hg45 => oqC (x := .B v17) (fs := []) (caps := []) (extra := (kapp [.r 4] (kapp [.r 6] (kapp [.r 8] [])))) (lN rfl) en_39 rfl ⟨rfl, rfl, rfl⟩ (EvL.cons (force_eq (beq_iff_eq.2 hg45) rfl) (EvL.cons (force_eq (beq_iff_eq.2 hg45) rfl) EvL.nil)) (fun mm aa ww gg hr hrel => (c39 F a0 ⟨a0Tp, a0.Thrust.length, a0Tc⟩ ⟨a0Wp, a0.Water.length, a0Wc⟩ ⟨a0Ip, a0.Ice.length, a0Ic⟩ v2 ⟨ptr0 (mm 4) (mm 5), v2.Thrust.length, mm 5⟩ ⟨ptr0 (mm 6) (mm 7), v2.Water.length, mm 7⟩ ⟨ptr0 (mm 8) (mm 9), v2.Ice.length, mm 9⟩ ww (SlIs.mono ha0_Thrust hrel.below) (SlIs.mono ha0_Water hrel.below) (SlIs.mono ha0_Ice hrel.below) (slAt_row (enc := encPt) (l := v2.Thrust) (fun _ => rfl) (by decide) hrel ((hr _ (List.mem_append_left _ (by simp))).trans rfl)) (slAt_row (enc := encPt) (l := v2.Water) (fun _ => rfl) (by decide) hrel ((hr _ (List.mem_append_right _ (List.mem_append_left _ (by simp)))).trans rfl)) (slAt_row (enc := encPt) (l := v2.Ice) (fun _ => rfl) (by decide) hrel ((hr _ (List.mem_append_right _ (List.mem_append_right _ (List.mem_append_left _ (by simp))))).trans rfl)) v17 (brk_t hg45 hv17)))),
           okp rfl rfl (op_and (lN rfl) rfl rfl),
           okp rfl rfl (oqM (lN rfl) rfl),
           ok_if (lN rfl) rfl rfl rfl rfl rfl rfl (fun hg46 => oqC (x := .B true) (fs := []) (caps := []) (extra := []) (lN rfl) en_21 rfl ⟨rfl, rfl, rfl⟩ EvL.nil (fun mm aa ww gg hr hrel => (c21 ww (BoxAt.mono hG hrel.below)))),
           okp rfl rfl (op_and (lN rfl) rfl rfl),
           okp rfl rfl (oqA (lN rfl) rfl),
           trivial⟩ ?_
          refine fqK (s' := [kt 10 (.B ((((((safeE v2 a2 a4).1) == v16.1) && (((safeE v2 a2 a4).2) == v16.2)) && v17) && true))]) ?_ (kp rfl) rfl
          refine fqT ?_
          refine aw_ret ?_
          refine post_ret (x := .B ((((((safeE v2 a2 a4).1) == v16.1) && (((safeE v2 a2 a4).2) == v16.2)) && v17) && true)) rfl rfl (rqT rfl resOK_nil) rfl (fun mm aa ww hr => ?_)
          have hm := Option.some.inj hm
          subst hm
          exact ⟨rfl, hr.below⟩

end Go.Proofs.T
